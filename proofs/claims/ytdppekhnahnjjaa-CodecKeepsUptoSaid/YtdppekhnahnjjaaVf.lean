/-
  New memory of the library's: rules for copy and for its fresh bytes; walks over bytes.Join without a separator and over the sealing of records.
-/
import Derived.Test.YtdppekhnahnjjaaVe
import Derived.Laws.CopyOwn
import Derived.Lib.MakeNoZero
import Derived.Laws.Externs
namespace Go.Proofs.Ytdppekhnahnjjaa
open Go.RowKit

section
variable {P : Program} {N : Nat} {ops : Array Oper} {Q : Exit → Act → World → Prop} {rest : List Oper} {L : FL} {w : World} {t e : TypeId} {z : Value} {bytes : Nat}
/-- copy into a block that is known whole: all of the source fits. -/
theorem wl_copy {d : Nat} {x y : Operand} {ty : TypeId} {pos : String} {aft : Array Edge} {g off n c m c' : Nat} {A B : Option Addr} {cs ys : List Value} (T : Row1 P t e z bytes)
    (hx : look L x = some (.slice A n c)) (hy : look L y = some (.slice B m c')) (ha : Ar w g e cs) (hr : Rd w B m ys) (h1 : ∀ u ∈ ys, u.oneCell' = true)
    (hA : 0 < m → A = some ⟨g, off, none⟩) (hm : m ≤ n) (hfit : off + m ≤ cs.length) (hd : Nat.blt d N = true)
    (h : ∀ w', Ar w' g e (cs.take off ++ (ys ++ cs.drop (off + m))) → Below g w w' → WL P N ops Q rest ((d, .int .i64 (m : Int)) :: L) w') :
    WL P N ops Q (⟨some d, .call { callee := .builtin .copy, args := #[x, y], argTypes := #[t, t] }, ty, pos, aft, none⟩ :: rest) L w := fun a hH => by
  have hl : ys.length = m := hr.1
  obtain ⟨i, hi, _, hs, _⟩ := info_parts T.info
  refine wpList_copy_splice rfl x y t t rfl e T.sl (by simp [hi, hs]) A B n c m c' (hH.eval hx) (hH.eval hy) g off cs e ha ys (by rw [hl]; exact (Nat.min_eq_left hm).symm)
    (fun h0 => ?_) (by rw [hl]; exact hfit) h1 g w (Below.refl _ _) (Nat.le_refl _) fun w' hc hb => ?_
  · rw [hl] at h0
    obtain ⟨b, o, hB, _, hcell⟩ := hr.2 h0
    exact ⟨hA h0, ⟨b, o, none⟩, hB, fun j v hv => by rw [Addr.add_lit]; exact hcell j v hv⟩
  · have hc' : Ar w' g e (splice cs off ys) := hc
    unfold splice at hc'
    rw [hl] at hc'
    have := h w' hc' hb _ (hH.put hd (.int .i64 (m : Int)))
    simpa [goInt, hl] using this
theorem opv_ext {f : FuncId} {x : Operand} {ats : Array TypeId} {ty : TypeId} {u v : Value} {w' : World} (hx : look L x = some u) (hrun : (callFunc f #[u]).run P w = .ok (.value v) w') :
    OpV P (.call { callee := .value (.func f), args := #[x], argTypes := ats }) ty L w v w' := fun ρ o hρ ho _ => by
  have hf : ρ (.func f) = .func (.func f) #[] #[] := hρ _ _ rfl
  unfold execOp
  simp only [ho, resolve, Deferred.ofValue, hf, Sem.run_bind, Sem.run_pure, Result.andThen_ok, invoke]
  have : (#[] ++ Array.map ρ #[x] ++ #[]) = #[u] := by simp [hρ x u hx]
  rw [this]
  exact hrun
theorem opv_slice3 {x y y' : Operand} {ty : TypeId} {A : Option Addr} {n c h : Nat} {k k' : IntKind} (T : Row1 P t e z bytes) (hx : look L x = some (.slice A n c)) (hy : look L y = some (.int k (h : Int))) (hy' : look L y' = some (.int k' (h : Int))) (h2 : h ≤ c) :
    OpV P (.slice t x none (some y) (some y')) ty L w (.slice A h h) w := fun ρ o hρ ho _ => by
  unfold execOp
  simp only [ho, Instr.sliceAt, Instr.slice, Sem.run_bind, run_underlying T.sl, Result.andThen_ok, hρ x _ hx, Option.map_none, Option.map_some, T.size]
  have e1 : (Instr.sliceBounds true n c none (some (ρ y)) (some (ρ y'))).run P w = .ok (0, h, h) w := by
    simp [Instr.sliceBounds, Instr.sliceBound, hρ y _ hy, hρ y' _ hy', asIntOf, h2]
  rw [e1]
  by_cases h0 : h = 0
  · subst h0; simp
  · cases A with
    | none => simp
    | some a => simp [Addr.add]
end

/-- New bytes: at the head of a block from block base on (which may be longer than the slice), or nil. -/
def NwB (w : World) (base : Nat) (A : Option Addr) (c : Nat) (xs : List UInt8) : Prop :=
  (A = none ∧ c = 0 ∧ xs = []) ∨ ∃ (g : Nat) (cs : List Value), A = some ⟨g, 0, none⟩ ∧ base ≤ g ∧ Ar w g 5 cs ∧ xs.length ≤ c ∧ c ≤ cs.length ∧ cs.take xs.length = bvs xs
section
variable {w w' : World} {base c : Nat} {A : Option Addr} {xs : List UInt8}
theorem OwB.nw (h : OwB w base A c xs) : NwB w base A c xs := by
  rcases h.2 with ⟨hv, hn⟩ | ⟨g, cap, cur, hv, hb, hg, hnc, _, hs, ht⟩
  · injection hv with hA hn' hc
    exact .inl ⟨hA, hc, List.length_eq_zero_iff.1 hn'⟩
  · injection hv with hA hn' hc
    subst hc
    exact .inr ⟨g, cur.toList, hA, hb, by simpa [Ar] using hg, hnc, by simp; omega, by simpa using ht⟩
theorem NwB.cap (h : NwB w base A c xs) : xs.length ≤ c := by
  rcases h with ⟨_, rfl, rfl⟩ | ⟨_, _, _, _, _, h, _⟩
  · simp
  · exact h
theorem NwB.rd (h : NwB w base A c xs) : RdB w A xs := by
  rcases h with ⟨rfl, rfl, rfl⟩ | ⟨g, cs, rfl, hg, ha, h1, h2, h3⟩
  · exact Rd.nil _ _
  · refine ⟨bvs_length _, fun _ => ⟨g, 0, rfl, ha.lt, fun j u hu => ?_⟩⟩
    rw [← h3, List.getElem?_take] at hu
    split at hu
    · rw [ha.cell, Nat.zero_add]; exact hu
    · cases hu
theorem NwB.below (h : NwB w base A c xs) (hb : Below w.heap.size w w') : NwB w' base A c xs := by
  rcases h with h | ⟨g, cs, hA, hg, ha, h1⟩
  · exact .inl h
  · exact .inr ⟨g, cs, hA, hg, ha.bel hb, h1⟩
theorem NwB.mono {base' : Nat} (h : NwB w base A c xs) (hb : base' ≤ base) : NwB w base' A c xs := by
  rcases h with h | ⟨g, cs, hA, hg, h1⟩
  · exact .inl h
  · exact .inr ⟨g, cs, hA, Nat.le_trans hb hg, h1⟩
end
def RetN' (w : World) (xs : List UInt8) (v : Value) (w' : World) : Prop :=
  ∃ (A : Option Addr) (c : Nat), v = .slice A xs.length c ∧ NwB w' w.heap.size A c xs ∧ Below w.heap.size w w'

theorem take_flat {rows : List (List UInt8)} {k : Nat} {x : List UInt8} (hx : rows[k]? = some x) : (rows.take (k + 1)).flatten = (rows.take k).flatten ++ x := by
  rw [List.take_add_one, hx]; simp
theorem take_flat_le (rows : List (List UInt8)) (k : Nat) : (rows.take k).flatten.length ≤ rows.flatten.length := by
  have : rows.flatten = (rows.take k).flatten ++ (rows.drop k).flatten := by rw [← List.flatten_append, List.take_append_drop]
  rw [this, List.length_append]; omega
theorem bJoin_any {A : Option Addr} {n c : Nat} {rows : List (List UInt8)} {w : World} (hr : RdBB w A rows) (hn : rows.length = n) (hc : rows.length ≤ c) (hl : rows.flatten.length ≤ 140737488355328) (hl2 : rows.length ≤ maxLen) :
    CallsV Try.prog 63 #[.slice A n c, .slice none 0 0] w (RetN' w rows.flatten) := by
  subst hn
  simp only [maxLen] at hl2
  refine calls_in (N := _) Try.func63 rfl Try.ntmps63 rfl ?_; show WC _ _ _ _ _ _
  refine wc_sr ?_; refine wl_as rfl rfl ?_; refine wl_ns ?_; refine wc_seq ?_; refine wc_sr ?_; refine wl_mv rfl rfl ?_; apply wl_val; apply opv_len; exact rfl; exact tyBB.sl; exact rfl; refine wl_bin rfl rfl bin_eql rfl ?_; refine wl_ns ?_
  refine wc_cond rfl (fun h0 => ?_) (fun h0 => ?_)
  · obtain rfl : rows = [] := List.length_eq_zero_iff.1 (by omega)
    refine wc_sr ?_
    refine wl_bs (vs := []) tyB trivial rfl (by decide) rfl fun A1 w1 o1 hb1 _ => ?_
    refine wl_as rfl rfl ?_; refine wl_ns ?_; refine wc_ret ?_; refine we_seq_ret ?_
    exact we_ret1 rfl rfl ⟨_, rfl, A1, 0, rfl, OwB.nw o1, hb1⟩
  · refine wc_skip ?_; refine we_seq ?_; refine wc_seq ?_; refine wc_sr ?_; refine wl_mv rfl rfl ?_; apply wl_val; apply opv_len; exact rfl; exact tyBB.sl; exact rfl; refine wl_bin rfl rfl bin_eql rfl ?_; refine wl_ns ?_
    obtain ⟨r0, hr0⟩ : ∃ x, rows[0]? = some x := ⟨_, List.getElem?_eq_getElem (by omega)⟩
    have hf0 : (rows.take 1).flatten = r0 := by rw [take_flat hr0]; simp
    have hl0 := take_flat_le rows 1
    rw [hf0] at hl0
    obtain ⟨vs, X, cx, hv, hvk, rx, hcx⟩ := hr.at hr0
    refine wc_cond rfl (fun h1 => ?_) (fun h1 => ?_)
    · have hone : rows.flatten = r0 := by rw [← hf0, List.take_of_length_le (by omega)]
      refine wc_sr ?_; refine wl_mv rfl rfl ?_; apply wl_elK (T := tyBB) (hr := hv) (hb := hvk); exact rfl; exact rfl; exact rfl; exact rfl; exact rfl; intro _
      refine wl_app tyB rfl (Ow.nil w w.heap.size _) rfl rx (bvs_one _) (by omega) (by simp only [maxLen]; omega) (Nat.le_refl _) rfl fun A1 c1 w1 o1 g1 _ => ?_
      have hb1 := g1.below (Below.refl w.heap.size w) (Ow.nil w w.heap.size 5) (Nat.le_refl _) (Nat.le_refl _)
      refine wl_as rfl rfl ?_; refine wl_ns ?_; refine wc_ret ?_; refine we_seq_ret ?_
      refine we_ret1 rfl rfl ⟨_, rfl, ?_⟩
      rw [hone]
      exact ⟨A1, c1, by simp, (OwB.of o1 (by simp) (by simp)).nw, hb1⟩
    · refine wc_skip ?_; refine we_seq ?_; refine wc_sr ?_; refine wl_as rfl rfl ?_; refine wl_ns ?_; refine wc_seq ?_; refine wc_sr ?_; refine wl_mv rfl rfl ?_; apply wl_val; apply opv_len; exact rfl; exact tyB.sl; exact rfl; refine wl_bin rfl rfl bin_gtr rfl ?_; refine wl_ns ?_
      refine wc_condF rfl ?_
      refine wc_skip ?_; refine we_seq ?_; refine wc_seq ?_; refine wc_sr ?_; refine wl_mv rfl rfl ?_; apply wl_val; apply opv_len; exact rfl; exact tyBB.sl; exact rfl; refine wl_mv rfl rfl ?_; refine wl_ns ?_; refine wc_block ?_
      refine wc_loop (fun L wr m => ∃ k : Nat, L = [(0, .slice A rows.length c), (1, .slice none 0 0), (5, .int .i64 ((rows.take k).flatten.length : Nat)), (42, .slice A rows.length c), (43, .int .i64 (rows.length : Int)), (44, .int .i64 (k : Int))] ∧ k ≤ rows.length ∧ w = wr ∧ m = rows.length - k)
        [(0, .slice A rows.length c), (1, .slice none 0 0), (5, .int .i64 (0 : Nat)), (42, .slice A rows.length c), (43, .int .i64 (rows.length : Int)), (44, .int .i64 (0 : Nat))] rows.length ⟨0, rfl, by omega, rfl, rfl⟩ ⟨rfl, rfl, rfl, rfl, rfl, rfl, trivial⟩ ?_
      rintro _ _ m ⟨k, rfl, hk, rfl, rfl⟩
      have hlk := take_flat_le rows k
      refine wc_sr ?_; refine wl_bin rfl rfl bin_lss rfl ?_; refine wl_ns ?_; refine wc_seq ?_
      refine wc_cond rfl (fun h2 => ?_) (fun h2 => ?_)
      · obtain ⟨x, hx⟩ : ∃ x, rows[k]? = some x := ⟨_, List.getElem?_eq_getElem (by omega)⟩
        obtain ⟨us, Y, cy, hu, huk, ry, hcy⟩ := hr.at hx
        have e2 := congrArg List.length (take_flat hx)
        rw [List.length_append] at e2
        have hlk1 := take_flat_le rows (k + 1)
        refine wc_skip ?_; refine we_seq ?_; refine wc_seq ?_; refine wc_block ?_; refine wc_sr ?_; apply wl_elK (T := tyBB) (hr := hu) (hb := huk); exact rfl; exact rfl; exact rfl; exact rfl; exact rfl; intro _; refine wl_as rfl rfl ?_; refine wl_ns ?_; refine wc_seq ?_; refine wc_sr ?_; refine wl_mv rfl rfl ?_; apply wl_val; apply opv_len; exact rfl; exact tyB.sl; exact rfl; refine wl_mv rfl rfl ?_; apply wl_val; apply opv_bin; exact rfl; exact rfl; exact bin_sub64 (by omega); exact rfl; refine wl_bin rfl rfl bin_gtr rfl ?_; refine wl_ns ?_
        refine wc_cond rfl (fun h3 => ?_) (fun h3 => ?_)
        · exact absurd h3 (by omega)
        · refine wc_skip ?_; refine we_seq ?_; refine wc_region ?_; refine wl_mv rfl rfl ?_; refine wl_mv rfl rfl ?_; apply wl_val; apply opv_len; exact rfl; exact tyB.sl; exact rfl; apply wl_val; apply opv_bin; exact rfl; exact rfl; exact bin_add64 (by omega); exact rfl; refine wl_as rfl rfl ?_; refine wl_nil ?_; refine we_block_norm ?_; refine we_seq ?_; refine wc_region ?_; apply wl_val; apply opv_bin; exact rfl; exact rfl; exact bin_add64 (by omega); exact rfl; refine wl_mv rfl rfl ?_; refine wl_nil ?_
          refine we_loop [(0, .slice A rows.length c), (1, .slice none 0 0), (5, .int .i64 ((rows.take (k + 1)).flatten.length : Nat)), (42, .slice A rows.length c), (43, .int .i64 (rows.length : Int)), (44, .int .i64 ((k + 1 : Nat) : Int))] (rows.length - (k + 1)) ⟨k + 1, rfl, by omega, rfl, rfl⟩ (by omega) ⟨rfl, rfl, by rw [e2]; rfl, rfl, rfl, by simp [lookT], trivial⟩
      · obtain rfl : k = rows.length := by omega
        rw [List.take_length]
        obtain ⟨T, hT⟩ : ∃ T, rows.flatten.length = T := ⟨_, rfl⟩
        rw [hT] at hl ⊢
        obtain ⟨cs, hrunM, hle, _⟩ := Lib.run_makeNoZero (P := Try.prog) w #[3] 24 5 Try.underlying24 T (by omega)
        have hcall : (callFunc 70 #[.int .i64 (T : Int)]).run Try.prog w = .ok (.value (.slice (some ⟨w.heap.size, 0, none⟩) T cs.size)) (w.drew.drew.alloc (.cells cs 5)) := by
          rw [run_callFunc_extern Try.func70 (by kernel_rfl) (by kernel_rfl) (by kernel_rfl) (e := Extern.BytealgMakeNoZero.makeNoZero #[3] #[24]) (by kernel_rfl), hrunM]
          rfl
        clear hrunM
        obtain ⟨g, hg⟩ : ∃ g, w.heap.size = g := ⟨_, rfl⟩
        have hbA : Below g w (w.drew.drew.alloc (.cells cs 5)) := ((Below.refl g w).drew.drew).alloc (by simp [hg]) _
        have aA : Ar (w.drew.drew.alloc (.cells cs 5)) g 5 cs.toList := by
          have := Ar.new w.drew.drew 5 cs.toList
          simpa [hg] using this
        obtain ⟨w1, hw1⟩ : ∃ w1, w.drew.drew.alloc (.cells cs 5) = w1 := ⟨_, rfl⟩
        rw [hw1] at hcall hbA aA
        rw [hg] at hcall
        have hlen : cs.toList.length = cs.size := by simp
        obtain ⟨ds, hds⟩ : ∃ ds, cs.toList = ds := ⟨_, rfl⟩
        rw [hds] at aA hlen
        rw [← hlen] at hle hcall
        refine wc_exit ?_; refine we_seq_exit ?_; refine we_loop_exit ?_; refine we_block_exit ?_; refine we_seq ?_; refine wc_sr ?_; refine wl_mv rfl rfl ?_
        refine wl_val (opv_ext rfl hcall) rfl ?_
        refine wl_mv rfl rfl ?_; refine wl_mv rfl rfl ?_
        refine wl_val (opv_slice3 (h := T) tyB rfl rfl rfl hle) rfl ?_
        refine wl_as rfl rfl ?_; refine wl_ns ?_; refine wc_sr ?_; refine wl_mv rfl rfl ?_; refine wl_mv rfl rfl ?_
        have hr1 := RdBB.below hr (show Below w.heap.size w w1 by rw [hg]; exact hbA)
        obtain ⟨vs, X, cx, hv, hvk, rx, hcx⟩ := hr1.at hr0
        apply wl_elK (T := tyBB) (hr := hv) (hb := hvk); exact rfl; exact rfl; exact rfl; exact rfl; exact rfl; intro _
        refine wl_copy (off := 0) tyB rfl rfl aA rx (bvs_one _) (fun _ => rfl) (by omega) (by omega) rfl fun w2 a2 hb2 => ?_
        have hb2' := hbA.trans hb2
        rw [List.take_zero, List.nil_append, Nat.zero_add] at a2
        refine wl_as rfl rfl ?_; refine wl_ns ?_; refine wc_seq ?_; refine wc_sr ?_; refine wl_mv rfl rfl ?_
        refine wl_sl (l := 1) (h := rows.length) tyBB rfl ⟨_, rfl⟩ rfl (by omega) (by omega) rfl ?_
        apply wl_val; apply opv_len; exact rfl; exact tyBB.sl; exact rfl; refine wl_mv rfl rfl ?_; refine wl_ns ?_; refine wc_block ?_
        refine wc_loop (fun L wr m => ∃ (k : Nat) (es : List Value), L = [(1, .slice none 0 0), (8, .slice (some ⟨g, 0, none⟩) T T), (9, .int .i64 ((rows.take (k + 1)).flatten.length : Nat)), (70, .slice (cutA A c 1) (rows.length - 1) (c - 1)), (71, .int .i64 ((rows.length - 1 : Nat) : Int)), (72, .int .i64 (k : Int))] ∧ k + 1 ≤ rows.length ∧ Ar wr g 5 es ∧ es.length = ds.length ∧ es.take (rows.take (k + 1)).flatten.length = bvs (rows.take (k + 1)).flatten ∧ Below g w wr ∧ m = rows.length - k)
          [(1, .slice none 0 0), (8, .slice (some ⟨g, 0, none⟩) T T), (9, .int .i64 (r0.length : Nat)), (70, .slice (cutA A c 1) (rows.length - 1) (c - 1)), (71, .int .i64 ((rows.length - 1 : Nat) : Int)), (72, .int .i64 (0 : Nat))] rows.length
          ⟨0, bvs r0 ++ ds.drop r0.length, by rw [Nat.zero_add, hf0], by omega, a2, by simp [bvs_length]; omega, by rw [Nat.zero_add, hf0, List.take_append_of_le_length (by rw [bvs_length]; omega), List.take_of_length_le (by rw [bvs_length]; omega)], hb2', rfl⟩ ⟨rfl, rfl, rfl, rfl, rfl, rfl, trivial⟩ ?_
        rintro _ w3 m ⟨k, es, rfl, hk, a3, hel, het, hb3, rfl⟩
        have hlk := take_flat_le rows (k + 1)
        rw [hT] at hlk
        refine wc_sr ?_; refine wl_bin rfl rfl bin_lss rfl ?_; refine wl_ns ?_; refine wc_seq ?_
        refine wc_cond rfl (fun h2 => ?_) (fun h2 => ?_)
        · obtain ⟨x, hx⟩ : ∃ x, rows[k + 1]? = some x := ⟨_, List.getElem?_eq_getElem (by omega)⟩
          have hb3' : Below w.heap.size w w3 := by rw [hg]; exact hb3
          obtain ⟨us, Y, cy, hu0, huk, ry, hcy⟩ := hr.at hx
          have hu := Rd.below hu0 hb3'
          have hcut := Rd.cut (l := 1) (h := rows.length) hu (by omega) (Nat.le_refl _) hc
          have huk' : ((us.take rows.length).drop 1)[k]? = some (Value.slice Y x.length cy) := by
            rw [List.getElem?_drop, List.getElem?_take, if_pos (by omega), Nat.add_comm]; exact huk
          have e1 := take_flat hx
          have e2 := congrArg List.length e1
          rw [List.length_append] at e2
          have hlk1 := take_flat_le rows (k + 1 + 1)
          rw [hT] at hlk1
          obtain ⟨p, hp⟩ : ∃ p, (rows.take (k + 1)).flatten.length = p := ⟨_, rfl⟩
          rw [hp] at hlk e2 het ⊢
          refine wc_skip ?_; refine we_seq ?_; refine wc_seq ?_; refine wc_block ?_; refine wc_sr ?_; apply wl_elK (T := tyBB) (hr := hcut) (hb := huk'); exact rfl; exact rfl; exact rfl; exact rfl; exact rfl; intro _; refine wl_as rfl rfl ?_; refine wl_ns ?_; refine wc_sr ?_; refine wl_mv rfl rfl ?_; refine wl_mv rfl rfl ?_; refine wl_mv rfl rfl ?_
          refine wl_sl (l := p) (h := T) tyB rfl ⟨_, rfl⟩ rfl (by omega) (by omega) rfl ?_
          refine wl_mv rfl rfl ?_
          refine wl_copy (g := g) (off := p) (ys := []) tyB rfl rfl a3 (Rd.nil _ _) (by simp) (fun h => by omega) (by omega) (by omega) rfl fun w4 a4 hb4 => ?_
          rw [List.nil_append, Nat.add_zero, List.take_append_drop] at a4
          apply wl_val; apply opv_bin; exact rfl; exact rfl; exact bin_add64 (by omega); exact rfl; refine wl_as rfl rfl ?_; refine wl_ns ?_; refine wc_region ?_; refine wl_mv rfl rfl ?_; refine wl_mv rfl rfl ?_; refine wl_mv rfl rfl ?_
          refine wl_sl (l := p) (h := T) tyB rfl ⟨_, rfl⟩ rfl (by omega) (by omega) rfl ?_
          refine wl_mv rfl rfl ?_
          refine wl_copy (g := g) (off := p) tyB rfl rfl a4 (RdB.below ry (by rw [hg]; exact hb3.trans hb4)) (bvs_one _) (fun h => ?_) (by omega) (by omega) rfl fun w5 a5 hb5 => ?_
          · rw [cutA, if_neg (by omega)]; simp [Addr.add_lit]
          have hb5' := (hb3.trans hb4).trans hb5
          apply wl_val; apply opv_bin; exact rfl; exact rfl; exact bin_add64 (by omega); exact rfl; refine wl_as rfl rfl ?_; refine wl_nil ?_; refine we_block_norm ?_; refine we_seq ?_; refine wc_region ?_; apply wl_val; apply opv_bin; exact rfl; exact rfl; exact bin_add64 (by omega); exact rfl; refine wl_mv rfl rfl ?_; refine wl_nil ?_
          refine we_loop [(1, .slice none 0 0), (8, .slice (some ⟨g, 0, none⟩) T T), (9, .int .i64 ((rows.take (k + 1 + 1)).flatten.length : Nat)), (70, .slice (cutA A c 1) (rows.length - 1) (c - 1)), (71, .int .i64 ((rows.length - 1 : Nat) : Int)), (72, .int .i64 ((k + 1 : Nat) : Int))] (rows.length - (k + 1)) ⟨k + 1, _, rfl, by omega, a5, by simp [bvs_length]; omega, ?_, hb5', rfl⟩ (by omega) ⟨rfl, rfl, by rw [e2]; rfl, rfl, rfl, by simp [lookT], trivial⟩
          rw [e2, e1, bvs_append, ← het]
          rw [← List.append_assoc, List.take_append_of_le_length (by simp [bvs_length]; omega), List.take_of_length_le (by simp [bvs_length]; omega)]
        · have ek : k + 1 = rows.length := by omega
          rw [ek, List.take_length] at het
          refine wc_exit ?_; refine we_seq_exit ?_; refine we_loop_exit ?_; refine we_block_exit ?_; refine we_seq ?_; refine wc_sr ?_; refine wl_mv rfl rfl ?_; refine wl_as rfl rfl ?_; refine wl_ns ?_; refine wc_ret ?_
          refine we_ret1 rfl rfl ⟨_, rfl, some ⟨g, 0, none⟩, T, by rw [hT], .inr ⟨g, es, rfl, by omega, a3, by omega, by omega, het⟩, by rw [hg]; exact hb3⟩
end Go.Proofs.Ytdppekhnahnjjaa
