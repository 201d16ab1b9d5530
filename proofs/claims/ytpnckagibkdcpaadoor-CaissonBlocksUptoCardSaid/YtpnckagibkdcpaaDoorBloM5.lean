/-
  The texts of this proof, joined: Vf, Bd, Vg, Be, Bf, Bg, Bh, Bi, Bj, Bk, Bl, Mq, Mr.
-/
import Derived.Test.YtpnckagibkdcpaaDoorBloM4
import Derived.Laws.CopyOwn
import Derived.Lib.MakeNoZero
import Derived.Laws.Externs
import Derived.Test.YtpnckagibkdcpaaDoorBloM3

/-
  New memory of the library's: rules for copy and for its fresh bytes; walks over bytes.Join without a separator and over the sealing of records.
-/
namespace Go.Proofs.YtpnckagibkdcpaaDoor
open Go.RowKit

section
variable {P : Program} {N : Nat} {ops : Array Oper} {Q : Exit → Act → World → Prop} {rest : List Oper} {L : FL} {w : World} {t e : TypeId} {z : Value} {bytes : Nat}
/-- copy into a block that is known whole: all of the source fits. -/
theorem wl_copy {d : Nat} {x y : Operand} {ty : TypeId} {pos : String} {aft : Array Edge} {g off n c m c' : Nat} {A B : Option Addr} {cs ys : List Value} (T : Row1 P t e z bytes)
    (hx : look L x = some (.slice A n c)) (hy : look L y = some (.slice B m c')) (ha : Ar w g e cs) (hr : Rd w B m ys) (h1 : ∀ u ∈ ys, u.oneCell' = true)
    (hA : 0 < m → A = some ⟨g, off, none⟩) (hm : m ≤ n) (hfit : off + m ≤ cs.length) (hd : Nat.blt d N = true)
    (h : ∀ w', Ar w' g e (cs.take off ++ (ys ++ cs.drop (off + m))) → Below g w w' → WL P N ops Q rest ((d, .int .i64 (m : Int)) :: L) w') :
    WL P N ops Q (⟨some d, .call { callee := .builtin .copy, args := #[x, y], argTypes := #[t, t] }, ty, pos, aft, none⟩ :: rest) L w := fun a hH => by
  have hl : ys.length = m := hr.1
  obtain ⟨i, hi, _, hs, _⟩ := info_parts T.info
  refine wpList_copy_splice rfl x y t t rfl e T.sl (by simp [hi, hs]) A B n c m c' (hH.eval hx) (hH.eval hy) g off cs e ha ys (by rw [hl]; exact (Nat.min_eq_left hm).symm)
    (fun h0 => ?_) (by rw [hl]; exact hfit) h1 g w (Below.refl _ _) (Nat.le_refl _) fun w' hc hb => ?_
  · rw [hl] at h0
    obtain ⟨b, o, hB, _, hcell⟩ := hr.2 h0
    exact ⟨hA h0, ⟨b, o, none⟩, hB, fun j v hv => by rw [Addr.add_lit]; exact hcell j v hv⟩
  · have hc' : Ar w' g e (splice cs off ys) := hc
    unfold splice at hc'
    rw [hl] at hc'
    have := h w' hc' hb _ (hH.put hd (.int .i64 (m : Int)))
    simpa [goInt, hl] using this
theorem opv_ext {f : FuncId} {x : Operand} {ats : Array TypeId} {ty : TypeId} {u v : Value} {w' : World} (hx : look L x = some u) (hrun : (callFunc f #[u]).run P w = .ok (.value v) w') :
    OpV P (.call { callee := .value (.func f), args := #[x], argTypes := ats }) ty L w v w' := fun ρ o hρ ho _ => by
  have hf : ρ (.func f) = .func (.func f) #[] #[] := hρ _ _ rfl
  unfold execOp
  simp only [ho, resolve, Deferred.ofValue, hf, Sem.run_bind, Sem.run_pure, Result.andThen_ok, invoke]
  have : (#[] ++ Array.map ρ #[x] ++ #[]) = #[u] := by simp [hρ x u hx]
  rw [this]
  exact hrun
theorem opv_slice3 {x y y' : Operand} {ty : TypeId} {A : Option Addr} {n c h : Nat} {k k' : IntKind} (T : Row1 P t e z bytes) (hx : look L x = some (.slice A n c)) (hy : look L y = some (.int k (h : Int))) (hy' : look L y' = some (.int k' (h : Int))) (h2 : h ≤ c) :
    OpV P (.slice t x none (some y) (some y')) ty L w (.slice A h h) w := fun ρ o hρ ho _ => by
  unfold execOp
  simp only [ho, Instr.sliceAt, Instr.slice, Sem.run_bind, run_underlying T.sl, Result.andThen_ok, hρ x _ hx, Option.map_none, Option.map_some, T.size]
  have e1 : (Instr.sliceBounds true n c none (some (ρ y)) (some (ρ y'))).run P w = .ok (0, h, h) w := by
    simp [Instr.sliceBounds, Instr.sliceBound, hρ y _ hy, hρ y' _ hy', asIntOf, h2]
  rw [e1]
  by_cases h0 : h = 0
  · subst h0; simp
  · cases A with
    | none => simp
    | some a => simp [Addr.add]
end

/-- New bytes: at the head of a block from block base on (which may be longer than the slice), or nil. -/
def NwB (w : World) (base : Nat) (A : Option Addr) (c : Nat) (xs : List UInt8) : Prop :=
  (A = none ∧ c = 0 ∧ xs = []) ∨ ∃ (g : Nat) (cs : List Value), A = some ⟨g, 0, none⟩ ∧ base ≤ g ∧ Ar w g 5 cs ∧ xs.length ≤ c ∧ c ≤ cs.length ∧ cs.take xs.length = bvs xs
section
variable {w w' : World} {base c : Nat} {A : Option Addr} {xs : List UInt8}
theorem OwB.nw (h : OwB w base A c xs) : NwB w base A c xs := by
  rcases h.2 with ⟨hv, hn⟩ | ⟨g, cap, cur, hv, hb, hg, hnc, _, hs, ht⟩
  · injection hv with hA hn' hc
    exact .inl ⟨hA, hc, List.length_eq_zero_iff.1 hn'⟩
  · injection hv with hA hn' hc
    subst hc
    exact .inr ⟨g, cur.toList, hA, hb, by simpa [Ar] using hg, hnc, by simp; omega, by simpa using ht⟩
theorem NwB.cap (h : NwB w base A c xs) : xs.length ≤ c := by
  rcases h with ⟨_, rfl, rfl⟩ | ⟨_, _, _, _, _, h, _⟩
  · simp
  · exact h
theorem NwB.rd (h : NwB w base A c xs) : RdB w A xs := by
  rcases h with ⟨rfl, rfl, rfl⟩ | ⟨g, cs, rfl, hg, ha, h1, h2, h3⟩
  · exact Rd.nil _ _
  · refine ⟨bvs_length _, fun _ => ⟨g, 0, rfl, ha.lt, fun j u hu => ?_⟩⟩
    rw [← h3, List.getElem?_take] at hu
    split at hu
    · rw [ha.cell, Nat.zero_add]; exact hu
    · cases hu
theorem NwB.below (h : NwB w base A c xs) (hb : Below w.heap.size w w') : NwB w' base A c xs := by
  rcases h with h | ⟨g, cs, hA, hg, ha, h1⟩
  · exact .inl h
  · exact .inr ⟨g, cs, hA, hg, ha.bel hb, h1⟩
theorem NwB.mono {base' : Nat} (h : NwB w base A c xs) (hb : base' ≤ base) : NwB w base' A c xs := by
  rcases h with h | ⟨g, cs, hA, hg, h1⟩
  · exact .inl h
  · exact .inr ⟨g, cs, hA, Nat.le_trans hb hg, h1⟩
end
def RetN' (w : World) (xs : List UInt8) (v : Value) (w' : World) : Prop :=
  ∃ (A : Option Addr) (c : Nat), v = .slice A xs.length c ∧ NwB w' w.heap.size A c xs ∧ Below w.heap.size w w'

theorem take_flat {rows : List (List UInt8)} {k : Nat} {x : List UInt8} (hx : rows[k]? = some x) : (rows.take (k + 1)).flatten = (rows.take k).flatten ++ x := by
  rw [List.take_add_one, hx]; simp
theorem take_flat_le (rows : List (List UInt8)) (k : Nat) : (rows.take k).flatten.length ≤ rows.flatten.length := by
  have : rows.flatten = (rows.take k).flatten ++ (rows.drop k).flatten := by rw [← List.flatten_append, List.take_append_drop]
  rw [this, List.length_append]; omega
theorem bJoin_any {A : Option Addr} {n c : Nat} {rows : List (List UInt8)} {w : World} (hr : RdBB w A rows) (hn : rows.length = n) (hc : rows.length ≤ c) (hl : rows.flatten.length ≤ 140737488355328) (hl2 : rows.length ≤ maxLen) :
    CallsV Tryd.prog 63 #[.slice A n c, .slice none 0 0] w (RetN' w rows.flatten) := by
  subst hn
  simp only [maxLen] at hl2
  refine calls_in (N := _) Tryd.func63 rfl Tryd.ntmps63 rfl ?_; show WC _ _ _ _ _ _
  refine wc_sr ?_; refine wl_as rfl rfl ?_; refine wl_ns ?_; refine wc_seq ?_; refine wc_sr ?_; refine wl_mv rfl rfl ?_; apply wl_val; apply opv_len; exact rfl; exact tyBB.sl; exact rfl; refine wl_bin rfl rfl bin_eql rfl ?_; refine wl_ns ?_
  refine wc_cond rfl (fun h0 => ?_) (fun h0 => ?_)
  · obtain rfl : rows = [] := List.length_eq_zero_iff.1 (by omega)
    refine wc_sr ?_
    refine wl_bs (vs := []) tyB trivial rfl (by decide) rfl fun A1 w1 o1 hb1 _ => ?_
    refine wl_as rfl rfl ?_; refine wl_ns ?_; refine wc_ret ?_; refine we_seq_ret ?_
    exact we_ret1 rfl rfl ⟨_, rfl, A1, 0, rfl, OwB.nw o1, hb1⟩
  · refine wc_skip ?_; refine we_seq ?_; refine wc_seq ?_; refine wc_sr ?_; refine wl_mv rfl rfl ?_; apply wl_val; apply opv_len; exact rfl; exact tyBB.sl; exact rfl; refine wl_bin rfl rfl bin_eql rfl ?_; refine wl_ns ?_
    obtain ⟨r0, hr0⟩ : ∃ x, rows[0]? = some x := ⟨_, List.getElem?_eq_getElem (by omega)⟩
    have hf0 : (rows.take 1).flatten = r0 := by rw [take_flat hr0]; simp
    have hl0 := take_flat_le rows 1
    rw [hf0] at hl0
    obtain ⟨vs, X, cx, hv, hvk, rx, hcx⟩ := hr.at hr0
    refine wc_cond rfl (fun h1 => ?_) (fun h1 => ?_)
    · have hone : rows.flatten = r0 := by rw [← hf0, List.take_of_length_le (by omega)]
      refine wc_sr ?_; refine wl_mv rfl rfl ?_; apply wl_elK (T := tyBB) (hr := hv) (hb := hvk); exact rfl; exact rfl; exact rfl; exact rfl; exact rfl; intro _
      refine wl_app tyB rfl (Ow.nil w w.heap.size _) rfl rx (bvs_one _) (by omega) (by simp only [maxLen]; omega) (Nat.le_refl _) rfl fun A1 c1 w1 o1 g1 _ => ?_
      have hb1 := g1.below (Below.refl w.heap.size w) (Ow.nil w w.heap.size 5) (Nat.le_refl _) (Nat.le_refl _)
      refine wl_as rfl rfl ?_; refine wl_ns ?_; refine wc_ret ?_; refine we_seq_ret ?_
      refine we_ret1 rfl rfl ⟨_, rfl, ?_⟩
      rw [hone]
      exact ⟨A1, c1, by simp, (OwB.of o1 (by simp) (by simp)).nw, hb1⟩
    · refine wc_skip ?_; refine we_seq ?_; refine wc_sr ?_; refine wl_as rfl rfl ?_; refine wl_ns ?_; refine wc_seq ?_; refine wc_sr ?_; refine wl_mv rfl rfl ?_; apply wl_val; apply opv_len; exact rfl; exact tyB.sl; exact rfl; refine wl_bin rfl rfl bin_gtr rfl ?_; refine wl_ns ?_
      refine wc_condF rfl ?_
      refine wc_skip ?_; refine we_seq ?_; refine wc_seq ?_; refine wc_sr ?_; refine wl_mv rfl rfl ?_; apply wl_val; apply opv_len; exact rfl; exact tyBB.sl; exact rfl; refine wl_mv rfl rfl ?_; refine wl_ns ?_; refine wc_block ?_
      refine wc_loop (fun L wr m => ∃ k : Nat, L = [(0, .slice A rows.length c), (1, .slice none 0 0), (5, .int .i64 ((rows.take k).flatten.length : Nat)), (42, .slice A rows.length c), (43, .int .i64 (rows.length : Int)), (44, .int .i64 (k : Int))] ∧ k ≤ rows.length ∧ w = wr ∧ m = rows.length - k)
        [(0, .slice A rows.length c), (1, .slice none 0 0), (5, .int .i64 (0 : Nat)), (42, .slice A rows.length c), (43, .int .i64 (rows.length : Int)), (44, .int .i64 (0 : Nat))] rows.length ⟨0, rfl, by omega, rfl, rfl⟩ ⟨rfl, rfl, rfl, rfl, rfl, rfl, trivial⟩ ?_
      rintro _ _ m ⟨k, rfl, hk, rfl, rfl⟩
      have hlk := take_flat_le rows k
      refine wc_sr ?_; refine wl_bin rfl rfl bin_lss rfl ?_; refine wl_ns ?_; refine wc_seq ?_
      refine wc_cond rfl (fun h2 => ?_) (fun h2 => ?_)
      · obtain ⟨x, hx⟩ : ∃ x, rows[k]? = some x := ⟨_, List.getElem?_eq_getElem (by omega)⟩
        obtain ⟨us, Y, cy, hu, huk, ry, hcy⟩ := hr.at hx
        have e2 := congrArg List.length (take_flat hx)
        rw [List.length_append] at e2
        have hlk1 := take_flat_le rows (k + 1)
        refine wc_skip ?_; refine we_seq ?_; refine wc_seq ?_; refine wc_block ?_; refine wc_sr ?_; apply wl_elK (T := tyBB) (hr := hu) (hb := huk); exact rfl; exact rfl; exact rfl; exact rfl; exact rfl; intro _; refine wl_as rfl rfl ?_; refine wl_ns ?_; refine wc_seq ?_; refine wc_sr ?_; refine wl_mv rfl rfl ?_; apply wl_val; apply opv_len; exact rfl; exact tyB.sl; exact rfl; refine wl_mv rfl rfl ?_; apply wl_val; apply opv_bin; exact rfl; exact rfl; exact bin_sub64 (by omega); exact rfl; refine wl_bin rfl rfl bin_gtr rfl ?_; refine wl_ns ?_
        refine wc_cond rfl (fun h3 => ?_) (fun h3 => ?_)
        · exact absurd h3 (by omega)
        · refine wc_skip ?_; refine we_seq ?_; refine wc_region ?_; refine wl_mv rfl rfl ?_; refine wl_mv rfl rfl ?_; apply wl_val; apply opv_len; exact rfl; exact tyB.sl; exact rfl; apply wl_val; apply opv_bin; exact rfl; exact rfl; exact bin_add64 (by omega); exact rfl; refine wl_as rfl rfl ?_; refine wl_nil ?_; refine we_block_norm ?_; refine we_seq ?_; refine wc_region ?_; apply wl_val; apply opv_bin; exact rfl; exact rfl; exact bin_add64 (by omega); exact rfl; refine wl_mv rfl rfl ?_; refine wl_nil ?_
          refine we_loop [(0, .slice A rows.length c), (1, .slice none 0 0), (5, .int .i64 ((rows.take (k + 1)).flatten.length : Nat)), (42, .slice A rows.length c), (43, .int .i64 (rows.length : Int)), (44, .int .i64 ((k + 1 : Nat) : Int))] (rows.length - (k + 1)) ⟨k + 1, rfl, by omega, rfl, rfl⟩ (by omega) ⟨rfl, rfl, by rw [e2]; rfl, rfl, rfl, by simp [lookT], trivial⟩
      · obtain rfl : k = rows.length := by omega
        rw [List.take_length]
        obtain ⟨T, hT⟩ : ∃ T, rows.flatten.length = T := ⟨_, rfl⟩
        rw [hT] at hl ⊢
        obtain ⟨cs, hrunM, hle, _⟩ := Lib.run_makeNoZero (P := Tryd.prog) w #[3] 31 5 Tryd.underlying31 T (by omega)
        have hcall : (callFunc 74 #[.int .i64 (T : Int)]).run Tryd.prog w = .ok (.value (.slice (some ⟨w.heap.size, 0, none⟩) T cs.size)) (w.drew.drew.alloc (.cells cs 5)) := by
          rw [run_callFunc_extern Tryd.func74 (by kernel_rfl) (by kernel_rfl) (by kernel_rfl) (e := Extern.BytealgMakeNoZero.makeNoZero #[3] #[31]) (by kernel_rfl), hrunM]
          rfl
        clear hrunM
        obtain ⟨g, hg⟩ : ∃ g, w.heap.size = g := ⟨_, rfl⟩
        have hbA : Below g w (w.drew.drew.alloc (.cells cs 5)) := ((Below.refl g w).drew.drew).alloc (by simp [hg]) _
        have aA : Ar (w.drew.drew.alloc (.cells cs 5)) g 5 cs.toList := by
          have := Ar.new w.drew.drew 5 cs.toList
          simpa [hg] using this
        obtain ⟨w1, hw1⟩ : ∃ w1, w.drew.drew.alloc (.cells cs 5) = w1 := ⟨_, rfl⟩
        rw [hw1] at hcall hbA aA
        rw [hg] at hcall
        have hlen : cs.toList.length = cs.size := by simp
        obtain ⟨ds, hds⟩ : ∃ ds, cs.toList = ds := ⟨_, rfl⟩
        rw [hds] at aA hlen
        rw [← hlen] at hle hcall
        refine wc_exit ?_; refine we_seq_exit ?_; refine we_loop_exit ?_; refine we_block_exit ?_; refine we_seq ?_; refine wc_sr ?_; refine wl_mv rfl rfl ?_
        refine wl_val (opv_ext rfl hcall) rfl ?_
        refine wl_mv rfl rfl ?_; refine wl_mv rfl rfl ?_
        refine wl_val (opv_slice3 (h := T) tyB rfl rfl rfl hle) rfl ?_
        refine wl_as rfl rfl ?_; refine wl_ns ?_; refine wc_sr ?_; refine wl_mv rfl rfl ?_; refine wl_mv rfl rfl ?_
        have hr1 := RdBB.below hr (show Below w.heap.size w w1 by rw [hg]; exact hbA)
        obtain ⟨vs, X, cx, hv, hvk, rx, hcx⟩ := hr1.at hr0
        apply wl_elK (T := tyBB) (hr := hv) (hb := hvk); exact rfl; exact rfl; exact rfl; exact rfl; exact rfl; intro _
        refine wl_copy (off := 0) tyB rfl rfl aA rx (bvs_one _) (fun _ => rfl) (by omega) (by omega) rfl fun w2 a2 hb2 => ?_
        have hb2' := hbA.trans hb2
        rw [List.take_zero, List.nil_append, Nat.zero_add] at a2
        refine wl_as rfl rfl ?_; refine wl_ns ?_; refine wc_seq ?_; refine wc_sr ?_; refine wl_mv rfl rfl ?_
        refine wl_sl (l := 1) (h := rows.length) tyBB rfl ⟨_, rfl⟩ rfl (by omega) (by omega) rfl ?_
        apply wl_val; apply opv_len; exact rfl; exact tyBB.sl; exact rfl; refine wl_mv rfl rfl ?_; refine wl_ns ?_; refine wc_block ?_
        refine wc_loop (fun L wr m => ∃ (k : Nat) (es : List Value), L = [(1, .slice none 0 0), (8, .slice (some ⟨g, 0, none⟩) T T), (9, .int .i64 ((rows.take (k + 1)).flatten.length : Nat)), (70, .slice (cutA A c 1) (rows.length - 1) (c - 1)), (71, .int .i64 ((rows.length - 1 : Nat) : Int)), (72, .int .i64 (k : Int))] ∧ k + 1 ≤ rows.length ∧ Ar wr g 5 es ∧ es.length = ds.length ∧ es.take (rows.take (k + 1)).flatten.length = bvs (rows.take (k + 1)).flatten ∧ Below g w wr ∧ m = rows.length - k)
          [(1, .slice none 0 0), (8, .slice (some ⟨g, 0, none⟩) T T), (9, .int .i64 (r0.length : Nat)), (70, .slice (cutA A c 1) (rows.length - 1) (c - 1)), (71, .int .i64 ((rows.length - 1 : Nat) : Int)), (72, .int .i64 (0 : Nat))] rows.length
          ⟨0, bvs r0 ++ ds.drop r0.length, by rw [Nat.zero_add, hf0], by omega, a2, by simp [bvs_length]; omega, by rw [Nat.zero_add, hf0, List.take_append_of_le_length (by rw [bvs_length]; omega), List.take_of_length_le (by rw [bvs_length]; omega)], hb2', rfl⟩ ⟨rfl, rfl, rfl, rfl, rfl, rfl, trivial⟩ ?_
        rintro _ w3 m ⟨k, es, rfl, hk, a3, hel, het, hb3, rfl⟩
        have hlk := take_flat_le rows (k + 1)
        rw [hT] at hlk
        refine wc_sr ?_; refine wl_bin rfl rfl bin_lss rfl ?_; refine wl_ns ?_; refine wc_seq ?_
        refine wc_cond rfl (fun h2 => ?_) (fun h2 => ?_)
        · obtain ⟨x, hx⟩ : ∃ x, rows[k + 1]? = some x := ⟨_, List.getElem?_eq_getElem (by omega)⟩
          have hb3' : Below w.heap.size w w3 := by rw [hg]; exact hb3
          obtain ⟨us, Y, cy, hu0, huk, ry, hcy⟩ := hr.at hx
          have hu := Rd.below hu0 hb3'
          have hcut := Rd.cut (l := 1) (h := rows.length) hu (by omega) (Nat.le_refl _) hc
          have huk' : ((us.take rows.length).drop 1)[k]? = some (Value.slice Y x.length cy) := by
            rw [List.getElem?_drop, List.getElem?_take, if_pos (by omega), Nat.add_comm]; exact huk
          have e1 := take_flat hx
          have e2 := congrArg List.length e1
          rw [List.length_append] at e2
          have hlk1 := take_flat_le rows (k + 1 + 1)
          rw [hT] at hlk1
          obtain ⟨p, hp⟩ : ∃ p, (rows.take (k + 1)).flatten.length = p := ⟨_, rfl⟩
          rw [hp] at hlk e2 het ⊢
          refine wc_skip ?_; refine we_seq ?_; refine wc_seq ?_; refine wc_block ?_; refine wc_sr ?_; apply wl_elK (T := tyBB) (hr := hcut) (hb := huk'); exact rfl; exact rfl; exact rfl; exact rfl; exact rfl; intro _; refine wl_as rfl rfl ?_; refine wl_ns ?_; refine wc_sr ?_; refine wl_mv rfl rfl ?_; refine wl_mv rfl rfl ?_; refine wl_mv rfl rfl ?_
          refine wl_sl (l := p) (h := T) tyB rfl ⟨_, rfl⟩ rfl (by omega) (by omega) rfl ?_
          refine wl_mv rfl rfl ?_
          refine wl_copy (g := g) (off := p) (ys := []) tyB rfl rfl a3 (Rd.nil _ _) (by simp) (fun h => by omega) (by omega) (by omega) rfl fun w4 a4 hb4 => ?_
          rw [List.nil_append, Nat.add_zero, List.take_append_drop] at a4
          apply wl_val; apply opv_bin; exact rfl; exact rfl; exact bin_add64 (by omega); exact rfl; refine wl_as rfl rfl ?_; refine wl_ns ?_; refine wc_region ?_; refine wl_mv rfl rfl ?_; refine wl_mv rfl rfl ?_; refine wl_mv rfl rfl ?_
          refine wl_sl (l := p) (h := T) tyB rfl ⟨_, rfl⟩ rfl (by omega) (by omega) rfl ?_
          refine wl_mv rfl rfl ?_
          refine wl_copy (g := g) (off := p) tyB rfl rfl a4 (RdB.below ry (by rw [hg]; exact hb3.trans hb4)) (bvs_one _) (fun h => ?_) (by omega) (by omega) rfl fun w5 a5 hb5 => ?_
          · rw [cutA, if_neg (by omega)]; simp [Addr.add_lit]
          have hb5' := (hb3.trans hb4).trans hb5
          apply wl_val; apply opv_bin; exact rfl; exact rfl; exact bin_add64 (by omega); exact rfl; refine wl_as rfl rfl ?_; refine wl_nil ?_; refine we_block_norm ?_; refine we_seq ?_; refine wc_region ?_; apply wl_val; apply opv_bin; exact rfl; exact rfl; exact bin_add64 (by omega); exact rfl; refine wl_mv rfl rfl ?_; refine wl_nil ?_
          refine we_loop [(1, .slice none 0 0), (8, .slice (some ⟨g, 0, none⟩) T T), (9, .int .i64 ((rows.take (k + 1 + 1)).flatten.length : Nat)), (70, .slice (cutA A c 1) (rows.length - 1) (c - 1)), (71, .int .i64 ((rows.length - 1 : Nat) : Int)), (72, .int .i64 ((k + 1 : Nat) : Int))] (rows.length - (k + 1)) ⟨k + 1, _, rfl, by omega, a5, by simp [bvs_length]; omega, ?_, hb5', rfl⟩ (by omega) ⟨rfl, rfl, by rw [e2]; rfl, rfl, rfl, by simp [lookT], trivial⟩
          rw [e2, e1, bvs_append, ← het]
          rw [← List.append_assoc, List.take_append_of_le_length (by simp [bvs_length]; omega), List.take_of_length_le (by simp [bvs_length]; omega)]
        · have ek : k + 1 = rows.length := by omega
          rw [ek, List.take_length] at het
          refine wc_exit ?_; refine we_seq_exit ?_; refine we_loop_exit ?_; refine we_block_exit ?_; refine we_seq ?_; refine wc_sr ?_; refine wl_mv rfl rfl ?_; refine wl_as rfl rfl ?_; refine wl_ns ?_; refine wc_ret ?_
          refine we_ret1 rfl rfl ⟨_, rfl, some ⟨g, 0, none⟩, T, by rw [hT], .inr ⟨g, es, rfl, by omega, a3, by omega, by omega, het⟩, by rw [hg]; exact hb3⟩
end Go.Proofs.YtpnckagibkdcpaaDoor


/-
  Rows of bytes told by a list of slices; walk over entry of blocks.
-/
namespace Go.Proofs.YtpnckagibkdcpaaDoor
open Go.RowKit

/-- Where bytes lie, and which they are. -/
structure Sl where
  A : Option Addr
  c : Nat
  xs : List UInt8
def slV (s : Sl) : Value := .slice s.A s.xs.length s.c
theorem RdBB.of {w : World} {A : Option Addr} {ts : List Sl} (h : Rd w A ts.length (ts.map slV)) (ht : ∀ t ∈ ts, RdB w t.A t.xs ∧ t.xs.length ≤ t.c) : RdBB w A (ts.map (·.xs)) := by
  refine ⟨ts.map slV, by rw [List.length_map]; exact h, fun i r hi => ?_⟩
  rw [List.getElem?_map] at hi
  obtain ⟨t, hti, rfl⟩ := Option.map_eq_some_iff.1 hi
  obtain ⟨h1, h2⟩ := ht t (List.mem_of_getElem? hti)
  exact ⟨t.A, t.c, by rw [List.getElem?_map, hti]; rfl, h1, h2⟩
theorem cutA_rd {w : World} {A : Option Addr} {xs : List UInt8} {c s : Nat} (h : RdB w A xs) (hs : s ≤ xs.length) (hc : xs.length ≤ c) : RdB w (cutA A c s) (xs.drop s) := by
  have hr := Rd.cut (l := s) (h := xs.length) (c := c) h hs (Nat.le_refl _) hc
  have e : ((bvs xs).take xs.length).drop s = bvs (xs.drop s) := by
    rw [List.take_of_length_le (by rw [bvs_length]; exact Nat.le_refl _), bvs, bvs, List.map_drop]
  rw [e] at hr
  unfold RdB
  rw [List.length_drop]
  exact hr
set_option maxRecDepth 8000 in
set_option maxHeartbeats 2000000 in
theorem blockEntry_any {x : En} {A B : Option Addr} {c d s : Nat} {w : World} (rx : RdB w A x.key) (hcA : x.key.length ≤ c) (rx2 : RdB w B x.val) (hcB : x.val.length ≤ d) (hs : s ≤ x.key.length) (hl : x.key.length ≤ 1099511627776) (hl2 : x.val.length ≤ 1099511627776) (hq : x.seq < 2 ^ 64) :
    CallsV Tryd.prog 46 #[.agg (enV x A c B d).toArray, .int .i64 (s : Int)] w (RetN' w (entB x s)) := by
  have hs0 := St.init w
  refine calls_in (N := _) Tryd.func46 rfl Tryd.ntmps46 rfl ?_; show WC _ _ _ _ _ _
  refine wc_sr ?_
  refine wl_box (cs := enV x A c B d) rfl rfl fun g2 w1 hg2 a2 hbx => ?_
  have hb := hbx
  clear hbx
  unfold enV at a2
  refine wl_as rfl rfl ?_; refine wl_ns ?_; refine wc_sr ?_; apply wl_val; apply opv_fa; exact fa_sE (by decide); exact rfl; exact rfl; apply wl_val; apply opv_ldX; exact rfl; assumption; exact e1_by; exact rfl; exact rfl; refine wl_mv rfl rfl ?_
  refine wl_sl (l := s) (h := x.key.length) tyB rfl ⟨_, rfl⟩ rfl hs hcA rfl ?_
  have r5 := cutA_rd (rx.below hb) hs hcA
  have hd5 : (x.key.drop s).length = x.key.length - s := List.length_drop
  have hcv : ((x.key.length - s : Nat) : Int) = ((x.key.length - s : Nat) : Int) := rfl
  have r6 := rx2.below hb
  refine wl_as rfl rfl ?_; refine wl_ns ?_; refine wc_seq ?_
  refine wc_heldM 23 mixed fun w2 hS => ?_
  apply wm_take 0; exact rfl; intro _ hw_; apply opv_move; exact rfl; exact rfl; kernel_rfl; exact hS; apply wm_take 1; exact rfl; intro _ hw_; apply opv_convR; exact rfl; exact Tryd.underlying3; exact Tryd.underlying37; exact IntWalk.u64_in _ (by omega); exact rfl; kernel_rfl; exact hS; apply wm_take 3; exact rfl; intro _ hw_; apply opv_move; exact rfl; exact rfl; kernel_rfl; exact hS; apply wm_take 4; exact rfl; intro _ hw_; apply opv_len; exact rfl; exact tyB.sl; exact rfl; kernel_rfl; exact hS; apply wm_take 5; exact rfl; intro _ hw_; apply opv_convR; exact rfl; exact Tryd.underlying3; exact Tryd.underlying37; exact IntWalk.u64_in _ (by omega); exact rfl; kernel_rfl; exact hS; apply wm_take 7; exact rfl; intro _ hw_; apply opv_fa; exact fa_sE (by decide); exact rfl; exact rfl; kernel_rfl; exact hS; apply wm_take 8; exact rfl; intro _ hw_; apply opv_ldX; exact rfl; exact Ar.bel (by assumption) hw_; exact e1_u64; exact rfl; exact rfl; kernel_rfl; exact hS; apply wm_take 10; exact rfl; intro _ hw_; apply opv_fa; exact fa_sE (by decide); exact rfl; exact rfl; kernel_rfl; exact hS; apply wm_take 11; exact rfl; intro _ hw_; apply opv_ldX; exact rfl; exact Ar.bel (by assumption) hw_; exact e1_u8; exact rfl; exact rfl; kernel_rfl; exact hS; apply wm_take 13; exact rfl; intro _ hw_; apply opv_fa; exact fa_sE (by decide); exact rfl; exact rfl; kernel_rfl; exact hS; apply wm_take 14; exact rfl; intro _ hw_; apply opv_ldX; exact rfl; exact Ar.bel (by assumption) hw_; exact e1_by; exact rfl; exact rfl; kernel_rfl; exact hS; apply wm_take 15; exact rfl; intro _ hw_; apply opv_len; exact rfl; exact tyB.sl; exact rfl; kernel_rfl; exact hS; apply wm_take 16; exact rfl; intro _ hw_; apply opv_convR; exact rfl; exact Tryd.underlying3; exact Tryd.underlying37; exact IntWalk.u64_in _ (by omega); exact rfl; kernel_rfl; exact hS; apply wm_take 18; exact rfl; intro _ hw_; apply opv_move; exact rfl; exact rfl; kernel_rfl; exact hS; apply wm_take 19; exact rfl; intro _ hw_; apply opv_fa; exact fa_sE (by decide); exact rfl; exact rfl; kernel_rfl; exact hS; apply wm_take 20; exact rfl; intro _ hw_; apply opv_ldX; exact rfl; exact Ar.bel (by assumption) hw_; exact e1_by; exact rfl; exact rfl; kernel_rfl; exact hS
  refine wm_two 2 12 (by kernel_rfl) rfl rfl ?_ ?_ <;> dsimp only [List.getElem_toArray, List.getElem_cons_succ, List.getElem_cons_zero]
  · refine wl_call ok_codec_PutU (putU_any s (by omega) _) ⟨rfl, trivial⟩ rfl ?_
    rintro _ _ ⟨A1, c1, rfl, o_, hbx⟩
    have p1 := o_.rd
    have k1 := o_.cap
    replace hS := hS.trans (hbx.mono hS.size)
    clear o_ hbx
    refine wl_nil ?_
    refine we_heldM (fun _ => hS) ?_
    refine wm_two 6 12 (by kernel_rfl) rfl rfl ?_ ?_ <;> dsimp only [List.getElem_toArray, List.getElem_cons_succ, List.getElem_cons_zero]
    · refine wl_call ok_codec_PutU (putU_any (x.key.length - s) (by omega) _) ⟨rfl, trivial⟩ rfl ?_
      rintro _ _ ⟨A2, c2, rfl, o_, hbx⟩
      have p2 := o_.rd
      have k2 := o_.cap
      replace hS := hS.trans (hbx.mono hS.size)
      replace p1 := p1.below hbx
      clear o_ hbx
      refine wl_nil ?_
      refine we_heldM (fun _ => hS) ?_
      refine wm_two 9 12 (by kernel_rfl) rfl rfl ?_ ?_ <;> dsimp only [List.getElem_toArray, List.getElem_cons_succ, List.getElem_cons_zero]
      · refine wl_call ok_codec_PutU (putU_any x.seq hq _) ⟨rfl, trivial⟩ rfl ?_
        rintro _ _ ⟨A3, c3, rfl, o_, hbx⟩
        have p3 := o_.rd
        have k3 := o_.cap
        replace hS := hS.trans (hbx.mono hS.size)
        replace p1 := p1.below hbx
        replace p2 := p2.below hbx
        clear o_ hbx
        refine wl_nil ?_
        refine we_heldM (fun _ => hS) ?_
        refine wm_two 12 17 (by kernel_rfl) rfl rfl ?_ ?_ <;> dsimp only [List.getElem_toArray, List.getElem_cons_succ, List.getElem_cons_zero]
        · refine wl_bs (vs := bvs [x.kind]) tyB ⟨rfl, rfl, rfl, trivial⟩ rfl (by decide) rfl fun A5 _ o_ hbx _ => ?_
          have p5 : RdB _ A5 [x.kind] := o_.rd
          replace hS := hS.trans (hbx.mono hS.size)
          replace p1 := p1.below hbx
          replace p2 := p2.below hbx
          replace p3 := p3.below hbx
          clear o_ hbx
          refine wl_nil ?_
          refine we_heldM (fun _ => hS) ?_
          refine wm_one 17 (by kernel_rfl) rfl ?_; dsimp only [List.getElem_toArray, List.getElem_cons_succ, List.getElem_cons_zero]
          refine wl_call ok_codec_PutU (putU_any x.val.length (by omega) _) ⟨rfl, trivial⟩ rfl ?_
          rintro _ _ ⟨A4, c4, rfl, o_, hbx⟩
          have p4 := o_.rd
          have k4 := o_.cap
          replace hS := hS.trans (hbx.mono hS.size)
          replace p1 := p1.below hbx
          replace p2 := p2.below hbx
          replace p3 := p3.below hbx
          replace p5 := p5.below hbx
          clear o_ hbx
          refine wl_nil ?_
          refine we_heldM (fun _ => hS) ?_
          refine wm_one 21 (by kernel_rfl) rfl ?_; dsimp only [List.getElem_toArray, List.getElem_cons_succ, List.getElem_cons_zero]
          refine wl_bs (vs := [⟨A1, c1, putU s⟩, ⟨A2, c2, putU (x.key.length - s)⟩, ⟨A3, c3, putU x.seq⟩, ⟨A5, 1, [x.kind]⟩, ⟨A4, c4, putU x.val.length⟩, ⟨cutA A c s, c - s, x.key.drop s⟩, ⟨B, d, x.val⟩].map slV) tyBB ⟨rfl, rfl, rfl, rfl, rfl, rfl, rfl, rfl, rfl, rfl, rfl, rfl, rfl, rfl, rfl, rfl, congrArg some (slice_eq hd5.symm), rfl, rfl, rfl, rfl, trivial⟩ rfl (by decide) rfl fun R w9 o_ hbx _ => ?_
          have hR : RdBB w9 R [putU s, putU (x.key.length - s), putU x.seq, [x.kind], putU x.val.length, x.key.drop s, x.val] := RdBB.of (ts := [⟨A1, c1, putU s⟩, ⟨A2, c2, putU (x.key.length - s)⟩, ⟨A3, c3, putU x.seq⟩, ⟨A5, 1, [x.kind]⟩, ⟨A4, c4, putU x.val.length⟩, ⟨cutA A c s, c - s, x.key.drop s⟩, ⟨B, d, x.val⟩]) o_.rd (by
            intro t ht
            simp only [List.mem_cons, List.not_mem_nil, or_false] at ht
            rcases ht with rfl | rfl | rfl | rfl | rfl | rfl | rfl
            · exact ⟨p1.below hbx, k1⟩
            · exact ⟨p2.below hbx, k2⟩
            · exact ⟨p3.below hbx, k3⟩
            · exact ⟨p5.below hbx, Nat.le_refl _⟩
            · exact ⟨p4.below hbx, k4⟩
            · exact ⟨(r5.below hS).below hbx, show (x.key.drop s).length ≤ c - s by omega⟩
            · exact ⟨(r6.below hS).below hbx, hcB⟩)
          replace hS := hS.trans (hbx.mono hS.size)
          clear o_ hbx
          refine wl_nil ?_
          refine we_heldM (fun _ => hS) ?_
          refine wm_one 22 (by kernel_rfl) rfl ?_; dsimp only [List.getElem_toArray, List.getElem_cons_succ, List.getElem_cons_zero]
          have hfl : [putU s, putU (x.key.length - s), putU x.seq, [x.kind], putU x.val.length, x.key.drop s, x.val].flatten = entB x s := by simp [entB]
          have hel := (entB_length x s hs (by omega) (by omega) hq).1
          refine wl_call ok_bytes_Join (bJoin_any hR rfl (Nat.le_refl _) (by rw [hfl]; omega) (by simp [maxLen])) ⟨rfl, rfl, trivial⟩ rfl ?_
          rw [hfl]
          rintro _ w10 ⟨J, cJ, rfl, n_, hbx⟩
          have hsz := hb.size
          have hsz2 := hS.size
          have n1 := n_.mono (show w.heap.size ≤ w9.heap.size by omega)
          replace hS := hS.trans (hbx.mono hS.size)
          clear n_ hbx
          refine wl_nil ?_
          refine we_heldM (fun _ => hS) ?_
          refine wm_one 23 (by kernel_rfl) rfl ?_; dsimp only [List.getElem_toArray, List.getElem_cons_succ, List.getElem_cons_zero]
          refine wl_as rfl rfl ?_; refine wl_nil ?_
          refine we_heldM (fun h => absurd h (by decide)) ?_
          refine wm_done (by kernel_rfl) ?_
          refine we_seq ?_; refine wc_ret ?_
          exact we_ret1 rfl rfl ⟨_, rfl, J, cJ, rfl, n1, hb.trans (hS.mono hb.size)⟩
        · refine wl_call ok_codec_PutU (putU_any x.val.length (by omega) _) ⟨rfl, trivial⟩ rfl ?_
          rintro _ _ ⟨A4, c4, rfl, o_, hbx⟩
          have p4 := o_.rd
          have k4 := o_.cap
          replace hS := hS.trans (hbx.mono hS.size)
          replace p1 := p1.below hbx
          replace p2 := p2.below hbx
          replace p3 := p3.below hbx
          clear o_ hbx
          refine wl_nil ?_
          refine we_heldM (fun _ => hS) ?_
          refine wm_one 12 (by kernel_rfl) rfl ?_; dsimp only [List.getElem_toArray, List.getElem_cons_succ, List.getElem_cons_zero]
          refine wl_bs (vs := bvs [x.kind]) tyB ⟨rfl, rfl, rfl, trivial⟩ rfl (by decide) rfl fun A5 _ o_ hbx _ => ?_
          have p5 : RdB _ A5 [x.kind] := o_.rd
          replace hS := hS.trans (hbx.mono hS.size)
          replace p1 := p1.below hbx
          replace p2 := p2.below hbx
          replace p3 := p3.below hbx
          replace p4 := p4.below hbx
          clear o_ hbx
          refine wl_nil ?_
          refine we_heldM (fun _ => hS) ?_
          refine wm_one 21 (by kernel_rfl) rfl ?_; dsimp only [List.getElem_toArray, List.getElem_cons_succ, List.getElem_cons_zero]
          refine wl_bs (vs := [⟨A1, c1, putU s⟩, ⟨A2, c2, putU (x.key.length - s)⟩, ⟨A3, c3, putU x.seq⟩, ⟨A5, 1, [x.kind]⟩, ⟨A4, c4, putU x.val.length⟩, ⟨cutA A c s, c - s, x.key.drop s⟩, ⟨B, d, x.val⟩].map slV) tyBB ⟨rfl, rfl, rfl, rfl, rfl, rfl, rfl, rfl, rfl, rfl, rfl, rfl, rfl, rfl, rfl, rfl, congrArg some (slice_eq hd5.symm), rfl, rfl, rfl, rfl, trivial⟩ rfl (by decide) rfl fun R w9 o_ hbx _ => ?_
          have hR : RdBB w9 R [putU s, putU (x.key.length - s), putU x.seq, [x.kind], putU x.val.length, x.key.drop s, x.val] := RdBB.of (ts := [⟨A1, c1, putU s⟩, ⟨A2, c2, putU (x.key.length - s)⟩, ⟨A3, c3, putU x.seq⟩, ⟨A5, 1, [x.kind]⟩, ⟨A4, c4, putU x.val.length⟩, ⟨cutA A c s, c - s, x.key.drop s⟩, ⟨B, d, x.val⟩]) o_.rd (by
            intro t ht
            simp only [List.mem_cons, List.not_mem_nil, or_false] at ht
            rcases ht with rfl | rfl | rfl | rfl | rfl | rfl | rfl
            · exact ⟨p1.below hbx, k1⟩
            · exact ⟨p2.below hbx, k2⟩
            · exact ⟨p3.below hbx, k3⟩
            · exact ⟨p5.below hbx, Nat.le_refl _⟩
            · exact ⟨p4.below hbx, k4⟩
            · exact ⟨(r5.below hS).below hbx, show (x.key.drop s).length ≤ c - s by omega⟩
            · exact ⟨(r6.below hS).below hbx, hcB⟩)
          replace hS := hS.trans (hbx.mono hS.size)
          clear o_ hbx
          refine wl_nil ?_
          refine we_heldM (fun _ => hS) ?_
          refine wm_one 22 (by kernel_rfl) rfl ?_; dsimp only [List.getElem_toArray, List.getElem_cons_succ, List.getElem_cons_zero]
          have hfl : [putU s, putU (x.key.length - s), putU x.seq, [x.kind], putU x.val.length, x.key.drop s, x.val].flatten = entB x s := by simp [entB]
          have hel := (entB_length x s hs (by omega) (by omega) hq).1
          refine wl_call ok_bytes_Join (bJoin_any hR rfl (Nat.le_refl _) (by rw [hfl]; omega) (by simp [maxLen])) ⟨rfl, rfl, trivial⟩ rfl ?_
          rw [hfl]
          rintro _ w10 ⟨J, cJ, rfl, n_, hbx⟩
          have hsz := hb.size
          have hsz2 := hS.size
          have n1 := n_.mono (show w.heap.size ≤ w9.heap.size by omega)
          replace hS := hS.trans (hbx.mono hS.size)
          clear n_ hbx
          refine wl_nil ?_
          refine we_heldM (fun _ => hS) ?_
          refine wm_one 23 (by kernel_rfl) rfl ?_; dsimp only [List.getElem_toArray, List.getElem_cons_succ, List.getElem_cons_zero]
          refine wl_as rfl rfl ?_; refine wl_nil ?_
          refine we_heldM (fun h => absurd h (by decide)) ?_
          refine wm_done (by kernel_rfl) ?_
          refine we_seq ?_; refine wc_ret ?_
          exact we_ret1 rfl rfl ⟨_, rfl, J, cJ, rfl, n1, hb.trans (hS.mono hb.size)⟩
      · refine wl_bs (vs := bvs [x.kind]) tyB ⟨rfl, rfl, rfl, trivial⟩ rfl (by decide) rfl fun A5 _ o_ hbx _ => ?_
        have p5 : RdB _ A5 [x.kind] := o_.rd
        replace hS := hS.trans (hbx.mono hS.size)
        replace p1 := p1.below hbx
        replace p2 := p2.below hbx
        clear o_ hbx
        refine wl_nil ?_
        refine we_heldM (fun _ => hS) ?_
        refine wm_one 9 (by kernel_rfl) rfl ?_; dsimp only [List.getElem_toArray, List.getElem_cons_succ, List.getElem_cons_zero]
        refine wl_call ok_codec_PutU (putU_any x.seq hq _) ⟨rfl, trivial⟩ rfl ?_
        rintro _ _ ⟨A3, c3, rfl, o_, hbx⟩
        have p3 := o_.rd
        have k3 := o_.cap
        replace hS := hS.trans (hbx.mono hS.size)
        replace p1 := p1.below hbx
        replace p2 := p2.below hbx
        replace p5 := p5.below hbx
        clear o_ hbx
        refine wl_nil ?_
        refine we_heldM (fun _ => hS) ?_
        refine wm_one 17 (by kernel_rfl) rfl ?_; dsimp only [List.getElem_toArray, List.getElem_cons_succ, List.getElem_cons_zero]
        refine wl_call ok_codec_PutU (putU_any x.val.length (by omega) _) ⟨rfl, trivial⟩ rfl ?_
        rintro _ _ ⟨A4, c4, rfl, o_, hbx⟩
        have p4 := o_.rd
        have k4 := o_.cap
        replace hS := hS.trans (hbx.mono hS.size)
        replace p1 := p1.below hbx
        replace p2 := p2.below hbx
        replace p5 := p5.below hbx
        replace p3 := p3.below hbx
        clear o_ hbx
        refine wl_nil ?_
        refine we_heldM (fun _ => hS) ?_
        refine wm_one 21 (by kernel_rfl) rfl ?_; dsimp only [List.getElem_toArray, List.getElem_cons_succ, List.getElem_cons_zero]
        refine wl_bs (vs := [⟨A1, c1, putU s⟩, ⟨A2, c2, putU (x.key.length - s)⟩, ⟨A3, c3, putU x.seq⟩, ⟨A5, 1, [x.kind]⟩, ⟨A4, c4, putU x.val.length⟩, ⟨cutA A c s, c - s, x.key.drop s⟩, ⟨B, d, x.val⟩].map slV) tyBB ⟨rfl, rfl, rfl, rfl, rfl, rfl, rfl, rfl, rfl, rfl, rfl, rfl, rfl, rfl, rfl, rfl, congrArg some (slice_eq hd5.symm), rfl, rfl, rfl, rfl, trivial⟩ rfl (by decide) rfl fun R w9 o_ hbx _ => ?_
        have hR : RdBB w9 R [putU s, putU (x.key.length - s), putU x.seq, [x.kind], putU x.val.length, x.key.drop s, x.val] := RdBB.of (ts := [⟨A1, c1, putU s⟩, ⟨A2, c2, putU (x.key.length - s)⟩, ⟨A3, c3, putU x.seq⟩, ⟨A5, 1, [x.kind]⟩, ⟨A4, c4, putU x.val.length⟩, ⟨cutA A c s, c - s, x.key.drop s⟩, ⟨B, d, x.val⟩]) o_.rd (by
          intro t ht
          simp only [List.mem_cons, List.not_mem_nil, or_false] at ht
          rcases ht with rfl | rfl | rfl | rfl | rfl | rfl | rfl
          · exact ⟨p1.below hbx, k1⟩
          · exact ⟨p2.below hbx, k2⟩
          · exact ⟨p3.below hbx, k3⟩
          · exact ⟨p5.below hbx, Nat.le_refl _⟩
          · exact ⟨p4.below hbx, k4⟩
          · exact ⟨(r5.below hS).below hbx, show (x.key.drop s).length ≤ c - s by omega⟩
          · exact ⟨(r6.below hS).below hbx, hcB⟩)
        replace hS := hS.trans (hbx.mono hS.size)
        clear o_ hbx
        refine wl_nil ?_
        refine we_heldM (fun _ => hS) ?_
        refine wm_one 22 (by kernel_rfl) rfl ?_; dsimp only [List.getElem_toArray, List.getElem_cons_succ, List.getElem_cons_zero]
        have hfl : [putU s, putU (x.key.length - s), putU x.seq, [x.kind], putU x.val.length, x.key.drop s, x.val].flatten = entB x s := by simp [entB]
        have hel := (entB_length x s hs (by omega) (by omega) hq).1
        refine wl_call ok_bytes_Join (bJoin_any hR rfl (Nat.le_refl _) (by rw [hfl]; omega) (by simp [maxLen])) ⟨rfl, rfl, trivial⟩ rfl ?_
        rw [hfl]
        rintro _ w10 ⟨J, cJ, rfl, n_, hbx⟩
        have hsz := hb.size
        have hsz2 := hS.size
        have n1 := n_.mono (show w.heap.size ≤ w9.heap.size by omega)
        replace hS := hS.trans (hbx.mono hS.size)
        clear n_ hbx
        refine wl_nil ?_
        refine we_heldM (fun _ => hS) ?_
        refine wm_one 23 (by kernel_rfl) rfl ?_; dsimp only [List.getElem_toArray, List.getElem_cons_succ, List.getElem_cons_zero]
        refine wl_as rfl rfl ?_; refine wl_nil ?_
        refine we_heldM (fun h => absurd h (by decide)) ?_
        refine wm_done (by kernel_rfl) ?_
        refine we_seq ?_; refine wc_ret ?_
        exact we_ret1 rfl rfl ⟨_, rfl, J, cJ, rfl, n1, hb.trans (hS.mono hb.size)⟩
    · refine wl_bs (vs := bvs [x.kind]) tyB ⟨rfl, rfl, rfl, trivial⟩ rfl (by decide) rfl fun A5 _ o_ hbx _ => ?_
      have p5 : RdB _ A5 [x.kind] := o_.rd
      replace hS := hS.trans (hbx.mono hS.size)
      replace p1 := p1.below hbx
      clear o_ hbx
      refine wl_nil ?_
      refine we_heldM (fun _ => hS) ?_
      refine wm_one 6 (by kernel_rfl) rfl ?_; dsimp only [List.getElem_toArray, List.getElem_cons_succ, List.getElem_cons_zero]
      refine wl_call ok_codec_PutU (putU_any (x.key.length - s) (by omega) _) ⟨rfl, trivial⟩ rfl ?_
      rintro _ _ ⟨A2, c2, rfl, o_, hbx⟩
      have p2 := o_.rd
      have k2 := o_.cap
      replace hS := hS.trans (hbx.mono hS.size)
      replace p1 := p1.below hbx
      replace p5 := p5.below hbx
      clear o_ hbx
      refine wl_nil ?_
      refine we_heldM (fun _ => hS) ?_
      refine wm_one 9 (by kernel_rfl) rfl ?_; dsimp only [List.getElem_toArray, List.getElem_cons_succ, List.getElem_cons_zero]
      refine wl_call ok_codec_PutU (putU_any x.seq hq _) ⟨rfl, trivial⟩ rfl ?_
      rintro _ _ ⟨A3, c3, rfl, o_, hbx⟩
      have p3 := o_.rd
      have k3 := o_.cap
      replace hS := hS.trans (hbx.mono hS.size)
      replace p1 := p1.below hbx
      replace p5 := p5.below hbx
      replace p2 := p2.below hbx
      clear o_ hbx
      refine wl_nil ?_
      refine we_heldM (fun _ => hS) ?_
      refine wm_one 17 (by kernel_rfl) rfl ?_; dsimp only [List.getElem_toArray, List.getElem_cons_succ, List.getElem_cons_zero]
      refine wl_call ok_codec_PutU (putU_any x.val.length (by omega) _) ⟨rfl, trivial⟩ rfl ?_
      rintro _ _ ⟨A4, c4, rfl, o_, hbx⟩
      have p4 := o_.rd
      have k4 := o_.cap
      replace hS := hS.trans (hbx.mono hS.size)
      replace p1 := p1.below hbx
      replace p5 := p5.below hbx
      replace p2 := p2.below hbx
      replace p3 := p3.below hbx
      clear o_ hbx
      refine wl_nil ?_
      refine we_heldM (fun _ => hS) ?_
      refine wm_one 21 (by kernel_rfl) rfl ?_; dsimp only [List.getElem_toArray, List.getElem_cons_succ, List.getElem_cons_zero]
      refine wl_bs (vs := [⟨A1, c1, putU s⟩, ⟨A2, c2, putU (x.key.length - s)⟩, ⟨A3, c3, putU x.seq⟩, ⟨A5, 1, [x.kind]⟩, ⟨A4, c4, putU x.val.length⟩, ⟨cutA A c s, c - s, x.key.drop s⟩, ⟨B, d, x.val⟩].map slV) tyBB ⟨rfl, rfl, rfl, rfl, rfl, rfl, rfl, rfl, rfl, rfl, rfl, rfl, rfl, rfl, rfl, rfl, congrArg some (slice_eq hd5.symm), rfl, rfl, rfl, rfl, trivial⟩ rfl (by decide) rfl fun R w9 o_ hbx _ => ?_
      have hR : RdBB w9 R [putU s, putU (x.key.length - s), putU x.seq, [x.kind], putU x.val.length, x.key.drop s, x.val] := RdBB.of (ts := [⟨A1, c1, putU s⟩, ⟨A2, c2, putU (x.key.length - s)⟩, ⟨A3, c3, putU x.seq⟩, ⟨A5, 1, [x.kind]⟩, ⟨A4, c4, putU x.val.length⟩, ⟨cutA A c s, c - s, x.key.drop s⟩, ⟨B, d, x.val⟩]) o_.rd (by
        intro t ht
        simp only [List.mem_cons, List.not_mem_nil, or_false] at ht
        rcases ht with rfl | rfl | rfl | rfl | rfl | rfl | rfl
        · exact ⟨p1.below hbx, k1⟩
        · exact ⟨p2.below hbx, k2⟩
        · exact ⟨p3.below hbx, k3⟩
        · exact ⟨p5.below hbx, Nat.le_refl _⟩
        · exact ⟨p4.below hbx, k4⟩
        · exact ⟨(r5.below hS).below hbx, show (x.key.drop s).length ≤ c - s by omega⟩
        · exact ⟨(r6.below hS).below hbx, hcB⟩)
      replace hS := hS.trans (hbx.mono hS.size)
      clear o_ hbx
      refine wl_nil ?_
      refine we_heldM (fun _ => hS) ?_
      refine wm_one 22 (by kernel_rfl) rfl ?_; dsimp only [List.getElem_toArray, List.getElem_cons_succ, List.getElem_cons_zero]
      have hfl : [putU s, putU (x.key.length - s), putU x.seq, [x.kind], putU x.val.length, x.key.drop s, x.val].flatten = entB x s := by simp [entB]
      have hel := (entB_length x s hs (by omega) (by omega) hq).1
      refine wl_call ok_bytes_Join (bJoin_any hR rfl (Nat.le_refl _) (by rw [hfl]; omega) (by simp [maxLen])) ⟨rfl, rfl, trivial⟩ rfl ?_
      rw [hfl]
      rintro _ w10 ⟨J, cJ, rfl, n_, hbx⟩
      have hsz := hb.size
      have hsz2 := hS.size
      have n1 := n_.mono (show w.heap.size ≤ w9.heap.size by omega)
      replace hS := hS.trans (hbx.mono hS.size)
      clear n_ hbx
      refine wl_nil ?_
      refine we_heldM (fun _ => hS) ?_
      refine wm_one 23 (by kernel_rfl) rfl ?_; dsimp only [List.getElem_toArray, List.getElem_cons_succ, List.getElem_cons_zero]
      refine wl_as rfl rfl ?_; refine wl_nil ?_
      refine we_heldM (fun h => absurd h (by decide)) ?_
      refine wm_done (by kernel_rfl) ?_
      refine we_seq ?_; refine wc_ret ?_
      exact we_ret1 rfl rfl ⟨_, rfl, J, cJ, rfl, n1, hb.trans (hS.mono hb.size)⟩
  · refine wl_bs (vs := bvs [x.kind]) tyB ⟨rfl, rfl, rfl, trivial⟩ rfl (by decide) rfl fun A5 _ o_ hbx _ => ?_
    have p5 : RdB _ A5 [x.kind] := o_.rd
    replace hS := hS.trans (hbx.mono hS.size)
    clear o_ hbx
    refine wl_nil ?_
    refine we_heldM (fun _ => hS) ?_
    refine wm_one 2 (by kernel_rfl) rfl ?_; dsimp only [List.getElem_toArray, List.getElem_cons_succ, List.getElem_cons_zero]
    refine wl_call ok_codec_PutU (putU_any s (by omega) _) ⟨rfl, trivial⟩ rfl ?_
    rintro _ _ ⟨A1, c1, rfl, o_, hbx⟩
    have p1 := o_.rd
    have k1 := o_.cap
    replace hS := hS.trans (hbx.mono hS.size)
    replace p5 := p5.below hbx
    clear o_ hbx
    refine wl_nil ?_
    refine we_heldM (fun _ => hS) ?_
    refine wm_one 6 (by kernel_rfl) rfl ?_; dsimp only [List.getElem_toArray, List.getElem_cons_succ, List.getElem_cons_zero]
    refine wl_call ok_codec_PutU (putU_any (x.key.length - s) (by omega) _) ⟨rfl, trivial⟩ rfl ?_
    rintro _ _ ⟨A2, c2, rfl, o_, hbx⟩
    have p2 := o_.rd
    have k2 := o_.cap
    replace hS := hS.trans (hbx.mono hS.size)
    replace p5 := p5.below hbx
    replace p1 := p1.below hbx
    clear o_ hbx
    refine wl_nil ?_
    refine we_heldM (fun _ => hS) ?_
    refine wm_one 9 (by kernel_rfl) rfl ?_; dsimp only [List.getElem_toArray, List.getElem_cons_succ, List.getElem_cons_zero]
    refine wl_call ok_codec_PutU (putU_any x.seq hq _) ⟨rfl, trivial⟩ rfl ?_
    rintro _ _ ⟨A3, c3, rfl, o_, hbx⟩
    have p3 := o_.rd
    have k3 := o_.cap
    replace hS := hS.trans (hbx.mono hS.size)
    replace p5 := p5.below hbx
    replace p1 := p1.below hbx
    replace p2 := p2.below hbx
    clear o_ hbx
    refine wl_nil ?_
    refine we_heldM (fun _ => hS) ?_
    refine wm_one 17 (by kernel_rfl) rfl ?_; dsimp only [List.getElem_toArray, List.getElem_cons_succ, List.getElem_cons_zero]
    refine wl_call ok_codec_PutU (putU_any x.val.length (by omega) _) ⟨rfl, trivial⟩ rfl ?_
    rintro _ _ ⟨A4, c4, rfl, o_, hbx⟩
    have p4 := o_.rd
    have k4 := o_.cap
    replace hS := hS.trans (hbx.mono hS.size)
    replace p5 := p5.below hbx
    replace p1 := p1.below hbx
    replace p2 := p2.below hbx
    replace p3 := p3.below hbx
    clear o_ hbx
    refine wl_nil ?_
    refine we_heldM (fun _ => hS) ?_
    refine wm_one 21 (by kernel_rfl) rfl ?_; dsimp only [List.getElem_toArray, List.getElem_cons_succ, List.getElem_cons_zero]
    refine wl_bs (vs := [⟨A1, c1, putU s⟩, ⟨A2, c2, putU (x.key.length - s)⟩, ⟨A3, c3, putU x.seq⟩, ⟨A5, 1, [x.kind]⟩, ⟨A4, c4, putU x.val.length⟩, ⟨cutA A c s, c - s, x.key.drop s⟩, ⟨B, d, x.val⟩].map slV) tyBB ⟨rfl, rfl, rfl, rfl, rfl, rfl, rfl, rfl, rfl, rfl, rfl, rfl, rfl, rfl, rfl, rfl, congrArg some (slice_eq hd5.symm), rfl, rfl, rfl, rfl, trivial⟩ rfl (by decide) rfl fun R w9 o_ hbx _ => ?_
    have hR : RdBB w9 R [putU s, putU (x.key.length - s), putU x.seq, [x.kind], putU x.val.length, x.key.drop s, x.val] := RdBB.of (ts := [⟨A1, c1, putU s⟩, ⟨A2, c2, putU (x.key.length - s)⟩, ⟨A3, c3, putU x.seq⟩, ⟨A5, 1, [x.kind]⟩, ⟨A4, c4, putU x.val.length⟩, ⟨cutA A c s, c - s, x.key.drop s⟩, ⟨B, d, x.val⟩]) o_.rd (by
      intro t ht
      simp only [List.mem_cons, List.not_mem_nil, or_false] at ht
      rcases ht with rfl | rfl | rfl | rfl | rfl | rfl | rfl
      · exact ⟨p1.below hbx, k1⟩
      · exact ⟨p2.below hbx, k2⟩
      · exact ⟨p3.below hbx, k3⟩
      · exact ⟨p5.below hbx, Nat.le_refl _⟩
      · exact ⟨p4.below hbx, k4⟩
      · exact ⟨(r5.below hS).below hbx, show (x.key.drop s).length ≤ c - s by omega⟩
      · exact ⟨(r6.below hS).below hbx, hcB⟩)
    replace hS := hS.trans (hbx.mono hS.size)
    clear o_ hbx
    refine wl_nil ?_
    refine we_heldM (fun _ => hS) ?_
    refine wm_one 22 (by kernel_rfl) rfl ?_; dsimp only [List.getElem_toArray, List.getElem_cons_succ, List.getElem_cons_zero]
    have hfl : [putU s, putU (x.key.length - s), putU x.seq, [x.kind], putU x.val.length, x.key.drop s, x.val].flatten = entB x s := by simp [entB]
    have hel := (entB_length x s hs (by omega) (by omega) hq).1
    refine wl_call ok_bytes_Join (bJoin_any hR rfl (Nat.le_refl _) (by rw [hfl]; omega) (by simp [maxLen])) ⟨rfl, rfl, trivial⟩ rfl ?_
    rw [hfl]
    rintro _ w10 ⟨J, cJ, rfl, n_, hbx⟩
    have hsz := hb.size
    have hsz2 := hS.size
    have n1 := n_.mono (show w.heap.size ≤ w9.heap.size by omega)
    replace hS := hS.trans (hbx.mono hS.size)
    clear n_ hbx
    refine wl_nil ?_
    refine we_heldM (fun _ => hS) ?_
    refine wm_one 23 (by kernel_rfl) rfl ?_; dsimp only [List.getElem_toArray, List.getElem_cons_succ, List.getElem_cons_zero]
    refine wl_as rfl rfl ?_; refine wl_nil ?_
    refine we_heldM (fun h => absurd h (by decide)) ?_
    refine wm_done (by kernel_rfl) ?_
    refine we_seq ?_; refine wc_ret ?_
    exact we_ret1 rfl rfl ⟨_, rfl, J, cJ, rfl, n1, hb.trans (hS.mono hb.size)⟩
end Go.Proofs.YtpnckagibkdcpaaDoor


/-
  Walks over the sealing of records by the program.
-/
namespace Go.Proofs.YtpnckagibkdcpaaDoor
open Go.RowKit

theorem RdBB.three' {w : World} {A A1 A2 A3 : Option Addr} {n1 n2 n3 c1 c2 c3 : Nat} {r s t : List UInt8} (h : Rd w A 3 [.slice A1 n1 c1, .slice A2 n2 c2, .slice A3 n3 c3]) (h1 : RdB w A1 r) (e1 : r.length = n1) (hc : r.length ≤ c1) (h2 : RdB w A2 s) (e2 : s.length = n2) (hc2 : s.length ≤ c2) (h3 : RdB w A3 t) (e3 : t.length = n3) (hc3 : t.length ≤ c3) : RdBB w A [r, s, t] := by
  subst e1 e2 e3; exact RdBB.three h h1 hc h2 hc2 h3 hc3
theorem crcPut_any (n : Nat) (hn : n < 4294967296) (w : World) : CallsV Tryd.prog 65 #[.int .u32 n] w (RetB w (four n)) := by
  refine calls_in (N := _) Tryd.func65 rfl Tryd.ntmps65 rfl ?_; show WC _ _ _ _ _ _
  refine wc_sr ?_; refine wl_as rfl rfl ?_; refine wl_ns ?_; refine wc_sr ?_; refine wl_mv rfl rfl ?_
  refine wl_val (opv_bin (b := .int .u64 (24 : Nat)) rfl rfl (bin_shr hn)) rfl ?_
  apply wl_val; apply opv_convR; exact rfl; exact Tryd.underlying103; exact Tryd.underlying5; exact IntWalk.u8_in _ (by omega); exact rfl; refine wl_mv rfl rfl ?_
  refine wl_val (opv_bin (b := .int .u64 (16 : Nat)) rfl rfl (bin_shr hn)) rfl ?_
  apply wl_val; apply opv_convR; exact rfl; exact Tryd.underlying103; exact Tryd.underlying5; exact wrap_nat rfl _; exact rfl; refine wl_mv rfl rfl ?_
  refine wl_val (opv_bin (b := .int .u64 (8 : Nat)) rfl rfl (bin_shr hn)) rfl ?_
  apply wl_val; apply opv_convR; exact rfl; exact Tryd.underlying103; exact Tryd.underlying5; exact wrap_nat rfl _; exact rfl; refine wl_mv rfl rfl ?_; apply wl_val; apply opv_convR; exact rfl; exact Tryd.underlying103; exact Tryd.underlying5; exact wrap_nat rfl _; exact rfl
  refine wl_bs (vs := [_, _, _, _]) tyB ⟨rfl, rfl, rfl, rfl, rfl, rfl, rfl, rfl, rfl, rfl, rfl, rfl, trivial⟩ rfl (by decide) rfl fun A1 w1 o1 hb1 _ => ?_
  have e0 : Value.int .u8 ((n / 2 ^ 24 : Nat) : Int) = bv (UInt8.ofNat (n / 2 ^ 24)) := by
    unfold bv; rw [UInt8.toNat_ofNat', Nat.mod_eq_of_lt (by omega)]
  rw [e0, byte_of, byte_of, byte_of] at o1
  have o2 : OwB w1 w.heap.size A1 4 (four n) := OwB.of o1 (four_length n) (by rw [four_list]; rfl)
  refine wl_as rfl rfl ?_; refine wl_ns ?_; refine wc_ret ?_
  exact we_ret1 rfl rfl ⟨_, rfl, A1, 4, by rw [four_length], o2, hb1⟩
/-- New bytes and an error are handed back. -/
def RetSN (w : World) (x : List UInt8 × Nat) (v : Value) (w' : World) : Prop :=
  ∃ (A : Option Addr) (c : Nat), v = .tuple #[.slice A x.1.length c, .int .i64 (x.2 : Int)] ∧ NwB w' w.heap.size A c x.1 ∧ Below w.heap.size w w'
theorem seal_any {A : Option Addr} {n c : Nat} {rows : List (List UInt8)} {w : World} (hr : RdBB w A rows) (hn : rows.length = n) (hc : rows.length ≤ c) (hl : rows.flatten.length ≤ 140737488355328) (hl2 : rows.length ≤ maxLen) :
    CallsV Tryd.prog 47 #[.slice A n c] w (RetSN w (sealB rows.flatten)) := by
  subst hn
  refine calls_in (N := _) Tryd.func47 rfl Tryd.ntmps47 rfl ?_; show WC _ _ _ _ _ _
  refine wc_sr ?_; refine wl_as rfl rfl ?_; refine wl_as rfl rfl ?_; refine wl_ns ?_; refine wc_sr ?_; refine wl_mv rfl rfl ?_
  refine wl_call ok_bytes_Join (bJoin_any hr rfl hc hl hl2) ⟨rfl, rfl, trivial⟩ rfl ?_
  obtain ⟨ys, hys⟩ : ∃ ys, rows.flatten = ys := ⟨_, rfl⟩
  rw [hys] at hl ⊢
  rintro _ w1 ⟨A1, c1, rfl, o1, hb1⟩
  have hcap := o1.cap
  refine wl_as rfl rfl ?_; refine wl_ns ?_; refine wc_seq ?_; refine wc_sr ?_; refine wl_mv rfl rfl ?_; apply wl_val; apply opv_len; exact rfl; exact tyB.sl; exact rfl; refine wl_bin rfl rfl bin_gtr rfl ?_; refine wl_ns ?_
  refine wc_cond rfl (fun h => ?_) (fun h => ?_)
  · refine wc_sr ?_; refine wl_as rfl rfl ?_; refine wl_as rfl rfl ?_; refine wl_ns ?_; refine wc_ret ?_; refine we_seq_ret ?_
    refine we_ret2 rfl rfl rfl ⟨_, rfl, ?_⟩
    rw [sealB, if_pos (by omega)]
    exact ⟨none, 0, rfl, .inl ⟨rfl, rfl, rfl⟩, hb1⟩
  · have hyl : ys.length ≤ 1048576 := by omega
    rw [sealB_ok hyl]
    refine wc_skip ?_; refine we_seq ?_; refine wc_sr ?_; refine wl_mv rfl rfl ?_; apply wl_val; apply opv_len; exact rfl; exact tyB.sl; exact rfl; apply wl_val; apply opv_convR; exact rfl; exact Tryd.underlying3; exact Tryd.underlying103; exact IntWalk.u32_in _ (by omega); exact rfl
    refine wl_call ok_crc_put (crcPut_any ys.length (by omega) w1) ⟨rfl, trivial⟩ rfl ?_
    rintro _ w2 ⟨A2, c2, rfl, o2, h2⟩
    have hc2 := o2.cap
    rw [four_length] at hc2 ⊢
    have hb2 := hb1.trans (h2.mono hb1.size)
    have r1 := RdB.below o1.rd h2
    refine wl_as rfl rfl ?_; refine wl_ns ?_; refine wc_sr ?_; refine wl_mv rfl rfl ?_; refine wl_mv rfl rfl ?_; refine wl_mv rfl rfl ?_
    refine wl_bs (vs := [_, _]) tyBB ⟨rfl, rfl, rfl, rfl, rfl, rfl, trivial⟩ rfl (by decide) rfl fun A3 w3 o3 h3 _ => ?_
    have hb3 := hb2.trans (h3.mono hb2.size)
    replace r1 := RdB.below r1 h3
    have r2 := RdB.below o2.rd h3
    have hrows := RdBB.two' o3.rd r2 (four_length _) (by rw [four_length]; exact hc2) r1 rfl hcap
    skip
    refine wl_call ok_crc_Sum (sum_any hrows rfl (by simp only [maxLen]; simp [four_length]; omega) (by simp only [maxLen]; simp)) ⟨rfl, trivial⟩ rfl ?_
    rintro _ w4 ⟨rfl, h4⟩
    have hb4 := hb3.trans (h4.mono hb3.size)
    replace r1 := RdB.below r1 h4
    replace r2 := RdB.below r2 h4
    obtain ⟨s, hs⟩ : ∃ s, crcOf [four ys.length, ys].flatten = s := ⟨_, rfl⟩
    have hs' : crcOf (four ys.length ++ ys) = s := by rw [← hs]; simp
    have hsl : s < 4294967296 := hs ▸ crcOf_lt _
    rw [hs]
    skip
    refine wl_call ok_crc_put (crcPut_any s hsl w4) ⟨rfl, trivial⟩ rfl ?_
    rintro _ w5 ⟨A5, c5, rfl, o5, h5⟩
    have hc5 := o5.cap
    rw [four_length] at hc5 ⊢
    have hb5 := hb4.trans (h5.mono hb4.size)
    replace r1 := RdB.below r1 h5
    replace r2 := RdB.below r2 h5
    refine wl_mv rfl rfl ?_
    refine wl_bs (vs := [_, _, _]) tyBB ⟨rfl, rfl, rfl, rfl, rfl, rfl, rfl, rfl, rfl, trivial⟩ rfl (by decide) rfl fun A6 w6 o6 h6 _ => ?_
    have hb6 := hb5.trans (h6.mono hb5.size)
    replace r1 := RdB.below r1 h6
    replace r2 := RdB.below r2 h6
    have r5 := RdB.below o5.rd h6
    have hrow3 := RdBB.three' o6.rd r2 (four_length _) (by rw [four_length]; exact hc2) r5 (four_length _) (by rw [four_length]; exact hc5) r1 rfl hcap
    have e3 : [four ys.length, four s, ys].flatten = crcRec ys := by rw [crcRec, hs']; simp
    refine wl_call ok_bytes_Join (bJoin_any hrow3 rfl (by simp) (by rw [e3, crcRec_length]; omega) (by simp only [maxLen]; simp)) ⟨rfl, rfl, trivial⟩ rfl ?_
    rw [e3]
    rintro _ w7 ⟨A7, c7, rfl, o7, h7⟩
    have hb7 := hb6.trans (h7.mono hb6.size)
    refine wl_as rfl rfl ?_; refine wl_as rfl rfl ?_; refine wl_ns ?_; refine wc_ret ?_
    exact we_ret2 rfl rfl rfl ⟨_, rfl, A7, c7, rfl, o7.mono hb6.size, hb7⟩
end Go.Proofs.YtpnckagibkdcpaaDoor


/-
  Walk over Build of blocks.
-/
namespace Go.Proofs.YtpnckagibkdcpaaDoor
open Go.RowKit

def stepO (l : List En) (k : Nat) : Bool := match k with
  | 0 => true
  | j + 1 => match l[j]?, l[j + 1]? with
    | some a, some b => lessE a b
    | _, _ => true
def ordT (l : List En) : Nat → Bool
  | 0 => true
  | k + 1 => ordT l k && stepO l k
theorem ordT_iff {l : List En} : ∀ {k : Nat}, ordT l k = true ↔ ∀ i x y, i + 1 < k → l[i]? = some x → l[i + 1]? = some y → lessE x y = true
  | 0 => by simp [ordT]
  | k + 1 => by
    rw [ordT, Bool.and_eq_true, ordT_iff]
    constructor
    · rintro ⟨h1, h2⟩ i x y hi hx hy
      rcases Nat.lt_or_ge (i + 1) k with h | h
      · exact h1 i x y h hx hy
      · obtain rfl : i + 1 = k := by omega
        rw [stepO, hx, hy] at h2; exact h2
    · intro h
      refine ⟨fun i x y hi => h i x y (by omega), ?_⟩
      cases k with
      | zero => rfl
      | succ j =>
        rw [stepO]
        cases hx : l[j]? with
        | none => rfl
        | some x =>
          cases hy : l[j + 1]? with
          | none => rfl
          | some y => exact h j x y (by omega) hx hy
theorem ordT_all (l : List En) : ordT l l.length = ordE l := by
  rw [Bool.eq_iff_iff, ordT_iff, ordE_iff]
  constructor
  · intro h i x y hx hy
    exact h i x y (List.getElem?_eq_some_iff.1 hy).1 hx hy
  · intro h i x y _ hx hy
    exact h i x y hx hy
/-- The sizes that walks over blocks ask of entries. -/
def Siz2 (l : List En) : Prop := ∀ x ∈ l, x.key.length ≤ 2097152 ∧ x.val.length ≤ 2097152 ∧ x.seq < 2 ^ 64
theorem Siz2.siz {l : List En} (h : Siz2 l) : Siz l := fun x hx => by have := h x hx; omega
theorem body_max {every : Nat} {l : List En} (hz : Siz2 l) : ∀ k, k ≤ l.length → (bodyB every l k).length ≤ k * 4194345
  | 0, _ => by simp [bodyB]
  | k + 1, hk => by
    have hx : l[k]? = some (l[k]'(by omega)) := List.getElem?_eq_getElem (by omega)
    obtain ⟨z1, z2, z3⟩ := hz _ (List.mem_of_getElem? hx)
    have h1 := (entB_length _ _ (shrN_le (every := every) hx).1 (by omega) (by omega) z3).1
    have h2 := body_max (every := every) hz k (by omega)
    rw [bodyB_succ hx, List.length_append, Nat.add_mul]; omega
theorem resB_max (every : Nat) (l : List En) (k : Nat) : (resB every l k).length ≤ 4 * k := by
  have := stN_le every k; rw [resB_length]; omega
set_option maxRecDepth 8000 in
set_option maxHeartbeats 2000000 in
theorem blkBuild_any {A : Option Addr} {n c every : Nat} {l : List En} {w : World} (he : 0 < every) (he2 : every ≤ 9223372036854775807) (hr : RdR 4 w All A (l.map enEl)) (hn : l.length = n) (hl : l.length ≤ 2097152) (hz : Siz2 l) :
    CallsV Tryd.prog 14 #[.int .i64 (every : Int), .slice A n c] w (RetSN w (buildB every l)) := by
  subst hn
  have hs := St.init w
  have h1' : ¬ (every : Int) < 1 := by omega
  refine calls_in (N := _) Tryd.func14 rfl Tryd.ntmps14 rfl ?_; show WC _ _ _ _ _ _
  refine wc_sr ?_; refine wl_as rfl rfl ?_; refine wl_as rfl rfl ?_; refine wl_ns ?_; refine wc_seq ?_; refine wc_sr ?_; refine wl_mv rfl rfl ?_; refine wl_bin rfl rfl bin_lss rfl ?_; refine wl_ns ?_; apply wc_decF; exact rfl; (with_reducible assumption); refine wc_skip ?_; refine we_seq ?_; refine wc_sr ?_; refine wl_mv rfl rfl ?_
  refine wl_call ok_mem_Check (check_any (hr.below hs.bel) rfl (by simp only [maxLen]; omega)) ⟨rfl, trivial⟩ rfl ?_
  rintro _ w1 ⟨rfl, hbx⟩
  replace hs := hs.below hbx
  clear hbx
  by_cases hc2 : checkE l = 2
  · rw [hc2]
    refine wl_as rfl rfl ?_; refine wl_ns ?_; refine wc_seq ?_; refine wc_sr ?_; refine wl_mv rfl rfl ?_; refine wl_bin rfl rfl bin_eql rfl ?_; refine wl_ns ?_; apply wc_condTb; exact rfl; exact rfl; refine wc_sr ?_; refine wl_mv rfl rfl ?_; refine wl_as rfl rfl ?_; refine wl_as rfl rfl ?_; refine wl_ns ?_; refine wc_ret ?_; refine we_seq_ret ?_
    exact we_ret2 rfl rfl rfl ⟨_, rfl, none, 0, by rw [buildB, if_pos hc2]; rfl, by rw [buildB, if_pos hc2]; exact .inl ⟨rfl, rfl, rfl⟩, hs.bel⟩
  have hc2' : ¬ ((checkE l : Nat) : Int) = 2 := by omega
  replace hs := (hs.nilO 5).nilO 5
  refine wl_as rfl rfl ?_; refine wl_ns ?_; refine wc_seq ?_; refine wc_sr ?_; refine wl_mv rfl rfl ?_; refine wl_bin rfl rfl bin_eql rfl ?_; refine wl_ns ?_; apply wc_decF; exact rfl; (with_reducible assumption); refine wc_skip ?_; refine we_seq ?_; refine wc_sr ?_; refine wl_as rfl rfl ?_; refine wl_as rfl rfl ?_; refine wl_ns ?_; refine wc_sr ?_; refine wl_as rfl rfl ?_; refine wl_as rfl rfl ?_; refine wl_ns ?_; refine wc_seq ?_; refine wc_sr ?_; refine wl_mv rfl rfl ?_; apply wl_val; apply opv_len; exact rfl; exact tkE.sl; exact rfl; refine wl_mv rfl rfl ?_; refine wl_ns ?_; refine wc_block ?_
  refine wc_loop (fun L wr mm => ∃ (k : Nat) (Bd : Option Addr) (cb : Nat) (Rs : Option Addr) (cr : Nat), L = [(0, .int .i64 (every : Int)), (1, .slice A l.length c), (6, .int .i64 (checkE l : Nat)), (7, .slice Bd (bodyB every l k).length cb), (8, .slice Rs (resB every l k).length cr), (9, .int .i64 (stN every k : Nat)), (10, .bool (ordT l k)), (23, .slice A l.length c), (24, .int .i64 (l.length : Int)), (25, .int .i64 (k : Int))] ∧ k ≤ l.length ∧ St NoB w wr [.ow 5 Bd (bodyB every l k).length cb (bvs (bodyB every l k)), .ow 5 Rs (resB every l k).length cr (bvs (resB every l k))] ∧ mm = l.length - k)
    [(0, .int .i64 (every : Int)), (1, .slice A l.length c), (6, .int .i64 (checkE l : Nat)), (7, .slice none 0 0), (8, .slice none 0 0), (9, .int .i64 0), (10, .bool true), (23, .slice A l.length c), (24, .int .i64 (l.length : Int)), (25, .int .i64 (0 : Nat))] l.length ⟨0, none, 0, none, 0, rfl, by omega, hs, rfl⟩ ⟨rfl, rfl, rfl, rfl, rfl, rfl, rfl, rfl, rfl, rfl, trivial⟩ ?_
  clear hs
  rintro _ w2 mm ⟨k, Bd, cb, Rs, cr, rfl, hk, hs, rfl⟩
  have hbm := body_max (every := every) hz k hk
  have hrm := resB_max every l k
  have hsn := stN_le every k
  refine wc_sr ?_; refine wl_bin rfl rfl bin_lss rfl ?_; refine wl_ns ?_; refine wc_seq ?_
  refine wc_cond rfl (fun h1 => ?_) (fun h1 => ?_)
  · obtain ⟨x, hx⟩ : ∃ x, l[k]? = some x := ⟨_, List.getElem?_eq_getElem (by omega)⟩
    obtain ⟨z1, z2, z3⟩ := hz _ (List.mem_of_getElem? hx)
    obtain ⟨s1, s2⟩ := shrN_le (every := every) hx
    have hent := (entB_length x _ s1 (by omega) (by omega) z3).1
    obtain ⟨b, o, cs, rfl, _, _, hp, i0⟩ := RdR.at (k := 4) (by decide) hr (E := enEl x) (i := k) (by rw [List.getElem?_map, hx]; rfl)
    obtain ⟨X, cx, X2, cx2, rfl, rx, hcx, rx2, hcx2⟩ := enEl.rd hp
    have i1 := i0.below hs.bel
    refine wc_skip ?_; refine we_seq ?_; refine wc_seq ?_; refine wc_block ?_; refine wc_sr ?_; refine wl_mv rfl rfl ?_; apply wl_val; apply opv_idxG tkE; exact rfl; exact rfl; exact rfl; omega; exact rfl; apply wl_val; apply opv_ldG; exact rfl; assumption; exact sE; exact rfl
    refine ws_new hs zeroE rfl ?_; clear hs; intro g12 _ hs
    unfold zE at hs
    refine wl_as rfl rfl ?_; apply ws_stS hs 0; exact rfl; exact rfl; exact rfl; exact sE; exact rfl; exact rfl; clear hs; intro _ hs; dsimp only [setC] at hs; refine wl_ns ?_; refine wc_sr ?_; refine wl_as rfl rfl ?_; refine wl_ns ?_; refine wc_seq ?_; refine wc_sr ?_; refine wl_mv rfl rfl ?_; refine wl_mv rfl rfl ?_; apply wl_val; apply opv_bin; exact rfl; exact rfl; exact bin_rem (by omega); exact rfl; refine wl_bin rfl rfl bin_eql rfl ?_; refine wl_ns ?_
    refine wc_cutE (fun L' w' => ∃ (Rs : Option Addr) (cr : Nat), L' = [(0, .int .i64 (every : Int)), (1, .slice (some ⟨b, o, none⟩) l.length c), (6, .int .i64 (checkE l : Nat)), (7, .slice Bd (bodyB every l k).length cb), (8, .slice Rs (resB every l (k + 1)).length cr), (9, .int .i64 (stN every (k + 1) : Nat)), (10, .bool (ordT l k)), (11, .int .i64 (k : Int)), (12, .pointer (some ⟨g12, 0, none⟩)), (13, .int .i64 (shrN every l k : Nat)), (23, .slice (some ⟨b, o, none⟩) l.length c), (24, .int .i64 (l.length : Int)), (25, .int .i64 (k : Int))] ∧ St NoB w w' [.blk g12 39 (enV x X cx X2 cx2), .ow 5 Bd (bodyB every l k).length cb (bvs (bodyB every l k)), .ow 5 Rs (resB every l (k + 1)).length cr (bvs (resB every l (k + 1)))]) ?_ ?_
    · by_cases hm : k % every = 0
      · have hm' : ((k % every : Nat) : Int) = 0 := by omega
        have e1 : resB every l (k + 1) = resB every l k ++ four (bodyB every l k).length := by rw [resB, if_pos hm]
        have e2 : stN every (k + 1) = stN every k + 1 := by rw [stN, if_pos hm]
        have e3 : shrN every l k = 0 := by rw [shrN, if_pos hm]
        have e4 : (resB every l (k + 1)).length = (resB every l k).length + 4 := by rw [e1, List.length_append, four_length]
        apply wc_decT; exact rfl; (with_reducible assumption); refine wc_region ?_; refine wl_mv rfl rfl ?_; refine wl_mv rfl rfl ?_; apply wl_val; apply opv_len; exact rfl; exact tyB.sl; exact rfl
        refine wl_call ok_block_put4 (put4_any (bodyB every l k).length (by omega) _) ⟨rfl, trivial⟩ rfl ?_
        rintro _ w4 ⟨F, cF, rfl, _, rF, hbx⟩
        replace hs := hs.below hbx
        clear hbx
        have rF' : Rd w4 F 4 (bvs (four (bodyB every l k).length)) := by have := rF; unfold RdB at this; rw [four_length] at this; exact this
        skip
        refine ws_app (ys := bvs (four (bodyB every l k).length)) (m := 4) hs 2 rfl rfl tyB rfl rF' (bvs_one _) (by omega) (by simp only [maxLen]; omega) rfl ?_
        clear hs; intro Rs2 cr2 w5 hs; dsimp only [setC] at hs
        rw [← bvs_append, ← e1, ← e4] at hs
        rw [← e4]
        refine wl_mv rfl rfl ?_; apply wl_val; apply opv_bin; exact rfl; exact rfl; exact bin_add64 (by omega); exact rfl; refine wl_as rfl rfl ?_; refine wl_as rfl rfl ?_; refine wl_nil ?_
        exact we_cut _ ⟨Rs2, cr2, rfl, hs⟩ ⟨rfl, rfl, rfl, rfl, rfl, congrArg (fun z : Int => some (Value.int .i64 z)) (show (stN every k : Int) + 1 = ((stN every (k + 1) : Nat) : Int) by rw [e2]; omega), rfl, rfl, rfl, congrArg (fun z : Nat => some (Value.int .i64 (z : Int))) e3.symm, rfl, rfl, rfl, trivial⟩
      · have hm' : ¬ ((k % every : Nat) : Int) = 0 := by omega
        have e1 : resB every l (k + 1) = resB every l k := by rw [resB, if_neg hm, List.append_nil]
        have e2 : stN every (k + 1) = stN every k := by rw [stN, if_neg hm]; rfl
        obtain ⟨j, rfl⟩ : ∃ j, k = j + 1 := ⟨k - 1, by
          rcases Nat.eq_zero_or_pos k with h | h
          · subst h; exact absurd (Nat.zero_mod _) hm
          · omega⟩
        obtain ⟨y, hy⟩ : ∃ y, l[j]? = some y := ⟨_, List.getElem?_eq_getElem (by omega)⟩
        obtain ⟨y1, y2, y3⟩ := hz _ (List.mem_of_getElem? hy)
        have e3 : shrN every l (j + 1) = comN y.key x.key := by rw [shrN, if_neg hm, prevK_succ hy, hx]; rfl
        rw [e1, e2, e3]
        obtain ⟨b', o', cs, hA', _, _, hp, j0⟩ := RdR.at (k := 4) (by decide) hr (E := enEl y) (i := j) (by rw [List.getElem?_map, hy]; rfl)
        simp only [Option.some.injEq, Addr.mk.injEq, and_true] at hA'
        obtain ⟨rfl, rfl⟩ := hA'
        obtain ⟨Y, cy, Y2, cy2, rfl, ry, _, _, _⟩ := enEl.rd hp
        have j1 := j0.below hs.bel
        unfold enV at j1
        unfold enV at hs
        have a12 := hs.ar 0 rfl
        have hbw := hs.bel
        apply wc_decF; exact rfl; (with_reducible assumption)
        refine wc_drawB mixed (by kernel_rfl) ?_
        apply wq_val; intro _ hw_; apply opv_move; exact rfl; exact rfl; apply wq_val; intro _ hw_; apply opv_move; exact rfl; exact rfl; apply wq_val; intro _ hw_; apply opv_bin; exact rfl; exact rfl; exact bin_sub64 (by omega); exact rfl; apply wq_val; intro _ hw_; apply opv_idxG tkE; exact rfl; exact rfl; exact natc_pred; omega; exact rfl; apply wq_val; intro _ hw_; apply opv_fa; exact fa_sE (by decide); exact rfl; exact rfl; apply wq_val; intro _ hw_; apply opv_ldW; exact rfl; exact Wi.below (by assumption) hw_; exact e1_by; exact rfl; exact rfl; apply wq_val; intro _ hw_; apply opv_fa; exact fa_sE (by decide); exact rfl; exact rfl; apply wq_val; intro _ hw_; apply opv_ldX; exact rfl; exact Ar.bel (by assumption) hw_; exact e1_by; exact rfl; exact rfl
        refine wq_call (v := .int .i64 (comN y.key x.key : Nat)) ok_block_common (fun w' hw => (common_any ((ry.below hbw).below hw) rfl ((rx.below hbw).below hw) rfl (by omega) (by omega)).mono fun v w2 h2 => ⟨h2.1, hw.trans (h2.2.mono hw.size)⟩) ⟨rfl, rfl, trivial⟩ rfl ?_
        apply wq_val; intro _ hw_; apply opv_assign; exact rfl; exact rfl; refine wq_nil fun w1 hw1 => ?_
        replace hs := hs.below hw1
        skip
        exact we_cut _ ⟨Rs, cr, rfl, hs⟩ ⟨rfl, rfl, rfl, rfl, rfl, rfl, rfl, rfl, rfl, rfl, rfl, rfl, rfl, trivial⟩
    clear hs
    rintro _ w4 ⟨Rs, cr, rfl, hs⟩
    refine we_seq ?_; refine wc_seq ?_
    refine wc_cutE (fun L' w' => L' = [(0, .int .i64 (every : Int)), (1, .slice (some ⟨b, o, none⟩) l.length c), (6, .int .i64 (checkE l : Nat)), (7, .slice Bd (bodyB every l k).length cb), (8, .slice Rs (resB every l (k + 1)).length cr), (9, .int .i64 (stN every (k + 1) : Nat)), (10, .bool (ordT l (k + 1))), (12, .pointer (some ⟨g12, 0, none⟩)), (13, .int .i64 (shrN every l k : Nat)), (23, .slice (some ⟨b, o, none⟩) l.length c), (24, .int .i64 (l.length : Int)), (25, .int .i64 (k : Int))] ∧ St NoB w w' [.blk g12 39 (enV x X cx X2 cx2), .ow 5 Bd (bodyB every l k).length cb (bvs (bodyB every l k)), .ow 5 Rs (resB every l (k + 1)).length cr (bvs (resB every l (k + 1)))]) ?_ ?_
    · have hbw := hs.bel
      have a12 := hs.ar 0 rfl
      cases hot : ordT l k with
      | false =>
        have e1 : ordT l (k + 1) = false := by rw [ordT, hot]; rfl
        rw [e1]
        refine wc_drawB mixed (by kernel_rfl) ?_
        apply wq_val; intro _ hw_; apply opv_move; exact rfl; exact rfl; apply wq_val; intro _ hw_; apply opv_move; exact rfl; exact rfl; apply wq_skip; exact rfl; exact rfl; exact rfl; exact bR2; exact rfl; apply wq_skip; exact rfl; exact rfl; exact rfl; exact bR2; exact rfl; apply wq_skip; exact rfl; exact rfl; exact rfl; exact bR2; exact rfl; apply wq_skipU; exact rfl; exact rfl; exact rfl; exact rfl; apply wq_skipU; exact rfl; exact rfl; exact rfl; exact rfl; apply wq_skipU; exact rfl; exact rfl; exact rfl; exact rfl; apply wq_skipU; exact rfl; exact rfl; exact rfl; exact rfl; apply wq_skipU; exact rfl; exact rfl; exact rfl; exact rfl; apply wq_skipU; exact rfl; exact rfl; exact rfl; exact rfl; apply wq_skipU; exact rfl; exact rfl; exact rfl; exact rfl; apply wq_skip; exact rfl; exact rfl; exact rfl; exact bR2; exact rfl; apply wq_val; intro _ hw_; apply opv_pickF; exact rfl; exact rfl; exact rfl; exact rfl; apply wq_val; intro _ hw_; apply opv_assign; exact rfl; exact rfl; refine wq_nil fun w1 hw1 => ?_
        replace hs := hs.below hw1
        skip
        exact we_cut _ ⟨rfl, hs⟩ ⟨rfl, rfl, rfl, rfl, rfl, rfl, rfl, rfl, rfl, rfl, rfl, rfl, trivial⟩
      | true =>
        cases k with
        | zero =>
          have e1 : ordT l (0 + 1) = true := rfl
          have hz0 : ((0 : Nat) : Int) = 0 := rfl
          rw [e1]
          refine wc_drawB mixed (by kernel_rfl) ?_
          apply wq_val; intro _ hw_; apply opv_move; exact rfl; exact rfl; apply wq_val; intro _ hw_; apply opv_move; exact rfl; exact rfl; apply wq_take; exact rfl; exact rfl; exact rfl; exact rfl; apply wq_val; intro _ hw_; apply opv_move; exact rfl; exact rfl; apply wq_take; exact rfl; exact rfl; exact rfl; exact rfl; apply wq_val; intro _ hw_; apply opv_bin; exact rfl; exact rfl; exact bin_eql; exact rfl; apply wq_take; exact rfl; exact rfl; exact rfl; exact rfl; apply wq_val; intro _ hw_; apply opv_move; exact rfl; exact rfl; apply wq_skip; exact rfl; exact rfl; exact rfl; refine bTn ?_; (with_reducible assumption); exact rfl; apply wq_skip; exact rfl; exact rfl; exact rfl; refine bTn ?_; (with_reducible assumption); exact rfl; apply wq_skip; exact rfl; exact rfl; exact rfl; refine bTn ?_; (with_reducible assumption); exact rfl; apply wq_skip; exact rfl; exact rfl; exact rfl; refine bTn ?_; (with_reducible assumption); exact rfl; apply wq_skip; exact rfl; exact rfl; exact rfl; refine bTn ?_; (with_reducible assumption); exact rfl; apply wq_skip; exact rfl; exact rfl; exact rfl; refine bTn ?_; (with_reducible assumption); exact rfl; apply wq_skip; exact rfl; exact rfl; exact rfl; refine bTn ?_; (with_reducible assumption); exact rfl; apply wq_take; exact rfl; exact rfl; exact rfl; exact rfl; apply wq_val; intro _ hw_; apply opv_pickT; exact rfl; refine bT ?_; (with_reducible assumption); exact rfl; exact rfl; apply wq_val; intro _ hw_; apply opv_pickT; exact rfl; exact rfl; exact rfl; exact rfl; apply wq_val; intro _ hw_; apply opv_assign; exact rfl; exact rfl; refine wq_nil fun w1 hw1 => ?_
          replace hs := hs.below hw1
          skip
          exact we_cut _ ⟨rfl, hs⟩ ⟨rfl, rfl, rfl, rfl, rfl, rfl, rfl, rfl, rfl, rfl, rfl, rfl, trivial⟩
        | succ j =>
          have hz0 : ¬ ((j + 1 : Nat) : Int) = 0 := by omega
          obtain ⟨y, hy⟩ : ∃ y, l[j]? = some y := ⟨_, List.getElem?_eq_getElem (by omega)⟩
          obtain ⟨b', o', cs, hA', _, _, hp, j0⟩ := RdR.at (k := 4) (by decide) hr (E := enEl y) (i := j) (by rw [List.getElem?_map, hy]; rfl)
          simp only [Option.some.injEq, Addr.mk.injEq, and_true] at hA'
          obtain ⟨rfl, rfl⟩ := hA'
          obtain ⟨Y, cy, Y2, cy2, rfl, ry, _, _, _⟩ := enEl.rd hp
          have j1 := j0.below hs.bel
          have e1 : ordT l (j + 1 + 1) = lessE y x := by rw [ordT, hot, stepO, hy, hx]; rfl
          rw [e1]
          refine wc_drawB mixed (by kernel_rfl) ?_
          apply wq_val; intro _ hw_; apply opv_move; exact rfl; exact rfl; apply wq_val; intro _ hw_; apply opv_move; exact rfl; exact rfl; apply wq_take; exact rfl; exact rfl; exact rfl; exact rfl; apply wq_val; intro _ hw_; apply opv_move; exact rfl; exact rfl; apply wq_take; exact rfl; exact rfl; exact rfl; exact rfl; apply wq_val; intro _ hw_; apply opv_bin; exact rfl; exact rfl; exact bin_eql; exact rfl; apply wq_take; exact rfl; exact rfl; exact rfl; exact rfl; apply wq_val; intro _ hw_; apply opv_move; exact rfl; exact rfl; apply wq_take; exact rfl; exact rfl; exact rfl; refine bF ?_; (with_reducible assumption); apply wq_val; intro _ hw_; apply opv_move; exact rfl; exact rfl; apply wq_take; exact rfl; exact rfl; exact rfl; refine bF ?_; (with_reducible assumption); apply wq_val; intro _ hw_; apply opv_move; exact rfl; exact rfl; apply wq_take; exact rfl; exact rfl; exact rfl; refine bF ?_; (with_reducible assumption); apply wq_val; intro _ hw_; apply opv_bin; exact rfl; exact rfl; exact bin_sub64 (by omega); exact rfl; apply wq_take; exact rfl; exact rfl; exact rfl; refine bF ?_; (with_reducible assumption); apply wq_val; intro _ hw_; apply opv_idxG tkE; exact rfl; exact rfl; exact natc_pred; omega; exact rfl; apply wq_take; exact rfl; exact rfl; exact rfl; refine bF ?_; (with_reducible assumption); apply wq_val; intro _ hw_; apply opv_ldG; exact rfl; exact Wi.below (by assumption) hw_; exact sE; exact rfl; apply wq_take; exact rfl; exact rfl; exact rfl; refine bF ?_; (with_reducible assumption); apply wq_val; intro _ hw_; apply opv_loadX; exact rfl; exact Ar.bel (by assumption) hw_; exact sE; exact rfl; apply wq_take; exact rfl; exact rfl; exact rfl; refine bF ?_; (with_reducible assumption)
          refine wq_call (v := .bool (lessE y x)) ok_mem_Less (fun w' hw => (less_any ((ry.below hbw).below hw) ((rx.below hbw).below hw)).mono fun v w2 h2 => ⟨h2.1, hw.trans (h2.2.mono hw.size)⟩) ⟨rfl, rfl, trivial⟩ rfl ?_
          apply wq_take; exact rfl; exact rfl; exact rfl; exact rfl; apply wq_val; intro _ hw_; apply opv_pickF; exact rfl; refine bF ?_; (with_reducible assumption); exact rfl; exact rfl; apply wq_val; intro _ hw_; apply opv_pickT; exact rfl; exact rfl; exact rfl; exact rfl; apply wq_val; intro _ hw_; apply opv_assign; exact rfl; exact rfl; refine wq_nil fun w1 hw1 => ?_
          replace hs := hs.below hw1
          skip
          exact we_cut _ ⟨rfl, hs⟩ ⟨rfl, rfl, rfl, rfl, rfl, rfl, rfl, rfl, rfl, rfl, rfl, rfl, trivial⟩
    clear hs
    rintro _ w5 ⟨rfl, hs⟩
    refine we_seq ?_; refine wc_region ?_; refine wl_mv rfl rfl ?_; apply wl_val; apply opv_loadX; exact rfl; exact hs.ar 0 rfl; exact sE; exact rfl; refine wl_mv rfl rfl ?_
    refine wl_call ok_block_entry (blockEntry_any (x := x) (s := shrN every l k) (rx.below hs.bel) hcx (rx2.below hs.bel) hcx2 s1 (by omega) (by omega) z3) ⟨rfl, rfl, trivial⟩ rfl ?_
    rintro _ w6 ⟨E, cE, rfl, n_, hbx⟩
    replace hs := hs.below hbx
    clear hbx
    have hbs := bodyB_succ (every := every) hx
    have hbl : (bodyB every l (k + 1)).length = (bodyB every l k).length + (entB x (shrN every l k)).length := by rw [hbs, List.length_append]
    skip
    refine ws_app (ys := bvs (entB x (shrN every l k))) (m := (entB x (shrN every l k)).length) hs 1 rfl rfl tyB rfl n_.rd (bvs_one _) (by omega) (by simp only [maxLen]; omega) rfl ?_
    clear hs n_; intro Bd2 cb2 w7 hs; dsimp only [setC] at hs
    rw [← bvs_append, ← hbs, ← hbl] at hs
    rw [← hbl]
    refine wl_as rfl rfl ?_; refine wl_nil ?_; refine we_block_norm ?_; refine we_seq ?_; refine wc_region ?_; apply wl_val; apply opv_bin; exact rfl; exact rfl; exact bin_add64 (by omega); exact rfl; refine wl_mv rfl rfl ?_; refine wl_nil ?_
    exact we_loop _ (l.length - (k + 1)) ⟨k + 1, Bd2, cb2, Rs, cr, rfl, by omega, hs.drop 0 rfl, rfl⟩ (by omega) ⟨rfl, rfl, rfl, rfl, rfl, rfl, rfl, rfl, rfl, by simp [lookT], trivial⟩
  · obtain rfl : k = l.length := by omega
    rw [ordT_all]
    have h0 := ordT_all l
    refine wc_exit ?_; refine we_seq_exit ?_; refine we_loop_exit ?_; refine we_block_exit ?_; refine we_seq ?_; refine wc_sr ?_; refine wl_mv rfl rfl ?_; refine wl_mv rfl rfl ?_; refine wl_mv rfl rfl ?_
    refine wl_call ok_block_put4 (put4_any (stN every l.length) (by omega) _) ⟨rfl, trivial⟩ rfl ?_
    rintro _ w4 ⟨F, cF, rfl, hcF, rF, hbx⟩
    replace hs := hs.below hbx
    clear hbx
    have cB := ow_cap (hs.ow 0 rfl)
    have cR := ow_cap (hs.ow 1 rfl)
    skip
    refine wl_bs (vs := [.slice Bd (bodyB every l l.length).length cb, .slice Rs (resB every l l.length).length cr, .slice F 4 cF]) tyBB ⟨rfl, rfl, rfl, rfl, rfl, rfl, rfl, rfl, rfl, trivial⟩ rfl (by decide) rfl fun R w5 o_ hbx _ => ?_
    replace hs := hs.below hbx
    have hR : RdBB w5 R [bodyB every l l.length, resB every l l.length, four (stN every l.length)] := RdBB.three' o_.rd (hs.ow 0 rfl).rd rfl cB (hs.ow 1 rfl).rd rfl cR (rF.below hbx) (four_length _) (by rw [four_length]; exact hcF)
    have hfl : [bodyB every l l.length, resB every l l.length, four (stN every l.length)].flatten = blkB every l := by simp [blkB]
    clear hbx o_ rF
    refine wl_call ok_crc_Seal (seal_any hR rfl (Nat.le_refl _) (by rw [hfl, blkB_length]; omega) (by simp [maxLen])) ⟨rfl, trivial⟩ rfl ?_
    rw [hfl]
    rintro _ w6 ⟨J, cJ, rfl, n_, hbx⟩
    have hsz := hs.size
    replace hs := hs.below hbx
    have n1 := n_.mono hsz
    clear hbx n_
    by_cases hse : (sealB (blkB every l)).2 = 0
    · rw [hse]
      by_cases hck : checkE l = 0
      · rw [hck]
        cases hoe : ordE l with
        | true =>
          have hbd : buildB every l = ((sealB (blkB every l)).1, 0) := by rw [buildB, if_neg hc2, if_pos hse, if_pos ⟨hck, hoe⟩]
          rw [hbd]
          refine wl_mv rfl rfl ?_; apply wl_val; apply opv_extract; exact rfl; exact rfl; exact rfl; apply wl_val; apply opv_extract; exact rfl; exact rfl; exact rfl; refine wl_as rfl rfl ?_; refine wl_as rfl rfl ?_; refine wl_ns ?_; refine wc_seq ?_; refine wc_sr ?_; refine wl_mv rfl rfl ?_; refine wl_bin rfl rfl bin_neq rfl ?_; refine wl_ns ?_; apply wc_condFb; exact rfl; exact rfl; refine wc_skip ?_; refine we_seq ?_; refine wc_seq ?_; refine wc_sr ?_; refine wl_mv rfl rfl ?_; refine wl_bin rfl rfl bin_neq rfl ?_; refine wl_mv rfl rfl ?_; apply wl_take; exact rfl; exact rfl; exact rfl; refine bF ?_; omega; refine wl_mv rfl rfl ?_; apply wl_take; exact rfl; exact rfl; exact rfl; refine bF ?_; omega; apply wl_val; apply opv_not; exact rfl; exact rfl; apply wl_val; apply opv_pickF; exact rfl; refine bF ?_; omega; exact rfl; exact rfl; refine wl_ns ?_; apply wc_condFb; exact rfl; exact Bool.not_true; refine wc_skip ?_; refine we_seq ?_; refine wc_sr ?_; refine wl_mv rfl rfl ?_; refine wl_as rfl rfl ?_; refine wl_as rfl rfl ?_; refine wl_ns ?_; refine wc_ret ?_
          exact we_ret2 rfl rfl rfl ⟨_, rfl, J, cJ, rfl, n1, hs.bel⟩
        | false =>
          have hbd : buildB every l = ([], 3) := by rw [buildB, if_neg hc2, if_pos hse, if_neg (by rw [hoe]; simp)]
          rw [hbd]
          refine wl_mv rfl rfl ?_; apply wl_val; apply opv_extract; exact rfl; exact rfl; exact rfl; apply wl_val; apply opv_extract; exact rfl; exact rfl; exact rfl; refine wl_as rfl rfl ?_; refine wl_as rfl rfl ?_; refine wl_ns ?_; refine wc_seq ?_; refine wc_sr ?_; refine wl_mv rfl rfl ?_; refine wl_bin rfl rfl bin_neq rfl ?_; refine wl_ns ?_; apply wc_condFb; exact rfl; exact rfl; refine wc_skip ?_; refine we_seq ?_; refine wc_seq ?_; refine wc_sr ?_; refine wl_mv rfl rfl ?_; refine wl_bin rfl rfl bin_neq rfl ?_; refine wl_mv rfl rfl ?_; apply wl_take; exact rfl; exact rfl; exact rfl; refine bF ?_; omega; refine wl_mv rfl rfl ?_; apply wl_take; exact rfl; exact rfl; exact rfl; refine bF ?_; omega; apply wl_val; apply opv_not; exact rfl; exact rfl; apply wl_val; apply opv_pickF; exact rfl; refine bF ?_; omega; exact rfl; exact rfl; refine wl_ns ?_; apply wc_condTb; exact rfl; exact Bool.not_false; refine wc_sr ?_; refine wl_as rfl rfl ?_; refine wl_as rfl rfl ?_; refine wl_ns ?_; refine wc_ret ?_; refine we_seq_ret ?_
          exact we_ret2 rfl rfl rfl ⟨_, rfl, none, 0, rfl, .inl ⟨rfl, rfl, rfl⟩, hs.bel⟩
      · have hck' : ((checkE l : Nat) : Int) ≠ 0 := by omega
        have hbd : buildB every l = ([], 3) := by rw [buildB, if_neg hc2, if_pos hse, if_neg (fun h => hck h.1)]
        rw [hbd]
        refine wl_mv rfl rfl ?_; apply wl_val; apply opv_extract; exact rfl; exact rfl; exact rfl; apply wl_val; apply opv_extract; exact rfl; exact rfl; exact rfl; refine wl_as rfl rfl ?_; refine wl_as rfl rfl ?_; refine wl_ns ?_; refine wc_seq ?_; refine wc_sr ?_; refine wl_mv rfl rfl ?_; refine wl_bin rfl rfl bin_neq rfl ?_; refine wl_ns ?_; apply wc_condFb; exact rfl; exact rfl; refine wc_skip ?_; refine we_seq ?_; refine wc_seq ?_; refine wc_sr ?_; refine wl_mv rfl rfl ?_; refine wl_bin rfl rfl bin_neq rfl ?_; refine wl_mv rfl rfl ?_; apply wl_skip; exact rfl; exact rfl; exact rfl; refine bTn ?_; (with_reducible assumption); exact rfl; apply wl_skip; exact rfl; exact rfl; exact rfl; refine bTn ?_; (with_reducible assumption); exact rfl; apply wl_val; apply opv_pickT; exact rfl; refine bT ?_; (with_reducible assumption); exact rfl; exact rfl; refine wl_ns ?_; apply wc_condTb; exact rfl; exact rfl; refine wc_sr ?_; refine wl_as rfl rfl ?_; refine wl_as rfl rfl ?_; refine wl_ns ?_; refine wc_ret ?_; refine we_seq_ret ?_
        exact we_ret2 rfl rfl rfl ⟨_, rfl, none, 0, rfl, .inl ⟨rfl, rfl, rfl⟩, hs.bel⟩
    · have hse' : (((sealB (blkB every l)).2 : Nat) : Int) ≠ 0 := by omega
      have hbd : buildB every l = ([], (sealB (blkB every l)).2) := by rw [buildB, if_neg hc2, if_neg hse]
      rw [hbd]
      refine wl_mv rfl rfl ?_; apply wl_val; apply opv_extract; exact rfl; exact rfl; exact rfl; apply wl_val; apply opv_extract; exact rfl; exact rfl; exact rfl; refine wl_as rfl rfl ?_; refine wl_as rfl rfl ?_; refine wl_ns ?_; refine wc_seq ?_; refine wc_sr ?_; refine wl_mv rfl rfl ?_; refine wl_bin rfl rfl bin_neq rfl ?_; refine wl_ns ?_; apply wc_decT; exact rfl; (with_reducible assumption); refine wc_sr ?_; refine wl_mv rfl rfl ?_; refine wl_as rfl rfl ?_; refine wl_as rfl rfl ?_; refine wl_ns ?_; refine wc_ret ?_; refine we_seq_ret ?_
      exact we_ret2 rfl rfl rfl ⟨_, rfl, none, 0, rfl, .inl ⟨rfl, rfl, rfl⟩, hs.bel⟩
end Go.Proofs.YtpnckagibkdcpaaDoor


/-
  Walks over number and take of the reader of blocks.
-/
namespace Go.Proofs.YtpnckagibkdcpaaDoor
open Go.RowKit

theorem fa_R {k : Nat} (h : k < 4) : FieldAt Tryd.prog 91 k k := by
  match k, h with
  | 0, _ => exact fieldAt_mk Tryd.underlying91 rfl rfl (by kernel_rfl)
  | 1, _ => exact fieldAt_mk Tryd.underlying91 rfl rfl (by kernel_rfl)
  | 2, _ => exact fieldAt_mk Tryd.underlying91 rfl rfl (by kernel_rfl)
  | 3, _ => exact fieldAt_mk Tryd.underlying91 rfl rfl (by kernel_rfl)
theorem e1_iB : Cell1 Tryd.prog 3 := ⟨by kernel_rfl, by rw [Tryd.underlying3]⟩
theorem e1_bB : Cell1 Tryd.prog 4 := ⟨by kernel_rfl, by rw [Tryd.underlying4]⟩
/-- A reader's cells. -/
def rdV (A : Option Addr) (n c : Nat) (p : Int) (K : Option Addr) (kn kc : Nat) (f : Bool) : List Value := [.slice A n c, .int .i64 p, .slice K kn kc, .bool f]
/-- What number answers, and the place and the flag behind it. -/
def numF (xs : List UInt8) (p : Int) (f : Bool) : Nat × Int × Bool := if f then (0, p, true) else ((getU xs p).1, (getU xs p).2.1, decide (¬ (getU xs p).2.2 = 0))
/-- What take answers, and the place and the flag behind it. -/
def takF (xs : List UInt8) (p : Int) (f : Bool) (n : Nat) : List UInt8 × Int × Bool := if f = true ∨ xs.length - p.toNat < n then ([], p, true) else ((xs.drop p.toNat).take n, p + n, false)
theorem getU_rng {b : List UInt8} {p p1 : Int} {v e : Nat} (h : getU b p = (v, p1, e)) : v < 2 ^ 64 ∧ 0 ≤ p1 ∧ p1 ≤ b.length ∧ (¬ e = 0 → v = 0) := by
  cases e with
  | zero =>
    have h1 := getU_adv h
    obtain ⟨q, k, hq, hk, hqk, hkl, _, hv⟩ := getU_inv h
    exact ⟨by omega, by omega, by omega, fun h => absurd rfl h⟩
  | succ e =>
    rw [getU] at h
    split at h
    · simp only [Prod.mk.injEq] at h
      obtain ⟨rfl, rfl, _⟩ := h
      exact ⟨by decide, Int.le_refl _, by omega, fun _ => rfl⟩
    · split at h
      · simp at h
      · simp only [Prod.mk.injEq] at h
        obtain ⟨rfl, rfl, _⟩ := h
        exact ⟨by decide, Int.le_refl _, by omega, fun _ => rfl⟩
theorem numF_rng {xs : List UInt8} {p : Int} {f : Bool} (hp : 0 ≤ p ∧ p ≤ xs.length) : (numF xs p f).1 < 2 ^ 64 ∧ 0 ≤ (numF xs p f).2.1 ∧ (numF xs p f).2.1 ≤ xs.length := by
  unfold numF
  cases f with
  | true => exact ⟨Nat.zero_lt_succ _, hp⟩
  | false =>
    have := getU_rng (b := xs) (p := p) rfl
    exact ⟨this.1, this.2.1, this.2.2.1⟩
theorem takF_rng {xs : List UInt8} {p : Int} {f : Bool} {n : Nat} (hp : 0 ≤ p ∧ p ≤ xs.length) : 0 ≤ (takF xs p f n).2.1 ∧ (takF xs p f n).2.1 ≤ xs.length := by
  unfold takF
  split
  · exact hp
  · rename_i h
    have : ¬ xs.length - p.toNat < n := fun h' => h (.inr h')
    simp only
    omega
set_option maxRecDepth 8000 in
theorem number_any {S : BS} {g n c kn kc : Nat} {A K : Option Addr} {xs : List UInt8} {p : Int} {f : Bool} {w : World} (h0 : Sat w [.blk g 91 (rdV A n c p K kn kc f)] S) (hb : ∀ w', Mod S w w' → RdB w' A xs) (hn : xs.length = n) (hl : xs.length ≤ 1099511627776) (hp : 0 ≤ p ∧ p ≤ xs.length) :
    CallsV Tryd.prog 70 #[.pointer (some ⟨g, 0, none⟩)] w fun v w' => v = .int .u64 ((numF xs p f).1 : Nat) ∧ St S w w' [.blk g 91 (rdV A n c (numF xs p f).2.1 K kn kc (numF xs p f).2.2)] := by
  subst hn
  have hs := St.start h0
  unfold rdV at hs
  refine calls_in (N := _) Tryd.func70 rfl Tryd.ntmps70 rfl ?_; show WC _ _ _ _ _ _
  cases f with
  | true =>
    refine wc_sr ?_; refine wl_as rfl rfl ?_; refine wl_ns ?_; refine wc_seq ?_; refine wc_sr ?_; refine wl_mv rfl rfl ?_; apply wl_val; apply opv_nilOk; exact rfl; exact rfl; apply wl_val; apply opv_fa; exact fa_R (by decide); exact rfl; exact rfl; apply wl_val; apply opv_ldX; exact rfl; exact hs.ar 0 rfl; exact e1_bB; exact rfl; exact rfl; refine wl_ns ?_; apply wc_condTb; exact rfl; exact rfl; refine wc_sr ?_; refine wl_as rfl rfl ?_; refine wl_ns ?_; refine wc_ret ?_; refine we_seq_ret ?_
    exact we_ret1 rfl rfl ⟨_, rfl, rfl, hs⟩
  | false =>
    refine wc_sr ?_; refine wl_as rfl rfl ?_; refine wl_ns ?_; refine wc_seq ?_; refine wc_sr ?_; refine wl_mv rfl rfl ?_; apply wl_val; apply opv_nilOk; exact rfl; exact rfl; apply wl_val; apply opv_fa; exact fa_R (by decide); exact rfl; exact rfl; apply wl_val; apply opv_ldX; exact rfl; exact hs.ar 0 rfl; exact e1_bB; exact rfl; exact rfl; refine wl_ns ?_; apply wc_condFb; exact rfl; exact rfl; refine wc_skip ?_; refine we_seq ?_; refine wc_seq ?_
    obtain ⟨v, p1, e, hg⟩ : ∃ v p1 e, getU xs p = (v, p1, e) := ⟨_, _, _, rfl⟩
    have e1 : (numF xs p false).1 = v := by rw [numF, if_neg (by decide), hg]
    have e2 : (numF xs p false).2.1 = p1 := by rw [numF, if_neg (by decide), hg]
    have e3 : (numF xs p false).2.2 = decide (¬ e = 0) := by rw [numF, if_neg (by decide), hg]
    rw [e1, e2, e3]
    have hrng := getU_rng hg
    have hbw := hb _ hs.1
    refine wc_drawB mixed (by kernel_rfl) ?_
    apply wq_val; intro _ hw_; apply opv_move; exact rfl; exact rfl; apply wq_val; intro _ hw_; apply opv_nilOk; exact rfl; exact rfl; apply wq_val; intro _ hw_; apply opv_fa; exact fa_R (by decide); exact rfl; exact rfl; apply wq_val; intro _ hw_; apply opv_ldX; exact rfl; exact Ar.bel (hs.ar 0 rfl) hw_; exact e1_by; exact rfl; exact rfl; apply wq_val; intro _ hw_; apply opv_move; exact rfl; exact rfl; apply wq_val; intro _ hw_; apply opv_nilOk; exact rfl; exact rfl; apply wq_val; intro _ hw_; apply opv_fa; exact fa_R (by decide); exact rfl; exact rfl; apply wq_val; intro _ hw_; apply opv_ldX; exact rfl; exact Ar.bel (hs.ar 0 rfl) hw_; exact e1_iB; exact rfl; exact rfl
    refine wq_call (v := .tuple #[.int .u64 (v : Int), .int .i64 p1, .int .i64 (e : Int)]) ok_codec_GetU (fun w' hw => (getU_at hg (hbw.below hw) rfl (by simp only [maxLen]; omega) (by omega)).mono fun v w2 h2 => ⟨h2.1, hw.trans (h2.2.mono hw.size)⟩) ⟨rfl, rfl, trivial⟩ rfl ?_
    apply wq_val; intro _ hw_; apply opv_move; exact rfl; exact rfl; apply wq_val; intro _ hw_; apply opv_extract; exact rfl; exact rfl; exact rfl; apply wq_val; intro _ hw_; apply opv_extract; exact rfl; exact rfl; exact rfl; apply wq_val; intro _ hw_; apply opv_extract; exact rfl; exact rfl; exact rfl; apply wq_val; intro _ hw_; apply opv_assign; exact rfl; exact rfl; apply wq_val; intro _ hw_; apply opv_assign; exact rfl; exact rfl; apply wq_val; intro _ hw_; apply opv_assign; exact rfl; exact rfl; refine wq_nil fun w1 hw1 => ?_
    replace hs := hs.below hw1
    by_cases he : e = 0
    · subst he
      refine we_seq ?_; refine wc_seq ?_; refine wc_sr ?_; refine wl_mv rfl rfl ?_; refine wl_bin rfl rfl bin_neq rfl ?_; refine wl_ns ?_; apply wc_condFb; exact rfl; exact rfl; refine wc_skip ?_; refine we_seq ?_; refine wc_sr ?_; refine wl_mv rfl rfl ?_; refine wl_mv rfl rfl ?_; apply wl_val; apply opv_nilOk; exact rfl; exact rfl; apply wl_val; apply opv_fa; exact fa_R (by decide); exact rfl; exact rfl; apply ws_st hs 0; exact rfl; exact rfl; exact e1_iB; exact rfl; exact rfl; exact rfl; clear hs; intro _ hs; dsimp only [setC, List.set] at hs; refine wl_ns ?_; refine wc_sr ?_; refine wl_mv rfl rfl ?_; refine wl_as rfl rfl ?_; refine wl_ns ?_; refine wc_ret ?_
      exact we_ret1 rfl rfl ⟨_, rfl, rfl, hs⟩
    · have he' : ((e : Nat) : Int) ≠ 0 := by omega
      rw [show decide (¬ e = 0) = true from decide_eq_true he]
      refine we_seq ?_; refine wc_seq ?_; refine wc_sr ?_; refine wl_mv rfl rfl ?_; refine wl_bin rfl rfl bin_neq rfl ?_; refine wl_ns ?_; apply wc_decT; exact rfl; (with_reducible assumption); refine wc_region ?_; refine wl_mv rfl rfl ?_; apply wl_val; apply opv_nilOk; exact rfl; exact rfl; apply wl_val; apply opv_fa; exact fa_R (by decide); exact rfl; exact rfl; apply ws_st hs 0; exact rfl; exact rfl; exact e1_bB; exact rfl; exact rfl; exact rfl; clear hs; intro _ hs; dsimp only [setC, List.set] at hs; refine wl_ns ?_; refine wc_sr ?_; refine wl_mv rfl rfl ?_; refine wl_mv rfl rfl ?_; apply wl_val; apply opv_nilOk; exact rfl; exact rfl; apply wl_val; apply opv_fa; exact fa_R (by decide); exact rfl; exact rfl; apply ws_st hs 0; exact rfl; exact rfl; exact e1_iB; exact rfl; exact rfl; exact rfl; clear hs; intro _ hs; dsimp only [setC, List.set] at hs; refine wl_ns ?_; refine wc_sr ?_; refine wl_mv rfl rfl ?_; refine wl_as rfl rfl ?_; refine wl_ns ?_; refine wc_ret ?_
      exact we_ret1 rfl rfl ⟨_, rfl, rfl, hs⟩
theorem cutB_rd {w : World} {A : Option Addr} {xs : List UInt8} {c l h : Nat} (hr : RdB w A xs) (h1 : l ≤ h) (h2 : h ≤ xs.length) (hc : xs.length ≤ c) : RdB w (cutA A c l) ((xs.take h).drop l) := by
  have hr := Rd.cut (l := l) (h := h) (c := c) hr h1 h2 hc
  have e : ((bvs xs).take h).drop l = bvs ((xs.take h).drop l) := by rw [bvs, bvs, List.map_drop, List.map_take]
  rw [e] at hr
  unfold RdB
  rw [List.length_drop, List.length_take, Nat.min_eq_left h2]
  exact hr
theorem take_drop_take (xs : List UInt8) (p n : Nat) : (xs.take (p + n)).drop p = (xs.drop p).take n := by rw [List.drop_take]; congr 1; omega
set_option maxRecDepth 8000 in
theorem take_any {S : BS} {g n c kn kc m : Nat} {A K : Option Addr} {xs : List UInt8} {p : Int} {f : Bool} {w : World} (h0 : Sat w [.blk g 91 (rdV A n c p K kn kc f)] S) (hb : ∀ w', Mod S w w' → RdB w' A xs) (hn : xs.length = n) (hc : n ≤ c) (hl : xs.length ≤ 1099511627776) (hp : 0 ≤ p ∧ p ≤ xs.length) (hm : m < 2 ^ 64) :
    CallsV Tryd.prog 71 #[.pointer (some ⟨g, 0, none⟩), .int .u64 (m : Int)] w fun v w' => (∃ (P : Option Addr) (pc : Nat), v = .slice P (takF xs p f m).1.length pc ∧ (takF xs p f m).1.length ≤ pc ∧ ∀ w'', RdB w'' A xs → RdB w'' P (takF xs p f m).1) ∧ St S w w' [.blk g 91 (rdV A n c (takF xs p f m).2.1 K kn kc (takF xs p f m).2.2)] := by
  subst hn
  obtain ⟨q, rfl⟩ := Int.eq_ofNat_of_zero_le hp.1
  have hs := St.start h0
  unfold rdV at hs
  have hq : ((xs.length : Int) - (q : Int)) = ((xs.length - q : Nat) : Int) := by omega
  refine calls_in (N := _) Tryd.func71 rfl Tryd.ntmps71 rfl ?_; show WC _ _ _ _ _ _
  cases f with
  | true =>
    have e1 : takF xs (q : Int) true m = ([], (q : Int), true) := by rw [takF, if_pos (.inl rfl)]
    rw [e1]
    refine wc_sr ?_; refine wl_as rfl rfl ?_; refine wl_ns ?_; refine wc_seq ?_; refine wc_seq ?_
    refine wc_drawB mixed (by kernel_rfl) ?_
    apply wq_val; intro _ hw_; apply opv_move; exact rfl; exact rfl; apply wq_val; intro _ hw_; apply opv_nilOk; exact rfl; exact rfl; apply wq_val; intro _ hw_; apply opv_fa; exact fa_R (by decide); exact rfl; exact rfl; apply wq_val; intro _ hw_; apply opv_ldX; exact rfl; exact Ar.bel (hs.ar 0 rfl) hw_; exact e1_bB; exact rfl; exact rfl; apply wq_val; intro _ hw_; apply opv_move; exact rfl; exact rfl; apply wq_skip; exact rfl; exact rfl; exact rfl; exact bR1; exact rfl; apply wq_skip; exact rfl; exact rfl; exact rfl; exact bR1; exact rfl; apply wq_skip; exact rfl; exact rfl; exact rfl; exact bR1; exact rfl; apply wq_skip; exact rfl; exact rfl; exact rfl; exact bR1; exact rfl; apply wq_skip; exact rfl; exact rfl; exact rfl; exact bR1; exact rfl; apply wq_skip; exact rfl; exact rfl; exact rfl; exact bR1; exact rfl; apply wq_skip; exact rfl; exact rfl; exact rfl; exact bR1; exact rfl; apply wq_skip; exact rfl; exact rfl; exact rfl; exact bR1; exact rfl; apply wq_skip; exact rfl; exact rfl; exact rfl; exact bR1; exact rfl; apply wq_skip; exact rfl; exact rfl; exact rfl; exact bR1; exact rfl; apply wq_skip; exact rfl; exact rfl; exact rfl; exact bR1; exact rfl; apply wq_skip; exact rfl; exact rfl; exact rfl; exact bR1; exact rfl; apply wq_skip; exact rfl; exact rfl; exact rfl; exact bR1; exact rfl; apply wq_val; intro _ hw_; apply opv_pickT; exact rfl; exact rfl; exact rfl; exact rfl; refine wq_nil fun w1 hw1 => ?_
    replace hs := hs.below hw1
    refine we_seq ?_; apply wc_condTb; exact rfl; exact rfl; refine wc_sr ?_; refine wl_mv rfl rfl ?_; apply wl_val; apply opv_nilOk; exact rfl; exact rfl; apply wl_val; apply opv_fa; exact fa_R (by decide); exact rfl; exact rfl; apply ws_st hs 0; exact rfl; exact rfl; exact e1_bB; exact rfl; exact rfl; exact rfl; clear hs; intro _ hs; dsimp only [setC, List.set] at hs; refine wl_ns ?_; refine wc_sr ?_; refine wl_as rfl rfl ?_; refine wl_ns ?_; refine wc_ret ?_; refine we_seq_ret ?_
    exact we_ret1 rfl rfl ⟨_, rfl, ⟨none, 0, rfl, Nat.zero_le _, fun _ _ => Rd.nil _ _⟩, hs⟩
  | false =>
    by_cases h1 : xs.length - q < m
    · have e1 : takF xs (q : Int) false m = ([], (q : Int), true) := by rw [takF, if_pos (.inr (by simpa using h1))]
      rw [e1]
      have h1' : ((xs.length - q : Nat) : Int) < (m : Int) := by omega
      refine wc_sr ?_; refine wl_as rfl rfl ?_; refine wl_ns ?_; refine wc_seq ?_; refine wc_seq ?_
      refine wc_drawB mixed (by kernel_rfl) ?_
      apply wq_val; intro _ hw_; apply opv_move; exact rfl; exact rfl; apply wq_val; intro _ hw_; apply opv_nilOk; exact rfl; exact rfl; apply wq_val; intro _ hw_; apply opv_fa; exact fa_R (by decide); exact rfl; exact rfl; apply wq_val; intro _ hw_; apply opv_ldX; exact rfl; exact Ar.bel (hs.ar 0 rfl) hw_; exact e1_bB; exact rfl; exact rfl; apply wq_val; intro _ hw_; apply opv_move; exact rfl; exact rfl; apply wq_take; exact rfl; exact rfl; exact rfl; exact rfl; apply wq_val; intro _ hw_; apply opv_move; exact rfl; exact rfl; apply wq_take; exact rfl; exact rfl; exact rfl; exact rfl; apply wq_val; intro _ hw_; apply opv_move; exact rfl; exact rfl; apply wq_take; exact rfl; exact rfl; exact rfl; exact rfl; apply wq_val; intro _ hw_; apply opv_nilOk; exact rfl; exact rfl; apply wq_take; exact rfl; exact rfl; exact rfl; exact rfl; apply wq_val; intro _ hw_; apply opv_fa; exact fa_R (by decide); exact rfl; exact rfl; apply wq_take; exact rfl; exact rfl; exact rfl; exact rfl; apply wq_val; intro _ hw_; apply opv_ldX; exact rfl; exact Ar.bel (hs.ar 0 rfl) hw_; exact e1_by; exact rfl; exact rfl; apply wq_take; exact rfl; exact rfl; exact rfl; exact rfl; apply wq_val; intro _ hw_; apply opv_len; exact rfl; exact tyB.sl; exact rfl; apply wq_take; exact rfl; exact rfl; exact rfl; exact rfl; apply wq_val; intro _ hw_; apply opv_move; exact rfl; exact rfl; apply wq_take; exact rfl; exact rfl; exact rfl; exact rfl; apply wq_val; intro _ hw_; apply opv_nilOk; exact rfl; exact rfl; apply wq_take; exact rfl; exact rfl; exact rfl; exact rfl; apply wq_val; intro _ hw_; apply opv_fa; exact fa_R (by decide); exact rfl; exact rfl; apply wq_take; exact rfl; exact rfl; exact rfl; exact rfl; apply wq_val; intro _ hw_; apply opv_ldX; exact rfl; exact Ar.bel (hs.ar 0 rfl) hw_; exact e1_iB; exact rfl; exact rfl; apply wq_take; exact rfl; exact rfl; exact rfl; exact rfl; apply wq_val; intro _ hw_; apply opv_bin; exact rfl; exact rfl; exact bin_sub64 (by omega); exact rfl; apply wq_take; exact rfl; exact rfl; exact rfl; exact rfl; apply wq_val; intro _ hw_; apply opv_convR; exact rfl; exact Tryd.underlying3; exact Tryd.underlying37; exact IntWalk.u64_in _ (by omega); exact rfl; apply wq_take; exact rfl; exact rfl; exact rfl; exact rfl; apply wq_val; intro _ hw_; apply opv_bin; exact rfl; exact rfl; exact bin_gtr; exact rfl; apply wq_val; intro _ hw_; apply opv_pickF; exact rfl; exact rfl; exact rfl; exact rfl; refine wq_nil fun w1 hw1 => ?_
      replace hs := hs.below hw1
      refine we_seq ?_; apply wc_decT; exact rfl; omega; refine wc_sr ?_; refine wl_mv rfl rfl ?_; apply wl_val; apply opv_nilOk; exact rfl; exact rfl; apply wl_val; apply opv_fa; exact fa_R (by decide); exact rfl; exact rfl; apply ws_st hs 0; exact rfl; exact rfl; exact e1_bB; exact rfl; exact rfl; exact rfl; clear hs; intro _ hs; dsimp only [setC, List.set] at hs; refine wl_ns ?_; refine wc_sr ?_; refine wl_as rfl rfl ?_; refine wl_ns ?_; refine wc_ret ?_; refine we_seq_ret ?_
      exact we_ret1 rfl rfl ⟨_, rfl, ⟨none, 0, rfl, Nat.zero_le _, fun _ _ => Rd.nil _ _⟩, hs⟩
    · have h2 : q + m ≤ xs.length := by omega
      have e1 : takF xs (q : Int) false m = ((xs.drop q).take m, (q : Int) + m, false) := by rw [takF, if_neg (by simp; omega)]; rfl
      have e2 : ((xs.drop q).take m).length = m := by simp; omega
      rw [e1, e2]
      have h1' : ¬ ((xs.length - q : Nat) : Int) < (m : Int) := by omega
      have hqm : (q : Int) + (m : Int) = ((q + m : Nat) : Int) := by omega
      have e3 : q + m - q = m := by omega
      refine wc_sr ?_; refine wl_as rfl rfl ?_; refine wl_ns ?_; refine wc_seq ?_; refine wc_seq ?_
      refine wc_drawB mixed (by kernel_rfl) ?_
      apply wq_val; intro _ hw_; apply opv_move; exact rfl; exact rfl; apply wq_val; intro _ hw_; apply opv_nilOk; exact rfl; exact rfl; apply wq_val; intro _ hw_; apply opv_fa; exact fa_R (by decide); exact rfl; exact rfl; apply wq_val; intro _ hw_; apply opv_ldX; exact rfl; exact Ar.bel (hs.ar 0 rfl) hw_; exact e1_bB; exact rfl; exact rfl; apply wq_val; intro _ hw_; apply opv_move; exact rfl; exact rfl; apply wq_take; exact rfl; exact rfl; exact rfl; exact rfl; apply wq_val; intro _ hw_; apply opv_move; exact rfl; exact rfl; apply wq_take; exact rfl; exact rfl; exact rfl; exact rfl; apply wq_val; intro _ hw_; apply opv_move; exact rfl; exact rfl; apply wq_take; exact rfl; exact rfl; exact rfl; exact rfl; apply wq_val; intro _ hw_; apply opv_nilOk; exact rfl; exact rfl; apply wq_take; exact rfl; exact rfl; exact rfl; exact rfl; apply wq_val; intro _ hw_; apply opv_fa; exact fa_R (by decide); exact rfl; exact rfl; apply wq_take; exact rfl; exact rfl; exact rfl; exact rfl; apply wq_val; intro _ hw_; apply opv_ldX; exact rfl; exact Ar.bel (hs.ar 0 rfl) hw_; exact e1_by; exact rfl; exact rfl; apply wq_take; exact rfl; exact rfl; exact rfl; exact rfl; apply wq_val; intro _ hw_; apply opv_len; exact rfl; exact tyB.sl; exact rfl; apply wq_take; exact rfl; exact rfl; exact rfl; exact rfl; apply wq_val; intro _ hw_; apply opv_move; exact rfl; exact rfl; apply wq_take; exact rfl; exact rfl; exact rfl; exact rfl; apply wq_val; intro _ hw_; apply opv_nilOk; exact rfl; exact rfl; apply wq_take; exact rfl; exact rfl; exact rfl; exact rfl; apply wq_val; intro _ hw_; apply opv_fa; exact fa_R (by decide); exact rfl; exact rfl; apply wq_take; exact rfl; exact rfl; exact rfl; exact rfl; apply wq_val; intro _ hw_; apply opv_ldX; exact rfl; exact Ar.bel (hs.ar 0 rfl) hw_; exact e1_iB; exact rfl; exact rfl; apply wq_take; exact rfl; exact rfl; exact rfl; exact rfl; apply wq_val; intro _ hw_; apply opv_bin; exact rfl; exact rfl; exact bin_sub64 (by omega); exact rfl; apply wq_take; exact rfl; exact rfl; exact rfl; exact rfl; apply wq_val; intro _ hw_; apply opv_convR; exact rfl; exact Tryd.underlying3; exact Tryd.underlying37; exact IntWalk.u64_in _ (by omega); exact rfl; apply wq_take; exact rfl; exact rfl; exact rfl; exact rfl; apply wq_val; intro _ hw_; apply opv_bin; exact rfl; exact rfl; exact bin_gtr; exact rfl; apply wq_val; intro _ hw_; apply opv_pickF; exact rfl; exact rfl; exact rfl; exact rfl; refine wq_nil fun w1 hw1 => ?_
      replace hs := hs.below hw1
      refine we_seq ?_; apply wc_decF; exact rfl; omega; refine wc_skip ?_; refine we_seq ?_; refine wc_seq ?_
      refine wc_drawB mixed (by kernel_rfl) ?_
      apply wq_val; intro _ hw_; apply opv_move; exact rfl; exact rfl; apply wq_val; intro _ hw_; apply opv_nilOk; exact rfl; exact rfl; apply wq_val; intro _ hw_; apply opv_fa; exact fa_R (by decide); exact rfl; exact rfl; apply wq_val; intro _ hw_; apply opv_ldX; exact rfl; exact Ar.bel (hs.ar 0 rfl) hw_; exact e1_by; exact rfl; exact rfl; apply wq_val; intro _ hw_; apply opv_move; exact rfl; exact rfl; apply wq_val; intro _ hw_; apply opv_nilOk; exact rfl; exact rfl; apply wq_val; intro _ hw_; apply opv_fa; exact fa_R (by decide); exact rfl; exact rfl; apply wq_val; intro _ hw_; apply opv_ldX; exact rfl; exact Ar.bel (hs.ar 0 rfl) hw_; exact e1_iB; exact rfl; exact rfl; apply wq_val; intro _ hw_; apply opv_move; exact rfl; exact rfl; apply wq_val; intro _ hw_; apply opv_nilOk; exact rfl; exact rfl; apply wq_val; intro _ hw_; apply opv_fa; exact fa_R (by decide); exact rfl; exact rfl; apply wq_val; intro _ hw_; apply opv_ldX; exact rfl; exact Ar.bel (hs.ar 0 rfl) hw_; exact e1_iB; exact rfl; exact rfl; apply wq_val; intro _ hw_; apply opv_move; exact rfl; exact rfl; apply wq_val; intro _ hw_; apply opv_convR; exact rfl; exact Tryd.underlying37; exact Tryd.underlying3; exact IntWalk.i64_in _ (by omega); exact rfl; apply wq_val; intro _ hw_; apply opv_bin; exact rfl; exact rfl; exact bin_add64 (by omega); exact rfl
      refine wq_val (fun _ _ => opv_slice (l := q) (h := q + m) tyB rfl ⟨_, rfl⟩ ⟨_, congrArg (fun z => some (Value.int .i64 z)) hqm⟩ (by omega) (by omega)) rfl ?_
      apply wq_val; intro _ hw_; apply opv_assign; exact rfl; exact rfl; refine wq_nil fun w1 hw1 => ?_
      replace hs := hs.below hw1
      rw [e3]
      refine we_seq ?_; refine wc_sr ?_; refine wl_mv rfl rfl ?_; apply wl_val; apply opv_nilOk; exact rfl; exact rfl; apply wl_val; apply opv_fa; exact fa_R (by decide); exact rfl; exact rfl; apply wl_val; apply opv_ldX; exact rfl; exact hs.ar 0 rfl; exact e1_iB; exact rfl; exact rfl; refine wl_mv rfl rfl ?_; apply wl_val; apply opv_convR; exact rfl; exact Tryd.underlying37; exact Tryd.underlying3; exact IntWalk.i64_in _ (by omega); exact rfl; apply wl_val; apply opv_bin; exact rfl; exact rfl; exact bin_add64 (by omega); exact rfl; apply wl_val; apply opv_nilOk; exact rfl; exact rfl; apply wl_val; apply opv_fa; exact fa_R (by decide); exact rfl; exact rfl; apply ws_st hs 0; exact rfl; exact rfl; exact e1_iB; exact rfl; exact rfl; exact rfl; clear hs; intro _ hs; dsimp only [setC, List.set] at hs; refine wl_ns ?_; refine wc_sr ?_; refine wl_mv rfl rfl ?_; refine wl_as rfl rfl ?_; refine wl_ns ?_; refine wc_ret ?_
      exact we_ret1 rfl rfl ⟨_, rfl, ⟨cutA A c q, c - q, rfl, by omega, fun w'' hm => by rw [← take_drop_take]; exact cutB_rd hm (by omega) h2 hc⟩, hs⟩
end Go.Proofs.YtpnckagibkdcpaaDoor


/-
  Walk over entry of the reader of blocks.
-/
namespace Go.Proofs.YtpnckagibkdcpaaDoor
open Go.RowKit

theorem numF_true {xs : List UInt8} {p : Int} : numF xs p true = (0, p, true) := rfl
theorem takF_true {xs : List UInt8} {p : Int} {n : Nat} : takF xs p true n = ([], p, true) := by rw [takF, if_pos (.inl rfl)]
theorem numF_false {xs : List UInt8} {p : Int} {f : Bool} {v : Nat} {p' : Int} (h : numF xs p f = (v, p', false)) : f = false ∧ getU xs p = (v, p', 0) := by
  cases f with
  | true => rw [numF_true] at h; simp at h
  | false =>
    refine ⟨rfl, ?_⟩
    rw [numF, if_neg (by decide)] at h
    simp only [Prod.mk.injEq, decide_eq_false_iff_not, Decidable.not_not] at h
    obtain ⟨h1, h2, h3⟩ := h
    rw [← h1, ← h2, ← h3]
theorem takF_false {xs : List UInt8} {p : Int} {f : Bool} {n : Nat} {bs : List UInt8} {p' : Int} (h : takF xs p f n = (bs, p', false)) : f = false ∧ n ≤ xs.length - p.toNat ∧ bs = (xs.drop p.toNat).take n ∧ p' = p + n := by
  unfold takF at h
  split at h
  · simp at h
  · rename_i hc
    simp only [Prod.mk.injEq, and_true] at h
    cases f with
    | true => exact absurd (.inl rfl) hc
    | false => exact ⟨rfl, by omega, h.1.symm, h.2.symm⟩
/-- The steps of entry, told by one result. -/
theorem rd_chain {xs key : List UInt8} {p : Nat} (hp : p ≤ xs.length) {v1 v2 v3 z : Nat} {p1 p2 p3 p4 p5 p6 p7 : Int} {f1 f2 f3 f4 f5 f7 f8 : Bool} {t1 t2 t3 : List UInt8}
    (h1 : numF xs p false = (v1, p1, f1)) (h2 : numF xs p1 f1 = (v2, p2, f2)) (h3 : numF xs p2 f2 = (v3, p3, f3)) (h4 : takF xs p3 f3 1 = (t1, p4, f4)) (h5 : numF xs p4 f4 = (z, p5, f5))
    (h7 : takF xs p5 (f5 || decide (key.length < v1)) v2 = (t2, p6, f7)) (h8 : takF xs p6 f7 z = (t3, p7, f8)) :
    (f8 = true ∧ rdE xs p key = none) ∨ (f8 = false ∧ v1 ≤ key.length ∧ ∃ kd, t1 = [kd] ∧ v3 < 2 ^ 64 ∧ 0 ≤ p7 ∧ rdE xs p key = some (⟨key.take v1 ++ t2, v3, kd, t3⟩, p7.toNat)) := by
  have n0 : ∀ (q : Int), 0 ≤ q → q = (q.toNat : Nat) := fun q h => by omega
  cases f8 with
  | false =>
    right
    obtain ⟨rfl, b1, b2, b3⟩ := takF_false h8
    obtain ⟨hf, c1, c2, c3⟩ := takF_false h7
    rw [Bool.or_eq_false_iff, decide_eq_false_iff_not] at hf
    obtain ⟨rfl, hk⟩ := hf
    obtain ⟨rfl, g5⟩ := numF_false h5
    obtain ⟨rfl, d1, d2, d3⟩ := takF_false h4
    obtain ⟨rfl, g3⟩ := numF_false h3
    obtain ⟨rfl, g2⟩ := numF_false h2
    obtain ⟨_, g1⟩ := numF_false h1
    have i1 := getU_rng g1
    have i2 := getU_rng g2
    have i3 := getU_rng g3
    have i5 := getU_rng g5
    have hlt : p3.toNat < xs.length := by omega
    have hx : xs[p3.toNat]? = some (xs[p3.toNat]'hlt) := List.getElem?_eq_getElem hlt
    refine ⟨rfl, by omega, xs[p3.toNat]'hlt, by rw [d2, drop_getB hx]; rfl, i3.1, by omega, ?_⟩
    subst d3 c3 b3
    unfold rdE
    rw [g1]
    simp only
    rw [g2]
    simp only
    rw [g3]
    simp only
    rw [hx]
    simp only
    rw [show ((1 : Nat) : Int) = 1 from rfl] at g5
    rw [g5]
    simp only
    have e6 : (p5 + (v2 : Int)).toNat = p5.toNat + v2 := by omega
    rw [if_neg (by omega), if_neg (by omega), if_neg (by omega), c2, b2, e6]
    simp only [Option.some.injEq, Prod.mk.injEq, true_and]
    omega
  | true =>
    left
    refine ⟨rfl, ?_⟩
    cases hr : rdE xs p key with
    | none => rfl
    | some y =>
      exfalso
      unfold rdE at hr
      split at hr
      case h_2 => cases hr
      rename_i s q1 g1
      split at hr
      case h_2 => cases hr
      rename_i r q2 g2
      split at hr
      case h_2 => cases hr
      rename_i q q3 g3
      split at hr
      case h_1 => cases hr
      rename_i kd hkd
      split at hr
      case h_2 => cases hr
      rename_i zz q5 g5
      have a1 : numF xs p false = (s, q1, false) := by rw [numF, if_neg (by decide), g1]; rfl
      rw [a1] at h1
      simp only [Prod.mk.injEq] at h1
      obtain ⟨rfl, rfl, rfl⟩ := h1
      have a2 : numF xs q1 false = (r, q2, false) := by rw [numF, if_neg (by decide), g2]; rfl
      rw [a2] at h2
      simp only [Prod.mk.injEq] at h2
      obtain ⟨rfl, rfl, rfl⟩ := h2
      have a3 : numF xs q2 false = (q, q3, false) := by rw [numF, if_neg (by decide), g3]; rfl
      rw [a3] at h3
      simp only [Prod.mk.injEq] at h3
      obtain ⟨rfl, rfl, rfl⟩ := h3
      have i3 := getU_rng g3
      have hlt := (List.getElem?_eq_some_iff.1 hkd).1
      rw [takF, if_neg (by rintro (h | h); · cases h
                           · omega)] at h4
      simp only [Prod.mk.injEq] at h4
      obtain ⟨_, rfl, rfl⟩ := h4
      have a5 : numF xs (q3 + ((1 : Nat) : Int)) false = (zz, q5, false) := by rw [numF, if_neg (by decide), show ((1 : Nat) : Int) = 1 from rfl, g5]; rfl
      rw [a5] at h5
      simp only [Prod.mk.injEq] at h5
      obtain ⟨rfl, rfl, rfl⟩ := h5
      have i5 := getU_rng g5
      split at hr
      · cases hr
      · rename_i hk
        split at hr
        · cases hr
        · rename_i hr1
          split at hr
          · cases hr
          · rename_i hr2
            rw [decide_eq_false hk, takF, if_neg (by rintro (h | h); · cases h
                                                     · omega)] at h7
            simp only [Prod.mk.injEq] at h7
            obtain ⟨_, rfl, rfl⟩ := h7
            have e6 : (q5 + (r : Int)).toNat = q5.toNat + r := by omega
            rw [takF, if_neg (by rw [e6]; rintro (h | h); · cases h
                                 · omega)] at h8
            simp only [Prod.mk.injEq] at h8
            exact absurd h8.2.2 (by decide)
end Go.Proofs.YtpnckagibkdcpaaDoor


/-
  Walk over entry of the reader of blocks.
-/
namespace Go.Proofs.YtpnckagibkdcpaaDoor
open Go.RowKit

/-- What a reader's entry answers, and what it brings. -/
def RdOut (S : BS) (g n c kn : Nat) (A : Option Addr) (o : Option (En × Nat)) (w : World) (v : Value) (w' : World) : Prop := match o with
  | some (x, p') => ∃ (X : Option Addr) (cx : Nat) (Y : Option Addr) (cy : Nat) (K : Option Addr) (kc : Nat), v = .agg (enV x X cx Y cy).toArray ∧ St S w w' (.ow 5 X x.key.length cx (bvs x.key) :: .ow 5 Y x.val.length cy (bvs x.val) :: .blk g 91 (rdV A n c (p' : Nat) K x.key.length kc false) :: .ow 5 K x.key.length kc (bvs x.key) :: [])
  | none => ∃ (p' : Int) (K : Option Addr) (kc : Nat), v = .agg zE.toArray ∧ St S w w' [.blk g 91 (rdV A n c p' K kn kc true)]
theorem takF_len {xs : List UInt8} {p : Int} {f : Bool} {n : Nat} : (takF xs p f n).1.length ≤ xs.length := by
  unfold takF
  split
  · exact Nat.zero_le _
  · simp only [List.length_take, List.length_drop]; omega
set_option maxRecDepth 8000 in
set_option maxHeartbeats 2000000 in
theorem rdEntry_any {S : BS} {g n c kc p : Nat} {A K : Option Addr} {xs key : List UInt8} {w : World} (h0 : Sat w [.blk g 91 (rdV A n c (p : Nat) K key.length kc false), .ow 5 K key.length kc (bvs key)] S) (hb : ∀ w', Mod S w w' → RdB w' A xs) (hn : xs.length = n) (hc : n ≤ c) (hl : xs.length ≤ 1099511627776) (hp : p ≤ xs.length) (hkl : key.length ≤ 1099511627776) :
    CallsV Tryd.prog 52 #[.pointer (some ⟨g, 0, none⟩)] w (RdOut S g n c key.length A (rdE xs p key) w) := by
  subst hn
  have hs := St.start h0
  have hp0 : 0 ≤ (p : Int) ∧ (p : Int) ≤ xs.length := by omega
  refine calls_in (N := _) Tryd.func52 rfl Tryd.ntmps52 rfl ?_; show WC _ _ _ _ _ _
  refine wc_sr ?_
  refine ws_new hs zeroE rfl ?_; clear hs; intro g2 _ hs
  replace hs := hs.front 1 rfl
  dsimp only [delC] at hs
  refine wl_ns ?_; refine wc_sr ?_; refine wl_mv rfl rfl ?_
  obtain ⟨S2, hS2, _, hM, hH, hB⟩ := St.lend (H1 := [.blk g 91 _]) (H2 := [_, _]) hs
  refine wl_call ok_block_reader_number (number_any hS2 (fun w' hm => hb _ (hM w' hm)) rfl hl hp0) ⟨rfl, trivial⟩ rfl ?_
  rintro _ _ ⟨rfl, hsx⟩
  replace hs := hB _ _ hsx
  clear hB hsx hS2 hM hH
  obtain ⟨⟨v1, p1, f1⟩, ev1⟩ : ∃ q, numF xs (p : Int) false = q := ⟨_, rfl⟩
  have rv1 := numF_rng (xs := xs) (p := (p : Int)) (f := false) hp0
  rw [ev1] at hs rv1
  rw [ev1]
  dsimp only [List.cons_append, List.nil_append] at hs rv1 ⊢
  refine wl_mv rfl rfl ?_
  obtain ⟨S2, hS2, _, hM, hH, hB⟩ := St.lend (H1 := [.blk g 91 _]) (H2 := [_, _]) hs
  refine wl_call ok_block_reader_number (number_any hS2 (fun w' hm => hb _ (hM w' hm)) rfl hl rv1.2) ⟨rfl, trivial⟩ rfl ?_
  rintro _ _ ⟨rfl, hsx⟩
  replace hs := hB _ _ hsx
  clear hB hsx hS2 hM hH
  obtain ⟨⟨v2, p2, f2⟩, ev2⟩ : ∃ q, numF xs p1 f1 = q := ⟨_, rfl⟩
  have rv2 := numF_rng (xs := xs) (p := p1) (f := f1) rv1.2
  rw [ev2] at hs rv2
  rw [ev2]
  dsimp only [List.cons_append, List.nil_append] at hs rv2 ⊢
  refine wl_as rfl rfl ?_; refine wl_as rfl rfl ?_; refine wl_ns ?_; refine wc_sr ?_; refine wl_mv rfl rfl ?_
  obtain ⟨S2, hS2, _, hM, hH, hB⟩ := St.lend (H1 := [.blk g 91 _]) (H2 := [_, _]) hs
  refine wl_call ok_block_reader_number (number_any hS2 (fun w' hm => hb _ (hM w' hm)) rfl hl rv2.2) ⟨rfl, trivial⟩ rfl ?_
  rintro _ _ ⟨rfl, hsx⟩
  replace hs := hB _ _ hsx
  clear hB hsx hS2 hM hH
  obtain ⟨⟨v3, p3, f3⟩, ev3⟩ : ∃ q, numF xs p2 f2 = q := ⟨_, rfl⟩
  have rv3 := numF_rng (xs := xs) (p := p2) (f := f2) rv2.2
  rw [ev3] at hs rv3
  rw [ev3]
  dsimp only [List.cons_append, List.nil_append] at hs rv3 ⊢
  refine wl_as rfl rfl ?_; refine wl_ns ?_; refine wc_sr ?_; refine wl_mv rfl rfl ?_
  obtain ⟨S2, hS2, _, hM, hH, hB⟩ := St.lend (H1 := [.blk g 91 _]) (H2 := [_, _]) hs
  refine wl_call ok_block_reader_take (take_any (m := 1) hS2 (fun w' hm => hb _ (hM w' hm)) rfl hc hl rv3.2 (by decide)) ⟨rfl, rfl, trivial⟩ rfl ?_
  rintro _ _ ⟨⟨Pt1, ct1, rfl, kt1, qt1⟩, hsx⟩
  replace hs := hB _ _ hsx
  clear hB hsx hS2 hM hH
  obtain ⟨⟨t1, p4, f4⟩, et1⟩ : ∃ q, takF xs p3 f3 1 = q := ⟨_, rfl⟩
  have rt1 := takF_rng (xs := xs) (p := p3) (f := f3) (n := 1) rv3.2
  rw [et1] at hs rt1 kt1 qt1
  rw [et1]
  dsimp only [List.cons_append, List.nil_append] at hs rt1 kt1 qt1 ⊢
  refine wl_as rfl rfl ?_; refine wl_ns ?_; refine wc_sr ?_; refine wl_mv rfl rfl ?_
  obtain ⟨S2, hS2, _, hM, hH, hB⟩ := St.lend (H1 := [.blk g 91 _]) (H2 := [_, _]) hs
  refine wl_call ok_block_reader_number (number_any hS2 (fun w' hm => hb _ (hM w' hm)) rfl hl rt1) ⟨rfl, trivial⟩ rfl ?_
  rintro _ _ ⟨rfl, hsx⟩
  replace hs := hB _ _ hsx
  clear hB hsx hS2 hM hH
  obtain ⟨⟨z, p5, f5⟩, ez⟩ : ∃ q, numF xs p4 f4 = q := ⟨_, rfl⟩
  have rz := numF_rng (xs := xs) (p := p4) (f := f4) rt1
  rw [ez] at hs rz
  rw [ez]
  dsimp only [List.cons_append, List.nil_append] at hs rz ⊢
  have hcap := ow_cap (hs.ow 2 rfl)
  unfold rdV at hs
  have hk64 : ((key.length : Nat) : Int) = (key.length : Int) := rfl
  refine wl_as rfl rfl ?_; refine wl_ns ?_; refine wc_seq ?_; refine wc_sr ?_; refine wl_mv rfl rfl ?_; refine wl_mv rfl rfl ?_; apply wl_val; apply opv_nilOk; exact rfl; exact rfl; apply wl_val; apply opv_fa; exact fa_R (by decide); exact rfl; exact rfl; apply wl_val; apply opv_ldX; exact rfl; exact hs.ar 0 rfl; exact e1_by; exact rfl; exact rfl; apply wl_val; apply opv_len; exact rfl; exact tyB.sl; exact rfl; apply wl_val; apply opv_convR; exact rfl; exact Tryd.underlying3; exact Tryd.underlying37; exact IntWalk.u64_in _ (by omega); exact rfl; refine wl_bin rfl rfl bin_gtr rfl ?_; refine wl_ns ?_
  refine wc_cutE (fun L' w' => L' = [(0, .pointer (some ⟨g, 0, none⟩)), (2, .pointer (some ⟨g2, 0, none⟩)), (3, .int .u64 (v1 : Int)), (4, .int .u64 (v2 : Int)), (5, .int .u64 (v3 : Int)), (6, .slice Pt1 t1.length ct1), (7, .int .u64 (z : Int))] ∧ St S w w' [.blk g 91 (rdV A xs.length c p5 K key.length kc (f5 || decide (key.length < v1))), .blk g2 39 zE, .ow 5 K key.length kc (bvs key)]) ?_ ?_
  · refine wc_cond rfl (fun h1 => ?_) (fun h1 => ?_)
    · have e6 : (f5 || decide (key.length < v1)) = true := by rw [decide_eq_true (show key.length < v1 by omega), Bool.or_true]
      rw [e6]
      refine wc_region ?_; refine wl_mv rfl rfl ?_; apply wl_val; apply opv_nilOk; exact rfl; exact rfl; apply wl_val; apply opv_fa; exact fa_R (by decide); exact rfl; exact rfl; apply ws_st hs 0; exact rfl; exact rfl; exact e1_bB; exact rfl; exact rfl; exact rfl; clear hs; intro _ hs; dsimp only [setC, List.set] at hs; refine wl_nil ?_
      exact we_cut _ ⟨rfl, hs⟩ ⟨rfl, rfl, rfl, rfl, rfl, rfl, rfl, trivial⟩
    · have e6 : (f5 || decide (key.length < v1)) = f5 := by rw [decide_eq_false (show ¬ key.length < v1 by omega), Bool.or_false]
      rw [e6]
      refine wc_skip ?_
      exact we_cut _ ⟨rfl, hs⟩ ⟨rfl, rfl, rfl, rfl, rfl, rfl, rfl, trivial⟩
  clear hs
  rintro _ w9 ⟨rfl, hs⟩
  refine we_seq ?_; refine wc_sr ?_; refine wl_mv rfl rfl ?_; refine wl_mv rfl rfl ?_
  obtain ⟨S2, hS2, _, hM, hH, hB⟩ := St.lend (H1 := [.blk g 91 _]) (H2 := [_, _]) hs
  refine wl_call ok_block_reader_take (take_any (m := v2) hS2 (fun w' hm => hb _ (hM w' hm)) rfl hc hl rz.2 rv2.1) ⟨rfl, rfl, trivial⟩ rfl ?_
  rintro _ _ ⟨⟨Pt2, ct2, rfl, kt2, qt2⟩, hsx⟩
  replace hs := hB _ _ hsx
  clear hB hsx hS2 hM hH
  obtain ⟨⟨t2, p6, f7⟩, et2⟩ : ∃ q, takF xs p5 (f5 || decide (key.length < v1)) v2 = q := ⟨_, rfl⟩
  have rt2 := takF_rng (xs := xs) (p := p5) (f := (f5 || decide (key.length < v1))) (n := v2) rz.2
  rw [et2] at hs rt2 kt2 qt2
  rw [et2]
  dsimp only [List.cons_append, List.nil_append] at hs rt2 kt2 qt2 ⊢
  refine wl_as rfl rfl ?_; refine wl_ns ?_; refine wc_sr ?_; refine wl_mv rfl rfl ?_; refine wl_mv rfl rfl ?_
  obtain ⟨S2, hS2, _, hM, hH, hB⟩ := St.lend (H1 := [.blk g 91 _]) (H2 := [_, _]) hs
  refine wl_call ok_block_reader_take (take_any (m := z) hS2 (fun w' hm => hb _ (hM w' hm)) rfl hc hl rt2 rz.1) ⟨rfl, rfl, trivial⟩ rfl ?_
  rintro _ _ ⟨⟨Pt3, ct3, rfl, kt3, qt3⟩, hsx⟩
  replace hs := hB _ _ hsx
  clear hB hsx hS2 hM hH
  obtain ⟨⟨t3, p7, f8⟩, et3⟩ : ∃ q, takF xs p6 f7 z = q := ⟨_, rfl⟩
  have rt3 := takF_rng (xs := xs) (p := p6) (f := f7) (n := z) rt2
  rw [et3] at hs rt3 kt3 qt3
  rw [et3]
  dsimp only [List.cons_append, List.nil_append] at hs rt3 kt3 qt3 ⊢
  unfold rdV at hs
  refine wl_as rfl rfl ?_; refine wl_ns ?_; refine wc_seq ?_; refine wc_sr ?_; refine wl_mv rfl rfl ?_; apply wl_val; apply opv_nilOk; exact rfl; exact rfl; apply wl_val; apply opv_fa; exact fa_R (by decide); exact rfl; exact rfl; apply wl_val; apply opv_ldX; exact rfl; exact hs.ar 0 rfl; exact e1_bB; exact rfl; exact rfl; refine wl_ns ?_
  have hch := rd_chain hp ev1 ev2 ev3 et1 ez et2 et3
  cases f8 with
  | true =>
    obtain ⟨_, hnone⟩ : True ∧ rdE xs p key = none := hch.elim (fun h => ⟨trivial, h.2⟩) fun h => absurd h.1 (by decide)
    rw [hnone]
    apply wc_condTb; exact rfl; exact rfl; refine wc_sr ?_
    refine wl_val (opv_build (vs := []) (cs := zE) trivial (by kernel_rfl)) rfl ?_
    apply ws_stS hs 1; exact rfl; exact rfl; exact rfl; exact sE; exact rfl; exact rfl; clear hs; intro _ hs; dsimp only [setC] at hs; refine wl_ns ?_; refine wc_ret ?_; refine we_seq_ret ?_
    exact we_retC rfl rfl (hs.ar 1 rfl) sE ⟨_, rfl, p7, K, kc, rfl, (hs.drop 1 rfl).drop 1 rfl⟩
  | false =>
    obtain ⟨hv1, kd, rfl, hv3, hp7, hsome⟩ := hch.elim (fun h => absurd h.1 (by decide)) fun h => h.2
    rw [hsome]
    apply wc_condFb; exact rfl; exact rfl; refine wc_skip ?_; refine we_seq ?_; refine wc_sr ?_; refine wl_mv rfl rfl ?_; refine wl_mv rfl rfl ?_; apply wl_val; apply opv_nilOk; exact rfl; exact rfl; apply wl_val; apply opv_fa; exact fa_R (by decide); exact rfl; exact rfl; apply wl_val; apply opv_ldX; exact rfl; exact hs.ar 0 rfl; exact e1_by; exact rfl; exact rfl; refine wl_mv rfl rfl ?_
    have hcap := ow_cap (hs.ow 2 rfl)
    have hkt : (key.take v1).length = v1 := by simp; omega
    refine wl_sl (l := 0) (h := v1) tyB rfl rfl ⟨_, rfl⟩ (Nat.zero_le _) (by omega) rfl ?_
    have hpre := cutB_rd (l := 0) (h := v1) (c := kc) (xs := key) (hs.ow 2 rfl).rd (Nat.zero_le _) (by omega) hcap
    rw [List.drop_zero] at hpre
    rw [Nat.sub_zero, Nat.sub_zero]
    refine wl_call ok_bytes_Clone (clone_any hpre hkt (by omega)) ⟨rfl, trivial⟩ rfl ?_
    rintro _ w10 ⟨C, e, rfl, o_, hbx⟩
    replace hs := hs.newO hbx o_ (Nat.le_refl _)
    clear o_ hbx hpre
    rw [hkt] at hs
    rw [hkt]
    have ht2 : t2.length ≤ xs.length := by have h := takF_len (xs := xs) (p := p5) (f := (f5 || decide (key.length < v1))) (n := v2); rw [et2] at h; exact h
    have ht3 : t3.length ≤ xs.length := by have h := takF_len (xs := xs) (p := p6) (f := f7) (n := z); rw [et3] at h; exact h
    have hKl : (key.take v1 ++ t2).length = v1 + t2.length := by rw [List.length_append, hkt]
    refine wl_mv rfl rfl ?_
    refine ws_app (ys := bvs t2) (m := t2.length) hs 0 rfl rfl tyB rfl (qt2 _ (hb _ hs.1)) (bvs_one _) (by omega) (by simp only [maxLen]; omega) rfl ?_
    clear hs; intro K2 kc2 w11 hs; dsimp only [setC] at hs
    rw [← bvs_append, ← hKl] at hs
    rw [← hKl]
    obtain ⟨nk, hnk⟩ : ∃ q, key.take v1 ++ t2 = q := ⟨_, rfl⟩
    rw [hnk] at hs hKl
    rw [hnk]
    apply wl_val; apply opv_nilOk; exact rfl; exact rfl; apply wl_val; apply opv_fa; exact fa_R (by decide); exact rfl; exact rfl; apply ws_st hs 1; exact rfl; exact rfl; exact e1_by; exact rfl; exact rfl; exact rfl; clear hs; intro _ hs; dsimp only [setC, List.set] at hs; refine wl_ns ?_; refine wc_seq ?_
    have hrow : (bvs [kd])[0]? = some (bv kd) := rfl
    have hkd := qt1 _ (hb _ hs.1)
    refine wc_heldM 12 mixed fun w_ hS => ?_
    apply wm_take 0; exact rfl; intro _ hw_; apply opv_move; exact rfl; exact rfl; kernel_rfl; exact hS; apply wm_take 1; exact rfl; intro _ hw_; apply opv_nilOk; exact rfl; exact rfl; kernel_rfl; exact hS; apply wm_take 2; exact rfl; intro _ hw_; apply opv_fa; exact fa_R (by decide); exact rfl; exact rfl; kernel_rfl; exact hS; apply wm_take 3; exact rfl; intro _ hw_; apply opv_ldX; exact rfl; exact Ar.bel (hs.ar 1 rfl) hw_; exact e1_by; exact rfl; exact rfl; kernel_rfl; exact hS; apply wm_take 5; exact rfl; intro _ hw_; apply opv_move; exact rfl; exact rfl; kernel_rfl; exact hS; apply wm_take 6; exact rfl; intro _ hw_; apply opv_move; exact rfl; exact rfl; kernel_rfl; exact hS; apply wm_take 9; exact rfl; intro _ hw_; apply opv_move; exact rfl; exact rfl; kernel_rfl; exact hS
    refine wm_take 7 rfl (fun _ hw_ => opv_idxR tyB rfl rfl (RdB.below hkd hw_) rfl hrow) rfl (by kernel_rfl) hS ?_
    refine wm_take 8 rfl (fun _ hw_ => opv_loadR tyB rfl (RdB.below hkd hw_) hrow) rfl (by kernel_rfl) hS ?_
    replace hs := hs.below hS
    refine wm_one 4 (by kernel_rfl) rfl ?_; dsimp only [List.getElem_toArray, List.getElem_cons_succ, List.getElem_cons_zero]
    refine wl_call ok_bytes_Clone (clone_any (xs := nk) (hs.ow 0 rfl).rd rfl (by omega)) ⟨rfl, trivial⟩ rfl ?_; rintro _ _ ⟨X, cx, rfl, o_, hbx⟩; replace hs := hs.newO hbx o_ (Nat.le_refl _); try dsimp only [List.cons_append, List.nil_append, setC, delC] at hs
    replace hS := hS.trans (hbx.mono hS.size)
    clear o_ hbx
    refine wl_nil ?_
    refine we_heldM (fun _ => hS) ?_
    refine wm_one 10 (by kernel_rfl) rfl ?_; dsimp only [List.getElem_toArray, List.getElem_cons_succ, List.getElem_cons_zero]
    refine wl_call ok_bytes_Clone (clone_any (xs := t3) (qt3 _ (hb _ hs.1)) rfl (by omega)) ⟨rfl, trivial⟩ rfl ?_; rintro _ _ ⟨Y, cy, rfl, o_, hbx⟩; replace hs := hs.newO hbx o_ (Nat.le_refl _); try dsimp only [List.cons_append, List.nil_append, setC, delC] at hs
    replace hS := hS.trans (hbx.mono hS.size)
    clear o_ hbx
    refine wl_nil ?_
    refine we_heldM (fun _ => hS) ?_
    refine wm_one 11 (by kernel_rfl) rfl ?_; dsimp only [List.getElem_toArray, List.getElem_cons_succ, List.getElem_cons_zero]
    refine wl_val (opv_build (vs := [(0, .slice X nk.length cx), (1, .int .u64 (v3 : Int)), (2, bv kd), (3, .slice Y t3.length cy)]) (cs := enV ⟨nk, v3, kd, t3⟩ X cx Y cy) ⟨rfl, rfl, rfl, rfl, rfl, rfl, rfl, rfl, trivial⟩ (by kernel_rfl)) rfl ?_
    refine wl_nil ?_
    refine we_heldM (fun _ => hS) ?_
    refine wm_one 12 (by kernel_rfl) rfl ?_; dsimp only [List.getElem_toArray, List.getElem_cons_succ, List.getElem_cons_zero]
    apply ws_stS hs 4; exact rfl; exact rfl; exact rfl; exact sE; exact rfl; exact rfl; clear hs; intro _ hs; dsimp only [setC] at hs; refine wl_nil ?_
    refine we_heldM (fun h => absurd h (by decide)) ?_
    refine wm_done (by kernel_rfl) ?_
    refine we_seq ?_; refine wc_ret ?_
    refine we_retC rfl rfl (hs.ar 4 rfl) sE ⟨_, rfl, ?_⟩
    have hp7' : p7 = ((p7.toNat : Nat) : Int) := by omega
    rw [hp7'] at hs
    exact ⟨X, cx, Y, cy, K2, kc2, rfl, ((((((hs.drop 4 rfl).drop 4 rfl).front 2 rfl).front 3 rfl).front 2 rfl).front 3 rfl)⟩
end Go.Proofs.YtpnckagibkdcpaaDoor


/-
  Walk over split of blocks.
-/
namespace Go.Proofs.YtpnckagibkdcpaaDoor
open Go.RowKit

def natV (ns : List Nat) : List Value := ns.map fun (n : Nat) => Value.int .i64 (n : Int)
theorem natV_len (ns : List Nat) : (natV ns).length = ns.length := by simp [natV]
theorem natV_one (ns : List Nat) : ∀ u ∈ natV ns, u.oneCell' = true := by
  intro u hu; simp [natV] at hu; obtain ⟨_, _, rfl⟩ := hu; rfl
/-- What split answers: the entries' bytes and the places of the restarts. -/
def splB (b : List UInt8) : (List UInt8 × List Nat) × Nat :=
  match openB b 0 with
  | (body, next, 0) => if next < b.length ∨ body.length < 4 then (([], []), 3) else
      if (body.length - 4) / 4 < numB (body.drop (body.length - 4)) then (([], []), 3) else
      ((body.take (body.length - 4 - 4 * numB (body.drop (body.length - 4))), startsB (body.take (body.length - 4)) (body.length - 4 - 4 * numB (body.drop (body.length - 4))) (numB (body.drop (body.length - 4)))), 0)
  | (_, _, e) => (([], []), e)
theorem dec_spl (b : List UInt8) : decB b = match splB b with
    | ((body, ss), 0) => (match rdL body body.length 0 [] with
      | none => ([], 3)
      | some r => if buildB (evL ss (r.map (·.2))) (r.map (·.1)) = (b, 0) then (r.map (·.1), 0) else ([], 3))
    | (_, e) => ([], e) := by
  unfold decB splB
  rcases openB b 0 with ⟨body, next, e⟩
  cases e with
  | zero =>
    simp only
    split
    · rfl
    · split
      · rfl
      · simp only
        rw [show (body.take (body.length - 4 - 4 * numB (body.drop (body.length - 4)))).length = body.length - 4 - 4 * numB (body.drop (body.length - 4)) by rw [List.length_take]; omega]
        rfl
  | succ e => rfl
theorem spl_small {b body : List UInt8} {ss : List Nat} {e : Nat} (h : splB b = ((body, ss), e)) : body.length ≤ 1048576 ∧ body.length ≤ b.length ∧ ss.length ≤ 1048576 := by
  unfold splB at h
  rcases ho : openB b 0 with ⟨bo, next, e2⟩
  rw [ho] at h
  cases e2 with
  | zero =>
    have hi := openB_inv (q := 0) (Nat.zero_le _) ho
    simp only at h
    split at h
    · simp only [Prod.mk.injEq] at h; obtain ⟨⟨rfl, rfl⟩, _⟩ := h; simp
    · split at h
      · simp only [Prod.mk.injEq] at h; obtain ⟨⟨rfl, rfl⟩, _⟩ := h; simp
      · simp only [Prod.mk.injEq] at h; obtain ⟨⟨rfl, rfl⟩, _⟩ := h
        rw [List.length_take, startsB_len]; omega
  | succ e2 => simp only [Prod.mk.injEq] at h; obtain ⟨⟨rfl, rfl⟩, _⟩ := h; simp
theorem starts_succ (b : List UInt8) (e i : Nat) : startsB b e (i + 1) = startsB b e i ++ [numB ((b.drop (e + 4 * i)).take 4)] := by rw [startsB, List.range_succ, List.map_append]; rfl
set_option maxRecDepth 8000 in
theorem split_any {A : Option Addr} {n c : Nat} {xs : List UInt8} {w : World} (hr : RdB w A xs) (hn : xs.length = n) (hc : xs.length ≤ c) (hl : xs.length ≤ 1099511627776) :
    CallsV Tryd.prog 51 #[.slice A n c] w fun v w' => ∃ (P : Option Addr) (pc : Nat) (Q : Option Addr) (qc : Nat), v = .tuple #[.slice P (splB xs).1.1.length pc, .slice Q (splB xs).1.2.length qc, .int .i64 ((splB xs).2 : Nat)] ∧ (splB xs).1.1.length ≤ pc ∧ RdB w' P (splB xs).1.1 ∧ Rd w' Q (splB xs).1.2.length (natV (splB xs).1.2) ∧ Below w.heap.size w w' := by
  subst hn
  refine calls_in (N := _) Tryd.func51 rfl Tryd.ntmps51 rfl ?_; show WC _ _ _ _ _ _
  refine wc_sr ?_; refine wl_as rfl rfl ?_; refine wl_as rfl rfl ?_; refine wl_as rfl rfl ?_; refine wl_ns ?_; refine wc_sr ?_; refine wl_mv rfl rfl ?_
  obtain ⟨body, next, e, ho⟩ : ∃ b n e, openB xs 0 = (b, n, e) := ⟨_, _, _, rfl⟩
  refine wl_call ok_crc_Open (open_at ho hr rfl hc (by omega)) ⟨rfl, rfl, trivial⟩ rfl ?_
  rintro _ w1 ⟨B, cB, rfl, o1, hb⟩
  dsimp only
  cases e with
  | succ e =>
    have hs : splB xs = (([], []), e + 1) := by unfold splB; rw [ho]; rfl
    rw [hs]
    have h1 : ((e + 1 : Nat) : Int) ≠ 0 := by omega
    refine wl_mv rfl rfl ?_; apply wl_val; apply opv_extract; exact rfl; exact rfl; exact rfl; apply wl_val; apply opv_extract; exact rfl; exact rfl; exact rfl; apply wl_val; apply opv_extract; exact rfl; exact rfl; exact rfl; refine wl_as rfl rfl ?_; refine wl_as rfl rfl ?_; refine wl_as rfl rfl ?_; refine wl_ns ?_; refine wc_seq ?_; refine wc_sr ?_; refine wl_mv rfl rfl ?_; refine wl_bin rfl rfl bin_neq rfl ?_; refine wl_ns ?_; apply wc_condTb; exact rfl; exact rfl; refine wc_sr ?_; refine wl_mv rfl rfl ?_; refine wl_as rfl rfl ?_; refine wl_as rfl rfl ?_; refine wl_as rfl rfl ?_; refine wl_ns ?_; refine wc_ret ?_; refine we_seq_ret ?_
    exact we_ret3 rfl rfl rfl rfl ⟨_, rfl, none, 0, none, 0, rfl, Nat.zero_le _, Rd.nil _ _, Rd.nil _ _, hb⟩
  | zero =>
    have hi := openB_inv (q := 0) (Nat.zero_le _) ho
    by_cases h1 : next < xs.length ∨ body.length < 4
    · have hs : splB xs = (([], []), 3) := by unfold splB; rw [ho]; simp only; rw [if_pos h1]
      rw [hs]
      by_cases h2 : next < xs.length
      · have h2' : (next : Int) < (xs.length : Int) := by omega
        refine wl_mv rfl rfl ?_; apply wl_val; apply opv_extract; exact rfl; exact rfl; exact rfl; apply wl_val; apply opv_extract; exact rfl; exact rfl; exact rfl; apply wl_val; apply opv_extract; exact rfl; exact rfl; exact rfl; refine wl_as rfl rfl ?_; refine wl_as rfl rfl ?_; refine wl_as rfl rfl ?_; refine wl_ns ?_; refine wc_seq ?_; refine wc_sr ?_; refine wl_mv rfl rfl ?_; refine wl_bin rfl rfl bin_neq rfl ?_; refine wl_ns ?_; apply wc_condFb; exact rfl; exact rfl; refine wc_skip ?_; refine we_seq ?_; refine wc_seq ?_; refine wc_sr ?_; refine wl_mv rfl rfl ?_; refine wl_mv rfl rfl ?_; apply wl_val; apply opv_len; exact rfl; exact tyB.sl; exact rfl; refine wl_bin rfl rfl bin_lss rfl ?_; refine wl_mv rfl rfl ?_; apply wl_skip; exact rfl; exact rfl; exact rfl; refine bTn ?_; (with_reducible assumption); exact rfl; apply wl_skip; exact rfl; exact rfl; exact rfl; refine bTn ?_; (with_reducible assumption); exact rfl; apply wl_skip; exact rfl; exact rfl; exact rfl; refine bTn ?_; (with_reducible assumption); exact rfl; apply wl_val; apply opv_pickT; exact rfl; refine bT ?_; (with_reducible assumption); exact rfl; exact rfl; refine wl_ns ?_; apply wc_condTb; exact rfl; exact rfl; refine wc_sr ?_; refine wl_as rfl rfl ?_; refine wl_as rfl rfl ?_; refine wl_as rfl rfl ?_; refine wl_ns ?_; refine wc_ret ?_; refine we_seq_ret ?_
        exact we_ret3 rfl rfl rfl rfl ⟨_, rfl, none, 0, none, 0, rfl, Nat.zero_le _, Rd.nil _ _, Rd.nil _ _, hb⟩
      · have h2' : ¬ (next : Int) < (xs.length : Int) := by omega
        have h3' : (body.length : Int) < 4 := by omega
        refine wl_mv rfl rfl ?_; apply wl_val; apply opv_extract; exact rfl; exact rfl; exact rfl; apply wl_val; apply opv_extract; exact rfl; exact rfl; exact rfl; apply wl_val; apply opv_extract; exact rfl; exact rfl; exact rfl; refine wl_as rfl rfl ?_; refine wl_as rfl rfl ?_; refine wl_as rfl rfl ?_; refine wl_ns ?_; refine wc_seq ?_; refine wc_sr ?_; refine wl_mv rfl rfl ?_; refine wl_bin rfl rfl bin_neq rfl ?_; refine wl_ns ?_; apply wc_condFb; exact rfl; exact rfl; refine wc_skip ?_; refine we_seq ?_; refine wc_seq ?_; refine wc_sr ?_; refine wl_mv rfl rfl ?_; refine wl_mv rfl rfl ?_; apply wl_val; apply opv_len; exact rfl; exact tyB.sl; exact rfl; refine wl_bin rfl rfl bin_lss rfl ?_; refine wl_mv rfl rfl ?_; apply wl_take; exact rfl; exact rfl; exact rfl; refine bF ?_; (with_reducible assumption); refine wl_mv rfl rfl ?_; apply wl_take; exact rfl; exact rfl; exact rfl; refine bF ?_; (with_reducible assumption); apply wl_val; apply opv_len; exact rfl; exact tyB.sl; exact rfl; apply wl_take; exact rfl; exact rfl; exact rfl; refine bF ?_; (with_reducible assumption); refine wl_bin rfl rfl bin_lss rfl ?_; apply wl_val; apply opv_pickF; exact rfl; refine bF ?_; (with_reducible assumption); exact rfl; exact rfl; refine wl_ns ?_; apply wc_decT; exact rfl; (with_reducible assumption); refine wc_sr ?_; refine wl_as rfl rfl ?_; refine wl_as rfl rfl ?_; refine wl_as rfl rfl ?_; refine wl_ns ?_; refine wc_ret ?_; refine we_seq_ret ?_
        exact we_ret3 rfl rfl rfl rfl ⟨_, rfl, none, 0, none, 0, rfl, Nat.zero_le _, Rd.nil _ _, Rd.nil _ _, hb⟩
    · have h2' : ¬ (next : Int) < (xs.length : Int) := by omega
      have h3' : ¬ (body.length : Int) < 4 := by omega
      have h4 : 4 ≤ body.length := by omega
      have hcap : body.length ≤ cB := o1.cap
      have hm4 : (body.length : Int) - 4 = ((body.length - 4 : Nat) : Int) := by omega
      refine wl_mv rfl rfl ?_; apply wl_val; apply opv_extract; exact rfl; exact rfl; exact rfl; apply wl_val; apply opv_extract; exact rfl; exact rfl; exact rfl; apply wl_val; apply opv_extract; exact rfl; exact rfl; exact rfl; refine wl_as rfl rfl ?_; refine wl_as rfl rfl ?_; refine wl_as rfl rfl ?_; refine wl_ns ?_; refine wc_seq ?_; refine wc_sr ?_; refine wl_mv rfl rfl ?_; refine wl_bin rfl rfl bin_neq rfl ?_; refine wl_ns ?_; apply wc_condFb; exact rfl; exact rfl; refine wc_skip ?_; refine we_seq ?_; refine wc_seq ?_; refine wc_sr ?_; refine wl_mv rfl rfl ?_; refine wl_mv rfl rfl ?_; apply wl_val; apply opv_len; exact rfl; exact tyB.sl; exact rfl; refine wl_bin rfl rfl bin_lss rfl ?_; refine wl_mv rfl rfl ?_; apply wl_take; exact rfl; exact rfl; exact rfl; refine bF ?_; (with_reducible assumption); refine wl_mv rfl rfl ?_; apply wl_take; exact rfl; exact rfl; exact rfl; refine bF ?_; (with_reducible assumption); apply wl_val; apply opv_len; exact rfl; exact tyB.sl; exact rfl; apply wl_take; exact rfl; exact rfl; exact rfl; refine bF ?_; (with_reducible assumption); refine wl_bin rfl rfl bin_lss rfl ?_; apply wl_val; apply opv_pickF; exact rfl; refine bF ?_; (with_reducible assumption); exact rfl; exact rfl; refine wl_ns ?_; apply wc_decF; exact rfl; (with_reducible assumption); refine wc_skip ?_; refine we_seq ?_; refine wc_sr ?_; refine wl_mv rfl rfl ?_; refine wl_mv rfl rfl ?_; apply wl_val; apply opv_len; exact rfl; exact tyB.sl; exact rfl; apply wl_val; apply opv_bin; exact rfl; exact rfl; exact bin_sub64 (by omega); exact rfl
      refine wl_sl (l := body.length - 4) (h := body.length) tyB rfl ⟨_, congrArg (fun z => some (Value.int .i64 z)) hm4⟩ rfl (by omega) hcap rfl ?_
      have r1 := cutB_rd (l := body.length - 4) (h := body.length) (c := cB) (xs := body) o1.rd (by omega) (Nat.le_refl _) hcap
      rw [List.take_length] at r1
      have l1 : (body.drop (body.length - 4)).length = 4 := by rw [List.length_drop]; omega
      refine wl_call ok_block_get4 (get4_any (xs := body.drop (body.length - 4)) (n := body.length - (body.length - 4)) r1 (by rw [l1]; omega) (by omega)) ⟨rfl, trivial⟩ rfl ?_
      rintro _ w2 ⟨rfl, hbx⟩
      rw [List.take_of_length_le (show (body.drop (body.length - 4)).length ≤ 4 by omega)]
      have hs := ((St.init w).newO hb o1 (Nat.le_refl _)).below hbx
      clear o1 r1 hbx hb
      obtain ⟨k, hk⟩ : ∃ q, numB (body.drop (body.length - 4)) = q := ⟨_, rfl⟩
      have hklt : k < 4294967296 := by have := numB_lt (body.drop (body.length - 4)); rw [l1, hk] at this; exact this
      rw [hk]
      refine wl_as rfl rfl ?_; refine wl_ns ?_; refine wc_sr ?_; refine wl_mv rfl rfl ?_; refine wl_mv rfl rfl ?_; apply wl_val; apply opv_len; exact rfl; exact tyB.sl; exact rfl; apply wl_val; apply opv_bin; exact rfl; exact rfl; exact bin_sub64 (by omega); exact rfl
      refine wl_sl (l := 0) (h := body.length - 4) tyB rfl rfl ⟨_, congrArg (fun z => some (Value.int .i64 z)) hm4⟩ (Nat.zero_le _) (by omega) rfl ?_
      rw [cutA_zero, Nat.sub_zero, Nat.sub_zero]
      refine wl_as rfl rfl ?_; refine wl_ns ?_; refine wc_seq ?_; refine wc_sr ?_; refine wl_mv rfl rfl ?_; refine wl_mv rfl rfl ?_; apply wl_val; apply opv_len; exact rfl; exact tyB.sl; exact rfl
      refine wl_val (opv_bin (b := .int .i64 ((4 : Nat) : Int)) rfl rfl (bin_quoN (a := body.length - 4) (b := 4) (by decide) (by omega))) rfl ?_
      refine wl_bin rfl rfl bin_gtr rfl ?_; refine wl_ns ?_
      by_cases h5 : (body.length - 4) / 4 < k
      · have hsp : splB xs = (([], []), 3) := by unfold splB; rw [ho]; simp only; rw [if_neg h1, hk, if_pos h5]
        rw [hsp]
        have h5' : (((body.length - 4) / 4 : Nat) : Int) < (k : Int) := by omega
        apply wc_decT; exact rfl; (with_reducible assumption); refine wc_sr ?_; refine wl_as rfl rfl ?_; refine wl_as rfl rfl ?_; refine wl_as rfl rfl ?_; refine wl_ns ?_; refine wc_ret ?_; refine we_seq_ret ?_
        exact we_ret3 rfl rfl rfl rfl ⟨_, rfl, none, 0, none, 0, rfl, Nat.zero_le _, Rd.nil _ _, Rd.nil _ _, hs.bel⟩
      · have hsp : splB xs = ((body.take (body.length - 4 - 4 * k), startsB (body.take (body.length - 4)) (body.length - 4 - 4 * k) k), 0) := by unfold splB; rw [ho]; simp only; rw [if_neg h1, hk, if_neg h5]
        have h5' : ¬ (((body.length - 4) / 4 : Nat) : Int) < (k : Int) := by omega
        have h6 : 4 * k ≤ body.length - 4 := by omega
        apply wc_decF; exact rfl; (with_reducible assumption); refine wc_skip ?_; refine we_seq ?_; refine wc_sr ?_; refine wl_mv rfl rfl ?_; apply wl_val; apply opv_len; exact rfl; exact tyB.sl; exact rfl; refine wl_mv rfl rfl ?_
        refine wl_val (opv_bin (a := .int .i64 ((4 : Nat) : Int)) rfl rfl (bin_mulN (a := 4) (b := k) (by omega))) rfl ?_
        refine wl_val (opv_bin rfl rfl (bin_subN (a := body.length - 4) (b := 4 * k) h6 (by omega))) rfl ?_
        obtain ⟨q, hq⟩ : ∃ q, body.length - 4 - 4 * k = q := ⟨_, rfl⟩
        rw [hq] at hsp
        rw [hsp, hq]
        replace hs := hs.nilO 3
        refine wl_as rfl rfl ?_; refine wl_ns ?_; refine wc_sr ?_; refine wl_as rfl rfl ?_; refine wl_ns ?_; refine wc_seq ?_; refine wc_sr ?_; refine wl_mv rfl rfl ?_; refine wl_mv rfl rfl ?_; refine wl_ns ?_; refine wc_block ?_
        refine wc_loop (fun L wr mm => ∃ (i : Nat) (Q : Option Addr) (qc : Nat), L = [(5, .slice B (body.length - 4) cB), (9, .int .i64 (q : Int)), (10, .slice Q i qc), (51, .int .i64 (k : Int)), (52, .int .i64 (i : Int))] ∧ i ≤ k ∧ St NoB w wr [.ow 3 Q i qc (natV (startsB (body.take (body.length - 4)) q i)), .ow 5 B body.length cB (bvs body)] ∧ mm = k - i)
          [(5, .slice B (body.length - 4) cB), (9, .int .i64 (q : Int)), (10, .slice none 0 0), (51, .int .i64 (k : Int)), (52, .int .i64 (0 : Nat))] k ⟨0, none, 0, rfl, by omega, hs, rfl⟩ ⟨rfl, rfl, rfl, rfl, rfl, trivial⟩ ?_
        clear hs
        rintro _ w3 mm ⟨i, Q, qc, rfl, hi, hs, rfl⟩
        refine wc_sr ?_; refine wl_bin rfl rfl bin_lss rfl ?_; refine wl_ns ?_; refine wc_seq ?_
        refine wc_cond rfl (fun h7 => ?_) (fun h7 => ?_)
        · refine wc_skip ?_; refine we_seq ?_; refine wc_seq ?_; refine wc_block ?_; refine wc_sr ?_; refine wl_mv rfl rfl ?_; refine wl_as rfl rfl ?_; refine wl_ns ?_; refine wc_region ?_; refine wl_mv rfl rfl ?_; refine wl_mv rfl rfl ?_; refine wl_mv rfl rfl ?_; refine wl_mv rfl rfl ?_
          refine wl_val (opv_bin (a := .int .i64 ((4 : Nat) : Int)) rfl rfl (bin_mulN (a := 4) (b := i) (by omega))) rfl ?_
          refine wl_val (opv_bin rfl rfl (bin_addN (a := q) (b := 4 * i) (by omega))) rfl ?_
          refine wl_sl (l := q + 4 * i) (h := body.length - 4) tyB rfl ⟨_, rfl⟩ rfl (by omega) (by omega) rfl ?_
          have r2 := cutB_rd (l := q + 4 * i) (h := body.length - 4) (c := cB) (xs := body) (hs.ow 1 rfl).rd (by omega) (by omega) hcap
          have l2 : ((body.take (body.length - 4)).drop (q + 4 * i)).length = body.length - 4 - (q + 4 * i) := by rw [List.length_drop, List.length_take]; omega
          refine wl_call ok_block_get4 (get4_any r2 l2 (by omega)) ⟨rfl, trivial⟩ rfl ?_
          rintro _ w4 ⟨rfl, hbx⟩
          replace hs := hs.below hbx
          clear hbx r2
          have hst := starts_succ (body.take (body.length - 4)) q i
          refine ws_push (vs := natV [numB (((body.take (body.length - 4)).drop (q + 4 * i)).take 4)]) hs 0 rfl rfl tyI ⟨rfl, rfl, rfl, trivial⟩ rfl (by decide) rfl (by omega) (by simp only [maxLen]; omega) rfl rfl ?_
          clear hs; intro _ Q2 qc2 w5 hs; dsimp only [setC] at hs
          rw [show natV (startsB (body.take (body.length - 4)) q i) ++ natV [numB (((body.take (body.length - 4)).drop (q + 4 * i)).take 4)] = natV (startsB (body.take (body.length - 4)) q (i + 1)) by rw [hst]; simp [natV]] at hs
          refine wl_as rfl rfl ?_; refine wl_nil ?_; refine we_block_norm ?_; refine we_seq ?_; refine wc_region ?_; apply wl_val; apply opv_bin; exact rfl; exact rfl; exact bin_add64 (by omega); exact rfl; refine wl_mv rfl rfl ?_; refine wl_nil ?_
          exact we_loop _ (k - (i + 1)) ⟨i + 1, Q2, qc2, rfl, by omega, hs, rfl⟩ (by omega) ⟨rfl, rfl, rfl, rfl, by simp [lookT], trivial⟩
        · obtain rfl : i = k := by omega
          have l3 : (body.take q).length = q := by rw [List.length_take]; omega
          have l4 : (startsB (body.take (body.length - 4)) q i).length = i := startsB_len _ _ _
          refine wc_exit ?_; refine we_seq_exit ?_; refine we_loop_exit ?_; refine we_block_exit ?_; refine we_seq ?_; refine wc_sr ?_; refine wl_mv rfl rfl ?_; refine wl_mv rfl rfl ?_
          refine wl_sl (l := 0) (h := q) tyB rfl rfl ⟨_, rfl⟩ (Nat.zero_le _) (by omega) rfl ?_
          rw [cutA_zero, Nat.sub_zero, Nat.sub_zero]
          have r3 := cutB_rd (l := 0) (h := q) (c := cB) (xs := body) (hs.ow 1 rfl).rd (Nat.zero_le _) (by omega) hcap
          rw [cutA_zero, List.drop_zero] at r3
          refine wl_mv rfl rfl ?_; refine wl_as rfl rfl ?_; refine wl_as rfl rfl ?_; refine wl_as rfl rfl ?_; refine wl_ns ?_; refine wc_ret ?_
          refine we_ret3 rfl rfl rfl rfl ⟨_, rfl, B, cB, Q, qc, ?_, ?_, r3, ?_, hs.bel⟩
          · show Value.tuple #[.slice B q cB, .slice Q i qc, .int .i64 0] = .tuple #[.slice B (body.take q).length cB, .slice Q (startsB (body.take (body.length - 4)) q i).length qc, .int .i64 0]
            rw [l3, l4]
          · show (body.take q).length ≤ cB
            omega
          · show Rd _ Q (startsB (body.take (body.length - 4)) q i).length (natV (startsB (body.take (body.length - 4)) q i))
            rw [l4]; exact (hs.ow 0 rfl).rd
end Go.Proofs.YtpnckagibkdcpaaDoor


/-
  Walk over Decode of blocks.
-/
namespace Go.Proofs.YtpnckagibkdcpaaDoor
open Go.RowKit

theorem rdE_bnd {b key : List UInt8} {p p' : Nat} {x : En} (h : rdE b p key = some (x, p')) : x.key.length ≤ key.length + (p' - p) ∧ x.val.length ≤ p' - p ∧ x.seq < 2 ^ 64 := by
  unfold rdE at h
  split at h
  case h_2 => cases h
  rename_i s p1 h1
  split at h
  case h_2 => cases h
  rename_i r p2 h2
  split at h
  case h_2 => cases h
  rename_i q p3 h3
  split at h
  case h_1 => cases h
  rename_i kd h4
  split at h
  case h_2 => cases h
  rename_i z p5 h5
  have i1 := getU_adv h1
  have i2 := getU_adv h2
  have i3 := getU_adv h3
  have i5 := getU_adv h5
  have j3 := (getU_rng h3).1
  split at h
  · cases h
  · split at h
    · cases h
    · split at h
      · cases h
      · simp only [Option.some.injEq, Prod.mk.injEq] at h
        obtain ⟨rfl, rfl⟩ := h
        simp only [List.length_append, List.length_take, List.length_drop]
        omega
theorem rdL_step {b key : List UInt8} {f p p' : Nat} {x : En} (hp : p < b.length) (h : rdE b p key = some (x, p')) : rdL b (f + 1) p key = (rdL b f p' x.key).map ((x, p) :: ·) := by rw [rdL, if_pos hp, h]
theorem rdL_bad {b key : List UInt8} {f p : Nat} (hp : p < b.length) (h : rdE b p key = none) : rdL b (f + 1) p key = none := by rw [rdL, if_pos hp, h]
theorem rdL_end {b key : List UInt8} {f p : Nat} (hp : ¬ p < b.length) : rdL b f p key = some [] := by
  cases f with
  | zero => rw [rdL, if_neg hp]
  | succ f => rw [rdL, if_neg hp]
theorem evF_app (ss ps qs : List Nat) : ∀ i, i ≤ ps.length → evF ss (ps ++ qs) i = evF ss ps i
  | 0, _ => rfl
  | i + 1, h => by
    rw [evF, evF, evF_app ss ps qs i (by omega), List.getElem?_append_left (by omega)]
theorem evF_le (ss ps : List Nat) : ∀ i, evF ss ps i ≤ i
  | 0 => Nat.le_refl _
  | i + 1 => by
    have := evF_le ss ps i
    rw [evF]; split <;> omega
theorem opt_map_app {α : Type} {o : Option (List α)} {a : α} {l : List α} : (o.map (a :: ·)).map (l ++ ·) = o.map ((l ++ [a]) ++ ·) := by
  cases o with
  | none => rfl
  | some x => simp
/-- What the loop of Decode knows. -/
structure DecI (body : List UInt8) (done : List (En × Nat)) (p : Nat) (key : List UInt8) (f : Nat) : Prop where
  all : rdL body body.length 0 [] = (rdL body f p key).map (done ++ ·)
  fuel : body.length ≤ p + f
  le : p ≤ body.length
  key : key.length ≤ p
  len : done.length ≤ p
  siz : ∀ y ∈ done, y.1.key.length ≤ body.length ∧ y.1.val.length ≤ body.length ∧ y.1.seq < 2 ^ 64
theorem DecI.start (body : List UInt8) : DecI body [] 0 [] body.length := ⟨by cases rdL body body.length 0 [] <;> simp, by omega, Nat.zero_le _, Nat.zero_le _, Nat.zero_le _, by simp⟩
theorem DecI.step {body key : List UInt8} {done : List (En × Nat)} {p p' f : Nat} {x : En} (h : DecI body done p key f) (hp : p < body.length) (hr : rdE body p key = some (x, p')) : ∃ f', DecI body (done ++ [(x, p)]) p' x.key f' ∧ p < p' := by
  have h1 := rdE_inv hr
  have h2 := rdE_bnd hr
  have hk := h.key
  have hl := h.len
  obtain ⟨f', rfl⟩ : ∃ f', f = f' + 1 := ⟨f - 1, by have := h.fuel; omega⟩
  refine ⟨f', ⟨?_, ?_, h1.2, ?_, ?_, fun y hy => ?_⟩, h1.1⟩
  · rw [h.all, rdL_step hp hr, opt_map_app]
  · have := h.fuel; omega
  · omega
  · rw [List.length_append]; simp; omega
  · rcases List.mem_append.1 hy with hy | hy
    · exact h.siz y hy
    · rw [List.mem_singleton.1 hy]
      show x.key.length ≤ body.length ∧ x.val.length ≤ body.length ∧ x.seq < 2 ^ 64
      exact ⟨by omega, by omega, h2.2.2⟩
theorem DecI.bad {body key : List UInt8} {done : List (En × Nat)} {p f : Nat} (h : DecI body done p key f) (hp : p < body.length) (hr : rdE body p key = none) : rdL body body.length 0 [] = none := by
  obtain ⟨f', rfl⟩ : ∃ f', f = f' + 1 := ⟨f - 1, by have := h.fuel; omega⟩
  rw [h.all, rdL_bad hp hr]; rfl
theorem DecI.fin {body key : List UInt8} {done : List (En × Nat)} {p f : Nat} (h : DecI body done p key f) (hp : ¬ p < body.length) : rdL body body.length 0 [] = some done := by rw [h.all, rdL_end hp]; simp
set_option maxRecDepth 8000 in
theorem decode_any {A : Option Addr} {n c : Nat} {xs : List UInt8} {w : World} (hr : RdB w A xs) (hn : xs.length = n) (hc : xs.length ≤ c) (hl : xs.length ≤ 1099511627776) :
    CallsV Tryd.prog 17 #[.slice A n c] w fun v w' => ∃ (R : Option Addr) (rc : Nat), v = .tuple #[.slice R (decB xs).1.length rc, .int .i64 ((decB xs).2 : Nat)] ∧ St NoB w w' [.ck (rsC 4 39 R rc ((decB xs).1.map oE))] := by
  subst hn
  refine calls_in (N := _) Tryd.func17 rfl Tryd.ntmps17 rfl ?_; show WC _ _ _ _ _ _
  refine wc_sr ?_; refine wl_as rfl rfl ?_; refine wl_as rfl rfl ?_; refine wl_ns ?_; refine wc_sr ?_; refine wl_mv rfl rfl ?_
  obtain ⟨⟨⟨body, ss⟩, e⟩, hsp⟩ : ∃ q, splB xs = q := ⟨_, rfl⟩
  obtain ⟨hs1, hs2, hs3⟩ := spl_small hsp
  refine wl_call ok_block_split (split_any hr rfl hc hl) ⟨rfl, trivial⟩ rfl ?_
  rw [hsp]
  rintro _ w1 ⟨P, pc, Q, qc, rfl, hpc, rP, rQ, hb⟩
  dsimp only at hpc rP rQ ⊢
  by_cases he : e = 0
  · subst he
    have hdec : decB xs = (match rdL body body.length 0 [] with
      | none => ([], 3)
      | some r => if buildB (evL ss (r.map (·.2))) (r.map (·.1)) = (xs, 0) then (r.map (·.1), 0) else ([], 3)) := by rw [dec_spl, hsp]; rfl
    have hs := (St.init w1).nilO 5
    refine wl_mv rfl rfl ?_; apply wl_val; apply opv_extract; exact rfl; exact rfl; exact rfl; apply wl_val; apply opv_extract; exact rfl; exact rfl; exact rfl; apply wl_val; apply opv_extract; exact rfl; exact rfl; exact rfl; refine wl_as rfl rfl ?_; refine wl_as rfl rfl ?_; refine wl_as rfl rfl ?_; refine wl_ns ?_; refine wc_seq ?_; refine wc_sr ?_; refine wl_mv rfl rfl ?_; refine wl_bin rfl rfl bin_neq rfl ?_; refine wl_ns ?_; apply wc_condFb; exact rfl; exact rfl; refine wc_skip ?_; refine we_seq ?_; refine wc_sr ?_; refine wl_as rfl rfl ?_; refine wl_ns ?_; refine wc_sr ?_; refine wl_as rfl rfl ?_; refine wl_ns ?_; refine wc_sr ?_; refine wl_mv rfl rfl ?_
    refine wl_val (opv_build (vs := [(0, .slice P body.length pc)]) (cs := rdV P body.length pc 0 none 0 0 false) ⟨rfl, rfl, trivial⟩ (by kernel_rfl)) rfl ?_
    refine ws_box (cs := rdV P body.length pc 0 none 0 0 false) hs rfl rfl ?_; clear hs; intro g9 _ hs
    replace hs := hs.nilS 4 39
    refine wl_as rfl rfl ?_; refine wl_ns ?_; refine wc_seq ?_; refine wc_block ?_
    refine wc_loop (fun L wr mm => ∃ (done : List (En × Nat)) (p : Nat) (key : List UInt8) (f : Nat) (R : Option Addr) (rc : Nat) (K : Option Addr) (kc : Nat), L = [(0, .slice A xs.length c), (4, .slice P body.length pc), (5, .slice Q ss.length qc), (7, .slice R done.length rc), (8, .int .i64 (evF ss (done.map (·.2)) done.length : Nat)), (9, .pointer (some ⟨g9, 0, none⟩))] ∧ DecI body done p key f ∧ St NoB w1 wr [.ck (rsC 4 39 R rc ((done.map (·.1)).map oE)), .blk g9 91 (rdV P body.length pc (p : Nat) K key.length kc false), .ow 5 K key.length kc (bvs key)] ∧ mm = body.length - p)
      [(0, .slice A xs.length c), (4, .slice P body.length pc), (5, .slice Q ss.length qc), (7, .slice none 0 0), (8, .int .i64 0), (9, .pointer (some ⟨g9, 0, none⟩))] body.length ⟨[], 0, [], body.length, none, 0, none, 0, rfl, DecI.start body, hs, rfl⟩ ⟨rfl, rfl, rfl, rfl, rfl, rfl, trivial⟩ ?_
    clear hs
    rintro _ w2 mm ⟨done, p, key, f, R, rc, K, kc, rfl, hI, hs, rfl⟩
    unfold rdV at hs
    refine wc_seq ?_; refine wc_sr ?_; refine wl_mv rfl rfl ?_; apply wl_val; apply opv_nilOk; exact rfl; exact rfl; apply wl_val; apply opv_fa; exact fa_R (by decide); exact rfl; exact rfl; apply wl_val; apply opv_ldX; exact rfl; exact hs.ar 1 rfl; exact e1_iB; exact rfl; exact rfl; refine wl_mv rfl rfl ?_; apply wl_val; apply opv_len; exact rfl; exact tyB.sl; exact rfl; refine wl_bin rfl rfl bin_lss rfl ?_; refine wl_ns ?_
    refine wc_cond rfl (fun h1 => ?_) (fun h1 => ?_)
    · have hlt : p < body.length := by omega
      have hbw := hs.bel
      have hQ := rQ.below hbw
      have hpl : (done.map (·.2) ++ [p])[done.length]? = some p := by rw [List.getElem?_append_right (by simp)]; simp
      refine wc_skip ?_; refine we_seq ?_; refine wc_block ?_; refine wc_seq ?_; refine wc_seq ?_
      refine wc_cutE (fun L' w' => ∃ t : Bool, L' = [(0, .slice A xs.length c), (4, .slice P body.length pc), (5, .slice Q ss.length qc), (7, .slice R done.length rc), (8, .int .i64 (evF ss (done.map (·.2)) done.length : Nat)), (9, .pointer (some ⟨g9, 0, none⟩)), (47, .bool t)] ∧ St NoB w1 w' [.ck (rsC 4 39 R rc ((done.map (·.1)).map oE)), .blk g9 91 [.slice P body.length pc, .int .i64 (p : Int), .slice K key.length kc, .bool false], .ow 5 K key.length kc (bvs key)] ∧ (t = true ↔ (1 < ss.length ∧ some p = ss[1]? ∧ evF ss (done.map (·.2)) done.length = 0))) ?_ ?_
      · by_cases k1 : 1 < ss.length
        · obtain ⟨s1, hs1⟩ : ∃ s, ss[1]? = some s := ⟨_, List.getElem?_eq_getElem k1⟩
          have hu : (natV ss)[1]? = some (.int .i64 (s1 : Int)) := by rw [natV, List.getElem?_map, hs1]; rfl
          have k1' : (1 : Int) < (ss.length : Int) := by omega
          have a9 := hs.ar 1 rfl
          by_cases k2 : p = s1
          · have k2' : (p : Int) = (s1 : Int) := by omega
            refine wc_drawB mixed (by kernel_rfl) ?_
            apply wq_val; intro _ hw_; apply opv_move; exact rfl; exact rfl; apply wq_val; intro _ hw_; apply opv_len; exact rfl; exact tyI.sl; exact rfl; apply wq_val; intro _ hw_; apply opv_bin; exact rfl; exact rfl; exact bin_gtr; exact rfl; apply wq_val; intro _ hw_; apply opv_move; exact rfl; exact rfl; apply wq_take; exact rfl; exact rfl; exact rfl; refine bT ?_; (with_reducible assumption); apply wq_val; intro _ hw_; apply opv_move; exact rfl; exact rfl; apply wq_take; exact rfl; exact rfl; exact rfl; refine bT ?_; (with_reducible assumption); apply wq_val; intro _ hw_; apply opv_nilOk; exact rfl; exact rfl; apply wq_take; exact rfl; exact rfl; exact rfl; refine bT ?_; (with_reducible assumption); apply wq_val; intro _ hw_; apply opv_fa; exact fa_R (by decide); exact rfl; exact rfl; apply wq_take; exact rfl; exact rfl; exact rfl; refine bT ?_; (with_reducible assumption); apply wq_val; intro _ hw_; apply opv_ldX; exact rfl; exact Ar.bel (by assumption) hw_; exact e1_iB; exact rfl; exact rfl; apply wq_take; exact rfl; exact rfl; exact rfl; refine bT ?_; (with_reducible assumption); apply wq_val; intro _ hw_; apply opv_move; exact rfl; exact rfl; apply wq_elTK (T := tyI) (hr := hQ) (hb := hu); exact rfl; exact rfl; exact rfl; refine bT ?_; (with_reducible assumption); exact rfl; exact rfl; exact rfl; exact rfl; refine bT ?_; (with_reducible assumption); exact rfl; exact rfl; exact rfl; exact rfl; exact rfl; intro _; apply wq_take; exact rfl; exact rfl; exact rfl; refine bT ?_; (with_reducible assumption); apply wq_val; intro _ hw_; apply opv_bin; exact rfl; exact rfl; exact bin_eql; exact rfl; apply wq_val; intro _ hw_; apply opv_pickT; exact rfl; refine bT ?_; (with_reducible assumption); exact rfl; exact rfl; apply wq_val; intro _ hw_; apply opv_move; exact rfl; exact rfl; apply wq_take; exact rfl; exact rfl; exact rfl; refine bT ?_; (with_reducible assumption); apply wq_val; intro _ hw_; apply opv_move; exact rfl; exact rfl; apply wq_take; exact rfl; exact rfl; exact rfl; refine bT ?_; (with_reducible assumption); apply wq_val; intro _ hw_; apply opv_bin; exact rfl; exact rfl; exact bin_eql; exact rfl; apply wq_val; intro _ hw_; apply opv_pickT; exact rfl; refine bT ?_; (with_reducible assumption); exact rfl; exact rfl; refine wq_nil fun w1 hw1 => ?_
            replace hs := hs.below hw1
            skip
            refine we_cut _ ⟨decide (((evF ss (done.map (·.2)) done.length : Nat) : Int) = 0), rfl, hs, ?_⟩ ⟨rfl, rfl, rfl, rfl, rfl, rfl, rfl, trivial⟩
            rw [decide_eq_true_eq]
            constructor
            · intro h; exact ⟨k1, by rw [hs1, k2], by omega⟩
            · intro h; omega
          · have k2' : ¬ (p : Int) = (s1 : Int) := by omega
            refine wc_drawB mixed (by kernel_rfl) ?_
            apply wq_val; intro _ hw_; apply opv_move; exact rfl; exact rfl; apply wq_val; intro _ hw_; apply opv_len; exact rfl; exact tyI.sl; exact rfl; apply wq_val; intro _ hw_; apply opv_bin; exact rfl; exact rfl; exact bin_gtr; exact rfl; apply wq_val; intro _ hw_; apply opv_move; exact rfl; exact rfl; apply wq_take; exact rfl; exact rfl; exact rfl; refine bT ?_; (with_reducible assumption); apply wq_val; intro _ hw_; apply opv_move; exact rfl; exact rfl; apply wq_take; exact rfl; exact rfl; exact rfl; refine bT ?_; (with_reducible assumption); apply wq_val; intro _ hw_; apply opv_nilOk; exact rfl; exact rfl; apply wq_take; exact rfl; exact rfl; exact rfl; refine bT ?_; (with_reducible assumption); apply wq_val; intro _ hw_; apply opv_fa; exact fa_R (by decide); exact rfl; exact rfl; apply wq_take; exact rfl; exact rfl; exact rfl; refine bT ?_; (with_reducible assumption); apply wq_val; intro _ hw_; apply opv_ldX; exact rfl; exact Ar.bel (by assumption) hw_; exact e1_iB; exact rfl; exact rfl; apply wq_take; exact rfl; exact rfl; exact rfl; refine bT ?_; (with_reducible assumption); apply wq_val; intro _ hw_; apply opv_move; exact rfl; exact rfl; apply wq_elTK (T := tyI) (hr := hQ) (hb := hu); exact rfl; exact rfl; exact rfl; refine bT ?_; (with_reducible assumption); exact rfl; exact rfl; exact rfl; exact rfl; refine bT ?_; (with_reducible assumption); exact rfl; exact rfl; exact rfl; exact rfl; exact rfl; intro _; apply wq_take; exact rfl; exact rfl; exact rfl; refine bT ?_; (with_reducible assumption); apply wq_val; intro _ hw_; apply opv_bin; exact rfl; exact rfl; exact bin_eql; exact rfl; apply wq_val; intro _ hw_; apply opv_pickT; exact rfl; refine bT ?_; (with_reducible assumption); exact rfl; exact rfl; apply wq_val; intro _ hw_; apply opv_move; exact rfl; exact rfl; apply wq_skip; exact rfl; exact rfl; exact rfl; refine bFn ?_; (with_reducible assumption); exact rfl; apply wq_skip; exact rfl; exact rfl; exact rfl; refine bFn ?_; (with_reducible assumption); exact rfl; apply wq_val; intro _ hw_; apply opv_pickF; exact rfl; refine bF ?_; (with_reducible assumption); exact rfl; exact rfl; refine wq_nil fun w1 hw1 => ?_
            replace hs := hs.below hw1
            skip
            refine we_cut _ ⟨false, rfl, hs, ?_⟩ ⟨rfl, rfl, rfl, rfl, rfl, rfl, rfl, trivial⟩
            constructor
            · intro h; cases h
            · rintro ⟨_, h, _⟩; rw [hs1] at h; exact absurd (Option.some.inj h) k2
        · have k1' : ¬ (1 : Int) < (ss.length : Int) := by omega
          refine wc_drawB mixed (by kernel_rfl) ?_
          apply wq_val; intro _ hw_; apply opv_move; exact rfl; exact rfl; apply wq_val; intro _ hw_; apply opv_len; exact rfl; exact tyI.sl; exact rfl; apply wq_val; intro _ hw_; apply opv_bin; exact rfl; exact rfl; exact bin_gtr; exact rfl; apply wq_val; intro _ hw_; apply opv_move; exact rfl; exact rfl; apply wq_skip; exact rfl; exact rfl; exact rfl; refine bFn ?_; (with_reducible assumption); exact rfl; apply wq_skip; exact rfl; exact rfl; exact rfl; refine bFn ?_; (with_reducible assumption); exact rfl; apply wq_skip; exact rfl; exact rfl; exact rfl; refine bFn ?_; (with_reducible assumption); exact rfl; apply wq_skip; exact rfl; exact rfl; exact rfl; refine bFn ?_; (with_reducible assumption); exact rfl; apply wq_skip; exact rfl; exact rfl; exact rfl; refine bFn ?_; (with_reducible assumption); exact rfl; apply wq_skip; exact rfl; exact rfl; exact rfl; refine bFn ?_; (with_reducible assumption); exact rfl; apply wq_skip; exact rfl; exact rfl; exact rfl; refine bFn ?_; (with_reducible assumption); exact rfl; apply wq_skip; exact rfl; exact rfl; exact rfl; refine bFn ?_; (with_reducible assumption); exact rfl; apply wq_val; intro _ hw_; apply opv_pickF; exact rfl; refine bF ?_; (with_reducible assumption); exact rfl; exact rfl; apply wq_val; intro _ hw_; apply opv_move; exact rfl; exact rfl; apply wq_skip; exact rfl; exact rfl; exact rfl; exact bR2; exact rfl; apply wq_skip; exact rfl; exact rfl; exact rfl; exact bR2; exact rfl; apply wq_val; intro _ hw_; apply opv_pickF; exact rfl; exact rfl; exact rfl; exact rfl; refine wq_nil fun w1 hw1 => ?_
          replace hs := hs.below hw1
          skip
          refine we_cut _ ⟨false, rfl, hs, ?_⟩ ⟨rfl, rfl, rfl, rfl, rfl, rfl, rfl, trivial⟩
          constructor
          · intro h; cases h
          · rintro ⟨h, _⟩; exact absurd h k1
      clear hs
      rintro _ w3 ⟨t, rfl, hs, ht⟩
      have hev0 : evF ss (done.map (·.2) ++ [p]) done.length = evF ss (done.map (·.2)) done.length := evF_app _ _ _ _ (by simp)
      refine we_seq ?_
      refine wc_cutE (fun L' w' => L' = [(0, .slice A xs.length c), (4, .slice P body.length pc), (5, .slice Q ss.length qc), (7, .slice R done.length rc), (8, .int .i64 (evF ss (done.map (·.2) ++ [p]) (done.length + 1) : Nat)), (9, .pointer (some ⟨g9, 0, none⟩))] ∧ St NoB w1 w' [.ck (rsC 4 39 R rc ((done.map (·.1)).map oE)), .blk g9 91 [.slice P body.length pc, .int .i64 (p : Int), .slice K key.length kc, .bool false], .ow 5 K key.length kc (bvs key)]) ?_ ?_
      · cases t with
        | true =>
          have hev : evF ss (done.map (·.2) ++ [p]) (done.length + 1) = done.length := by rw [evF, hpl, hev0, if_pos (ht.1 rfl)]
          rw [hev]
          apply wc_condTb; exact rfl; exact rfl; refine wc_region ?_; refine wl_mv rfl rfl ?_; apply wl_val; apply opv_len; exact rfl; exact tkE.sl; exact rfl; refine wl_as rfl rfl ?_; refine wl_nil ?_
          exact we_cut _ ⟨rfl, hs⟩ ⟨rfl, rfl, rfl, rfl, rfl, rfl, trivial⟩
        | false =>
          have hev : evF ss (done.map (·.2) ++ [p]) (done.length + 1) = evF ss (done.map (·.2)) done.length := by rw [evF, hpl, hev0, if_neg fun h => by have := ht.2 h; cases this]
          rw [hev]
          apply wc_condFb; exact rfl; exact rfl; refine wc_skip ?_
          exact we_cut _ ⟨rfl, hs⟩ ⟨rfl, rfl, rfl, rfl, rfl, rfl, trivial⟩
      clear hs
      rintro _ w4 ⟨rfl, hs⟩
      have hdl := hI.len
      have hkl := hI.key
      refine we_seq ?_; refine wc_sr ?_; refine wl_mv rfl rfl ?_; refine wl_mv rfl rfl ?_
      obtain ⟨S2, hS2, _, hM, hH, hB⟩ := St.lend (H1 := [.blk g9 91 (rdV P body.length pc (p : Nat) K key.length kc false), .ow 5 K key.length kc (bvs key)]) (H2 := [.ck (rsC 4 39 R rc ((done.map (·.1)).map oE))]) ((hs.front 2 rfl).front 2 rfl)
      refine wl_call ok_block_reader_entry (rdEntry_any (xs := body) hS2 (fun w' hm => rP.below (hM w' hm).below) rfl hpc (by omega) hI.le (by omega)) ⟨rfl, trivial⟩ rfl ?_
      intro v w5 hout
      cases hrd : rdE body p key with
      | none =>
        rw [hrd] at hout
        obtain ⟨p', K', kc', rfl, hsx⟩ := hout
        replace hs := hB _ _ hsx
        clear hB hsx hS2 hM hH
        dsimp only [List.cons_append, List.nil_append] at hs
        replace hs := (((hs.nilO 5).nilO 5).pack (H1 := enOw ⟨[], 0, 0, []⟩ none 0 none 0) (.ce (oE ⟨[], 0, 0, []⟩) (enV ⟨[], 0, 0, []⟩ none 0 none 0)) oE_of).front 2 rfl
        dsimp only [delC] at hs
        have hnone := hI.bad hlt hrd
        rw [hnone] at hdec
        rw [hdec]
        skip
        refine ws_pushS hs tkE (fun _ => rfl) (by simp) ⟨_, rfl, rfl⟩ rfl rfl (by decide) (by omega) (by simp only [maxLen]; omega) rfl rfl ?_; clear hs; intro _ R2 c2 _ hs
        unfold rdV at hs
        refine wl_as rfl rfl ?_; refine wl_ns ?_; refine wc_sr ?_; refine wl_mv rfl rfl ?_; apply wl_val; apply opv_nilOk; exact rfl; exact rfl; apply wl_val; apply opv_fa; exact fa_R (by decide); exact rfl; exact rfl; apply wl_val; apply opv_ldX; exact rfl; exact hs.ar 1 rfl; exact e1_bB; exact rfl; exact rfl; refine wl_ns ?_; apply wc_condTb; exact rfl; exact rfl; refine wc_sr ?_; refine wl_as rfl rfl ?_; refine wl_as rfl rfl ?_; refine wl_ns ?_; refine wc_ret ?_; refine we_block_ret ?_; refine we_loop_ret ?_; refine we_block_ret ?_; refine we_seq_ret ?_
        exact we_ret2 rfl rfl rfl ⟨_, rfl, none, 0, rfl, (hs.nil.nilS 4 39).rebase hb⟩
      | some y =>
        obtain ⟨x, p'⟩ := y
        rw [hrd] at hout
        obtain ⟨X, cx, Y, cy, K', kc', rfl, hsx⟩ := hout
        replace hs := hB _ _ hsx
        clear hB hsx hS2 hM hH
        dsimp only [List.cons_append, List.nil_append] at hs
        replace hs := (hs.pack (H1 := enOw x X cx Y cy) (.ce (oE x) (enV x X cx Y cy)) oE_of).front 3 rfl
        dsimp only [delC] at hs
        obtain ⟨f', hI2, hpp⟩ := hI.step hlt hrd
        have hle2 := hI2.le
        skip
        refine ws_pushS hs tkE (fun _ => rfl) (by simp) ⟨_, rfl, rfl⟩ rfl rfl (by decide) (by omega) (by simp only [maxLen]; omega) rfl rfl ?_; clear hs; intro _ R2 c2 _ hs
        unfold rdV at hs
        refine wl_as rfl rfl ?_; refine wl_ns ?_; refine wc_sr ?_; refine wl_mv rfl rfl ?_; apply wl_val; apply opv_nilOk; exact rfl; exact rfl; apply wl_val; apply opv_fa; exact fa_R (by decide); exact rfl; exact rfl; apply wl_val; apply opv_ldX; exact rfl; exact hs.ar 1 rfl; exact e1_bB; exact rfl; exact rfl; refine wl_ns ?_; apply wc_condFb; exact rfl; exact rfl; refine wc_skip ?_; refine we_block_norm ?_
        refine we_loop _ (body.length - p') ⟨done ++ [(x, p)], p', x.key, f', R2, c2, K', kc', rfl, hI2, by rw [List.map_append, List.map_append]; exact hs, rfl⟩ (by omega) ⟨rfl, rfl, rfl, by rw [List.length_append]; rfl, by rw [List.map_append, List.length_append]; rfl, rfl, trivial⟩
    · have hfin := hI.fin (by omega)
      rw [hfin] at hdec
      dsimp only at hdec
      have hlen := hI.len
      have hple := hI.le
      have hel := evF_le ss (done.map (·.2)) done.length
      have hpos : 0 < evL ss (done.map (·.2)) ∧ evL ss (done.map (·.2)) ≤ 1048577 := by
        unfold evL; rw [List.length_map]; split <;> omega
      refine wc_exit ?_; refine we_seq_exit ?_; refine we_loop_exit ?_; refine we_block_exit ?_; refine we_seq ?_; refine wc_seq ?_; refine wc_sr ?_; refine wl_mv rfl rfl ?_; refine wl_bin rfl rfl bin_eql rfl ?_; refine wl_ns ?_
      refine wc_cutE (fun L' w' => L' = [(0, .slice A xs.length c), (4, .slice P body.length pc), (5, .slice Q ss.length qc), (7, .slice R done.length rc), (8, .int .i64 (evL ss (done.map (·.2)) : Nat)), (9, .pointer (some ⟨g9, 0, none⟩))] ∧ w' = w2) ?_ ?_
      · by_cases hev : evF ss (done.map (·.2)) done.length = 0
        · have hevL : evL ss (done.map (·.2)) = done.length + 1 := by unfold evL; rw [List.length_map, if_pos hev]
          have hev' : ((evF ss (done.map (·.2)) done.length : Nat) : Int) = 0 := by omega
          rw [hevL]
          apply wc_decT; exact rfl; (with_reducible assumption); refine wc_region ?_; refine wl_mv rfl rfl ?_; apply wl_val; apply opv_len; exact rfl; exact tkE.sl; exact rfl; apply wl_val; apply opv_bin; exact rfl; exact rfl; exact bin_add64 (by omega); exact rfl; refine wl_as rfl rfl ?_; refine wl_nil ?_
          exact we_cut _ ⟨rfl, rfl⟩ ⟨rfl, rfl, rfl, rfl, rfl, rfl, trivial⟩
        · have hevL : evL ss (done.map (·.2)) = evF ss (done.map (·.2)) done.length := by unfold evL; rw [List.length_map, if_neg hev]
          have hev' : ¬ ((evF ss (done.map (·.2)) done.length : Nat) : Int) = 0 := by omega
          rw [hevL]
          apply wc_decF; exact rfl; (with_reducible assumption); refine wc_skip ?_
          exact we_cut _ ⟨rfl, rfl⟩ ⟨rfl, rfl, rfl, rfl, rfl, rfl, trivial⟩
      rintro _ _ ⟨rfl, rfl⟩
      refine we_seq ?_
      refine wc_seq ?_; refine wc_sr ?_; refine wl_mv rfl rfl ?_; refine wl_mv rfl rfl ?_
      obtain ⟨⟨B, eb⟩, hbB⟩ : ∃ q, buildB (evL ss (done.map (·.2))) (done.map (·.1)) = q := ⟨_, rfl⟩
      have hbw := hs.bel
      refine wl_call ok_block_Build (blkBuild_any (l := done.map (·.1)) hpos.1 (by omega) (OwR.rd (hs.rsE 0 rfl)) (by simp) (by simp; omega) (by
        intro x hx
        obtain ⟨y, hy, rfl⟩ := List.mem_map.1 hx
        have := hI.siz y hy
        exact ⟨by omega, by omega, this.2.2⟩)) ⟨rfl, rfl, trivial⟩ rfl ?_
      rw [hbB] at hdec ⊢
      rintro _ w3 ⟨BA, bc, rfl, oB, hb3⟩
      dsimp only at oB ⊢
      replace hs := hs.below hb3
      have hbw3 := hs.bel
      by_cases k1 : eb = 0
      · subst k1
        refine wl_mv rfl rfl ?_; apply wl_val; apply opv_extract; exact rfl; exact rfl; exact rfl; apply wl_val; apply opv_extract; exact rfl; exact rfl; exact rfl; refine wl_as rfl rfl ?_; refine wl_as rfl rfl ?_; refine wl_ns ?_; refine wc_sr ?_; refine wl_mv rfl rfl ?_; refine wl_bin rfl rfl bin_neq rfl ?_; refine wl_mv rfl rfl ?_; apply wl_take; exact rfl; exact rfl; exact rfl; refine bF ?_; omega; refine wl_mv rfl rfl ?_; apply wl_take; exact rfl; exact rfl; exact rfl; refine bF ?_; omega; refine wl_mv rfl rfl ?_; apply wl_take; exact rfl; exact rfl; exact rfl; refine bF ?_; omega
        refine wl_call ok_bytes_Equal (beq_any (oB.rd) ((hr.below hb).below hbw3) rfl rfl) ⟨rfl, rfl, trivial⟩ rfl ?_
        rintro _ _ ⟨rfl, rfl⟩
        by_cases k2 : B = xs
        · rw [if_pos (by rw [k2])] at hdec
          rw [hdec]
          have k2' : ¬ ¬ B = xs := fun h => h k2
          apply wl_take; exact rfl; exact rfl; exact rfl; refine bF ?_; omega; apply wl_val; apply opv_notD; exact rfl; exact rfl; apply wl_val; apply opv_pickF; exact rfl; refine bF ?_; omega; exact rfl; exact rfl; refine wl_ns ?_; apply wc_decF; exact rfl; (with_reducible assumption); refine wc_skip ?_; refine we_seq ?_; refine wc_sr ?_; refine wl_mv rfl rfl ?_; refine wl_as rfl rfl ?_; refine wl_as rfl rfl ?_; refine wl_ns ?_; refine wc_ret ?_
          exact we_ret2 rfl rfl rfl ⟨_, rfl, R, rc, by rw [List.length_map]; rfl, ((hs.drop 1 rfl).drop 1 rfl).rebase hb⟩
        · rw [if_neg fun h => k2 (Prod.mk.inj h).1] at hdec
          rw [hdec]
          apply wl_take; exact rfl; exact rfl; exact rfl; refine bF ?_; omega; apply wl_val; apply opv_notD; exact rfl; exact rfl; apply wl_val; apply opv_pickF; exact rfl; refine bF ?_; omega; exact rfl; exact rfl; refine wl_ns ?_; apply wc_decT; exact rfl; (with_reducible assumption); refine wc_sr ?_; refine wl_as rfl rfl ?_; refine wl_as rfl rfl ?_; refine wl_ns ?_; refine wc_ret ?_; refine we_seq_ret ?_
          exact we_ret2 rfl rfl rfl ⟨_, rfl, none, 0, rfl, (hs.nil.nilS 4 39).rebase hb⟩
      · have k1' : ¬ (eb : Int) = 0 := by omega
        have hne : ¬ (B, eb) = (xs, 0) := fun h => k1 (Prod.mk.inj h).2
        rw [if_neg hne] at hdec
        rw [hdec]
        refine wl_mv rfl rfl ?_; apply wl_val; apply opv_extract; exact rfl; exact rfl; exact rfl; apply wl_val; apply opv_extract; exact rfl; exact rfl; exact rfl; refine wl_as rfl rfl ?_; refine wl_as rfl rfl ?_; refine wl_ns ?_; refine wc_sr ?_; refine wl_mv rfl rfl ?_; refine wl_bin rfl rfl bin_neq rfl ?_; refine wl_mv rfl rfl ?_; apply wl_skip; exact rfl; exact rfl; exact rfl; refine bTn ?_; (with_reducible assumption); exact rfl; apply wl_skip; exact rfl; exact rfl; exact rfl; refine bTn ?_; (with_reducible assumption); exact rfl; apply wl_skip; exact rfl; exact rfl; exact rfl; refine bTn ?_; (with_reducible assumption); exact rfl; apply wl_skip; exact rfl; exact rfl; exact rfl; refine bTn ?_; (with_reducible assumption); exact rfl; apply wl_val; apply opv_pickT; exact rfl; refine bT ?_; (with_reducible assumption); exact rfl; exact rfl; refine wl_ns ?_; apply wc_condTb; exact rfl; exact rfl; refine wc_sr ?_; refine wl_as rfl rfl ?_; refine wl_as rfl rfl ?_; refine wl_ns ?_; refine wc_ret ?_; refine we_seq_ret ?_
        exact we_ret2 rfl rfl rfl ⟨_, rfl, none, 0, rfl, (hs.nil.nilS 4 39).rebase hb⟩
  · have he' : ((e : Nat) : Int) ≠ 0 := by omega
    have hdec : decB xs = ([], e) := by
      rw [dec_spl, hsp]
      cases e with
      | zero => exact absurd rfl he
      | succ e => rfl
    rw [hdec]
    refine wl_mv rfl rfl ?_; apply wl_val; apply opv_extract; exact rfl; exact rfl; exact rfl; apply wl_val; apply opv_extract; exact rfl; exact rfl; exact rfl; apply wl_val; apply opv_extract; exact rfl; exact rfl; exact rfl; refine wl_as rfl rfl ?_; refine wl_as rfl rfl ?_; refine wl_as rfl rfl ?_; refine wl_ns ?_; refine wc_seq ?_; refine wc_sr ?_; refine wl_mv rfl rfl ?_; refine wl_bin rfl rfl bin_neq rfl ?_; refine wl_ns ?_; apply wc_decT; exact rfl; (with_reducible assumption); refine wc_sr ?_; refine wl_mv rfl rfl ?_; refine wl_as rfl rfl ?_; refine wl_as rfl rfl ?_; refine wl_ns ?_; refine wc_ret ?_; refine we_seq_ret ?_
    exact we_ret2 rfl rfl rfl ⟨_, rfl, none, 0, rfl, ((St.init w1).nilS 4 39).rebase hb⟩
end Go.Proofs.YtpnckagibkdcpaaDoor


/-
  Walk over sort.Search.
-/
namespace Go.Proofs.YtpnckagibkdcpaaDoor
open Go.RowKit

/-- The least place at which p holds, of a p that keeps on. -/
structure SchR (n : Nat) (p : Nat → Bool) (i : Nat) : Prop where
  le : i ≤ n
  lo : ∀ k, k < i → p k = false
  hi : i < n → p i = true
theorem search_any {n : Nat} {f : FuncId} {us : Array Value} {p : Nat → Bool} {w : World} (hok : CallOk Tryd.prog f) (hn : n ≤ 4611686018427387903)
    (hf : ∀ k, k < n → ∀ w', Below w.heap.size w w' → CallsV Tryd.prog f (#[] ++ [Value.int .i64 (k : Int)].toArray ++ us) w' fun v w'' => v = .bool (p k) ∧ Below w'.heap.size w' w'')
    (hm : ∀ i j, i ≤ j → j < n → p i = true → p j = true) :
    CallsV Tryd.prog 54 #[.int .i64 (n : Int), .func (.func f) #[] us] w fun v w' => (∃ i : Nat, v = .int .i64 (i : Int) ∧ SchR n p i) ∧ Below w.heap.size w w' := by
  refine calls_in (N := _) Tryd.func54 rfl Tryd.ntmps54 rfl ?_; show WC _ _ _ _ _ _
  refine wc_sr ?_; refine wl_as rfl rfl ?_; refine wl_ns ?_; refine wc_sr ?_; refine wl_mv rfl rfl ?_; refine wl_as rfl rfl ?_; refine wl_as rfl rfl ?_; refine wl_ns ?_; refine wc_seq ?_; refine wc_block ?_
  refine wc_loop (fun L wr m => ∃ lo hi : Nat, L = [(0, .int .i64 (n : Int)), (1, .func (.func f) #[] us), (4, .int .i64 0), (5, .int .i64 (lo : Int)), (6, .int .i64 (hi : Int))] ∧ lo ≤ hi ∧ hi ≤ n ∧ (∀ k, k < lo → p k = false) ∧ (hi < n → p hi = true) ∧ Below w.heap.size w wr ∧ m = hi - lo)
    [(0, .int .i64 (n : Int)), (1, .func (.func f) #[] us), (4, .int .i64 0), (5, .int .i64 0), (6, .int .i64 (n : Int))] n ⟨0, n, rfl, Nat.zero_le _, Nat.le_refl _, fun k h => absurd h (Nat.not_lt_zero _), fun h => absurd h (Nat.lt_irrefl _), Below.refl _ _, rfl⟩ ⟨rfl, rfl, rfl, rfl, rfl, trivial⟩ ?_
  rintro _ w1 m ⟨lo, hi, rfl, h1, h2, h3, h4, hb, rfl⟩
  refine wc_seq ?_; refine wc_sr ?_; refine wl_mv rfl rfl ?_; refine wl_mv rfl rfl ?_; refine wl_bin rfl rfl bin_lss rfl ?_; refine wl_ns ?_
  refine wc_cond rfl (fun hlt => ?_) (fun hlt => ?_)
  · have hlt' : lo < hi := by omega
    refine wc_skip ?_; refine we_seq ?_; refine wc_block ?_; refine wc_sr ?_; refine wl_mv rfl rfl ?_; refine wl_mv rfl rfl ?_; apply wl_val; apply opv_bin; exact rfl; exact rfl; exact bin_add64 (by omega); exact rfl; apply wl_val; apply opv_convR; exact rfl; exact Tryd.underlying3; exact Tryd.underlying109; exact IntWalk.u64_in _ (by omega); exact rfl
    have hx : lo + hi < 2 ^ IntKind.u64.bits := by show _ < 2 ^ 64; omega
    rw [← Int.natCast_add]
    refine wl_val (opv_bin (b := .int .u64 (1 : Nat)) rfl rfl (bin_shr hx)) rfl ?_
    obtain ⟨m, hm1⟩ : ∃ m, (lo + hi) / 2 ^ 1 = m := ⟨_, rfl⟩
    rw [hm1]
    have hm2 : lo ≤ m ∧ m < hi := by omega
    apply wl_val; apply opv_convR; exact rfl; exact Tryd.underlying109; exact Tryd.underlying3; exact IntWalk.i64_in _ (by omega); exact rfl; refine wl_as rfl rfl ?_; refine wl_ns ?_; refine wc_sr ?_; refine wl_mv rfl rfl ?_; refine wl_mv rfl rfl ?_
    refine wl_callF hok rfl (hf m (by omega) w1 hb) ⟨rfl, trivial⟩ rfl ?_
    rintro _ w2 ⟨rfl, hb2⟩
    replace hb2 := hb.trans (hb2.mono hb.size)
    cases hpm : p m with
    | true =>
      apply wl_val; apply opv_not; exact rfl; exact rfl; refine wl_ns ?_; apply wc_condFb; exact rfl; exact Bool.not_true; refine wc_region ?_; refine wl_mv rfl rfl ?_; refine wl_as rfl rfl ?_; refine wl_nil ?_; refine we_block_norm ?_
      refine we_loop _ (m - lo) ⟨lo, m, rfl, hm2.1, by omega, h3, fun _ => hpm, hb2, rfl⟩ (by omega) ⟨rfl, rfl, rfl, rfl, rfl, trivial⟩
    | false =>
      apply wl_val; apply opv_not; exact rfl; exact rfl; refine wl_ns ?_; apply wc_condTb; exact rfl; exact Bool.not_false; refine wc_region ?_; refine wl_mv rfl rfl ?_; apply wl_val; apply opv_bin; exact rfl; exact rfl; exact bin_add64 (by omega); exact rfl; refine wl_as rfl rfl ?_; refine wl_nil ?_; refine we_block_norm ?_
      refine we_loop _ (hi - (m + 1)) ⟨m + 1, hi, rfl, by omega, h2, fun k hk => ?_, h4, hb2, rfl⟩ (by omega) ⟨rfl, rfl, rfl, rfl, rfl, trivial⟩
      cases hpk : p k with
      | false => rfl
      | true => rw [hm k m (by omega) (by omega) hpk] at hpm; cases hpm
  · have : lo = hi := by omega
    subst this
    refine wc_exit ?_; refine we_seq_exit ?_; refine we_loop_exit ?_; refine we_block_exit ?_; refine we_seq ?_; refine wc_sr ?_; refine wl_mv rfl rfl ?_; refine wl_as rfl rfl ?_; refine wl_ns ?_; refine wc_ret ?_
    exact we_ret1 rfl rfl ⟨_, rfl, ⟨lo, rfl, h2, h3, h4⟩, hb⟩
end Go.Proofs.YtpnckagibkdcpaaDoor


/-
  Walk over the test that Seek hands to Search, and over Seek of blocks.
-/
namespace Go.Proofs.YtpnckagibkdcpaaDoor
open Go.RowKit
/-- A struct is handed back by value; beside two results. -/
theorem we_retC2 {P : Program} {N : Nat} {L : FL} {w : World} {t : TypeId} {g : Nat} {cs : List Value} {fn : Func} {R : Ending → World → Prop} {p q r : Nat} {T : TypeId} {u v : Value} (hr : fn.results = #[.cell p t, .tmp q, .tmp r]) (hx : lookT L p = some (.pointer (some ⟨g, 0, none⟩))) (hq : lookT L q = some u) (hv : lookT L r = some v) (ha : Ar w g T cs) (S : StT P t cs.length)
    (h : R (.returned (.tuple #[.agg cs.toArray, u, v])) w) : WE N (bodyPost P fn R) .ret L w := fun a hA =>
  ⟨hA.nodefer, _, by
    obtain ⟨fs, hu⟩ := S.get
    have := run_loadVar_row (P := P) w g T t cs.toArray (0, 0) _ ha hu rfl (by simpa using S.size)
    have e := hA.get p _ hx
    have e2 := hA.get q _ hq
    have e3 := hA.get r _ hv
    rw [Array.getD_eq_getD_getElem?] at e e2 e3
    simp [results, hr, e, e2, e3, asAddr, this], h⟩
/-- New bytes with room behind them, as a piece. -/
def nwC (A : Option Addr) (c : Nat) (xs : List UInt8) : Ck := ⟨fun w S => (∀ a, A = some a → S a.block) ∧ NwB w 0 A c xs, fun {w w' S S'} ⟨h1, h2⟩ hz hm => by
  rcases h2 with ⟨rfl, h⟩ | ⟨g, cs, rfl, hg, ha, h⟩
  · exact ⟨fun a h => (by cases h), .inl ⟨rfl, h⟩⟩
  · have := hm g ha.lt (h1 _ rfl)
    exact ⟨fun a h => (by cases h; exact this.1), .inr ⟨g, cs, rfl, hg, this.2.trans ha, h⟩⟩⟩
theorem St.newN {M : BS} {w0 w w' : World} {H : List Cd} {A : Option Addr} {c : Nat} {xs : List UInt8} (hs : St M w0 w H) (hb : Below w.heap.size w w') (hn : NwB w' w.heap.size A c xs) : St M w0 w' (.ck (nwC A c xs) :: H) :=
  hs.new (T := fun b => w.heap.size ≤ b) (c := .ck (nwC A c xs)) hb ⟨fun a ha => by
    rcases hn with ⟨rfl, _⟩ | ⟨g, cs, rfl, hg, _⟩
    · cases ha
    · cases ha; exact hg, hn.mono (Nat.zero_le _)⟩ fun _ _ h => h
theorem St.nw {M : BS} {w0 w : World} {H : List Cd} {A : Option Addr} {c : Nat} {xs : List UInt8} (h : St M w0 w H) (i : Nat) (hi : nthC H i = some (.ck (nwC A c xs))) : RdB w A xs ∧ xs.length ≤ c := by
  obtain ⟨T, hc, _⟩ := h.get i hi
  exact ⟨hc.2.rd, hc.2.cap⟩
theorem enEl_rdW {w : World} {S : Nat → Prop} {x : En} {A B : Option Addr} {c d : Nat} (h : (enEl x).P w S (enV x A c B d)) : RdB w A x.key ∧ RdB w B x.val := by
  obtain ⟨A', c', B', d', he, r1, _, r2, _⟩ := enEl.rd h
  simp only [enV, List.cons.injEq, Value.slice.injEq] at he
  obtain ⟨⟨rfl, _⟩, _, _, ⟨rfl, _⟩, _⟩ := he
  exact ⟨r1, r2⟩
/-- An element of a row that is told as pieces. -/
theorem zip_rd {w : World} {S : BS} {e : TypeId} {A : Option Addr} {c i : Nat} {l : List En} {css : List (List Value)} {x : En} (h : Sat w (.rg 4 e A c (css.map rawEl) :: zipCe (l.map oE) css) S) (hcl : css.length = (l.map oE).length) (hx : l[i]? = some x) :
    ∃ cs, css[i]? = some cs ∧ (enEl x).P w S cs := by
  obtain ⟨T, hT, h1, h2⟩ := h
  obtain ⟨ho, hk⟩ := OwR.raw h1.2
  have hi : i < css.length := by rw [hcl, List.length_map]; exact (List.getElem?_eq_some_iff.1 hx).1
  refine ⟨css[i], List.getElem?_eq_getElem hi, ?_⟩
  obtain ⟨_, E, h3, h4⟩ := (zipCe_grp h2 hcl hk).2 i _ (List.getElem?_eq_getElem hi)
  rw [List.getElem?_map, hx] at h3
  cases h3
  exact El.mono (oE_en h4) fun b _ h => h.1
theorem zeroR : (Tryd.prog.info? 22).map (·.zero) = some (some (.slice none 0 0)) := by kernel_rfl
theorem rdL_len {b : List UInt8} : ∀ {f p : Nat} {key : List UInt8} {r : List (En × Nat)}, rdL b f p key = some r → p ≤ b.length → r.length ≤ b.length - p
  | 0, p, key, r, h, _ => by
    rw [rdL] at h
    split at h
    · cases h
    · cases h; exact Nat.zero_le _
  | f + 1, p, key, r, h, hp => by
    by_cases hlt : p < b.length
    · cases hr : rdE b p key with
      | none => rw [rdL_bad hlt hr] at h; cases h
      | some y =>
        obtain ⟨x, p'⟩ := y
        rw [rdL_step hlt hr] at h
        have hi := rdE_inv hr
        cases hr2 : rdL b f p' x.key with
        | none => rw [hr2] at h; cases h
        | some r2 =>
          rw [hr2] at h
          cases h
          have := rdL_len hr2 hi.2
          rw [List.length_cons]; omega
    · rw [rdL_end hlt] at h; cases h; exact Nat.zero_le _
/-- What a block that is read well is. -/
theorem dec_ok {b : List UInt8} {l : List En} {e : Nat} (h : decB b = (l, e)) : l.length ≤ 1048576 ∧ (e = 0 → Ord l) := by
  rw [dec_spl] at h
  obtain ⟨⟨⟨body, ss⟩, e'⟩, hsp⟩ : ∃ q, splB b = q := ⟨_, rfl⟩
  have hs := spl_small hsp
  rw [hsp] at h
  cases e' with
  | succ e' => cases h; exact ⟨Nat.zero_le _, fun h => by cases h⟩
  | zero =>
    replace h : (match rdL body body.length 0 [] with
      | none => ([], 3)
      | some r => if buildB (evL ss (r.map (·.2))) (r.map (·.1)) = (b, 0) then (r.map (·.1), 0) else ([], 3)) = (l, e) := h
    cases hr : rdL body body.length 0 [] with
    | none => rw [hr] at h; cases h; exact ⟨Nat.zero_le _, fun h => by cases h⟩
    | some r =>
      rw [hr] at h
      dsimp only at h
      split at h
      · rename_i hb
        cases h
        have h1 := rdL_len hr (Nat.zero_le _)
        refine ⟨by rw [List.length_map]; omega, fun _ => ord_of ?_⟩
        unfold buildB at hb
        split at hb
        · cases hb
        · split at hb
          · split at hb
            · rename_i hk; exact hk.2
            · cases hb
          · rename_i hk; exact absurd (Prod.mk.inj hb).2 hk
      · cases h; exact ⟨Nat.zero_le _, fun h => by cases h⟩
def noE : En := ⟨[], 0, 0, []⟩
/-- What Seek answers. -/
def sekE (l : List En) (y : En) : Option En := l.find? fun x => !lessE x y
def sekB (b : List UInt8) (y : En) : En × Bool × Nat :=
  match decB b with
  | (l, 0) => ((sekE l y).getD noE, (sekE l y).isSome, 0)
  | (_, e) => (noE, false, e)
theorem sek_at {l : List En} {y : En} {i : Nat} (h : SchR l.length (fun k => !lessE (l[k]?.getD noE) y) i) : sekE l y = l[i]? := by
  obtain ⟨h1, h2, h3⟩ := h
  have hpre : (l.take i).find? (fun x => !lessE x y) = none := List.find?_eq_none.2 fun x hx => by
    obtain ⟨k, hk⟩ := List.mem_iff_getElem?.1 hx
    have hki : k < i := by
      have := (List.getElem?_eq_some_iff.1 hk).1
      rw [List.length_take] at this; omega
    rw [List.getElem?_take_of_lt hki] at hk
    have := h2 k hki
    rw [hk, Option.getD_some] at this
    simpa using this
  have e : sekE l y = (l.drop i).find? fun x => !lessE x y := by
    have := List.find?_append (xs := l.take i) (ys := l.drop i) (p := fun x => !lessE x y)
    rw [List.take_append_drop, hpre, Option.none_or] at this
    exact this
  rw [e]
  by_cases hi : i < l.length
  · have h4 := h3 hi
    rw [List.getElem?_eq_getElem hi, Option.getD_some] at h4
    rw [List.drop_eq_getElem_cons hi, List.find?_cons, h4, List.getElem?_eq_getElem hi]
  · rw [List.drop_eq_nil_of_le (by omega), List.getElem?_eq_none (by omega)]; rfl
theorem ord_mono {l : List En} {y : En} (ho : Ord l) {i j : Nat} (hij : i ≤ j) (hj : j < l.length) (h : (!lessE (l[i]?.getD noE) y) = true) : (!lessE (l[j]?.getD noE) y) = true := by
  rw [List.getElem?_eq_getElem hj, Option.getD_some]
  rw [List.getElem?_eq_getElem (by omega), Option.getD_some] at h
  rcases Nat.eq_or_lt_of_le hij with rfl | hlt
  · exact h
  · have := List.pairwise_iff_getElem.1 ho i j (by omega) hj hlt
    cases hb : lessE l[j] y with
    | false => rfl
    | true => rw [lessE_trans this hb] at h; cases h
theorem seekP_any {k n c g h : Nat} {A C D : Option Addr} {d e : Nat} {l : List En} {x y : En} {w : World} (hx : l[k]? = some x) (hr : RdR 4 w All A (l.map enEl)) (hn : l.length = n) (a9 : Ar w g 22 [.slice A n c]) (a11 : Ar w h 39 (enV y C d D e)) (ry : RdB w C y.key) :
    CallsV Tryd.prog 55 #[.int .i64 (k : Int), .pointer (some ⟨g, 0, none⟩), .pointer (some ⟨h, 0, none⟩)] w fun v w' => v = .bool (!lessE x y) ∧ Below w.heap.size w w' := by
  subst hn
  have hs := St.init w
  have hk := (List.getElem?_eq_some_iff.1 hx).1
  obtain ⟨bb, o, cs, rfl, _, _, hp, i0⟩ := RdR.at (k := 4) (by decide) hr (E := enEl x) (i := k) (by rw [List.getElem?_map, hx]; rfl)
  obtain ⟨X, cx, X2, cx2, rfl, rx, hcx, rx2, hcx2⟩ := enEl.rd hp
  refine calls_in (N := _) Tryd.func55 rfl Tryd.ntmps55 rfl ?_; show WC _ _ _ _ _ _
  refine wc_sr ?_; refine wl_as rfl rfl ?_; refine wl_ns ?_; refine wc_seq ?_
  refine wc_drawB mixed (by kernel_rfl) ?_
  apply wq_val; intro _ hw_; apply opv_ldX; exact rfl; exact Ar.bel (by assumption) hw_; exact e1_row; exact rfl; exact rfl; apply wq_val; intro _ hw_; apply opv_move; exact rfl; exact rfl; apply wq_val; intro _ hw_; apply opv_idxG tkE; exact rfl; exact rfl; exact rfl; omega; exact rfl; apply wq_val; intro _ hw_; apply opv_ldG; exact rfl; exact Wi.below (by assumption) hw_; exact sE; exact rfl; apply wq_val; intro _ hw_; apply opv_loadX; exact rfl; exact Ar.bel (by assumption) hw_; exact sE; exact rfl
  refine wq_call (v := .bool (lessE x y)) ok_mem_Less (fun w' hw => (less_any (rx.below hw) (ry.below hw)).mono fun v w2 h2 => ⟨h2.1, hw.trans (h2.2.mono hw.size)⟩) ⟨rfl, rfl, trivial⟩ rfl ?_
  apply wq_val; intro _ hw_; apply opv_notD; exact rfl; exact rfl; apply wq_val; intro _ hw_; apply opv_assign; exact rfl; exact rfl; refine wq_nil fun w1 hw1 => ?_
  replace hs := hs.below hw1
  refine we_seq ?_; refine wc_ret ?_
  exact we_ret1 rfl rfl ⟨_, rfl, congrArg Value.bool (by unfold lessE; rw [decide_not]), hs.bel⟩
theorem bseek_any {A K : Option Addr} {n c kn kc m : Nat} {xs key : List UInt8} {w : World} (hr : RdB w A xs) (hn : xs.length = n) (hc : xs.length ≤ c) (hl : xs.length ≤ 1099511627776) (rk : RdB w K key) (hkn : key.length = kn) :
    CallsV Tryd.prog 19 #[.slice A n c, .slice K kn kc, .int .u64 (m : Int)] w fun v w' => (∃ (X : Option Addr) (cx : Nat) (Y : Option Addr) (cy : Nat), v = .tuple #[.agg (enV (sekB xs ⟨key, m, 0, []⟩).1 X cx Y cy).toArray, .bool (sekB xs ⟨key, m, 0, []⟩).2.1, .int .i64 ((sekB xs ⟨key, m, 0, []⟩).2.2 : Nat)] ∧ RdB w' X (sekB xs ⟨key, m, 0, []⟩).1.key ∧ RdB w' Y (sekB xs ⟨key, m, 0, []⟩).1.val) ∧ Below w.heap.size w w' := by
  subst hn hkn
  have hs := St.init w
  obtain ⟨y, hy⟩ : ∃ y : En, ⟨key, m, 0, []⟩ = y := ⟨_, rfl⟩
  rw [hy]
  refine calls_in (N := _) Tryd.func19 rfl Tryd.ntmps19 rfl ?_; show WC _ _ _ _ _ _
  refine wc_sr ?_
  refine ws_new hs zeroE rfl ?_; clear hs; intro g6 _ hs
  unfold zE at hs
  refine wl_as rfl rfl ?_; refine wl_as rfl rfl ?_; refine wl_ns ?_; refine wc_sr ?_; refine wl_mv rfl rfl ?_
  refine wl_call ok_block_Decode (decode_any (hr.below hs.bel) rfl hc hl) ⟨rfl, trivial⟩ rfl ?_
  obtain ⟨⟨l, e⟩, hd⟩ : ∃ q, decB xs = q := ⟨_, rfl⟩
  have hok := dec_ok hd
  rw [hd]
  rintro _ w1 ⟨R, rc, rfl, hsx⟩
  replace hs := hs.call hsx
  clear hsx
  dsimp only [List.cons_append, List.nil_append] at hs hok ⊢
  refine wl_mv rfl rfl ?_; apply wl_val; apply opv_extract; exact rfl; exact rfl; exact rfl; apply wl_val; apply opv_extract; exact rfl; exact rfl; exact rfl
  refine ws_new1 hs zeroR rfl rfl ?_; clear hs; intro g9 _ hs
  apply ws_st hs 0; exact rfl; exact rfl; exact e1_row; exact rfl; exact rfl; exact rfl; clear hs; intro _ hs; dsimp only [setC, List.set] at hs; refine wl_as rfl rfl ?_; refine wl_ns ?_; refine wc_seq ?_; refine wc_sr ?_; refine wl_mv rfl rfl ?_; refine wl_bin rfl rfl bin_neq rfl ?_; refine wl_ns ?_
  by_cases he : e = 0
  · subst he
    have ho := hok.2 rfl
    have hsk : sekB xs y = ((sekE l y).getD noE, (sekE l y).isSome, 0) := by rw [sekB, hd]; rfl
    rw [hsk]
    apply wc_condFb; exact rfl; exact rfl; refine wc_skip ?_; refine we_seq ?_; refine wc_sr ?_; refine wl_mv rfl rfl ?_; refine wl_mv rfl rfl ?_
    refine wl_val (opv_build (vs := [(0, .slice K key.length kc), (1, .int .u64 (m : Int))]) (cs := enV y K kc none 0) ⟨rfl, rfl, rfl, rfl, trivial⟩ (by subst hy; kernel_rfl)) rfl ?_
    skip
    refine ws_new hs zeroE rfl ?_; clear hs; intro g11 _ hs
    unfold zE at hs
    unfold enV
    apply ws_stS hs 0; exact rfl; exact rfl; exact rfl; exact sE; exact rfl; exact rfl; clear hs; intro _ hs; dsimp only [setC] at hs; refine wl_ns ?_; refine wc_sr ?_; apply wl_val; apply opv_ldX; exact rfl; exact hs.ar 1 rfl; exact e1_row; exact rfl; exact rfl; apply wl_val; apply opv_len; exact rfl; exact tkE.sl; exact rfl
    refine wl_val (opv_mkFunc (us := [.pointer (some ⟨g9, 0, none⟩), .pointer (some ⟨g11, 0, none⟩)]) ⟨rfl, rfl, trivial⟩) rfl ?_
    have hrk := rk.below hs.bel
    refine wl_call ok_sort_Search (search_any (n := l.length) (p := fun k => !lessE (l[k]?.getD noE) y) ok_block_Seek_1 (by omega) (fun k hk w' hb => ?_) fun i j h1 h2 h3 => ord_mono ho h1 h2 h3) ⟨rfl, rfl, trivial⟩ rfl ?_
    · have hs' := hs.below hb
      have hx : l[k]? = some l[k] := List.getElem?_eq_getElem hk
      rw [hx, Option.getD_some]
      exact seekP_any hx (OwR.rd (hs'.rsE 2 rfl)) (by simp) (hs'.ar 1 rfl) (hs'.ar 0 rfl) (by subst hy; exact hrk.below hb)
    rintro _ w2 ⟨⟨i, rfl, hi⟩, hb⟩
    replace hs := hs.below hb
    clear hb
    have hil := hi.le
    rw [sek_at hi]
    refine wl_as rfl rfl ?_; refine wl_ns ?_; refine wc_seq ?_; refine wc_sr ?_; refine wl_mv rfl rfl ?_; apply wl_val; apply opv_ldX; exact rfl; exact hs.ar 1 rfl; exact e1_row; exact rfl; exact rfl; apply wl_val; apply opv_len; exact rfl; exact tkE.sl; exact rfl; refine wl_bin rfl rfl bin_eql rfl ?_; refine wl_ns ?_
    by_cases k1 : i = l.length
    · subst k1
      rw [List.getElem?_eq_none (Nat.le_refl _)]
      apply wc_decT; exact rfl; (with_reducible rfl); refine wc_sr ?_
      refine wl_val (opv_build (vs := []) (cs := zE) trivial (by kernel_rfl)) rfl ?_
      unfold zE
      apply ws_stS hs 3; exact rfl; exact rfl; exact rfl; exact sE; exact rfl; exact rfl; clear hs; intro _ hs; dsimp only [setC] at hs; refine wl_as rfl rfl ?_; refine wl_as rfl rfl ?_; refine wl_ns ?_; refine wc_ret ?_; refine we_seq_ret ?_
      exact we_retC2 rfl rfl rfl rfl (hs.ar 3 rfl) sE ⟨_, rfl, ⟨none, 0, none, 0, rfl, Rd.nil _ _, Rd.nil _ _⟩, hs.bel⟩
    · obtain ⟨x, hx⟩ : ∃ x, l[i]? = some x := ⟨_, List.getElem?_eq_getElem (by omega)⟩
      have k1' : ¬ (i : Int) = (l.length : Int) := by omega
      rw [hx]
      obtain ⟨css, hcl, hs⟩ := (hs.front 2 rfl).unrs
      replace hs := hs.map fun S h => Sat.swap (H1 := .rg 4 39 R rc (css.map rawEl) :: zipCe (l.map oE) css) h
      dsimp only [List.cons_append, List.nil_append, delC] at hs
      obtain ⟨cs, hcs, hp⟩ := zip_rd hs.2.dropC.dropC.dropC hcl hx
      obtain ⟨X, cx, X2, cx2, rfl, rx, hcx, rx2, hcx2⟩ := enEl.rd hp
      obtain ⟨b, o, _, rfl, _, _, rfl, i0⟩ := RdR.at (k := 4) (by decide) (OwR.rd (hs.rg 3 rfl)) (E := rawEl (enV x X cx X2 cx2)) (i := i) (by rw [List.getElem?_map, hcs]; rfl)
      apply wc_decF; exact rfl; (with_reducible assumption); refine wc_skip ?_; refine we_seq ?_; refine wc_sr ?_; apply wl_val; apply opv_ldX; exact rfl; exact hs.ar 1 rfl; exact e1_row; exact rfl; exact rfl; refine wl_mv rfl rfl ?_; apply wl_val; apply opv_idxG tkE; exact rfl; exact rfl; exact rfl; omega; exact rfl; apply wl_val; apply opv_ldG; exact rfl; assumption; exact sE; exact rfl; apply ws_stS hs 2; exact rfl; exact rfl; exact rfl; exact sE; exact rfl; exact rfl; clear hs; intro _ hs; dsimp only [setC] at hs; refine wl_as rfl rfl ?_; refine wl_as rfl rfl ?_; refine wl_ns ?_; refine wc_ret ?_
      obtain ⟨_, hcs2, hp2⟩ := zip_rd hs.2.dropC.dropC.dropC hcl hx
      rw [hcs] at hcs2
      cases hcs2
      obtain ⟨rx, rx2⟩ := enEl_rdW hp2
      exact we_retC2 rfl rfl rfl rfl (hs.ar 2 rfl) sE ⟨_, rfl, ⟨X, cx, X2, cx2, rfl, rx, rx2⟩, hs.bel⟩
  · have he' : ¬ (e : Int) = 0 := by omega
    have hsk : sekB xs y = (noE, false, e) := by
      rw [sekB, hd]
      cases e with
      | zero => exact absurd rfl he
      | succ e => rfl
    rw [hsk]
    apply wc_decT; exact rfl; (with_reducible assumption); refine wc_sr ?_
    refine wl_val (opv_build (vs := []) (cs := zE) trivial (by kernel_rfl)) rfl ?_
    refine wl_mv rfl rfl ?_; apply ws_stS hs 2; exact rfl; exact rfl; exact rfl; exact sE; exact rfl; exact rfl; clear hs; intro _ hs; dsimp only [setC] at hs; refine wl_as rfl rfl ?_; refine wl_as rfl rfl ?_; refine wl_ns ?_; refine wc_ret ?_; refine we_seq_ret ?_
    unfold zE
    skip
    exact we_retC2 rfl rfl rfl rfl (hs.ar 2 rfl) sE ⟨_, rfl, ⟨none, 0, none, 0, rfl, Rd.nil _ _, Rd.nil _ _⟩, hs.bel⟩
end Go.Proofs.YtpnckagibkdcpaaDoor


/-
  Walks over PutAll, Size and Range of the document.
-/
namespace Go.Proofs.YtpnckagibkdcpaaDoor
open Go.RowKit

theorem okP_step {xs l : List En} {k : Nat} {x : En} (hx : l[k]? = some x) : okP xs l (k + 1) = (okP xs l k && !inE ((l.take k).foldl insE xs) x) := by rw [okP_succ hx, inE_fold (out := xs)]
theorem foldI_len {xs : List En} : ∀ {l : List En}, (l.foldl insE xs).length = xs.length + l.length := by
  intro l
  induction l generalizing xs with
  | nil => rfl
  | cons x l ih => rw [List.foldl_cons, ih, insE_length, List.length_cons]; omega
/-- The list behind PutAll. -/
def putL (xs l : List En) : List En := if putC xs l = 0 then l.foldl insE xs else xs
/-- A row of entries whose own memory lies in blocks of S, the row itself anywhere. -/
def RdO (w : World) (S : BS) (A : Option Addr) (l : List En) : Prop := ∃ css, Grp 4 w S (l.map enEl) css ∧ RdR 4 w All A (css.map rawEl)
theorem RdO.rd {w : World} {S : BS} {A : Option Addr} {l : List En} (h : RdO w S A l) : RdR 4 w All A (l.map enEl) := by
  obtain ⟨css, h1, h2⟩ := h
  obtain ⟨h3, _⟩ := RdR.raw h2
  exact ⟨css, h1.all, by rw [← h1.1]; exact h3, fun _ _ _ => trivial⟩
theorem RdO.of_ow {w : World} {S : BS} {A : Option Addr} {l : List En} {base c : Nat} {e : TypeId} (h : OwR 4 e w base S A c (l.map enEl)) : RdO w S A l := by
  obtain ⟨css, h1, h2⟩ := h
  exact ⟨css, h1.mono fun b _ hb => hb.1, css, grp_raw h1.ks, by rw [List.length_map, h1.1]; exact own_rd h2, fun _ _ _ => trivial⟩
theorem RdO.of_rd {w : World} {S : BS} {A : Option Addr} {l : List En} (h : RdR 4 w S A (l.map enEl)) : RdO w S A l := by
  obtain ⟨css, h1, h2⟩ := RdR.to_raw h
  exact ⟨css, h1, h2.all⟩
theorem RdO.below {w w' : World} {S : BS} {A : Option Addr} {l : List En} (h : RdO w S A l) (hb : Below w.heap.size w w') : RdO w' S A l := by
  obtain ⟨css, h1, h2⟩ := h
  exact ⟨css, h1.move hb.size fun b hlt hs => ⟨hs, hb.block b hlt⟩, h2.below hb⟩
theorem OwR.base {k base base' c : Nat} {e : TypeId} {w : World} {S : BS} {A : Option Addr} {els : List El} (h : OwR k e w base S A c els) (hb : base' ≤ base) : OwR k e w base' S A c els := h.mono hb fun _ _ h => h
theorem refPut_any {S : BS} {A B : Option Addr} {n c m d : Nat} {xs l : List En} {w : World} (hr0 : RdO w S A xs) (hn : xs.length = n) (hc : n ≤ c) (hr : RdR 4 w S B (l.map enEl)) (hm : l.length = m) (hok0 : ∀ x ∈ xs, x.key.length ≤ maxLen) (hok : ∀ x ∈ l, x.key.length ≤ maxLen) (hl0 : xs.length ≤ 1048576) (hl : l.length ≤ 1048576) :
    CallsV Tryd.prog 29 #[.slice A n c, .slice B m d] w fun v w' => ∃ P cp, v = .tuple #[.slice P (putL xs l).length cp, .int .i64 (putC xs l : Nat)] ∧ ((P = A ∧ cp = c ∧ putL xs l = xs) ∨ OwR 4 39 w' w.heap.size S P cp ((putL xs l).map enEl)) ∧ Below w.heap.size w w' := by
  subst hn hm
  have hs := St.init w
  refine calls_in (N := _) Tryd.func29 rfl Tryd.ntmps29 rfl ?_; show WC _ _ _ _ _ _
  refine wc_sr ?_; refine wl_as rfl rfl ?_; refine wl_as rfl rfl ?_; refine wl_ns ?_; refine wc_sr ?_; refine wl_mv rfl rfl ?_
  refine wl_call ok_caissonref07_Check (refCheck_any (l := l) (hr.all.below hs.bel) rfl (by simp only [maxLen]; omega)) ⟨rfl, trivial⟩ rfl ?_; rintro _ _ ⟨rfl, hbx⟩; replace hs := hs.below hbx; try dsimp only [List.cons_append, List.nil_append, setC, delC] at hs
  by_cases hck : checkE l = 0
  · rw [hck]
    refine wl_as rfl rfl ?_; refine wl_ns ?_; refine wc_seq ?_; refine wc_sr ?_; refine wl_mv rfl rfl ?_; refine wl_bin rfl rfl bin_neq rfl ?_; refine wl_ns ?_; apply wc_condFb; exact rfl; exact rfl; refine wc_skip ?_; refine we_seq ?_; refine wc_sr ?_; refine wl_mv rfl rfl ?_; refine wl_as rfl rfl ?_; refine wl_ns ?_; refine wc_seq ?_; refine wc_sr ?_; refine wl_as rfl rfl ?_; refine wl_ns ?_; refine wc_block ?_
    refine wc_loop (fun L wr mm => ∃ (k : Nat) (P : Option Addr) (cp : Nat) (out : List En), L = [(0, .slice A xs.length c), (1, .slice B l.length d), (7, .slice P out.length cp), (8, .int .i64 (k : Int))] ∧ k ≤ l.length ∧ (l.take k).foldl insE xs = out ∧ okP xs l k = true ∧ out.length ≤ cp ∧ RdO wr S P out ∧ ((P = A ∧ cp = c ∧ out = xs) ∨ OwR 4 39 wr w.heap.size S P cp (out.map enEl)) ∧ St NoB w wr [] ∧ mm = l.length - k)
      [(0, .slice A xs.length c), (1, .slice B l.length d), (7, .slice A xs.length c), (8, .int .i64 (0 : Nat))] l.length ⟨0, A, c, xs, rfl, by omega, rfl, rfl, hc, hr0.below hs.bel, .inl ⟨rfl, rfl, rfl⟩, hs, rfl⟩ ⟨rfl, rfl, rfl, rfl, trivial⟩ ?_
    clear hs
    rintro _ w1 mm ⟨k, P, cp, out, rfl, hk, hout, hokp, hcp, hro, how, hs, rfl⟩
    refine wc_seq ?_; refine wc_sr ?_; refine wl_mv rfl rfl ?_; refine wl_mv rfl rfl ?_; apply wl_val; apply opv_len; exact rfl; exact tkE.sl; exact rfl; refine wl_bin rfl rfl bin_lss rfl ?_; refine wl_ns ?_
    refine wc_cond rfl (fun h1 => ?_) (fun h1 => ?_)
    · obtain ⟨x, hx⟩ : ∃ x, l[k]? = some x := ⟨_, List.getElem?_eq_getElem (by omega)⟩
      have hox := hok x (List.mem_of_getElem? hx)
      have hstep := fold_succ (xs := xs) hx
      have hst2 := okP_step (xs := xs) hx
      rw [hout] at hstep hst2
      have hol : out.length ≤ 2097152 := by rw [← hout, foldI_len]; simp; omega
      have hom : ∀ y ∈ out, y.key.length ≤ maxLen := fun y hy => by
        rw [← hout] at hy
        rcases foldI_mem.1 hy with h | h
        · exact hok0 y h
        · exact hok y (List.mem_of_mem_take h)
      obtain ⟨b, o, cs, rfl, _, _, hp, i1⟩ := RdR.at (k := 4) (by decide) hr (E := enEl x) (i := k) (by rw [List.getElem?_map, hx]; rfl)
      obtain ⟨X, cx, X2, cx2, rfl, rx, _, rx2, _⟩ := enEl.rd (El.all hp)
      have hi := i1.below hs.bel
      refine wc_skip ?_; refine we_seq ?_; refine wc_seq ?_; refine wc_block ?_; refine wc_seq ?_; refine wc_sr ?_; refine wl_mv rfl rfl ?_; refine wl_mv rfl rfl ?_; refine wl_mv rfl rfl ?_; apply wl_val; apply opv_idxG tkE; exact rfl; exact rfl; exact rfl; omega; exact rfl; apply wl_val; apply opv_ldG; exact rfl; assumption; exact sE; exact rfl
      refine wl_call ok_caissonref07_In (in_any (e := x) hro.rd rfl (rx.below hs.bel) hom (by omega)) ⟨rfl, rfl, trivial⟩ rfl ?_; rintro _ _ ⟨rfl, hbx⟩; replace hs := hs.below hbx; try dsimp only [List.cons_append, List.nil_append, setC, delC] at hs
      replace hi := hi.below hbx
      replace hro := hro.below hbx
      cases hin : inE out x with
      | true =>
        have hnot : okP xs l l.length = false := by
          cases h : okP xs l l.length with
          | false => rfl
          | true =>
            have := okP_le h (show k + 1 ≤ l.length by omega)
            rw [hst2, hin, hokp] at this; cases this
        have hz : putC xs l = 7 := by rw [putC, if_pos hck, hnot]; rfl
        have hz2 : putL xs l = xs := by rw [putL, hz, if_neg (by decide)]
        refine wl_ns ?_; apply wc_condTb; exact rfl; exact rfl; refine wc_sr ?_; refine wl_mv rfl rfl ?_; refine wl_as rfl rfl ?_; refine wl_as rfl rfl ?_; refine wl_ns ?_; refine wc_ret ?_; refine we_seq_ret ?_; refine we_block_ret ?_; refine we_seq_ret ?_; refine we_loop_ret ?_; refine we_block_ret ?_; refine we_seq_ret ?_
        exact we_ret2 rfl rfl rfl ⟨_, rfl, A, c, by rw [hz, hz2]; rfl, .inl ⟨rfl, rfl, hz2⟩, hs.bel⟩
      | false =>
        have hpw := El.below hp hs.bel
        obtain ⟨css, hg, hraw⟩ := hro
        refine wl_ns ?_; apply wc_condFb; exact rfl; exact rfl; refine wc_skip ?_; refine we_seq ?_; refine wc_region ?_; refine wl_mv rfl rfl ?_; refine wl_mv rfl rfl ?_; refine wl_mv rfl rfl ?_; apply wl_val; apply opv_idxG tkE; exact rfl; exact rfl; exact rfl; omega; exact rfl; apply wl_val; apply opv_ldG; exact rfl; assumption; exact sE; exact rfl
        refine wl_call ok_caissonref07_Insert (insertG_any (e := x) (S := S) (RdO.rd ⟨css, hg, hraw⟩) hg hraw rfl hcp hpw hom hox (by omega)) ⟨rfl, rfl, trivial⟩ rfl ?_
        rintro _ w5 ⟨P2, cp2, rfl, ho2, hbx4⟩
        have hz4 := hs.size
        replace hs := hs.below hbx4
        refine wl_as rfl rfl ?_; refine wl_nil ?_; refine we_block_norm ?_; refine we_seq ?_; refine wc_region ?_; refine wl_mv rfl rfl ?_; apply wl_val; apply opv_bin; exact rfl; exact rfl; exact bin_add64 (by omega); exact rfl; refine wl_as rfl rfl ?_; refine wl_nil ?_
        exact we_loop _ (l.length - (k + 1)) ⟨k + 1, P2, cp2, insE out x, rfl, by omega, hstep, by rw [hst2, hokp, hin]; rfl, by have := OwR.len_le ho2; simpa using this, RdO.of_ow ho2, .inr (OwR.base ho2 hz4), hs, rfl⟩ (by omega) ⟨rfl, rfl, rfl, by simp [lookT], trivial⟩
    · obtain rfl : k = l.length := by omega
      rw [List.take_length] at hout
      have hz : putC xs l = 0 := by rw [putC, if_pos hck, hokp]; rfl
      have hz2 : putL xs l = out := by rw [putL, hz, if_pos rfl, hout]
      refine wc_exit ?_; refine we_seq_exit ?_; refine we_loop_exit ?_; refine we_block_exit ?_; refine we_seq ?_; refine wc_sr ?_; refine wl_mv rfl rfl ?_; refine wl_as rfl rfl ?_; refine wl_as rfl rfl ?_; refine wl_ns ?_; refine wc_ret ?_
      exact we_ret2 rfl rfl rfl ⟨_, rfl, P, cp, by rw [hz, hz2]; rfl, by rw [hz2]; exact how, hs.bel⟩
  · have h1 : ((checkE l : Nat) : Int) ≠ 0 := by omega
    have hz : putC xs l = checkE l := by rw [putC, if_neg hck]
    have hz2 : putL xs l = xs := by rw [putL, hz, if_neg hck]
    refine wl_as rfl rfl ?_; refine wl_ns ?_; refine wc_seq ?_; refine wc_sr ?_; refine wl_mv rfl rfl ?_; refine wl_bin rfl rfl bin_neq rfl ?_; refine wl_ns ?_; apply wc_decT; exact rfl; (with_reducible assumption); refine wc_sr ?_; refine wl_mv rfl rfl ?_; refine wl_mv rfl rfl ?_; refine wl_as rfl rfl ?_; refine wl_as rfl rfl ?_; refine wl_ns ?_; refine wc_ret ?_; refine we_seq_ret ?_
    exact we_ret2 rfl rfl rfl ⟨_, rfl, A, c, by rw [hz, hz2], .inl ⟨rfl, rfl, hz2⟩, hs.bel⟩
theorem tsz_take {l : List En} {k : Nat} {x : En} (hx : l[k]? = some x) : tszE (l.take (k + 1)) = tszE (l.take k) + (x.key.length + x.val.length) := by
  rw [take_getR hx]; simp [tszE]
theorem tsz_mem {l : List En} {b : Nat} (h : ∀ x ∈ l, x.key.length + x.val.length ≤ b) : tszE l ≤ l.length * b := by
  induction l with
  | nil => simp [tszE]
  | cons x l ih =>
    have h1 := h x List.mem_cons_self
    have h2 := ih fun y hy => h y (List.mem_cons_of_mem _ hy)
    simp only [tszE, List.map_cons, List.sum_cons, List.length_cons] at h2 ⊢
    rw [Nat.add_mul]; omega
theorem refSize_any {A : Option Addr} {n c : Nat} {l : List En} {w : World} (hr : RdR 4 w All A (l.map enEl)) (hn : l.length = n) (hok : ∀ x ∈ l, x.key.length ≤ 1099511627776 ∧ x.val.length ≤ 1099511627776) (hl : l.length ≤ 1048576) :
    CallsV Tryd.prog 31 #[.slice A n c] w fun v w' => v = .int .i64 (tszE l : Nat) ∧ Below w.heap.size w w' := by
  subst hn
  have hs := St.init w
  refine calls_in (N := _) Tryd.func31 rfl Tryd.ntmps31 rfl ?_; show WC _ _ _ _ _ _
  refine wc_sr ?_; refine wl_as rfl rfl ?_; refine wl_ns ?_; refine wc_sr ?_; refine wl_as rfl rfl ?_; refine wl_ns ?_; refine wc_seq ?_; refine wc_sr ?_; refine wl_as rfl rfl ?_; refine wl_ns ?_; refine wc_block ?_
  refine wc_loop (fun L wr mm => ∃ (k : Nat), L = [(0, .slice A l.length c), (3, .int .i64 (tszE (l.take k) : Nat)), (4, .int .i64 (k : Int))] ∧ k ≤ l.length ∧ Below w.heap.size w wr ∧ mm = l.length - k)
    [(0, .slice A l.length c), (3, .int .i64 0), (4, .int .i64 (0 : Nat))] l.length ⟨0, rfl, by omega, hs.bel, rfl⟩ ⟨rfl, rfl, rfl, trivial⟩ ?_
  clear hs
  rintro _ w1 mm ⟨k, rfl, hk, hb, rfl⟩
  refine wc_seq ?_; refine wc_sr ?_; refine wl_mv rfl rfl ?_; refine wl_mv rfl rfl ?_; apply wl_val; apply opv_len; exact rfl; exact tkE.sl; exact rfl; refine wl_bin rfl rfl bin_lss rfl ?_; refine wl_ns ?_
  refine wc_cond rfl (fun h1 => ?_) (fun h1 => ?_)
  · obtain ⟨x, hx⟩ : ∃ x, l[k]? = some x := ⟨_, List.getElem?_eq_getElem (by omega)⟩
    have hox := hok x (List.mem_of_getElem? hx)
    have hb1 : tszE (l.take k) ≤ 1048576 * 2199023255552 := by
      have h2 := tsz_mem (l := l.take k) (b := 2199023255552) fun y hy => by have := hok y (List.mem_of_mem_take hy); omega
      have h3 : (l.take k).length ≤ 1048576 := by simp; omega
      exact Nat.le_trans h2 (Nat.mul_le_mul_right _ h3)
    have hst := tsz_take hx
    obtain ⟨b, o, cs, rfl, _, _, hp, i1⟩ := RdR.at (k := 4) (by decide) hr (E := enEl x) (i := k) (by rw [List.getElem?_map, hx]; rfl)
    obtain ⟨X, cx, Y, cy, rfl, rx, _, ry, _⟩ := enEl.rd hp
    replace i1 := i1.below hb
    unfold enV at i1
    refine wc_skip ?_; refine we_seq ?_; refine wc_seq ?_; refine wc_block ?_
    refine wc_drawB mixed (by kernel_rfl) ?_
    apply wq_val; intro _ hw_; apply opv_move; exact rfl; exact rfl; apply wq_val; intro _ hw_; apply opv_move; exact rfl; exact rfl; apply wq_val; intro _ hw_; apply opv_move; exact rfl; exact rfl; apply wq_val; intro _ hw_; apply opv_idxG tkE; exact rfl; exact rfl; exact rfl; omega; exact rfl; apply wq_val; intro _ hw_; apply opv_fa; exact fa_sE (by decide); exact rfl; exact rfl; apply wq_val; intro _ hw_; apply opv_ldW; exact rfl; exact Wi.below (by assumption) hw_; exact e1_by; exact rfl; exact rfl; apply wq_val; intro _ hw_; apply opv_len; exact rfl; exact tyB.sl; exact rfl; apply wq_val; intro _ hw_; apply opv_bin; exact rfl; exact rfl; exact bin_add64 (by omega); exact rfl; apply wq_val; intro _ hw_; apply opv_move; exact rfl; exact rfl; apply wq_val; intro _ hw_; apply opv_move; exact rfl; exact rfl; apply wq_val; intro _ hw_; apply opv_idxG tkE; exact rfl; exact rfl; exact rfl; omega; exact rfl; apply wq_val; intro _ hw_; apply opv_fa; exact fa_sE (by decide); exact rfl; exact rfl; apply wq_val; intro _ hw_; apply opv_ldW; exact rfl; exact Wi.below (by assumption) hw_; exact e1_by; exact rfl; exact rfl; apply wq_val; intro _ hw_; apply opv_len; exact rfl; exact tyB.sl; exact rfl; apply wq_val; intro _ hw_; apply opv_bin; exact rfl; exact rfl; exact bin_add64 (by omega); exact rfl; apply wq_val; intro _ hw_; apply opv_assign; exact rfl; exact rfl; refine wq_nil fun w1 hw1 => ?_
    refine we_block_norm ?_; refine we_seq ?_; refine wc_region ?_; refine wl_mv rfl rfl ?_; apply wl_val; apply opv_bin; exact rfl; exact rfl; exact bin_add64 (by omega); exact rfl; refine wl_as rfl rfl ?_; refine wl_nil ?_
    refine we_loop _ (l.length - (k + 1)) ⟨k + 1, rfl, by omega, hb.trans (hw1.mono hb.size), rfl⟩ (by omega) ⟨rfl, ?_, by simp [lookT], trivial⟩
    rw [hst]
    exact congrArg (fun z => some (Value.int .i64 z)) (show (tszE (l.take k) : Int) + (x.key.length : Int) + (x.val.length : Int) = ((tszE (l.take k) + (x.key.length + x.val.length) : Nat) : Int) by omega)
  · obtain rfl : k = l.length := by omega
    rw [List.take_length]
    refine wc_exit ?_; refine we_seq_exit ?_; refine we_loop_exit ?_; refine we_block_exit ?_; refine we_seq ?_; refine wc_sr ?_; refine wl_mv rfl rfl ?_; refine wl_as rfl rfl ?_; refine wl_ns ?_; refine wc_ret ?_
    exact we_ret1 rfl rfl ⟨_, rfl, rfl, hb⟩
def rgP (f t : List UInt8) (x : En) : Bool := decide (0 ≤ cmpB x.key f ∧ (t.length = 0 ∨ cmpB x.key t < 0))
theorem refRange_any {S : BS} {A F T : Option Addr} {n c fn fc tn tc : Nat} {l : List En} {f t : List UInt8} {w : World} (hr : RdR 4 w S A (l.map enEl)) (hn : l.length = n) (rf : RdB w F f) (hfn : f.length = fn) (rt : RdB w T t) (htn : t.length = tn) (hok : ∀ x ∈ l, x.key.length ≤ maxLen) (hf : f.length ≤ maxLen) (ht : t.length ≤ maxLen) (hl : l.length ≤ 1048576) :
    CallsV Tryd.prog 35 #[.slice A n c, .slice F fn fc, .slice T tn tc] w fun v w' => ∃ P cp, v = .slice P (rangeE l f t).length cp ∧ OwR 4 39 w' w.heap.size S P cp ((rangeE l f t).map enEl) ∧ Below w.heap.size w w' := by
  subst hn
  have hmax : maxLen = 9223372036854775807 := rfl
  have hs := (St.init w).nilG 4 39
  refine calls_in (N := _) Tryd.func35 rfl Tryd.ntmps35 rfl ?_; show WC _ _ _ _ _ _
  refine wc_sr ?_; refine wl_as rfl rfl ?_; refine wl_ns ?_; refine wc_sr ?_; refine wl_as rfl rfl ?_; refine wl_ns ?_; refine wc_seq ?_; refine wc_sr ?_; refine wl_as rfl rfl ?_; refine wl_ns ?_; refine wc_block ?_
  refine wc_loop (fun L wr mm => ∃ (k : Nat) (Q : Option Addr) (cq : Nat) (out : List En) (css : List (List Value)), L = [(0, .slice A l.length c), (1, .slice F fn fc), (2, .slice T tn tc), (7, .slice Q out.length cq), (8, .int .i64 (k : Int))] ∧ k ≤ l.length ∧ (l.take k).filter (rgP f t) = out ∧ Grp 4 w S (out.map enEl) css ∧ St NoB w wr [.rg 4 39 Q cq (css.map rawEl)] ∧ mm = l.length - k)
    [(0, .slice A l.length c), (1, .slice F fn fc), (2, .slice T tn tc), (7, .slice none 0 0), (8, .int .i64 (0 : Nat))] l.length ⟨0, none, 0, [], [], rfl, by omega, rfl, Grp.nil _ _ _, hs, rfl⟩ ⟨rfl, rfl, rfl, rfl, rfl, trivial⟩ ?_
  clear hs
  rintro _ w1 mm ⟨k, Q, cq, out, css, rfl, hk, hout, hg, hs, rfl⟩
  refine wc_seq ?_; refine wc_sr ?_; refine wl_mv rfl rfl ?_; refine wl_mv rfl rfl ?_; apply wl_val; apply opv_len; exact rfl; exact tkE.sl; exact rfl; refine wl_bin rfl rfl bin_lss rfl ?_; refine wl_ns ?_
  refine wc_cond rfl (fun h1 => ?_) (fun h1 => ?_)
  · obtain ⟨x, hx⟩ : ∃ x, l[k]? = some x := ⟨_, List.getElem?_eq_getElem (by omega)⟩
    have hox := hok x (List.mem_of_getElem? hx)
    have hft := filter_take (p := rgP f t) hx
    rw [hout] at hft
    have hol : out.length ≤ k := by rw [← hout]; have := List.length_filter_le (rgP f t) (l.take k); simp at this; omega
    have hcl : css.length = out.length := by have := hg.1; simpa using this
    obtain ⟨b, o, cs, rfl, _, _, hp, i0⟩ := RdR.at (k := 4) (by decide) hr (E := enEl x) (i := k) (by rw [List.getElem?_map, hx]; rfl)
    obtain ⟨U, cu, U2, cu2, rfl, rx, _, rx2, _⟩ := enEl.rd (El.all hp)
    have i2 := i0.below hs.bel
    unfold enV at i2
    refine wc_skip ?_; refine we_seq ?_; refine wc_seq ?_; refine wc_block ?_; refine wc_sr ?_; refine wl_mv rfl rfl ?_; refine wl_mv rfl rfl ?_; apply wl_val; apply opv_idxG tkE; exact rfl; exact rfl; exact rfl; omega; exact rfl; apply wl_val; apply opv_fa; exact fa_sE (by decide); exact rfl; exact rfl; apply wl_val; apply opv_ldW; exact rfl; assumption; exact e1_by; exact rfl; exact rfl; refine wl_mv rfl rfl ?_
    refine wl_call ok_caissonref01_Cmp (refCmp_any (rx.below hs.bel) (rf.below hs.bel) rfl hfn hox hf) ⟨rfl, rfl, trivial⟩ rfl ?_; rintro _ _ ⟨rfl, hbx⟩; replace hs := hs.below hbx; try dsimp only [List.cons_append, List.nil_append, setC, delC] at hs
    replace i2 := i0.below hs.bel
    have i3 := i0.below hs.bel
    unfold enV at i2
    by_cases h2 : 0 ≤ cmpB x.key f
    · by_cases h3 : t.length = 0
      · rw [show rgP f t x = true from decide_eq_true ⟨h2, .inl h3⟩] at hft
        have h3' : (tn : Int) = 0 := by omega
        refine wl_bin rfl rfl bin_geq rfl ?_; refine wl_mv rfl rfl ?_; apply wl_take; exact rfl; exact rfl; exact rfl; refine bT ?_; (with_reducible assumption); refine wl_mv rfl rfl ?_; apply wl_take; exact rfl; exact rfl; exact rfl; refine bT ?_; (with_reducible assumption); apply wl_val; apply opv_len; exact rfl; exact tyB.sl; exact rfl; apply wl_take; exact rfl; exact rfl; exact rfl; refine bT ?_; (with_reducible assumption); refine wl_bin rfl rfl bin_eql rfl ?_; apply wl_take; exact rfl; exact rfl; exact rfl; refine bT ?_; (with_reducible assumption); refine wl_mv rfl rfl ?_; apply wl_skip; exact rfl; exact rfl; exact rfl; refine bTn ?_; (with_reducible assumption); exact rfl; apply wl_skip; exact rfl; exact rfl; exact rfl; refine bTn ?_; (with_reducible assumption); exact rfl; apply wl_skip; exact rfl; exact rfl; exact rfl; refine bTn ?_; (with_reducible assumption); exact rfl; apply wl_skip; exact rfl; exact rfl; exact rfl; refine bTn ?_; (with_reducible assumption); exact rfl; apply wl_skip; exact rfl; exact rfl; exact rfl; refine bTn ?_; (with_reducible assumption); exact rfl; apply wl_skip; exact rfl; exact rfl; exact rfl; refine bTn ?_; (with_reducible assumption); exact rfl; apply wl_skip; exact rfl; exact rfl; exact rfl; refine bTn ?_; (with_reducible assumption); exact rfl; apply wl_skip; exact rfl; exact rfl; exact rfl; refine bTn ?_; (with_reducible assumption); exact rfl; apply wl_take; exact rfl; exact rfl; exact rfl; refine bT ?_; (with_reducible assumption); apply wl_val; apply opv_pickT; exact rfl; refine bT ?_; (with_reducible assumption); exact rfl; exact rfl; apply wl_val; apply opv_pickT; exact rfl; refine bT ?_; (with_reducible assumption); exact rfl; exact rfl; refine wl_ns ?_; apply wc_condTb; exact rfl; exact rfl; refine wc_region ?_; refine wl_mv rfl rfl ?_; refine wl_mv rfl rfl ?_; refine wl_mv rfl rfl ?_; apply wl_val; apply opv_idxG tkE; exact rfl; exact rfl; exact rfl; omega; exact rfl; apply wl_val; apply opv_ldG; exact rfl; assumption; exact sE; exact rfl
        refine ws_pushR (cs := enV x U cu U2 cu2) hs 0 (fun _ => rfl) rfl tkE (by simpa using hcl) ⟨_, rfl, rfl⟩ rfl rfl (by decide) (by omega) (by simp only [maxLen]; omega) rfl rfl ?_
        clear hs; intro _ R3 c3 w5 hs; dsimp only [setC] at hs
        refine wl_as rfl rfl ?_; refine wl_nil ?_; refine we_block_norm ?_; refine we_seq ?_; refine wc_region ?_; refine wl_mv rfl rfl ?_; apply wl_val; apply opv_bin; exact rfl; exact rfl; exact bin_add64 (by omega); exact rfl; refine wl_as rfl rfl ?_; refine wl_nil ?_
        refine we_loop _ (l.length - (k + 1)) ⟨k + 1, R3, c3, out ++ [x], css ++ [enV x U cu U2 cu2], rfl, by omega, by simpa using hft, by rw [List.map_append]; exact hg.append (Grp.one hp rfl), by simpa using hs, rfl⟩ (by omega) ⟨rfl, rfl, rfl, by rw [List.length_append]; rfl, by simp [lookT], trivial⟩
      · have h3' : ¬ (tn : Int) = 0 := by omega
        refine wl_bin rfl rfl bin_geq rfl ?_; refine wl_mv rfl rfl ?_; apply wl_take; exact rfl; exact rfl; exact rfl; refine bT ?_; (with_reducible assumption); refine wl_mv rfl rfl ?_; apply wl_take; exact rfl; exact rfl; exact rfl; refine bT ?_; (with_reducible assumption); apply wl_val; apply opv_len; exact rfl; exact tyB.sl; exact rfl; apply wl_take; exact rfl; exact rfl; exact rfl; refine bT ?_; (with_reducible assumption); refine wl_bin rfl rfl bin_eql rfl ?_; apply wl_take; exact rfl; exact rfl; exact rfl; refine bT ?_; (with_reducible assumption); refine wl_mv rfl rfl ?_; apply wl_take; exact rfl; exact rfl; exact rfl; refine bF ?_; (with_reducible assumption); refine wl_mv rfl rfl ?_; apply wl_take; exact rfl; exact rfl; exact rfl; refine bF ?_; (with_reducible assumption); refine wl_mv rfl rfl ?_; apply wl_take; exact rfl; exact rfl; exact rfl; refine bF ?_; (with_reducible assumption); apply wl_val; apply opv_idxG tkE; exact rfl; exact rfl; exact rfl; omega; exact rfl; apply wl_take; exact rfl; exact rfl; exact rfl; refine bF ?_; (with_reducible assumption); apply wl_val; apply opv_fa; exact fa_sE (by decide); exact rfl; exact rfl; apply wl_take; exact rfl; exact rfl; exact rfl; refine bF ?_; (with_reducible assumption); apply wl_val; apply opv_ldW; exact rfl; assumption; exact e1_by; exact rfl; exact rfl; apply wl_take; exact rfl; exact rfl; exact rfl; refine bF ?_; (with_reducible assumption); refine wl_mv rfl rfl ?_; apply wl_take; exact rfl; exact rfl; exact rfl; refine bF ?_; (with_reducible assumption)
        refine wl_call ok_caissonref01_Cmp (refCmp_any (rx.below hs.bel) (rt.below hs.bel) rfl htn hox ht) ⟨rfl, rfl, trivial⟩ rfl ?_; rintro _ _ ⟨rfl, hbx⟩; replace hs := hs.below hbx; try dsimp only [List.cons_append, List.nil_append, setC, delC] at hs
        replace i3 := i0.below hs.bel
        by_cases h4 : cmpB x.key t < 0
        · rw [show rgP f t x = true from decide_eq_true ⟨h2, .inr h4⟩] at hft
          apply wl_take; exact rfl; exact rfl; exact rfl; refine bF ?_; (with_reducible assumption); refine wl_bin rfl rfl bin_lss rfl ?_; apply wl_take; exact rfl; exact rfl; exact rfl; refine bT ?_; (with_reducible assumption); apply wl_val; apply opv_pickF; exact rfl; refine bF ?_; (with_reducible assumption); exact rfl; exact rfl; apply wl_val; apply opv_pickT; exact rfl; refine bT ?_; (with_reducible assumption); exact rfl; exact rfl; refine wl_ns ?_; apply wc_decT; exact rfl; (with_reducible assumption); refine wc_region ?_; refine wl_mv rfl rfl ?_; refine wl_mv rfl rfl ?_; refine wl_mv rfl rfl ?_; apply wl_val; apply opv_idxG tkE; exact rfl; exact rfl; exact rfl; omega; exact rfl; apply wl_val; apply opv_ldG; exact rfl; assumption; exact sE; exact rfl
          refine ws_pushR (cs := enV x U cu U2 cu2) hs 0 (fun _ => rfl) rfl tkE (by simpa using hcl) ⟨_, rfl, rfl⟩ rfl rfl (by decide) (by omega) (by simp only [maxLen]; omega) rfl rfl ?_
          clear hs; intro _ R3 c3 w5 hs; dsimp only [setC] at hs
          refine wl_as rfl rfl ?_; refine wl_nil ?_; refine we_block_norm ?_; refine we_seq ?_; refine wc_region ?_; refine wl_mv rfl rfl ?_; apply wl_val; apply opv_bin; exact rfl; exact rfl; exact bin_add64 (by omega); exact rfl; refine wl_as rfl rfl ?_; refine wl_nil ?_
          refine we_loop _ (l.length - (k + 1)) ⟨k + 1, R3, c3, out ++ [x], css ++ [enV x U cu U2 cu2], rfl, by omega, by simpa using hft, by rw [List.map_append]; exact hg.append (Grp.one hp rfl), by simpa using hs, rfl⟩ (by omega) ⟨rfl, rfl, rfl, by rw [List.length_append]; rfl, by simp [lookT], trivial⟩
        · rw [show rgP f t x = false from decide_eq_false fun h => h.2.elim h3 h4] at hft
          apply wl_take; exact rfl; exact rfl; exact rfl; refine bF ?_; (with_reducible assumption); refine wl_bin rfl rfl bin_lss rfl ?_; apply wl_take; exact rfl; exact rfl; exact rfl; refine bT ?_; (with_reducible assumption); apply wl_val; apply opv_pickF; exact rfl; refine bF ?_; (with_reducible assumption); exact rfl; exact rfl; apply wl_val; apply opv_pickT; exact rfl; refine bT ?_; (with_reducible assumption); exact rfl; exact rfl; refine wl_ns ?_; apply wc_decF; exact rfl; (with_reducible assumption); refine wc_skip ?_; refine we_block_norm ?_; refine we_seq ?_; refine wc_region ?_; refine wl_mv rfl rfl ?_; apply wl_val; apply opv_bin; exact rfl; exact rfl; exact bin_add64 (by omega); exact rfl; refine wl_as rfl rfl ?_; refine wl_nil ?_
          refine we_loop _ (l.length - (k + 1)) ⟨k + 1, Q, cq, out, css, rfl, by omega, by simpa using hft, hg, hs, rfl⟩ (by omega) ⟨rfl, rfl, rfl, rfl, by simp [lookT], trivial⟩
    · rw [show rgP f t x = false from decide_eq_false fun h => h2 h.1] at hft
      refine wl_bin rfl rfl bin_geq rfl ?_; refine wl_mv rfl rfl ?_; apply wl_skip; exact rfl; exact rfl; exact rfl; refine bFn ?_; (with_reducible assumption); exact rfl; apply wl_skip; exact rfl; exact rfl; exact rfl; refine bFn ?_; (with_reducible assumption); exact rfl; apply wl_skip; exact rfl; exact rfl; exact rfl; refine bFn ?_; (with_reducible assumption); exact rfl; apply wl_skip; exact rfl; exact rfl; exact rfl; refine bFn ?_; (with_reducible assumption); exact rfl; apply wl_skipU; exact rfl; exact rfl; exact rfl; exact rfl; apply wl_skipU; exact rfl; exact rfl; exact rfl; exact rfl; apply wl_skipU; exact rfl; exact rfl; exact rfl; exact rfl; apply wl_skipU; exact rfl; exact rfl; exact rfl; exact rfl; apply wl_skipU; exact rfl; exact rfl; exact rfl; exact rfl; apply wl_skipU; exact rfl; exact rfl; exact rfl; exact rfl; apply wl_skipU; exact rfl; exact rfl; exact rfl; exact rfl; apply wl_skipU; exact rfl; exact rfl; exact rfl; exact rfl; apply wl_skip; exact rfl; exact rfl; exact rfl; refine bFn ?_; (with_reducible assumption); exact rfl; apply wl_val; apply opv_pickF; exact rfl; refine bF ?_; (with_reducible assumption); exact rfl; exact rfl; refine wl_ns ?_; apply wc_condFb; exact rfl; exact rfl; refine wc_skip ?_; refine we_block_norm ?_; refine we_seq ?_; refine wc_region ?_; refine wl_mv rfl rfl ?_; apply wl_val; apply opv_bin; exact rfl; exact rfl; exact bin_add64 (by omega); exact rfl; refine wl_as rfl rfl ?_; refine wl_nil ?_
      refine we_loop _ (l.length - (k + 1)) ⟨k + 1, Q, cq, out, css, rfl, by omega, by simpa using hft, hg, hs, rfl⟩ (by omega) ⟨rfl, rfl, rfl, rfl, by simp [lookT], trivial⟩
  · obtain rfl : k = l.length := by omega
    rw [List.take_length] at hout
    refine wc_exit ?_; refine we_seq_exit ?_; refine we_loop_exit ?_; refine we_block_exit ?_; refine we_seq ?_; refine wc_sr ?_; refine wl_mv rfl rfl ?_; refine wl_as rfl rfl ?_; refine wl_ns ?_; refine wc_ret ?_
    refine we_ret1 rfl rfl ⟨_, rfl, Q, cq, by rw [show rangeE l f t = out from hout], ?_, hs.bel⟩
    rw [show rangeE l f t = out from hout]; exact hs.rawOut 0 rfl hg
end Go.Proofs.YtpnckagibkdcpaaDoor


/-
  What the laws of tables in memory need: Get told in one way, rows whose entries lie in old memory as pieces, twins to be turned over, arguments of asks.
-/
namespace Go.Proofs.YtpnckagibkdcpaaDoor
open Go.RowKit Go.ChangeShapes Go.WideShapes Go.ChangeAt Go.Deep

def zEn : En := ⟨[], 0, 0, []⟩
def gtE (l : List En) (key : List UInt8) (m : Nat) : En := (getE l key m).getD zEn
theorem tget2_any {TX : TypeId × List Value} {S : BS} {t kn e m : Nat} {xs : List En} {K : Option Addr} {key : List UInt8} {w : World} (h0 : Sat w [.ck (tblX TX t xs)] S) (ho : Ord xs) (hkn : key.length = kn) (hkey : ∀ w', Mod S w w' → RdB w' K key) (hok : ∀ x ∈ xs, x.key.length ≤ 140737488355328 ∧ x.val.length ≤ 140737488355328) :
    CallsV Tryd.prog 18 #[pN t, .slice K kn e, .int .u64 (m : Int)] w fun v w' => ∃ (X : Option Addr) (cx : Nat) (Y : Option Addr) (cy : Nat), v = .tuple #[.agg (enV (gtE xs key m) X cx Y cy).toArray, .bool (getE xs key m).isSome] ∧ St S w w' (enOw (gtE xs key m) X cx Y cy ++ [.ck (tblX TX t xs)]) :=
  (tget_any h0 ho hkn hkey hok).mono fun v w' ⟨H, hv, hs⟩ => by
    rw [gtE]
    cases hg : getE xs key m with
    | none =>
      rw [hg] at hv
      obtain ⟨rfl, rfl⟩ := hv
      exact ⟨none, 0, none, 0, rfl, (hs.nilO 5).nilO 5⟩
    | some x =>
      rw [hg] at hv
      obtain ⟨A, c, B, d, rfl, rfl⟩ := hv
      exact ⟨A, c, B, d, rfl, hs⟩
theorem refGet2_any {A K : Option Addr} {n c kc kn at' : Nat} {l : List En} {key : List UInt8} {w : World} (hr : RdR 4 w All A (l.map enEl)) (hn : l.length = n) (rk : RdB w K key) (hkn : key.length = kn) (hok : ∀ x ∈ l, x.key.length ≤ maxLen) (hl : l.length ≤ 4294967296) :
    CallsV Tryd.prog 33 #[.slice A n c, .slice K kn kc, .int .u64 (at' : Int)] w fun v w' => (∃ (X : Option Addr) (cx : Nat) (Y : Option Addr) (cy : Nat), v = .tuple #[.agg (enV (gtE l key at') X cx Y cy).toArray, .bool (getE l key at').isSome] ∧ RdB w' X (gtE l key at').key ∧ RdB w' Y (gtE l key at').val) ∧ Below w.heap.size w w' :=
  (getR_any hr hn rk hkn hok hl).mono fun v w' ⟨h, hb⟩ => ⟨by
    rw [gtE]
    cases hg : getE l key at' with
    | none => rw [hg] at h; exact ⟨none, 0, none, 0, h, Rd.nil _ _, Rd.nil _ _⟩
    | some x => rw [hg] at h; obtain ⟨X, cx, Y, cy, h⟩ := h; exact ⟨X, cx, Y, cy, h⟩, hb⟩
theorem gtE_mem {l : List En} {key : List UInt8} {m : Nat} : gtE l key m = zEn ∨ gtE l key m ∈ l := by
  rw [gtE]
  cases hg : getE l key m with
  | none => exact .inl rfl
  | some x => exact .inr (List.mem_of_find?_eq_some hg)
/-- Blocks that stood when the call began. -/
def Old (w0 : World) : BS := fun b => b < w0.heap.size
theorem byEl.back {w0 w : World} {S : BS} {xs : List UInt8} {cs : List Value} (hS : ∀ b, S b → b < w0.heap.size) (hb : Below w0.heap.size w0 w) (h : (byEl xs).P w S cs) : (byEl xs).P w0 (Old w0) cs := by
  obtain ⟨A, c, h1, h2, h3, h4⟩ := h
  refine ⟨A, c, h1, h2, ⟨h3.1, fun hn => ?_⟩, fun a ha hn => hS _ (h4 a ha hn)⟩
  obtain ⟨b, o, hA, _, hc⟩ := h3.2 hn
  have hlt := hS _ (h4 _ hA hn)
  exact ⟨b, o, hA, hlt, fun j u hu => (World.cell?_of_block (a := ⟨b, o + j, none⟩) (hb.block b hlt)).symm.trans (hc j u hu)⟩
theorem enEl.back {w0 w : World} {S : BS} {x : En} {cs : List Value} (hS : ∀ b, S b → b < w0.heap.size) (hb : Below w0.heap.size w0 w) (h : (enEl x).P w S cs) : (enEl x).P w0 (Old w0) cs := by
  obtain ⟨A, c, B, d, h1, h2, h3⟩ := h
  exact ⟨A, c, B, d, h1, byEl.back hS hb h2, byEl.back hS hb h3⟩
theorem grp_back {w0 w : World} {S : BS} {l : List En} {css : List (List Value)} (hS : ∀ b, S b → b < w0.heap.size) (hb : Below w0.heap.size w0 w) (h : Grp 4 w S (l.map enEl) css) : Grp 4 w0 (Old w0) (l.map enEl) css := ⟨h.1, fun i cs hi => by
  obtain ⟨h1, E, h2, h3⟩ := h.2 i cs hi
  refine ⟨h1, E, h2, ?_⟩
  rw [List.getElem?_map] at h2
  cases hx : l[i]? with
  | none => rw [hx] at h2; cases h2
  | some x => rw [hx] at h2; cases h2; exact enEl.back hS hb h3⟩
/-- A row of entries, its own memory a piece, the entries' memory old. -/
def oldC (w0 : World) (A : Option Addr) (c : Nat) (l : List En) : Ck := ⟨fun w S => ∃ css, Grp 4 w0 (Old w0) (l.map enEl) css ∧ (Cd.rg 4 39 A c (css.map rawEl)).P w S, fun ⟨css, h1, h2⟩ hz hm => ⟨css, h1, Cd.move (c := .rg 4 39 A c (css.map rawEl)) h2 hz hm⟩⟩
section
variable {w0 w w' : World} {H : List Cd} {A : Option Addr} {c base : Nat} {l : List En}
theorem St.old (hs : St NoB w0 w H) (i : Nat) (hi : nthC H i = some (.ck (oldC w0 A c l))) : RdO w (Old w0) A l := by
  obtain ⟨T, ⟨css, h1, h2⟩, _⟩ := hs.get i hi
  exact ⟨css, h1.move hs.size fun b _ h => ⟨h, hs.bel.block b h⟩, OwR.rd h2.2⟩
theorem St.newOld (hs : St NoB w0 w H) (hb : Below w.heap.size w w') (h : OwR 4 39 w' base (Old w0) A c (l.map enEl)) (hB : w.heap.size ≤ base) : St NoB w0 w' (.ck (oldC w0 A c l) :: H) := by
  have hbw := hs.bel.trans (hb.mono hs.size)
  have hlt := OwR.lt h
  obtain ⟨css, h1, h2⟩ := h
  have h3 : Grp 4 w' (Old w0) (l.map enEl) css := h1.mono fun b _ hb => hb.1
  have hcl : css.length = l.length := by rw [h1.1]; simp
  refine hs.new (T := fun b => w.heap.size ≤ b) (c := .ck (oldC w0 A c l)) hb ⟨css, grp_back (fun b h => h) hbw h3, fun a ha => Nat.le_trans hB (hlt a ha).1, css, grp_raw h1.ks, ?_⟩ fun _ _ h => h
  obtain ⟨h4, h5⟩ := h2
  rw [List.length_map, ← hcl] at h4 h5
  rw [List.length_map]
  refine ⟨h4, ?_⟩
  rcases h5 with h5 | ⟨g, cap, cur, hv, hg, rest⟩
  · exact .inl h5
  · exact .inr ⟨g, cap, cur, hv, Nat.zero_le _, rest⟩
theorem St.nilOld (hs : St NoB w0 w H) : St NoB w0 w (.ck (oldC w0 none 0 []) :: H) := (hs.nilG 4 39).pack (H1 := [.rg 4 39 none 0 []]) _ fun w S ⟨T, hT, hc, _⟩ => ⟨[], Grp.nil _ _ _, fun a ha => hT _ (hc.1 a ha), hc.2.mono (Nat.le_refl _) fun b _ h => hT b h⟩
end
/-- An entry's lists, to be turned over. -/
def enK (a : EnA) : List Cd := [.ck (jk a.A a.x.key.length a.c), .ck (jk a.B a.x.val.length a.d)]
theorem enK_of {w : World} : ∀ {es : List EnA} {S : BS}, Sat w (es.flatMap enM) S → Sat w (es.flatMap enK) S
  | [], _, _ => trivial
  | a :: es, S, ⟨T, hT, h1, U, hU, h2, h3⟩ => ⟨T, hT, jk_of h1, U, hU, jk_of h2, enK_of h3⟩
theorem enK_mem {es : List EnA} {a : EnA} (ha : a ∈ es) : Cd.ck (jk a.A a.x.key.length a.c) ∈ es.flatMap enK ∧ Cd.ck (jk a.B a.x.val.length a.d) ∈ es.flatMap enK :=
  ⟨List.mem_flatMap.2 ⟨a, ha, List.mem_cons_self⟩, List.mem_flatMap.2 ⟨a, ha, List.mem_cons_of_mem _ List.mem_cons_self⟩⟩
theorem St.esK {M : BS} {w0 w : World} {H : List Cd} {A : Option Addr} {c : Nat} {l : List En} (hs : St M w0 w (.ck (rsC 4 39 A c (l.map oE)) :: H)) : ∃ es : List EnA, es.map (·.x) = l ∧ St M w0 w (.rg 4 39 A c ((es.map eaV).map rawEl) :: .ck (packC (es.flatMap enK)) :: H) := by
  obtain ⟨⟨es, he⟩, h⟩ := hs.unpackE (α := { es : List EnA // es.map (·.x) = l }) (H1 := fun es => [.rg 4 39 A c ((es.1.map eaV).map rawEl), .ck (packC (es.1.flatMap enK))]) fun T h => by
    obtain ⟨es, e1, e2⟩ := rs_es h
    refine ⟨⟨es, e1⟩, ?_⟩
    rw [List.map_map]
    exact Sat.packR (X := [.rg 4 39 A c (es.map fun a => rawEl (eaV a))]) e2 fun T h => enK_of h
  exact ⟨es, he, h⟩
theorem raw7 {w : World} {k : Nat} {e : TypeId} {S : BS} {Z : Option Addr} {cz base j : Nat} {css : List (List Value)} {cs : List Value} (hk : 0 < k) (h : OwR k e w base S Z cz (css.map rawEl)) (hj : css[j]? = some cs) : ∃ b o, Z = some ⟨b, o, none⟩ ∧ Wi w b (o + j * k) cs := by
  obtain ⟨b, o, cs', hqq, _, _, hp, i1⟩ := RdR.at hk (OwR.rd h) (E := rawEl cs) (i := j) (by rw [List.getElem?_map, hj]; rfl)
  obtain rfl : cs' = cs := hp
  exact ⟨b, o, hqq, i1⟩
/-- An ask. -/
structure Ak where
  key : List UInt8
  to : List UInt8
  at_ : Nat
def akV (a : Ak) (A : Option Addr) (c : Nat) (B : Option Addr) (d : Nat) : List Value := [.slice A a.key.length c, .slice B a.to.length d, .int .u64 (a.at_ : Int)]
def akEl (a : Ak) : El where
  P w S cs := ∃ (A : Option Addr) (c : Nat) (B : Option Addr) (d : Nat), cs = akV a A c B d ∧ (byEl a.key).P w S [.slice A a.key.length c] ∧ (byEl a.to).P w S [.slice B a.to.length d]
  move := by rintro w w' S S' cs ⟨A, c, B, d, h, h1, h2⟩ hz hm; exact ⟨A, c, B, d, h, El.move _ h1 hz hm, El.move _ h2 hz hm⟩
theorem akEl.rd {w : World} {S : BS} {a : Ak} {cs : List Value} (h : (akEl a).P w S cs) : ∃ A c B d, cs = akV a A c B d ∧ RdB w A a.key ∧ RdB w B a.to := by
  obtain ⟨A, c, B, d, h0, h1, h2⟩ := h
  exact ⟨A, c, B, d, h0, (byE.rd h1).1, (byE.rd h2).1⟩
theorem sAk : StT Tryd.prog 57 3 := ⟨by kernel_rfl, by kernel_rfl⟩
theorem fa_sAk {k : Nat} (h : k < 3) : FieldAt Tryd.prog 57 k k := by
  match k, h with
  | 0, _ => exact fieldAt_mk Tryd.underlying57 rfl rfl (by kernel_rfl)
  | 1, _ => exact fieldAt_mk Tryd.underlying57 rfl rfl (by kernel_rfl)
  | 2, _ => exact fieldAt_mk Tryd.underlying57 rfl rfl (by kernel_rfl)
def zAk : List Value := [.slice none 0 0, .slice none 0 0, .int .u64 0]
theorem zeroAk : (Tryd.prog.info? 57).map (·.zero) = some (some (.agg zAk.toArray)) := by kernel_rfl
theorem tkAk : RowK Tryd.prog 52 57 3 (.agg zAk.toArray) 56 := ⟨Tryd.underlying52, by kernel_rfl, by simp [zAk, Value.cells], by decide⟩
theorem len3' {α : Type} : ∀ {l : List α}, l.length = 3 → ∃ a b c, l = [a, b, c]
  | [a, b, c], _ => ⟨a, b, c, rfl⟩
def akB (a : Ak) : Nat := a.key.length + a.to.length
theorem opens_ask : Opens Tryd.prog 57 akEl 3 akB (fun a => a.at_ < 2 ^ 64) := fun {H} enc W fuel cs x h => by
  obtain ⟨xs, n, rfl, rfl, hl, hx, hf⟩ := DataW.trod_struct Tryd.underlying57 h
  replace hl : cs.length = 3 := hl.trans (by kernel_rfl)
  obtain ⟨c0, c1, c2, rfl⟩ := len3' hl
  obtain ⟨y0, y1, y2, rfl⟩ := len3' hx
  obtain ⟨a0, h0, _, k0, b0⟩ := opens_bytes enc W n [c0] y0 (field_at hf (i := 0) (off := 0) (k := 1) (t := 31) rfl rfl rfl (by kernel_rfl))
  obtain ⟨a1, h1, _, k1, b1⟩ := opens_bytes enc W n [c1] y1 (field_at hf (i := 1) (off := 1) (k := 1) (t := 31) rfl rfl rfl (by kernel_rfl))
  obtain ⟨a2, h2, _, k2, b2⟩ := opens_int Tryd.underlying37 enc W n [c2] y2 (field_at hf (i := 2) (off := 2) (k := 1) (t := 37) rfl rfl rfl (by kernel_rfl))
  obtain rfl : c2 = .int .u64 a2 := by simpa [vEl] using h2
  have k2' : 0 ≤ a2 ∧ a2 ≤ 18446744073709551615 := by simpa [Lit.wf, IntKind.min, IntKind.max, IntKind.signed, IntKind.bits] using k2
  obtain ⟨s, rfl⟩ := Int.eq_ofNat_of_zero_le k2'.1
  have h0' := h0
  have h1' := h1
  obtain ⟨A, c, e0, _⟩ := h0
  obtain ⟨B, d, e1, _⟩ := h1
  obtain rfl : c0 = .slice A a0.length c := by simpa using e0
  obtain rfl : c1 = .slice B a1.length d := by simpa using e1
  refine ⟨⟨a0, a1, s⟩, ⟨A, c, B, d, rfl, h0', h1'⟩, rfl, ?_, ?_⟩
  · show s < 2 ^ 64; omega
  · replace b0 : a0.length + 1 ≤ _ := b0
    replace b1 : a1.length + 1 ≤ _ := b1
    simp only [akB, Rows.uptoBulk, Rows.uptoBulkAll, List.map_cons, List.map_nil]
    omega
theorem opens_asks : Opens Tryd.prog 52 (fun l : List Ak => rowEl 3 (l.map akEl)) 1 (sumB akB) (fun l => ∀ a ∈ l, a.at_ < 2 ^ 64) := opens_slice tkAk (by kernel_rfl) opens_ask
abbrev lnE (l : List En) : Nat := sumB enB l
theorem opens_lists7 : Opens Tryd.prog 51 (fun lists : List (List En) => rowEl 1 (lists.map fun l => rowEl 4 (l.map enEl))) 1 (sumB lnE) (fun lists => ∀ l ∈ lists, ∀ x ∈ l, x.seq < 2 ^ 64) := opens_slice tkEE (by kernel_rfl) opens_entries
end Go.Proofs.YtpnckagibkdcpaaDoor
