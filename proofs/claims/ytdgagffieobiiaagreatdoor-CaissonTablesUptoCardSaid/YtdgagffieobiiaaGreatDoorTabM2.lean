/-
  The texts of this proof, joined: Wf, Wa, Pb, Wg, Row, Pc, Wh, Ja, Held, Jb, Jc, Za, Zb, Jd, Zc.
-/
import Derived.Test.YtdgagffieobiiaaGreatDoorTabM1
import Derived.Laws.Externs
import Derived.OrdersHeld
import Derived.Deep.RegionHeld3

/-
  Walks over the comparisons of layer 1: Cmp of the reference; bytes.Compare, whose work the model does itself, and codec.Cmp.
-/
namespace Go.Proofs.YtdgagffieobiiaaGreatDoor
open Go.RowKit

theorem run_loadBytes {P : Program} {w : World} {b : Nat} : ∀ (xs : List UInt8) (o : Nat) (acc : List UInt8), (∀ j u, (bvs xs)[j]? = some u → w.cell? ⟨b, o + j, none⟩ = some u) →
    (Extern.Bytes.loadBytes ⟨b, o, none⟩ xs.length ⟨acc.toArray⟩).run P w = .ok ⟨(acc ++ xs).toArray⟩ w
  | [], o, acc, _ => by simp [Extern.Bytes.loadBytes]
  | x :: xs, o, acc, h => by
    have h0 := h 0 (bv x) (by simp [bvs])
    simp only [Nat.add_zero] at h0
    have ih := run_loadBytes (P := P) xs (o + 1) (acc ++ [x]) (fun j u hu => by
      have := h (j + 1) u (by simpa [bvs] using hu)
      rw [show o + 1 + j = o + (j + 1) by omega]; exact this)
    have e1 : (ByteArray.mk acc.toArray).push x = ⟨(acc ++ [x]).toArray⟩ := by
      simp [ByteArray.push]
    have e2 : ((x.toNat : Int)).toNat.toUInt8 = x := by simp
    simp only [List.length_cons, Extern.Bytes.loadBytes, Sem.run_bind, run_load, h0, Result.andThen_ok, bv, e2, e1, Addr.add_lit, ih]
    simp
theorem run_bytesOf {P : Program} {w : World} {A : Option Addr} {c : Nat} {xs : List UInt8} (hr : RdB w A xs) : (Extern.Bytes.bytesOf (.slice A xs.length c)).run P w = .ok ⟨xs.toArray⟩ w := by
  cases xs with
  | nil => cases A with
    | none => simp [Extern.Bytes.bytesOf]; rfl
    | some a => simp [Extern.Bytes.bytesOf, Extern.Bytes.loadBytes]; rfl
  | cons x r =>
    obtain ⟨b, o, rfl, _, hc⟩ := hr.2 (by simp)
    have := run_loadBytes (P := P) (x :: r) o [] hc
    simp only [Extern.Bytes.bytesOf]
    exact this
theorem ba_get (l : List UInt8) (i : Nat) : (ByteArray.mk l.toArray)[i]! = l.getD i 0 := by
  by_cases h : i < l.length
  · rw [getElem!_pos _ i (show i < (ByteArray.mk l.toArray).size from h)]
    simp [List.getD, List.getElem?_eq_getElem h]; rfl
  · rw [getElem!_neg _ i (show ¬ i < (ByteArray.mk l.toArray).size from h)]
    simp [List.getD, List.getElem?_eq_none (Nat.le_of_not_lt h)]; rfl
def cmpL (xs ys : List UInt8) : Int :=
  match (List.range (min xs.length ys.length)).find? fun i => xs.getD i 0 != ys.getD i 0 with
  | some i => if xs.getD i 0 < ys.getD i 0 then -1 else 1
  | none => if xs.length < ys.length then -1 else if xs.length > ys.length then 1 else 0
theorem cmp_list (xs ys : List UInt8) : Extern.BytealgCompare.cmp ⟨xs.toArray⟩ ⟨ys.toArray⟩ = cmpL xs ys := by
  unfold Extern.BytealgCompare.cmp cmpL
  simp only [ba_get]
  rfl
theorem cmpL_eq : ∀ (xs ys : List UInt8), cmpL xs ys = cmpB xs ys
  | [], [] => by simp [cmpL, cmpB]
  | [], _ :: _ => by simp [cmpL, cmpB]
  | _ :: _, [] => by simp [cmpL, cmpB]
  | x :: xs, y :: ys => by
    have ih := cmpL_eq xs ys
    unfold cmpL at ih ⊢
    rw [show min (x :: xs).length (y :: ys).length = min xs.length ys.length + 1 by simp, List.range_succ_eq_map, List.find?_cons]
    by_cases h : x = y
    · subst h
      simp only [List.getD_cons_zero, bne_self_eq_false, List.find?_map]
      have e : ((fun i => (x :: xs).getD i 0 != (x :: ys).getD i 0) ∘ Nat.succ) = fun i => xs.getD i 0 != ys.getD i 0 := by
        funext i; simp
      have ec : cmpB (x :: xs) (x :: ys) = cmpB xs ys := by simp [cmpB]
      rw [e, ec, ← ih]
      cases (List.range (min xs.length ys.length)).find? fun i => xs.getD i 0 != ys.getD i 0 with
      | none => simp
      | some i => simp
    · have hne : (x != y) = true := by simpa using h
      simp only [List.getD_cons_zero, cmpB, hne]
      by_cases hlt : x < y
      · simp [hlt]
      · have : y < x := by
          rcases Nat.lt_trichotomy x.toNat y.toNat with h' | h' | h'
          · exact absurd (UInt8.lt_iff_toNat_lt.2 h') hlt
          · exact absurd (UInt8.toNat_inj.1 h') h
          · exact UInt8.lt_iff_toNat_lt.2 h'
        simp [hlt, this]

/-- The model's own work for bytes.Compare. -/
theorem compare_run {A B : Option Addr} {c d : Nat} {xs ys : List UInt8} {w : World} (hx : RdB w A xs) (hy : RdB w B ys) :
    (callFunc 94 #[.slice A xs.length c, .slice B ys.length d]).run Tryz.prog w = .ok (.value (.int .i64 (cmpB xs ys))) w := by
  rw [run_callFunc_extern Tryz.func94 (by kernel_rfl) rfl (by kernel_rfl) (e := Extern.BytealgCompare.compare) (by kernel_rfl)]
  have e : ∀ u v : Value, Extern.BytealgCompare.compare #[u, v] = (do pure (goInt (Extern.BytealgCompare.cmp (← Extern.Bytes.bytesOf u) (← Extern.Bytes.bytesOf v)))) := fun _ _ => rfl
  rw [e]
  simp only [Sem.run_bind, run_bytesOf hx, run_bytesOf hy, Result.andThen_ok, cmp_list, cmpL_eq]
  simp [goInt]

/-- A call that the model carries out itself. -/
theorem wl_ext {P : Program} {N : Nat} {ops : Array Oper} {Q : Exit → Act → World → Prop} {rest : List Oper} {L : FL} {w w' : World} {d : Nat} {f : FuncId} {xs : List Operand} {ats : Array TypeId} {ty : TypeId} {pos : String} {aft : Array Edge} {vs : List Value} {v : Value}
    (hr : (callFunc f vs.toArray).run P w = .ok (.value v) w') (hx : Looks L xs vs) (hd : Nat.blt d N = true) (h : WL P N ops Q rest ((d, v) :: L) w') :
    WL P N ops Q (⟨some d, .call { callee := .value (.func f), args := xs.toArray, argTypes := ats }, ty, pos, aft, none⟩ :: rest) L w := by
  refine wl_val (w' := w') (fun ρ o hρ ho _ => ?_) hd h
  have hf : ρ (.func f) = .func (.func f) #[] #[] := hρ _ _ rfl
  have hm := Looks.map hρ hx
  unfold execOp
  simp only [ho, resolve, Deferred.ofValue, hf, Sem.run_bind, Sem.run_pure, Result.andThen_ok, invoke]
  have : (#[] ++ Array.map ρ xs.toArray ++ #[]) = vs.toArray := by simp [hm]
  rw [this]
  exact hr
theorem bytesCompare_any {A B : Option Addr} {n m c d : Nat} {xs ys : List UInt8} {w : World} (hx : RdB w A xs) (hy : RdB w B ys) (hn : xs.length = n) (hm : ys.length = m) :
    CallsV Tryz.prog 71 #[.slice A n c, .slice B m d] w fun v w' => v = .int .i64 (cmpB xs ys) ∧ w = w' := by
  subst hn hm
  refine calls_in (N := _) Tryz.func71 rfl Tryz.ntmps71 rfl ?_; show WC _ _ _ _ _ _
  refine wc_sr ?_; refine wl_as rfl rfl ?_; refine wl_ns ?_; refine wc_sr ?_; refine wl_mv rfl rfl ?_; refine wl_mv rfl rfl ?_
  refine wl_ext (compare_run hx hy) ⟨rfl, rfl, trivial⟩ rfl ?_
  refine wl_as rfl rfl ?_; refine wl_ns ?_; refine wc_ret ?_
  exact we_ret1 rfl rfl ⟨_, rfl, rfl, rfl⟩
theorem cmp_any {A B : Option Addr} {n m c d : Nat} {xs ys : List UInt8} {w : World} (hx : RdB w A xs) (hy : RdB w B ys) (hn : xs.length = n) (hm : ys.length = m) :
    CallsV Tryz.prog 40 #[.slice A n c, .slice B m d] w fun v w' => v = .int .i64 (cmpB xs ys) ∧ w = w' := by
  refine calls_in (N := _) Tryz.func40 rfl Tryz.ntmps40 rfl ?_; show WC _ _ _ _ _ _
  refine wc_sr ?_; refine wl_as rfl rfl ?_; refine wl_ns ?_; refine wc_sr ?_; refine wl_mv rfl rfl ?_; refine wl_mv rfl rfl ?_
  refine wl_call ok_bytes_Compare (bytesCompare_any hx hy hn hm) ⟨rfl, rfl, trivial⟩ rfl ?_
  rintro _ _ ⟨rfl, rfl⟩
  refine wl_as rfl rfl ?_; refine wl_ns ?_; refine wc_ret ?_
  exact we_ret1 rfl rfl ⟨_, rfl, rfl, rfl⟩

theorem refCmp_any {A B : Option Addr} {n m c d : Nat} {xs ys : List UInt8} {w : World} (hx : RdB w A xs) (hy : RdB w B ys) (hn : xs.length = n) (hm : ys.length = m) (hlx : xs.length ≤ maxLen) (hly : ys.length ≤ maxLen) :
    CallsV Tryz.prog 84 #[.slice A n c, .slice B m d] w fun v w' => v = .int .i64 (cmpB xs ys) ∧ Below w.heap.size w w' := by
  subst hn hm
  simp only [maxLen] at hlx hly
  refine calls_in (N := _) Tryz.func84 rfl Tryz.ntmps84 rfl ?_; show WC _ _ _ _ _ _
  refine wc_sr ?_; refine wl_as rfl rfl ?_; refine wl_ns ?_; refine wc_seq ?_; refine wc_sr ?_; refine wl_as rfl rfl ?_; refine wl_ns ?_; refine wc_block ?_
  refine wc_loop (fun L wr m => ∃ k : Nat, L = [(0, .slice A xs.length c), (1, .slice B ys.length d), (5, .int .i64 (k : Int))] ∧ k ≤ xs.length ∧ k ≤ ys.length ∧ cmpB xs ys = cmpB (xs.drop k) (ys.drop k) ∧ Below w.heap.size w wr ∧ m = xs.length - k)
    [(0, .slice A xs.length c), (1, .slice B ys.length d), (5, .int .i64 (0 : Nat))] xs.length ⟨0, rfl, by omega, by omega, rfl, Below.refl _ _, rfl⟩ ⟨rfl, rfl, rfl, trivial⟩ ?_
  rintro _ wr m ⟨k, rfl, hk, hk2, heq, hb, rfl⟩
  have r1 := RdB.below hx hb
  have r2 := RdB.below hy hb
  refine wc_seq ?_; refine wc_sr ?_; refine wl_mv rfl rfl ?_; refine wl_mv rfl rfl ?_; apply wl_val; apply opv_len; exact rfl; exact tyB.sl; exact rfl; refine wl_bin rfl rfl bin_lss rfl ?_; refine wl_mv rfl rfl ?_
  refine wl_cutV 5 15 (.bool (decide (((k : Int) < (xs.length : Int)) ∧ ((k : Int) < (ys.length : Int))))) ?c6 ?_; (case c6 => (dsimp only [List.take]; by_cases hc0 : ((k : Int) < (xs.length : Int)); (focus (apply wl_take; exact rfl; exact rfl; exact rfl; refine bT ?_; (with_reducible assumption); refine wl_mv rfl rfl ?_; apply wl_take; exact rfl; exact rfl; exact rfl; refine bT ?_; (with_reducible assumption); refine wl_mv rfl rfl ?_; apply wl_take; exact rfl; exact rfl; exact rfl; refine bT ?_; (with_reducible assumption); apply wl_val; apply opv_len; exact rfl; exact tyB.sl; exact rfl; apply wl_take; exact rfl; exact rfl; exact rfl; refine bT ?_; (with_reducible assumption); refine wl_bin rfl rfl bin_lss rfl ?_; apply wl_val; apply opv_pickT; exact rfl; refine bT ?_; (with_reducible assumption); exact rfl; exact rfl; refine wl_nil ?_; refine we_cut _ ⟨rfl, rfl⟩ ⟨congrArg (fun b => some (Value.bool b)) ?e6_0, ?s6_0⟩; (case e6_0 => ((simp [hc0]; done))); (case s6_0 => (refine And.intro rfl ?_; refine And.intro rfl ?_; refine And.intro rfl ?_; refine And.intro rfl ?_; refine And.intro rfl ?_; refine And.intro rfl ?_; refine And.intro rfl ?_; refine And.intro rfl ?_; exact True.intro)))); (focus (apply wl_skip; exact rfl; exact rfl; exact rfl; refine bFn ?_; (with_reducible assumption); exact rfl; apply wl_skip; exact rfl; exact rfl; exact rfl; refine bFn ?_; (with_reducible assumption); exact rfl; apply wl_skip; exact rfl; exact rfl; exact rfl; refine bFn ?_; (with_reducible assumption); exact rfl; apply wl_skip; exact rfl; exact rfl; exact rfl; refine bFn ?_; (with_reducible assumption); exact rfl; apply wl_val; apply opv_pickF; exact rfl; refine bF ?_; (with_reducible assumption); exact rfl; exact rfl; refine wl_nil ?_; refine we_cut _ ⟨rfl, rfl⟩ ⟨congrArg (fun b => some (Value.bool b)) ?e6_1, ?s6_1⟩; (case e6_1 => ((simp [hc0]; done))); (case s6_1 => (refine And.intro rfl ?_; refine And.intro rfl ?_; refine And.intro rfl ?_; refine And.intro rfl ?_; refine And.intro rfl ?_; refine And.intro rfl ?_; refine And.intro rfl ?_; refine And.intro rfl ?_; exact True.intro)))))); dsimp only [List.drop]
  refine wl_ns ?_
  refine wc_cond rfl (fun h1 => ?_) (fun h1 => ?_)
  · obtain ⟨x, hxk⟩ : ∃ x, xs[k]? = some x := ⟨_, List.getElem?_eq_getElem (by omega)⟩
    obtain ⟨y, hyk⟩ : ∃ y, ys[k]? = some y := ⟨_, List.getElem?_eq_getElem (by omega)⟩
    rw [drop_get hxk, drop_get hyk] at heq
    refine wc_skip ?_; refine we_seq ?_; refine wc_seq ?_; refine wc_block ?_; refine wc_seq ?_; refine wc_seq ?_
    refine wc_drawB mixed (by kernel_rfl) ?_
    apply wq_val; intro _ hw_; apply opv_move; exact rfl; exact rfl; apply wq_val; intro _ hw_; apply opv_move; exact rfl; exact rfl; apply wq_byK (T := tyB) (hr := r1) (hb := hxk); exact rfl; exact rfl; exact rfl; exact rfl; exact rfl; intro _; apply wq_val; intro _ hw_; apply opv_move; exact rfl; exact rfl; apply wq_val; intro _ hw_; apply opv_move; exact rfl; exact rfl; apply wq_byK (T := tyB) (hr := r2) (hb := hyk); exact rfl; exact rfl; exact rfl; exact rfl; exact rfl; intro _; apply wq_val; intro _ hw_; apply opv_bin; exact rfl; exact rfl; exact bin_lss; exact rfl; refine wq_nil fun w1 hw1 => ?_
    replace hb := hb.trans (hw1.mono hb.size)
    replace r1 := RdB.below r1 hw1
    replace r2 := RdB.below r2 hw1
    clear hw1
    refine we_seq ?_
    refine wc_cond rfl (fun h2 => ?_) (fun h2 => ?_)
    · refine wc_sr ?_; refine wl_as rfl rfl ?_; refine wl_ns ?_; refine wc_ret ?_; refine we_seq_ret ?_; refine we_block_ret ?_; refine we_seq_ret ?_; refine we_loop_ret ?_; refine we_block_ret ?_; refine we_seq_ret ?_
      exact we_ret1 rfl rfl ⟨_, rfl, by rw [heq, cmp_lt (UInt8.lt_iff_toNat_lt.2 (by omega))], hb⟩
    · refine wc_skip ?_; refine we_seq ?_; refine wc_seq ?_
      refine wc_drawB mixed (by kernel_rfl) ?_
      apply wq_val; intro _ hw_; apply opv_move; exact rfl; exact rfl; apply wq_val; intro _ hw_; apply opv_move; exact rfl; exact rfl; apply wq_byK (T := tyB) (hr := r1) (hb := hxk); exact rfl; exact rfl; exact rfl; exact rfl; exact rfl; intro _; apply wq_val; intro _ hw_; apply opv_move; exact rfl; exact rfl; apply wq_val; intro _ hw_; apply opv_move; exact rfl; exact rfl; apply wq_byK (T := tyB) (hr := r2) (hb := hyk); exact rfl; exact rfl; exact rfl; exact rfl; exact rfl; intro _; apply wq_val; intro _ hw_; apply opv_bin; exact rfl; exact rfl; exact bin_gtr; exact rfl; refine wq_nil fun w1 hw1 => ?_
      replace hb := hb.trans (hw1.mono hb.size)
      clear hw1
      refine we_seq ?_
      refine wc_cond rfl (fun h3 => ?_) (fun h3 => ?_)
      · refine wc_sr ?_; refine wl_as rfl rfl ?_; refine wl_ns ?_; refine wc_ret ?_; refine we_block_ret ?_; refine we_seq_ret ?_; refine we_loop_ret ?_; refine we_block_ret ?_; refine we_seq_ret ?_
        exact we_ret1 rfl rfl ⟨_, rfl, by rw [heq, cmp_gt (UInt8.lt_iff_toNat_lt.2 (by omega))], hb⟩
      · obtain rfl : x = y := UInt8.toNat_inj.1 (by omega)
        refine wc_skip ?_; refine we_block_norm ?_; refine we_seq ?_; refine wc_region ?_; refine wl_mv rfl rfl ?_; apply wl_val; apply opv_bin; exact rfl; exact rfl; exact bin_add64 (by omega); exact rfl; refine wl_as rfl rfl ?_; refine wl_nil ?_
        refine we_loop [(0, .slice A xs.length c), (1, .slice B ys.length d), (5, .int .i64 ((k + 1 : Nat) : Int))] (xs.length - (k + 1)) ⟨k + 1, rfl, by omega, by omega, by rw [heq, cmp_same], hb, rfl⟩ (by omega) ⟨rfl, rfl, by simp [lookT], trivial⟩
  · refine wc_exit ?_; refine we_seq_exit ?_; refine we_loop_exit ?_; refine we_block_exit ?_; refine we_seq ?_; refine wc_seq ?_; refine wc_sr ?_; refine wl_mv rfl rfl ?_; apply wl_val; apply opv_len; exact rfl; exact tyB.sl; exact rfl; refine wl_mv rfl rfl ?_; apply wl_val; apply opv_len; exact rfl; exact tyB.sl; exact rfl; refine wl_bin rfl rfl bin_lss rfl ?_; refine wl_ns ?_
    refine wc_cond rfl (fun h2 => ?_) (fun h2 => ?_)
    · refine wc_sr ?_; refine wl_as rfl rfl ?_; refine wl_ns ?_; refine wc_ret ?_; refine we_seq_ret ?_
      exact we_ret1 rfl rfl ⟨_, rfl, by rw [heq, cmp_short (List.drop_of_length_le (by omega)) (by simp; omega)], hb⟩
    · refine wc_skip ?_; refine we_seq ?_; refine wc_seq ?_; refine wc_sr ?_; refine wl_mv rfl rfl ?_; apply wl_val; apply opv_len; exact rfl; exact tyB.sl; exact rfl; refine wl_mv rfl rfl ?_; apply wl_val; apply opv_len; exact rfl; exact tyB.sl; exact rfl; refine wl_bin rfl rfl bin_gtr rfl ?_; refine wl_ns ?_
      refine wc_cond rfl (fun h3 => ?_) (fun h3 => ?_)
      · refine wc_sr ?_; refine wl_as rfl rfl ?_; refine wl_ns ?_; refine wc_ret ?_; refine we_seq_ret ?_
        exact we_ret1 rfl rfl ⟨_, rfl, by rw [heq, cmp_long (by simp; omega) (List.drop_of_length_le (by omega))], hb⟩
      · refine wc_skip ?_; refine we_seq ?_; refine wc_sr ?_; refine wl_as rfl rfl ?_; refine wl_ns ?_; refine wc_ret ?_
        exact we_ret1 rfl rfl ⟨_, rfl, by rw [heq, List.drop_of_length_le (show xs.length ≤ k by omega), List.drop_of_length_le (show ys.length ≤ k by omega)]; rfl, hb⟩
end Go.Proofs.YtdgagffieobiiaaGreatDoor

/-
  Walks over the smallest functions of layer 1: Copy, Equal, Cmp of the references, PutU of both.
-/
namespace Go.Proofs.YtdgagffieobiiaaGreatDoor
open Go.RowKit

theorem copy_any {A : Option Addr} {n c : Nat} {xs : List UInt8} {w : World} (hr : RdB w A xs) (hn : xs.length = n) (hl : xs.length ≤ 140737488355328) : CallsV Tryz.prog 59 #[.slice A n c] w (RetB w xs) := by
  subst hn
  refine calls_in (N := _) Tryz.func59 rfl Tryz.ntmps59 rfl ?_; show WC _ _ _ _ _ _
  refine wc_sr ?_; refine wl_as rfl rfl ?_; refine wl_ns ?_; refine wc_sr ?_
  refine wl_bs (vs := []) tyB trivial rfl (by decide) rfl fun A1 w1 ho hb _ => ?_
  refine wl_mv rfl rfl ?_
  refine wl_app tyB rfl ho rfl (RdB.below hr hb) (bvs_one _) (by omega) (by simp only [maxLen]; omega) hb.size rfl fun A' c' w' ho' hg _ => ?_
  refine wl_as rfl rfl ?_; refine wl_ns ?_; refine wc_ret ?_
  refine we_ret1 rfl rfl ⟨_, rfl, A', c', by simp, ?_, ?_⟩
  · have := ho'; simp only [Nat.zero_add, List.nil_append] at this; exact this
  · exact hg.below hb ho (Nat.le_refl _) hb.size

theorem equal_any {A B : Option Addr} {n m c d : Nat} {xs ys : List UInt8} {w : World} (hx : RdB w A xs) (hy : RdB w B ys) (hn : xs.length = n) (hm : ys.length = m) (hlx : xs.length ≤ maxLen) :
    CallsV Tryz.prog 54 #[.slice A n c, .slice B m d] w fun v w' => v = .bool (decide (xs = ys)) ∧ Below w.heap.size w w' := by
  subst hn hm
  simp only [maxLen] at hlx
  refine calls_in (N := _) Tryz.func54 rfl Tryz.ntmps54 rfl ?_; show WC _ _ _ _ _ _
  refine wc_sr ?_; refine wl_as rfl rfl ?_; refine wl_ns ?_; refine wc_seq ?_; refine wc_sr ?_; refine wl_mv rfl rfl ?_; apply wl_val; apply opv_len; exact rfl; exact tyB.sl; exact rfl; refine wl_mv rfl rfl ?_; apply wl_val; apply opv_len; exact rfl; exact tyB.sl; exact rfl; refine wl_bin rfl rfl bin_neq rfl ?_; refine wl_ns ?_
  refine wc_cond rfl (fun h => ?_) (fun h => ?_)
  · refine wc_sr ?_; refine wl_as rfl rfl ?_; refine wl_ns ?_; refine wc_ret ?_; refine we_seq_ret ?_
    refine we_ret1 rfl rfl ⟨_, rfl, ?_, Below.refl _ _⟩
    have hne : ¬ xs = ys := fun e => h (by rw [e])
    simp [hne]
  · have hlen : xs.length = ys.length := by omega
    refine wc_skip ?_; refine we_seq ?_; refine wc_seq ?_; refine wc_sr ?_; refine wl_as rfl rfl ?_; refine wl_ns ?_; refine wc_block ?_
    refine wc_loop (fun L wr m => ∃ k : Nat, L = [(0, .slice A xs.length c), (1, .slice B ys.length d), (5, .int .i64 k)] ∧ k ≤ xs.length ∧ xs.take k = ys.take k ∧ Below w.heap.size w wr ∧ m = xs.length - k)
      [(0, .slice A xs.length c), (1, .slice B ys.length d), (5, .int .i64 (0 : Nat))] xs.length ⟨0, rfl, by omega, rfl, Below.refl _ _, rfl⟩ ⟨rfl, rfl, rfl, trivial⟩ ?_
    rintro _ wr m ⟨k, rfl, hk, heq, hbel, rfl⟩
    have hrx := RdB.below hx hbel
    have hry := RdB.below hy hbel
    refine wc_seq ?_; refine wc_sr ?_; refine wl_mv rfl rfl ?_; refine wl_mv rfl rfl ?_; apply wl_val; apply opv_len; exact rfl; exact tyB.sl; exact rfl; refine wl_bin rfl rfl bin_lss rfl ?_; refine wl_ns ?_
    refine wc_cond rfl (fun h1 => ?_) (fun h1 => ?_)
    · refine wc_skip ?_; refine we_seq ?_; refine wc_seq ?_; refine wc_block ?_; refine wc_seq ?_
      refine wc_drawB mixed (by kernel_rfl) ?_
      apply wq_val; intro _ hw_; apply opv_move; exact rfl; exact rfl; apply wq_val; intro _ hw_; apply opv_move; exact rfl; exact rfl
      refine wq_by tyB rfl rfl hrx rfl (by omega) rfl rfl fun p1 x hxk => ?_
      apply wq_val; intro _ hw_; apply opv_move; exact rfl; exact rfl; apply wq_val; intro _ hw_; apply opv_move; exact rfl; exact rfl
      refine wq_by tyB rfl rfl hry rfl (by omega) rfl rfl fun p2 y hyk => ?_
      apply wq_val; intro _ hw_; apply opv_bin; exact rfl; exact rfl; exact bin_neq; exact rfl; refine wq_nil fun w1 hw1 => ?_
      have hb1 := hbel.trans (hw1.mono hbel.size)
      refine we_seq ?_
      refine wc_cond rfl (fun h2 => ?_) (fun h2 => ?_)
      · refine wc_sr ?_; refine wl_as rfl rfl ?_; refine wl_ns ?_; refine wc_ret ?_; refine we_block_ret ?_; refine we_seq_ret ?_; refine we_loop_ret ?_; refine we_block_ret ?_; refine we_seq_ret ?_
        refine we_ret1 rfl rfl ⟨_, rfl, ?_, hb1⟩
        have hne : ¬ xs = ys := fun e => by subst e; rw [hxk] at hyk; cases hyk; exact h2 rfl
        simp [hne]
      · refine wc_skip ?_; refine we_block_norm ?_; refine we_seq ?_; refine wc_region ?_; refine wl_mv rfl rfl ?_; apply wl_val; apply opv_bin; exact rfl; exact rfl; exact bin_add64 (by omega); exact rfl; refine wl_as rfl rfl ?_; refine wl_nil ?_
        refine we_loop [(0, .slice A xs.length c), (1, .slice B ys.length d), (5, .int .i64 (k + 1 : Nat))] (xs.length - (k + 1)) ⟨k + 1, rfl, by omega, ?_, hb1, rfl⟩ (by omega) ⟨rfl, rfl, by simp [lookT], trivial⟩
        have : x = y := UInt8.toNat_inj.1 (by omega)
        rw [take_get hxk, take_get hyk, heq, this]
    · refine wc_exit ?_; refine we_seq_exit ?_; refine we_loop_exit ?_; refine we_block_exit ?_; refine we_seq ?_; refine wc_sr ?_; refine wl_as rfl rfl ?_; refine wl_ns ?_; refine wc_ret ?_
      refine we_ret1 rfl rfl ⟨_, rfl, ?_, hbel⟩
      have hkl : k = xs.length := by omega
      rw [hkl, List.take_length, hlen, List.take_length] at heq
      simp [heq]
end Go.Proofs.YtdgagffieobiiaaGreatDoor

/-
  Plain functions on lists of bytes, for layer 1 (codec): bytes with an end are read back; numbers of eight bytes; frames; what stands next. Nothing here names the program or the model.
-/
namespace Go.Proofs.YtdgagffieobiiaaGreatDoor

/-! ### What stands next -/
end Go.Proofs.YtdgagffieobiiaaGreatDoor

/-
  Walks over bytes.Clone and over Next of the program and of the reference.
-/
namespace Go.Proofs.YtdgagffieobiiaaGreatDoor
open Go.RowKit

theorem rd_none {w : World} {xs : List UInt8} (h : RdB w none xs) : xs = [] := by
  cases xs with
  | nil => rfl
  | cons x r => obtain ⟨_, _, h, _⟩ := h.2 (by simp); cases h

theorem clone_any {A : Option Addr} {n c : Nat} {xs : List UInt8} {w : World} (hr : RdB w A xs) (hn : xs.length = n) (hl : xs.length ≤ 140737488355328) : CallsV Tryz.prog 43 #[.slice A n c] w (RetB w xs) := by
  subst hn
  refine calls_in (N := _) Tryz.func43 rfl Tryz.ntmps43 rfl ?_; show WC _ _ _ _ _ _
  refine wc_sr ?_; refine wl_as rfl rfl ?_; refine wl_ns ?_; refine wc_seq ?_; refine wc_sr ?_; refine wl_mv rfl rfl ?_
  refine wl_val (opv_bin rfl rfl (bin_eqlSliceNil Tryz.underlying28)) rfl ?_
  refine wl_ns ?_
  refine wc_condB rfl (fun h => ?_) (fun h => ?_)
  · obtain rfl : A = none := by cases A <;> simp at h ⊢
    obtain rfl := rd_none hr
    refine wc_sr ?_; refine wl_as rfl rfl ?_; refine wl_ns ?_; refine wc_ret ?_; refine we_seq_ret ?_
    exact we_ret1 rfl rfl ⟨_, rfl, none, 0, rfl, Ow.nil _ _ _, Below.refl _ _⟩
  · refine wc_skip ?_; refine we_seq ?_; refine wc_sr ?_
    refine wl_bs (vs := []) tyB trivial rfl (by decide) rfl fun A1 w1 ho hb _ => ?_
    refine wl_mv rfl rfl ?_
    refine wl_app tyB rfl ho rfl (RdB.below hr hb) (bvs_one _) (by omega) (by simp only [maxLen]; omega) hb.size rfl fun A' c' w' ho' hg _ => ?_
    refine wl_as rfl rfl ?_; refine wl_ns ?_; refine wc_ret ?_
    refine we_ret1 rfl rfl ⟨_, rfl, A', c', by simp, ?_, ?_⟩
    · have := ho'; simp only [Nat.zero_add, List.nil_append] at this; exact this
    · exact hg.below hb ho (Nat.le_refl _) hb.size

end Go.Proofs.YtdgagffieobiiaaGreatDoor

/-
  Lists of lists of bytes: read, or rows of the call's own that lie apart; and the rules to read one and to append one.
-/
namespace Go.Proofs.YtdgagffieobiiaaGreatDoor
open Go.RowKit

section
variable {P : Program} {N : Nat} {ops : Array Oper} {Q : Exit → Act → World → Prop} {rest : List Oper} {L : FL} {w : World} {t e : TypeId} {z : Value} {bytes : Nat}
theorem Rd.in_len {A : Option Addr} {n k : Nat} {xs : List Value} {u : Value} (hr : Rd w A n xs) (h : xs[k]? = some u) : k < n := by
  have := (List.getElem?_eq_some_iff.1 h).1; have := hr.1; omega
theorem wl_elK {d1 d2 : Nat} {x i : Operand} {ty1 ty2 : TypeId} {p1 p2 : String} {f1 f2 : Array Edge} {A : Option Addr} {n c kk : Nat} {ik : IntKind} {q : Int} {xs : List Value} {u : Value} (T : Row1 P t e z bytes)
    (hx : look L x = some (Value.slice A n c)) (hi : look L i = some (.int ik q)) (hr : Rd w A n xs) (hq : q = (kk : Int)) (hb : xs[kk]? = some u) (hd1 : Nat.blt d1 N = true) (hd2 : Nat.blt d2 N = true)
    (h : ∀ p, WL P N ops Q rest ((d2, u) :: (d1, p) :: L) w) :
    WL P N ops Q (⟨some d1, .indexAddr t x i, ty1, p1, f1, none⟩ :: ⟨some d2, .load e (.tmp d1), ty2, p2, f2, none⟩ :: rest) L w :=
  wl_el T hx hi hr hq (hr.in_len hb) hd1 hd2 fun p u' hu => by rw [hb] at hu; cases hu; exact h p
theorem wl_elTK {d1 d2 j1 g1 j2 g2 : Nat} {b1 w1 b2 w2 : Bool} {x i : Operand} {ty1 ty2 : TypeId} {p1 p2 : String} {f1 f2 : Array Edge} {A : Option Addr} {n c kk : Nat} {ik : IntKind} {q : Int} {xs : List Value} {u : Value} (T : Row1 P t e z bytes)
    (hj1 : (ops[j1]?).bind (·.dst) = some g1) (hb1 : lookT L g1 = some (.bool b1)) (hg1 : Nat.blt g1 N = true) (he1 : b1 = w1)
    (hj2 : (ops[j2]?).bind (·.dst) = some g2) (hb2 : lookT L g2 = some (.bool b2)) (hg2 : Nat.blt g2 N = true) (hne : Nat.beq d1 g2 = false) (he2 : b2 = w2)
    (hx : look L x = some (Value.slice A n c)) (hi : look L i = some (.int ik q)) (hr : Rd w A n xs) (hq : q = (kk : Int)) (hb : xs[kk]? = some u) (hd1 : Nat.blt d1 N = true) (hd2 : Nat.blt d2 N = true)
    (h : ∀ p, WL P N ops Q rest ((d2, u) :: (d1, p) :: L) w) :
    WL P N ops Q (⟨some d1, .indexAddr t x i, ty1, p1, f1, some (j1, w1)⟩ :: ⟨some d2, .load e (.tmp d1), ty2, p2, f2, some (j2, w2)⟩ :: rest) L w :=
  wl_elT T hj1 hb1 hg1 he1 hj2 hb2 hg2 hne he2 hx hi hr hq (hr.in_len hb) hd1 hd2 fun p u' hu => by rw [hb] at hu; cases hu; exact h p
theorem wq_elTK {w0 : World} {Qa : Act → Prop} {d1 d2 j1 g1 j2 g2 : Nat} {b1 w1 b2 w2 : Bool} {x i : Operand} {ty1 ty2 : TypeId} {p1 p2 : String} {f1 f2 : Array Edge} {A : Option Addr} {n c kk : Nat} {ik : IntKind} {q : Int} {xs : List Value} {u : Value} (T : Row1 P t e z bytes)
    (hj1 : (ops[j1]?).bind (·.dst) = some g1) (hb1 : lookT L g1 = some (.bool b1)) (hg1 : Nat.blt g1 N = true) (he1 : b1 = w1)
    (hj2 : (ops[j2]?).bind (·.dst) = some g2) (hb2 : lookT L g2 = some (.bool b2)) (hg2 : Nat.blt g2 N = true) (hne : Nat.beq d1 g2 = false) (he2 : b2 = w2)
    (hx : look L x = some (Value.slice A n c)) (hi : look L i = some (.int ik q)) (hr : Rd w0 A n xs) (hq : q = (kk : Int)) (hb : xs[kk]? = some u) (hd1 : Nat.blt d1 N = true) (hd2 : Nat.blt d2 N = true)
    (h : ∀ p, WQ P N ops (Below w0.heap.size w0) Qa rest ((d2, u) :: (d1, p) :: L)) :
    WQ P N ops (Below w0.heap.size w0) Qa (⟨some d1, .indexAddr t x i, ty1, p1, f1, some (j1, w1)⟩ :: ⟨some d2, .load e (.tmp d1), ty2, p2, f2, some (j2, w2)⟩ :: rest) L := by
  obtain ⟨bb, o, rfl, hlt, hc⟩ := hr.2 (Nat.lt_of_le_of_lt (Nat.zero_le _) (hr.in_len hb))
  refine wq_take hj1 hb1 hg1 he1 (wq_val (fun w hw => opv_idx T hx hi hq (hr.in_len hb)) hd1 ?_)
  refine wq_take hj2 (b := b2) ?_ hg2 he2 (wq_val (v := u) (fun w hw => opv_load T (by simp [look, lookT]; rfl) ?_) hd2 (h _))
  · simpa [lookT, hne] using hb2
  · rw [hw.cell (p := ⟨bb, o + kk, none⟩) hlt]
    exact hc kk _ hb
end

/-- The slice reads as a list of lists of bytes. -/
def RdBB (w : World) (A : Option Addr) (rows : List (List UInt8)) : Prop :=
  ∃ vs : List Value, Rd w A rows.length vs ∧ ∀ (i : Nat) (r : List UInt8), rows[i]? = some r → ∃ (A' : Option Addr) (c' : Nat), vs[i]? = some (Value.slice A' r.length c') ∧ RdB w A' r ∧ r.length ≤ c'
/-- It is a row of the call's own, of rows of its own that all lie apart. -/
def OwBB (w : World) (base : Nat) (A : Option Addr) (c : Nat) (rows : List (List UInt8)) : Prop :=
  ∃ vs : List Value, Ow w base 28 A rows.length c vs ∧ (∀ (i : Nat) (r : List UInt8), rows[i]? = some r → ∃ (A' : Option Addr) (c' : Nat), vs[i]? = some (Value.slice A' r.length c') ∧ OwB w base A' c' r ∧ (∀ a a', A = some a → A' = some a' → a'.block ≠ a.block)) ∧
    vs.Pairwise fun v v' => ∀ g, v.ownBlock = some g → v'.ownBlock ≠ some g

section
variable {w w' : World} {A : Option Addr} {base c : Nat} {rows : List (List UInt8)}
theorem RdBB.below (h : RdBB w A rows) (hb : Below w.heap.size w w') : RdBB w' A rows := by
  obtain ⟨vs, hv, hr⟩ := h
  refine ⟨vs, hv.below hb, fun i r hi => ?_⟩
  obtain ⟨A', c', h1, h2, h3⟩ := hr i r hi
  exact ⟨A', c', h1, h2.below hb, h3⟩
theorem RdBB.at (h : RdBB w A rows) {k : Nat} {r : List UInt8} (hk : rows[k]? = some r) : ∃ (vs : List Value) (A' : Option Addr) (c' : Nat), Rd w A rows.length vs ∧ vs[k]? = some (Value.slice A' r.length c') ∧ RdB w A' r ∧ r.length ≤ c' := by
  obtain ⟨vs, hv, hr⟩ := h
  obtain ⟨A', c', h1, h2, h3⟩ := hr k r hk
  exact ⟨vs, A', c', hv, h1, h2, h3⟩
theorem OwBB.rd (h : OwBB w base A c rows) : RdBB w A rows := by
  obtain ⟨vs, ho, hr, _⟩ := h
  refine ⟨vs, ho.rd, fun i r hi => ?_⟩
  obtain ⟨A', c', h1, h2, _⟩ := hr i r hi
  exact ⟨A', c', h1, OwB.rd h2, h2.cap⟩
theorem OwBB.below (h : OwBB w base A c rows) (hb : Below w.heap.size w w') : OwBB w' base A c rows := by
  obtain ⟨vs, ho, hr, hs⟩ := h
  refine ⟨vs, Ow.below ho hb (Nat.le_refl _), fun i r hi => ?_, hs⟩
  obtain ⟨A', c', h1, h2, h3⟩ := hr i r hi
  exact ⟨A', c', h1, h2.below hb, h3⟩
theorem OwBB.nil (w : World) (base : Nat) : OwBB w base none 0 [] := ⟨[], Ow.nil _ _ _, by simp, List.Pairwise.nil⟩
theorem OwBB.empty (h : Ow w base 28 A 0 c []) : OwBB w base A c [] := ⟨[], h, by simp, List.Pairwise.nil⟩
theorem OwBB.mono {base' : Nat} (h : OwBB w base A c rows) (hb : base' ≤ base) : OwBB w base' A c rows := by
  obtain ⟨vs, ho, hr, hs⟩ := h
  refine ⟨vs, ho.mono hb, fun i r hi => ?_, hs⟩
  obtain ⟨A', c', h1, h2, h3⟩ := hr i r hi
  exact ⟨A', c', h1, Ow.mono h2 hb, h3⟩
theorem OwBB.cap (h : OwBB w base A c rows) : rows.length ≤ c := by
  obtain ⟨vs, h, _⟩ := h
  rcases h.2 with ⟨hv, hn⟩ | ⟨g, cap, cur, hv, _, _, hnc, _⟩
  · omega
  · injection hv with _ _ hc; omega
theorem OwBB.blocks {vs : List Value} (ho : Ow w base 28 A rows.length c vs) (hr : ∀ (i : Nat) (r : List UInt8), rows[i]? = some r → ∃ (A' : Option Addr) (c' : Nat), vs[i]? = some (Value.slice A' r.length c') ∧ OwB w base A' c' r ∧ (∀ a a', A = some a → A' = some a' → a'.block ≠ a.block)) :
    ∀ v ∈ vs, ∀ g, v.ownBlock = some g → g < w.heap.size := by
  intro v hv g hg
  obtain ⟨i, hi, rfl⟩ := List.getElem_of_mem hv
  have hl : i < rows.length := by have := ho.len; omega
  obtain ⟨A', c', h1, h2, _⟩ := hr i _ (List.getElem?_eq_getElem hl)
  rw [List.getElem?_eq_getElem hi] at h1
  simp only [Option.some.injEq] at h1
  rw [h1, ownBlock_slice] at hg
  cases A' with
  | none => simp at hg
  | some a' => have := (Ow.lt h2 a' rfl).2; simp at hg; omega
end

/-- append(rows, row): the row has been made behind the rows. -/
theorem wl_pushR {N : Nat} {ops : Array Oper} {Q : Exit → Act → World → Prop} {rest : List Oper} {L : FL} {w0 w wf : World} {d1 d2 : Nat} {s x : Operand} {ty1 ty2 : TypeId} {p1 p2 : String} {f1 f2 : Array Edge}
    {base n c c1 : Nat} {A A1 : Option Addr} {rows : List (List UInt8)} {r : List UInt8} (hown : OwBB w0 base A c rows) (hb : Below w0.heap.size w0 w) (hbase : base ≤ w0.heap.size) (hnew : OwB w w0.heap.size A1 c1 r) (hbel : Below base wf w)
    (hn : rows.length = n) (hbytes : (n + 1) * 24 ≤ 140737488355328) (hs : look L s = some (Value.slice A n c)) (hx : look L x = some (Value.slice A1 r.length c1))
    (hs1 : look ((d1, .slice (some ⟨w.heap.size, 0, none⟩) 1 1) :: L) s = some (Value.slice A n c)) (hd1 : Nat.blt d1 N = true) (hd2 : Nat.blt d2 N = true)
    (h : ∀ p A' c' w', OwBB w' base A' c' (rows ++ [r]) → Below base wf w' → WL Tryz.prog N ops Q rest ((d2, .slice A' (n + 1) c') :: (d1, p) :: L) w') :
    WL Tryz.prog N ops Q (⟨some d1, .buildSlice 23 1 #[(0, x)], ty1, p1, f1, none⟩ :: ⟨some d2, .call { callee := .builtin .append, args := #[s, .tmp d1], argTypes := #[23, 23] }, ty2, p2, f2, none⟩ :: rest) L w := by
  subst hn
  obtain ⟨vs, ho, hr, hsep⟩ := hown
  have hlt := OwBB.blocks ho hr
  have ho1 := Ow.below ho hb (Nat.le_refl _)
  have hsz := hb.size
  refine wl_push (vs := [.slice A1 r.length c1]) tyBB hs ho1 ⟨rfl, hx, rfl, trivial⟩ rfl (by decide) hs1 hbytes (by simp only [maxLen]; omega) (by omega) hd1 hd2 fun p A' c' w' ho' hg hat => ?_
  refine h p A' c' w' ⟨vs ++ [.slice A1 r.length c1], by rw [List.length_append]; exact ho', ?_, ?_⟩ ?_
  · intro i q hi
    have hlen := ho.len
    rw [List.getElem?_append] at hi
    by_cases hil : i < rows.length
    · rw [if_pos hil] at hi
      obtain ⟨A2, c2, h1, h2, h3⟩ := hr i q hi
      refine ⟨A2, c2, by rw [List.getElem?_append_left (by omega)]; exact h1, Ow.gr (base' := 0) (e' := 0) (Ow.below h2 hb (Nat.le_refl _)) hg (fun a b ha hb' => h3 _ _ hb' ha), ?_⟩
      rintro a a' rfl rfl
      have hl2 := (Ow.lt h2 a' rfl).2
      rcases hat with hat | hat
      · cases A with
        | none => simp at hat
        | some aa => simp only [Option.map_some, Option.some.injEq] at hat; rw [hat]; exact h3 aa a' rfl rfl
      · have := hat a rfl; omega
    · rw [if_neg hil] at hi
      have hi0 : i = rows.length := by
        have := (List.getElem?_eq_some_iff.1 hi).1
        simp at this; omega
      subst hi0
      simp at hi
      subst hi
      have hne : ∀ a b, A1 = some a → A = some b → a.block ≠ b.block := by
        rintro a b rfl rfl
        have := (Ow.lt hnew a rfl).1
        have := (Ow.lt ho b rfl).2
        omega
      refine ⟨A1, c1, by rw [← hlen]; simp, Ow.mono (Ow.gr (base' := 0) (e' := 0) hnew hg hne) hbase, ?_⟩
      rintro a a' rfl rfl
      have hl2 := (Ow.lt hnew a' rfl).2
      rcases hat with hat | hat
      · cases A with
        | none => simp at hat
        | some aa => simp only [Option.map_some, Option.some.injEq] at hat; rw [hat]; exact hne a' aa rfl rfl
      · have := hat a rfl; omega
  · rw [List.pairwise_append]
    refine ⟨hsep, List.pairwise_singleton _ _, fun v hv v' hv' g hg1 hg2 => ?_⟩
    simp only [List.mem_singleton] at hv'
    subst hv'
    have h1 := hlt v hv g hg1
    rw [ownBlock_slice] at hg2
    cases A1 with
    | none => simp at hg2
    | some a1 => have := (Ow.lt hnew a1 rfl).1; simp at hg2; omega
  · exact hg.below hbel ho1 (Nat.le_refl _) (by omega)
end Go.Proofs.YtdgagffieobiiaaGreatDoor

/-
  Plain laws of lists: tuples of written lists, frames, numbers of eight bytes. No program in sight.
-/
namespace Go.Proofs.YtdgagffieobiiaaGreatDoor

/-! ### Tuples -/

theorem cmp_refl : ∀ (a : List UInt8), cmpB a a = 0
  | [] => by simp [cmpB]
  | x :: r => by rw [cmp_same]; exact cmp_refl r
theorem cmp_zero : ∀ {a b : List UInt8}, cmpB a b = 0 → a = b
  | [], [], _ => rfl
  | [], _ :: _, h => by simp [cmpB] at h
  | _ :: _, [], h => by simp [cmpB] at h
  | x :: a, y :: b, h => by
    by_cases h1 : x < y
    · rw [cmp_lt h1] at h; omega
    · by_cases h2 : y < x
      · rw [cmp_gt h2] at h; omega
      · have e : x = y := UInt8.le_antisymm (UInt8.not_lt.1 h2) (UInt8.not_lt.1 h1)
        subst e
        rw [cmp_same] at h
        rw [cmp_zero h]
theorem cmp_neg : ∀ (a b : List UInt8), cmpB b a = - cmpB a b
  | [], [] => by simp [cmpB]
  | [], _ :: _ => by simp [cmpB]
  | _ :: _, [] => by simp [cmpB]
  | x :: a, y :: b => by
    by_cases h1 : x < y
    · rw [cmp_lt h1, cmp_gt h1]; rfl
    · by_cases h2 : y < x
      · rw [cmp_gt h2, cmp_lt h2]
      · have e : x = y := UInt8.le_antisymm (UInt8.not_lt.1 h2) (UInt8.not_lt.1 h1)
        subst e
        rw [cmp_same, cmp_same]; exact cmp_neg a b
theorem cmp_range (a b : List UInt8) : cmpB a b = -1 ∨ cmpB a b = 0 ∨ cmpB a b = 1 := by
  induction a generalizing b with
  | nil => cases b <;> simp [cmpB]
  | cons x a ih =>
    cases b with
    | nil => simp [cmpB]
    | cons y b =>
      by_cases h1 : x < y
      · rw [cmp_lt h1]; simp
      · by_cases h2 : y < x
        · rw [cmp_gt h2]; simp
        · have e : x = y := UInt8.le_antisymm (UInt8.not_lt.1 h2) (UInt8.not_lt.1 h1)
          subst e
          rw [cmp_same]; exact ih b
theorem take_getR {α : Type} {l : List α} {k : Nat} {b : α} (h : l[k]? = some b) : l.take (k + 1) = l.take k ++ [b] := by
  rw [List.take_add_one, h]; rfl
theorem flat_mem : ∀ {l : List (List UInt8)} {k : Nat} {x : List UInt8}, l[k]? = some x → x.length ≤ l.flatten.length
  | [], _, _, h => by simp at h
  | y :: l, 0, x, h => by
    simp only [List.getElem?_cons_zero, Option.some.injEq] at h
    subst h
    rw [List.flatten_cons, List.length_append]; omega
  | y :: l, k + 1, x, h => by
    simp only [List.getElem?_cons_succ] at h
    have := flat_mem h
    rw [List.flatten_cons, List.length_append]; omega
end Go.Proofs.YtdgagffieobiiaaGreatDoor

/-
  Walks over Copies and Equals of the references.
-/
namespace Go.Proofs.YtdgagffieobiiaaGreatDoor
open Go.RowKit

end Go.Proofs.YtdgagffieobiiaaGreatDoor

/-
  Entries: their struct type's facts, what the document says of lists of entries, and walks over the functions that look into one entry or two.
-/
namespace Go.Proofs.YtdgagffieobiiaaGreatDoor
open Go.RowKit

theorem sE : StT Tryz.prog 31 4 := ⟨by kernel_rfl, by kernel_rfl⟩
theorem fa_sE {k : Nat} (h : k < 4) : FieldAt Tryz.prog 31 k k := by
  match k, h with
  | 0, _ => exact fieldAt_mk Tryz.underlying31 rfl rfl (by kernel_rfl)
  | 1, _ => exact fieldAt_mk Tryz.underlying31 rfl rfl (by kernel_rfl)
  | 2, _ => exact fieldAt_mk Tryz.underlying31 rfl rfl (by kernel_rfl)
  | 3, _ => exact fieldAt_mk Tryz.underlying31 rfl rfl (by kernel_rfl)
theorem e1_u64 : Cell1 Tryz.prog 29 := ⟨by kernel_rfl, by rw [Tryz.underlying29]⟩
theorem e1_u8 : Cell1 Tryz.prog 5 := ⟨by kernel_rfl, by rw [Tryz.underlying5]⟩
theorem e1_by : Cell1 Tryz.prog 28 := ⟨by kernel_rfl, by rw [Tryz.underlying28]⟩
theorem e1_row : Cell1 Tryz.prog 22 := ⟨by kernel_rfl, by rw [Tryz.underlying22]⟩
def zE : List Value := [.slice none 0 0, .int .u64 0, .int .u8 0, .slice none 0 0]
theorem zeroE : (Tryz.prog.info? 31).map (·.zero) = some (some (.agg zE.toArray)) := by kernel_rfl
theorem tkE : RowK Tryz.prog 22 31 4 (.agg zE.toArray) 64 := ⟨Tryz.underlying22, by kernel_rfl, by simp [zE, Value.cells], by decide⟩
theorem tkEE : RowK Tryz.prog 105 22 1 (.slice none 0 0) 24 := ⟨Tryz.underlying105, by kernel_rfl, rfl, by decide⟩

/-- An entry. -/
structure En where
  key : List UInt8
  seq : Nat
  kind : UInt8
  val : List UInt8
deriving DecidableEq
def enV (x : En) (A : Option Addr) (c : Nat) (B : Option Addr) (d : Nat) : List Value := [.slice A x.key.length c, .int .u64 (x.seq : Int), .int .u8 (x.kind.toNat : Int), .slice B x.val.length d]
def enEl (x : En) : El where
  P w S cs := ∃ (A : Option Addr) (c : Nat) (B : Option Addr) (d : Nat), cs = enV x A c B d ∧ (byEl x.key).P w S [.slice A x.key.length c] ∧ (byEl x.val).P w S [.slice B x.val.length d]
  move := by rintro w w' S S' cs ⟨A, c, B, d, h, h1, h2⟩ hz hm; exact ⟨A, c, B, d, h, El.move _ h1 hz hm, El.move _ h2 hz hm⟩
theorem byE.rd {w : World} {S : Nat → Prop} {xs : List UInt8} {A : Option Addr} {c : Nat} (h : (byEl xs).P w S [.slice A xs.length c]) : RdB w A xs ∧ xs.length ≤ c := by
  obtain ⟨A', c', h1, h2, h3, _⟩ := h
  simp only [List.cons.injEq, Value.slice.injEq, and_true] at h1
  obtain ⟨rfl, _, rfl⟩ := h1
  exact ⟨h3, h2⟩
theorem byE.own {w : World} {base : Nat} {S : Nat → Prop} {xs : List UInt8} {A : Option Addr} {c : Nat} (h : OwB w base A c xs) (hs : ∀ a, A = some a → base ≤ a.block → a.block < w.heap.size → S a.block) : (byEl xs).P w S [.slice A xs.length c] :=
  byEl.mk h.rd h.cap fun a ha _ => by have := Ow.lt h a ha; exact hs a ha this.1 this.2
theorem enEl.rd {w : World} {S : Nat → Prop} {x : En} {cs : List Value} (h : (enEl x).P w S cs) : ∃ A c B d, cs = enV x A c B d ∧ RdB w A x.key ∧ x.key.length ≤ c ∧ RdB w B x.val ∧ x.val.length ≤ d := by
  obtain ⟨A, c, B, d, h0, h1, h2⟩ := h
  exact ⟨A, c, B, d, h0, (byE.rd h1).1, (byE.rd h1).2, (byE.rd h2).1, (byE.rd h2).2⟩
theorem enEl.mk {w : World} {S : Nat → Prop} {x : En} {A B : Option Addr} {c d : Nat} (h1 : (byEl x.key).P w S [.slice A x.key.length c]) (h2 : (byEl x.val).P w S [.slice B x.val.length d]) : (enEl x).P w S (enV x A c B d) := ⟨A, c, B, d, rfl, h1, h2⟩
theorem enV_all (x : En) (A : Option Addr) (c : Nat) (B : Option Addr) (d : Nat) : ∀ u ∈ [enV x A c B d].flatten, u.oneCell' = true := by simp [enV, Value.oneCell']
def lessE (a b : En) : Bool := decide (cmpB a.key b.key < 0 ∨ (cmpB a.key b.key = 0 ∧ b.seq < a.seq))
def bigE (x : En) : Bool := decide (1024 < x.key.length ∨ 65536 < x.val.length)
def badE (x : En) : Bool := decide (¬ (x.kind = 1 ∨ (x.kind = 2 ∧ x.val = [])))
def checkE (l : List En) : Nat := if l.any bigE then 2 else if l.any badE then 3 else 0
theorem any_take {α : Type} {p : α → Bool} {l : List α} {k : Nat} {x : α} (h : l[k]? = some x) : (l.take (k + 1)).any p = ((l.take k).any p || p x) := by rw [take_getR h]; simp
theorem any_at {α : Type} {p : α → Bool} {l : List α} {k : Nat} {x : α} (h : l[k]? = some x) (hp : p x = true) : l.any p = true := List.any_eq_true.2 ⟨x, List.mem_of_getElem? h, hp⟩
theorem kind_iff {x : UInt8} {n : Nat} (hn : n < 256) : ((x.toNat : Int) = (n : Nat)) ↔ x = UInt8.ofNat n := by
  constructor
  · intro h; apply UInt8.toNat_inj.1; rw [UInt8.toNat_ofNat', Nat.mod_eq_of_lt hn]; omega
  · rintro rfl; rw [UInt8.toNat_ofNat', Nat.mod_eq_of_lt hn]
theorem check_any {A : Option Addr} {n c : Nat} {l : List En} {w : World} (hr : RdR 4 w All A (l.map enEl)) (hn : l.length = n) (hl : l.length ≤ maxLen) :
    CallsV Tryz.prog 29 #[.slice A n c] w fun v w' => v = .int .i64 (checkE l : Nat) ∧ Below w.heap.size w w' := by
  subst hn
  have hmax : maxLen = 9223372036854775807 := rfl
  refine calls_in (N := _) Tryz.func29 rfl Tryz.ntmps29 rfl ?_; show WC _ _ _ _ _ _
  refine wc_sr ?_; refine wl_as rfl rfl ?_; refine wl_ns ?_; refine wc_sr ?_; refine wl_as rfl rfl ?_; refine wl_ns ?_; refine wc_seq ?_; refine wc_sr ?_; refine wl_mv rfl rfl ?_; apply wl_val; apply opv_len; exact rfl; exact tkE.sl; exact rfl; refine wl_mv rfl rfl ?_; refine wl_ns ?_; refine wc_block ?_
  refine wc_loop (fun L wr m => ∃ (k : Nat) (f : Int), L = [(3, .int .i64 f), (6, .slice A l.length c), (7, .int .i64 (l.length : Int)), (8, .int .i64 (k : Int))] ∧ k ≤ l.length ∧ (l.take k).any bigE = false ∧ f = (if (l.take k).any badE then 3 else 0) ∧ Below w.heap.size w wr ∧ m = l.length - k)
    [(3, .int .i64 (0 : Nat)), (6, .slice A l.length c), (7, .int .i64 (l.length : Int)), (8, .int .i64 (0 : Nat))] l.length ⟨0, 0, rfl, by omega, by simp, by simp, Below.refl _ _, rfl⟩ ⟨rfl, rfl, rfl, rfl, trivial⟩ ?_
  rintro _ w1 m ⟨k, f, rfl, hk, hbig, hf, hb, rfl⟩
  refine wc_sr ?_; refine wl_bin rfl rfl bin_lss rfl ?_; refine wl_ns ?_; refine wc_seq ?_
  refine wc_cond rfl (fun h1 => ?_) (fun h1 => ?_)
  · obtain ⟨x, hx⟩ : ∃ x, l[k]? = some x := ⟨_, List.getElem?_eq_getElem (by omega)⟩
    obtain ⟨b, o, cs, rfl, _, _, hp, i1⟩ := RdR.at (k := 4) (by decide) hr (E := enEl x) (i := k) (by rw [List.getElem?_map, hx]; rfl)
    obtain ⟨X, cx, Y, cy, rfl, rx, _, ry, _⟩ := enEl.rd hp
    replace i1 := i1.below hb
    have hbt := any_take (p := bigE) hx
    have hft := any_take (p := badE) hx
    rw [hbig, Bool.false_or] at hbt
    have e1 : (x.kind.toNat : Int) = 1 ↔ x.kind = 1 := kind_iff (n := 1) (by decide)
    have e2 : (x.kind.toNat : Int) = 2 ↔ x.kind = 2 := kind_iff (n := 2) (by decide)
    refine wc_skip ?_; refine we_seq ?_; refine wc_seq ?_; refine wc_block ?_; refine wc_sr ?_; apply wl_val; apply opv_idxG tkE; exact rfl; exact rfl; exact rfl; omega; exact rfl; apply wl_val; apply opv_ldG; exact rfl; assumption; exact sE; exact rfl
    refine wl_var (cs := enV x X cx Y cy) zeroE sE rfl (fun _ => rfl) (by first | rfl | simp [Value.oneCell'] | simp [ceV, Value.oneCell']) rfl fun g5 _ hg5 a5 hbx => ?_; replace hb := hb.trans (hbx.mono hb.size); clear hbx
    unfold enV at a5
    refine wl_ns ?_; refine wc_seq ?_; refine wc_sr ?_; apply wl_val; apply opv_fa; exact fa_sE (by decide); exact rfl; exact rfl; apply wl_val; apply opv_ldX; exact rfl; assumption; exact e1_by; exact rfl; exact rfl; apply wl_val; apply opv_len; exact rfl; exact tyB.sl; exact rfl; refine wl_bin rfl rfl bin_gtr rfl ?_; refine wl_mv rfl rfl ?_
    refine wl_cutV 9 21 (.bool (decide (((1024 : Int) < (x.key.length : Int)) ∨ ((65536 : Int) < (x.val.length : Int))))) ?c4 ?_; (case c4 => (dsimp only [List.take]; by_cases hc0 : ((1024 : Int) < (x.key.length : Int)); (focus (apply wl_skip; exact rfl; exact rfl; exact rfl; refine bTn ?_; (with_reducible assumption); exact rfl; apply wl_skip; exact rfl; exact rfl; exact rfl; refine bTn ?_; (with_reducible assumption); exact rfl; apply wl_skip; exact rfl; exact rfl; exact rfl; refine bTn ?_; (with_reducible assumption); exact rfl; apply wl_skip; exact rfl; exact rfl; exact rfl; refine bTn ?_; (with_reducible assumption); exact rfl; apply wl_val; apply opv_pickT; exact rfl; refine bT ?_; (with_reducible assumption); exact rfl; exact rfl; refine wl_nil ?_; refine we_cut _ ⟨rfl, rfl⟩ ⟨congrArg (fun b => some (Value.bool b)) ?e4_0, ?s4_0⟩; (case e4_0 => ((simp [hc0]; done))); (case s4_0 => (refine And.intro rfl ?_; refine And.intro rfl ?_; refine And.intro rfl ?_; refine And.intro rfl ?_; refine And.intro rfl ?_; refine And.intro rfl ?_; refine And.intro rfl ?_; refine And.intro rfl ?_; refine And.intro rfl ?_; refine And.intro rfl ?_; refine And.intro rfl ?_; refine And.intro rfl ?_; refine And.intro rfl ?_; exact True.intro)))); (focus (apply wl_take; exact rfl; exact rfl; exact rfl; refine bF ?_; (with_reducible assumption); apply wl_val; apply opv_fa; exact fa_sE (by decide); exact rfl; exact rfl; apply wl_take; exact rfl; exact rfl; exact rfl; refine bF ?_; (with_reducible assumption); apply wl_val; apply opv_ldX; exact rfl; assumption; exact e1_by; exact rfl; exact rfl; apply wl_take; exact rfl; exact rfl; exact rfl; refine bF ?_; (with_reducible assumption); apply wl_val; apply opv_len; exact rfl; exact tyB.sl; exact rfl; apply wl_take; exact rfl; exact rfl; exact rfl; refine bF ?_; (with_reducible assumption); refine wl_bin rfl rfl bin_gtr rfl ?_; apply wl_val; apply opv_pickF; exact rfl; refine bF ?_; (with_reducible assumption); exact rfl; exact rfl; refine wl_nil ?_; refine we_cut _ ⟨rfl, rfl⟩ ⟨congrArg (fun b => some (Value.bool b)) ?e4_1, ?s4_1⟩; (case e4_1 => ((simp [hc0]; done))); (case s4_1 => (refine And.intro rfl ?_; refine And.intro rfl ?_; refine And.intro rfl ?_; refine And.intro rfl ?_; refine And.intro rfl ?_; refine And.intro rfl ?_; refine And.intro rfl ?_; refine And.intro rfl ?_; refine And.intro rfl ?_; refine And.intro rfl ?_; refine And.intro rfl ?_; refine And.intro rfl ?_; refine And.intro rfl ?_; exact True.intro)))))); dsimp only [List.drop]
    refine wl_ns ?_
    refine wc_cond rfl (fun h2 => ?_) (fun h2 => ?_)
    · refine wc_sr ?_; refine wl_as rfl rfl ?_; refine wl_ns ?_; refine wc_ret ?_; refine we_seq_ret ?_; refine we_block_ret ?_; refine we_seq_ret ?_; refine we_loop_ret ?_; refine we_block_ret ?_; refine we_seq_ret ?_
      refine we_ret1 rfl rfl ⟨_, rfl, ?_, hb⟩
      rw [checkE, any_at hx (by rw [bigE]; exact decide_eq_true (by omega))]; rfl
    have hnb : bigE x = false := decide_eq_false (by omega)
    rw [hnb] at hbt
    refine wc_skip ?_; refine we_seq ?_; refine wc_sr ?_; apply wl_val; apply opv_fa; exact fa_sE (by decide); exact rfl; exact rfl; apply wl_val; apply opv_ldX; exact rfl; assumption; exact e1_u8; exact rfl; exact rfl; refine wl_bin rfl rfl bin_neq rfl ?_; refine wl_mv rfl rfl ?_
    by_cases k1 : x.kind = 1
    · have k1' : (x.kind.toNat : Int) = 1 := e1.2 k1
      have k2' : ¬ (x.kind.toNat : Int) = 2 := by omega
      have hnd : badE x = false := decide_eq_false (by simp [k1])
      rw [hnd, Bool.or_false] at hft
      apply wl_skip; exact rfl; exact rfl; exact rfl; refine bFn ?_; omega; exact rfl; apply wl_skip; exact rfl; exact rfl; exact rfl; refine bFn ?_; omega; exact rfl; apply wl_skip; exact rfl; exact rfl; exact rfl; refine bFn ?_; omega; exact rfl; apply wl_val; apply opv_pickF; exact rfl; refine bF ?_; omega; exact rfl; exact rfl; refine wl_mv rfl rfl ?_; apply wl_take; exact rfl; exact rfl; exact rfl; exact rfl; apply wl_val; apply opv_fa; exact fa_sE (by decide); exact rfl; exact rfl; apply wl_take; exact rfl; exact rfl; exact rfl; exact rfl; apply wl_val; apply opv_ldX; exact rfl; assumption; exact e1_u8; exact rfl; exact rfl; apply wl_take; exact rfl; exact rfl; exact rfl; exact rfl; refine wl_bin rfl rfl bin_eql rfl ?_; apply wl_take; exact rfl; exact rfl; exact rfl; exact rfl; refine wl_mv rfl rfl ?_; apply wl_skip; exact rfl; exact rfl; exact rfl; refine bFn ?_; (with_reducible assumption); exact rfl; apply wl_skip; exact rfl; exact rfl; exact rfl; refine bFn ?_; (with_reducible assumption); exact rfl; apply wl_skip; exact rfl; exact rfl; exact rfl; refine bFn ?_; (with_reducible assumption); exact rfl; apply wl_skip; exact rfl; exact rfl; exact rfl; refine bFn ?_; (with_reducible assumption); exact rfl; apply wl_take; exact rfl; exact rfl; exact rfl; exact rfl; apply wl_val; apply opv_pickF; exact rfl; refine bF ?_; (with_reducible assumption); exact rfl; exact rfl; apply wl_val; apply opv_pickF; exact rfl; exact rfl; exact rfl; exact rfl; refine wl_ns ?_; apply wc_condFb; exact rfl; exact rfl; refine wc_skip ?_; refine we_block_norm ?_; refine we_seq ?_; refine wc_region ?_; apply wl_val; apply opv_bin; exact rfl; exact rfl; exact bin_add64 (by omega); exact rfl; refine wl_mv rfl rfl ?_; refine wl_nil ?_
      refine we_loop _ (l.length - (k + 1)) ⟨k + 1, f, rfl, by omega, hbt, by rw [hft]; exact hf, hb, rfl⟩ (by omega) ⟨rfl, rfl, rfl, by simp [lookT], trivial⟩
    have k1' : ¬ (x.kind.toNat : Int) = 1 := fun h => k1 (e1.1 h)
    by_cases k2 : x.kind = 2
    · have k2' : (x.kind.toNat : Int) = 2 := e2.2 k2
      by_cases hv : x.val = []
      · have hv' : ¬ (0 : Int) < (x.val.length : Int) := by rw [hv]; decide
        have hnd : badE x = false := decide_eq_false (by simp [k2, hv])
        rw [hnd, Bool.or_false] at hft
        apply wl_take; exact rfl; exact rfl; exact rfl; refine bT ?_; (with_reducible assumption); apply wl_val; apply opv_fa; exact fa_sE (by decide); exact rfl; exact rfl; apply wl_take; exact rfl; exact rfl; exact rfl; refine bT ?_; (with_reducible assumption); apply wl_val; apply opv_ldX; exact rfl; assumption; exact e1_u8; exact rfl; exact rfl; apply wl_take; exact rfl; exact rfl; exact rfl; refine bT ?_; (with_reducible assumption); refine wl_bin rfl rfl bin_neq rfl ?_; apply wl_val; apply opv_pickT; exact rfl; refine bT ?_; (with_reducible assumption); exact rfl; exact rfl; refine wl_mv rfl rfl ?_; apply wl_take; exact rfl; exact rfl; exact rfl; refine bF ?_; omega; apply wl_val; apply opv_fa; exact fa_sE (by decide); exact rfl; exact rfl; apply wl_take; exact rfl; exact rfl; exact rfl; refine bF ?_; omega; apply wl_val; apply opv_ldX; exact rfl; assumption; exact e1_u8; exact rfl; exact rfl; apply wl_take; exact rfl; exact rfl; exact rfl; refine bF ?_; omega; refine wl_bin rfl rfl bin_eql rfl ?_; apply wl_take; exact rfl; exact rfl; exact rfl; refine bF ?_; omega; refine wl_mv rfl rfl ?_; apply wl_take; exact rfl; exact rfl; exact rfl; refine bT ?_; (with_reducible assumption); apply wl_val; apply opv_fa; exact fa_sE (by decide); exact rfl; exact rfl; apply wl_take; exact rfl; exact rfl; exact rfl; refine bT ?_; (with_reducible assumption); apply wl_val; apply opv_ldX; exact rfl; assumption; exact e1_by; exact rfl; exact rfl; apply wl_take; exact rfl; exact rfl; exact rfl; refine bT ?_; (with_reducible assumption); apply wl_val; apply opv_len; exact rfl; exact tyB.sl; exact rfl; apply wl_take; exact rfl; exact rfl; exact rfl; refine bT ?_; (with_reducible assumption); refine wl_bin rfl rfl bin_gtr rfl ?_; apply wl_take; exact rfl; exact rfl; exact rfl; refine bF ?_; omega; apply wl_val; apply opv_pickT; exact rfl; refine bT ?_; (with_reducible assumption); exact rfl; exact rfl; apply wl_val; apply opv_pickF; exact rfl; refine bF ?_; omega; exact rfl; exact rfl; refine wl_ns ?_; apply wc_decF; exact rfl; (with_reducible assumption); refine wc_skip ?_; refine we_block_norm ?_; refine we_seq ?_; refine wc_region ?_; apply wl_val; apply opv_bin; exact rfl; exact rfl; exact bin_add64 (by omega); exact rfl; refine wl_mv rfl rfl ?_; refine wl_nil ?_
        refine we_loop _ (l.length - (k + 1)) ⟨k + 1, f, rfl, by omega, hbt, by rw [hft]; exact hf, hb, rfl⟩ (by omega) ⟨rfl, rfl, rfl, by simp [lookT], trivial⟩
      · have hv' : (0 : Int) < (x.val.length : Int) := by have := List.length_pos_iff.2 hv; omega
        have hnd : badE x = true := decide_eq_true (by simp [k2, hv])
        rw [hnd, Bool.or_true] at hft
        apply wl_take; exact rfl; exact rfl; exact rfl; refine bT ?_; (with_reducible assumption); apply wl_val; apply opv_fa; exact fa_sE (by decide); exact rfl; exact rfl; apply wl_take; exact rfl; exact rfl; exact rfl; refine bT ?_; (with_reducible assumption); apply wl_val; apply opv_ldX; exact rfl; assumption; exact e1_u8; exact rfl; exact rfl; apply wl_take; exact rfl; exact rfl; exact rfl; refine bT ?_; (with_reducible assumption); refine wl_bin rfl rfl bin_neq rfl ?_; apply wl_val; apply opv_pickT; exact rfl; refine bT ?_; (with_reducible assumption); exact rfl; exact rfl; refine wl_mv rfl rfl ?_; apply wl_take; exact rfl; exact rfl; exact rfl; refine bF ?_; omega; apply wl_val; apply opv_fa; exact fa_sE (by decide); exact rfl; exact rfl; apply wl_take; exact rfl; exact rfl; exact rfl; refine bF ?_; omega; apply wl_val; apply opv_ldX; exact rfl; assumption; exact e1_u8; exact rfl; exact rfl; apply wl_take; exact rfl; exact rfl; exact rfl; refine bF ?_; omega; refine wl_bin rfl rfl bin_eql rfl ?_; apply wl_take; exact rfl; exact rfl; exact rfl; refine bF ?_; omega; refine wl_mv rfl rfl ?_; apply wl_take; exact rfl; exact rfl; exact rfl; refine bT ?_; (with_reducible assumption); apply wl_val; apply opv_fa; exact fa_sE (by decide); exact rfl; exact rfl; apply wl_take; exact rfl; exact rfl; exact rfl; refine bT ?_; (with_reducible assumption); apply wl_val; apply opv_ldX; exact rfl; assumption; exact e1_by; exact rfl; exact rfl; apply wl_take; exact rfl; exact rfl; exact rfl; refine bT ?_; (with_reducible assumption); apply wl_val; apply opv_len; exact rfl; exact tyB.sl; exact rfl; apply wl_take; exact rfl; exact rfl; exact rfl; refine bT ?_; (with_reducible assumption); refine wl_bin rfl rfl bin_gtr rfl ?_; apply wl_take; exact rfl; exact rfl; exact rfl; refine bF ?_; omega; apply wl_val; apply opv_pickT; exact rfl; refine bT ?_; (with_reducible assumption); exact rfl; exact rfl; apply wl_val; apply opv_pickF; exact rfl; refine bF ?_; omega; exact rfl; exact rfl; refine wl_ns ?_; apply wc_decT; exact rfl; (with_reducible assumption); refine wc_region ?_; refine wl_as rfl rfl ?_; refine wl_nil ?_; refine we_block_norm ?_; refine we_seq ?_; refine wc_region ?_; apply wl_val; apply opv_bin; exact rfl; exact rfl; exact bin_add64 (by omega); exact rfl; refine wl_mv rfl rfl ?_; refine wl_nil ?_
        refine we_loop _ (l.length - (k + 1)) ⟨k + 1, 3, rfl, by omega, hbt, by rw [hft]; rfl, hb, rfl⟩ (by omega) ⟨rfl, rfl, rfl, by simp [lookT], trivial⟩
    · have k2' : ¬ (x.kind.toNat : Int) = 2 := fun h => k2 (e2.1 h)
      have hnd : badE x = true := decide_eq_true (by simp [k1, k2])
      rw [hnd, Bool.or_true] at hft
      apply wl_take; exact rfl; exact rfl; exact rfl; refine bT ?_; (with_reducible assumption); apply wl_val; apply opv_fa; exact fa_sE (by decide); exact rfl; exact rfl; apply wl_take; exact rfl; exact rfl; exact rfl; refine bT ?_; (with_reducible assumption); apply wl_val; apply opv_ldX; exact rfl; assumption; exact e1_u8; exact rfl; exact rfl; apply wl_take; exact rfl; exact rfl; exact rfl; refine bT ?_; (with_reducible assumption); refine wl_bin rfl rfl bin_neq rfl ?_; apply wl_val; apply opv_pickT; exact rfl; refine bT ?_; (with_reducible assumption); exact rfl; exact rfl; refine wl_mv rfl rfl ?_; apply wl_skip; exact rfl; exact rfl; exact rfl; refine bTn ?_; (with_reducible assumption); exact rfl; apply wl_skip; exact rfl; exact rfl; exact rfl; refine bTn ?_; (with_reducible assumption); exact rfl; apply wl_skip; exact rfl; exact rfl; exact rfl; refine bTn ?_; (with_reducible assumption); exact rfl; apply wl_skip; exact rfl; exact rfl; exact rfl; refine bTn ?_; (with_reducible assumption); exact rfl; apply wl_skipU; exact rfl; exact rfl; exact rfl; exact rfl; apply wl_skipU; exact rfl; exact rfl; exact rfl; exact rfl; apply wl_skipU; exact rfl; exact rfl; exact rfl; exact rfl; apply wl_skipU; exact rfl; exact rfl; exact rfl; exact rfl; apply wl_skip; exact rfl; exact rfl; exact rfl; refine bTn ?_; (with_reducible assumption); exact rfl; apply wl_val; apply opv_pickT; exact rfl; refine bT ?_; (with_reducible assumption); exact rfl; exact rfl; refine wl_ns ?_; apply wc_condTb; exact rfl; exact rfl; refine wc_region ?_; refine wl_as rfl rfl ?_; refine wl_nil ?_; refine we_block_norm ?_; refine we_seq ?_; refine wc_region ?_; apply wl_val; apply opv_bin; exact rfl; exact rfl; exact bin_add64 (by omega); exact rfl; refine wl_mv rfl rfl ?_; refine wl_nil ?_
      refine we_loop _ (l.length - (k + 1)) ⟨k + 1, 3, rfl, by omega, hbt, by rw [hft]; rfl, hb, rfl⟩ (by omega) ⟨rfl, rfl, rfl, by simp [lookT], trivial⟩
  · obtain rfl : k = l.length := by omega
    rw [List.take_length] at hbig hf
    refine wc_exit ?_; refine we_seq_exit ?_; refine we_loop_exit ?_; refine we_block_exit ?_; refine we_seq ?_; refine wc_sr ?_; refine wl_mv rfl rfl ?_; refine wl_as rfl rfl ?_; refine wl_ns ?_; refine wc_ret ?_
    exact we_ret1 rfl rfl ⟨_, rfl, by rw [checkE, hbig, hf]; split <;> rfl, hb⟩
end Go.Proofs.YtdgagffieobiiaaGreatDoor

/-
  The engine's rules for a region whose order Go leaves open and which makes memory: operations that yield one value in every world of a class are taken first; where one operation alone may come up, it is carried out. Nothing here names the program.
-/
namespace Go.Proofs.YtdgagffieobiiaaGreatDoor
open Go.RowKit

def WH (P : Program) (N : Nat) (ops : Array Oper) (Q : Exit → Act → World → Prop) (S : World → Prop) (fuel : Nat) (listed : Array Bool) (L : FL) (w : World) : Prop :=
  ∀ a, Has N a L → wpAnyH P .any ops (NoPanic Q) S fuel listed a w
/-- What must hold behind the one operation that could come up. -/
def HeldQ (P : Program) (ops : Array Oper) (Q : Exit → Act → World → Prop) (S : World → Prop) (fuel : Nat) (listed : Array Bool) : Exit → Act → World → Prop :=
  Exit.then (fun a w => S w ∧ wpAnyH P .any ops (NoPanic Q) S fuel listed a w) (NoPanic Q)

section
variable {P : Program} {N : Nat} {ops : Array Oper} {Q : Exit → Act → World → Prop} {S : World → Prop} {fuel : Nat} {listed : Array Bool} {L : FL} {w : World}

theorem wc_held {id : Nat} {l : List Oper} (S : World → Prop) (hm : P.follows .mixedOrders = true) (h : WH P N l.toArray Q S l.length (Array.replicate l.length false) L w.drew) : WC P N (.region id l.toArray true) Q L w := fun a ha =>
  wp_region_noPanic (wp_region_held (S := S) hm (by simpa using h a ha))
/-- The class of the worlds that extend the one ahead of the region. -/
theorem wc_heldB {id : Nat} {l : List Oper} (hm : P.follows .mixedOrders = true) (h : ∀ w1, Below w.heap.size w w1 → WH P N l.toArray Q (Below w.heap.size w) l.length (Array.replicate l.length false) L w1) : WC P N (.region id l.toArray true) Q L w :=
  wc_held (Below w.heap.size w) hm (h _ ((Below.refl _ _).drew))
theorem np {Q : Exit → Act → World → Prop} {a a' : Act} {c : List PanicEntry} {w : World} (h : NoPanic Q (.panic c) a' w) : NoPanic Q (.panic c) a w := by simp [NoPanic] at h
theorem wh_done (hr : Region.ready .any ops listed = []) (h : WE N Q .normal L w) : WH P N ops Q S fuel listed L w := fun a ha => wpAnyH_done (Q := NoPanic Q) hr (NoPanic.normal (h a ha)) fuel
theorem wh_take (i : Nat) {d : Nat} {op : Op} {ty : TypeId} {pos : String} {aft : Array Edge} {v : Value} (hi : ops[i]? = some ⟨some d, op, ty, pos, aft, none⟩) (hs : Region.noSelect ops = true)
    (hf : Region.free .any ops listed i = true) (hr : (Region.ready .any ops listed).contains i = true) (hS : S w) (hv : ∀ w, S w → OpV P op ty L w v w) (hd : Nat.blt d N = true)
    (h : WH P N ops Q S fuel (listed.setIfInBounds i true) ((d, v) :: L) w) : WH P N ops Q S (fuel + 1) listed L w := fun a ha =>
  wpAnyH_take hi hs hf hr (fun _ _ _ h => np h) (.inl ⟨by simp [Region.wanted], fun w hw => hv w hw a.eval _ (fun x u hx => ha.eval hx) rfl rfl⟩) hS (h _ (ha.put hd v))
theorem wh_takeG (i : Nat) {d j g : Nat} {b want : Bool} {op : Op} {ty : TypeId} {pos : String} {aft : Array Edge} {v : Value} (hi : ops[i]? = some ⟨some d, op, ty, pos, aft, some (j, want)⟩) (hs : Region.noSelect ops = true)
    (hf : Region.free .any ops listed i = true) (hr : (Region.ready .any ops listed).contains i = true) (hS : S w)
    (hj : (ops[j]?).bind (·.dst) = some g) (hb : lookT L g = some (.bool b)) (hg : Nat.blt g N = true) (he : b = want) (hv : ∀ w, S w → OpV P op ty L w v w) (hd : Nat.blt d N = true)
    (h : WH P N ops Q S fuel (listed.setIfInBounds i true) ((d, v) :: L) w) : WH P N ops Q S (fuel + 1) listed L w := fun a ha => by
  have hy := yielded_of ha hj hb hg
  exact wpAnyH_take hi hs hf hr (fun _ _ _ h => np h) (.inl ⟨by simp [Region.wanted, hy, he], fun w hw => hv w hw a.eval _ (fun x u hx => ha.eval hx) rfl rfl⟩) hS (h _ (ha.put hd v))
theorem wh_skipG (i : Nat) {d j g : Nat} {b want : Bool} {op : Op} {ty : TypeId} {pos : String} {aft : Array Edge} (hi : ops[i]? = some ⟨some d, op, ty, pos, aft, some (j, want)⟩) (hs : Region.noSelect ops = true)
    (hf : Region.free .any ops listed i = true) (hr : (Region.ready .any ops listed).contains i = true) (hS : S w)
    (hj : (ops[j]?).bind (·.dst) = some g) (hb : lookT L g = some (.bool b)) (hg : Nat.blt g N = true) (he : b = !want) (hd : Nat.blt d N = true)
    (h : WH P N ops Q S fuel (listed.setIfInBounds i true) ((d, undef) :: L) w) : WH P N ops Q S (fuel + 1) listed L w := fun a ha => by
  have hy := yielded_of ha hj hb hg
  exact wpAnyH_take hi hs hf hr (fun _ _ _ h => np h) (.inr ⟨by simp [Region.wanted, hy, he], rfl⟩) hS (h _ (ha.put hd undef))
/-- The same with what must be computed in one piece, behind the guard. -/
def okAt (ops : Array Oper) (listed : Array Bool) (i : Nat) : Bool := Region.noSelect ops && (Region.free .any ops listed i && (Region.ready .any ops listed).contains i)
theorem okAt_of {i : Nat} (h : okAt ops listed i = true) : Region.noSelect ops = true ∧ Region.free .any ops listed i = true ∧ (Region.ready .any ops listed).contains i = true := by
  simpa only [okAt, Bool.and_eq_true] using h
theorem wh_takeH (i : Nat) {d : Nat} {op : Op} {ty : TypeId} {pos : String} {aft : Array Edge} {v : Value} (hi : ops[i]? = some ⟨some d, op, ty, pos, aft, none⟩) (hv : ∀ w, S w → OpV P op ty L w v w) (hd : Nat.blt d N = true) (hk : okAt ops listed i = true) (hS : S w)
    (h : WH P N ops Q S fuel (listed.setIfInBounds i true) ((d, v) :: L) w) : WH P N ops Q S (fuel + 1) listed L w :=
  wh_take i hi (okAt_of hk).1 (okAt_of hk).2.1 (okAt_of hk).2.2 hS hv hd h
theorem wh_takeGH (i : Nat) {d j g : Nat} {b want : Bool} {op : Op} {ty : TypeId} {pos : String} {aft : Array Edge} {v : Value} (hi : ops[i]? = some ⟨some d, op, ty, pos, aft, some (j, want)⟩)
    (hj : (ops[j]?).bind (·.dst) = some g) (hb : lookT L g = some (.bool b)) (hg : Nat.blt g N = true) (he : b = want) (hv : ∀ w, S w → OpV P op ty L w v w) (hd : Nat.blt d N = true) (hk : okAt ops listed i = true) (hS : S w)
    (h : WH P N ops Q S fuel (listed.setIfInBounds i true) ((d, v) :: L) w) : WH P N ops Q S (fuel + 1) listed L w :=
  wh_takeG i hi (okAt_of hk).1 (okAt_of hk).2.1 (okAt_of hk).2.2 hS hj hb hg he hv hd h
theorem wh_skipGH (i : Nat) {d j g : Nat} {b want : Bool} {op : Op} {ty : TypeId} {pos : String} {aft : Array Edge} (hi : ops[i]? = some ⟨some d, op, ty, pos, aft, some (j, want)⟩)
    (hj : (ops[j]?).bind (·.dst) = some g) (hb : lookT L g = some (.bool b)) (hg : Nat.blt g N = true) (he : b = !want) (hd : Nat.blt d N = true) (hk : okAt ops listed i = true) (hS : S w)
    (h : WH P N ops Q S fuel (listed.setIfInBounds i true) ((d, undef) :: L) w) : WH P N ops Q S (fuel + 1) listed L w :=
  wh_skipG i hi (okAt_of hk).1 (okAt_of hk).2.1 (okAt_of hk).2.2 hS hj hb hg he hd h
/-- One operation alone may come up. -/
theorem wh_one (i : Nat) {o : Oper} (hr : Region.ready .any ops listed = [i]) (hi : ops[i]? = some o)
    (h : WL P N ops (HeldQ P ops Q S fuel (listed.setIfInBounds i true)) [o] L w) : WH P N ops Q S (fuel + 1) listed L w := fun a ha => by
  refine wpAnyH_all hr (by simp) fun i' hi' => ?_
  obtain rfl : i' = i := by simpa using hi'
  have h' := h a ha
  unfold wpOp
  simp only [hi]
  unfold wpList at h'
  split
  · rename_i hw
    rw [if_pos hw] at h'
    rcases h' with h' | ⟨ha, a0, w0, h'⟩
    · exact .inl (upon_mono (fun a w h => h) (fun e a w he h => by cases e <;> first | exact absurd rfl he | exact h) h')
    · exact .inr ⟨ha, a0, w0, h'⟩
  · rename_i hw
    rw [if_neg hw] at h'
    exact h'
theorem we_held (hS : S w) (h : WH P N ops Q S fuel listed L w) : WE N (HeldQ P ops Q S fuel listed) .normal L w := fun a ha => ⟨hS, h a ha⟩
end
end Go.Proofs.YtdgagffieobiiaaGreatDoor

/-
  Walks over the comparison of entries, of the program and of the reference, over Same, SameList, Twin and Twins.
-/
namespace Go.Proofs.YtdgagffieobiiaaGreatDoor
open Go.RowKit

/-- How an entry stands to a key and a number. -/
def cmpE (x : En) (key : List UInt8) (seq : Nat) : Int := if cmpB x.key key = 0 then (if seq < x.seq then -1 else if x.seq < seq then 1 else 0) else cmpB x.key key
theorem cmpE_less (x y : En) : decide (cmpE x y.key y.seq < 0) = lessE x y := by
  have h := cmp_range x.key y.key
  rw [lessE, decide_eq_decide]
  unfold cmpE
  by_cases h0 : cmpB x.key y.key = 0
  · rw [if_pos h0]
    by_cases h1 : y.seq < x.seq
    · rw [if_pos h1]; simp [h0, h1]
    · rw [if_neg h1]
      by_cases h2 : x.seq < y.seq
      · rw [if_pos h2]; simp [h0, h1]
      · rw [if_neg h2]; simp [h0, h1]
  · rw [if_neg h0]; constructor
    · intro h; exact .inl h
    · rintro (h | h)
      · exact h
      · exact absurd h.1 h0
theorem compare_any {x : En} {A B K : Option Addr} {c d n e : Nat} {key : List UInt8} {seq : Nat} {w : World} (rx : RdB w A x.key) (rk : RdB w K key) (hn : key.length = n) :
    CallsV Tryz.prog 56 #[.agg (enV x A c B d).toArray, .slice K n e, .int .u64 (seq : Int)] w fun v w' => v = .int .i64 (cmpE x key seq) ∧ Below w.heap.size w w' := by
  subst hn
  have hb := Below.refl w.heap.size w
  refine calls_in (N := _) Tryz.func56 rfl Tryz.ntmps56 rfl ?_; show WC _ _ _ _ _ _
  refine wc_sr ?_
  refine wl_box (cs := enV x A c B d) rfl rfl fun g2 w2 hg2 a2 hbx => ?_
  replace hb := hb.trans (hbx.mono hb.size)
  clear hbx
  unfold enV at a2
  refine wl_as rfl rfl ?_; refine wl_ns ?_; refine wc_seq ?_; refine wc_sr ?_; apply wl_val; apply opv_fa; exact fa_sE (by decide); exact rfl; exact rfl; apply wl_val; apply opv_ldX; exact rfl; assumption; exact e1_by; exact rfl; exact rfl; refine wl_mv rfl rfl ?_
  refine wl_call ok_codec_Cmp (cmp_any (rx.below hb) (rk.below hb) rfl rfl) ⟨rfl, rfl, trivial⟩ rfl ?_
  rintro _ _ ⟨rfl, rfl⟩
  by_cases h0 : cmpB x.key key = 0
  · have hc : cmpE x key seq = (if seq < x.seq then -1 else if x.seq < seq then 1 else 0) := by rw [cmpE, if_pos h0]
    refine wl_as rfl rfl ?_; refine wl_ns ?_; refine wc_sr ?_; refine wl_mv rfl rfl ?_; refine wl_bin rfl rfl bin_neq rfl ?_; refine wl_ns ?_; apply wc_decF; exact rfl; omega; refine wc_skip ?_; refine we_seq ?_; refine wc_seq ?_; refine wc_block ?_; refine wc_sr ?_; apply wl_val; apply opv_fa; exact fa_sE (by decide); exact rfl; exact rfl; apply wl_val; apply opv_ldX; exact rfl; assumption; exact e1_u64; exact rfl; exact rfl; refine wl_mv rfl rfl ?_; refine wl_bin rfl rfl bin_gtr rfl ?_; refine wl_as rfl rfl ?_; refine wl_ns ?_
    by_cases h1 : seq < x.seq
    · rw [if_pos h1] at hc
      have h1' : (seq : Int) < (x.seq : Int) := by omega
      apply wc_decT; exact rfl; (with_reducible assumption); refine wc_sr ?_; refine wl_as rfl rfl ?_; refine wl_ns ?_; refine wc_ret ?_; refine we_block_ret ?_; refine we_seq_ret ?_
      exact we_ret1 rfl rfl ⟨_, rfl, by rw [hc], hb⟩
    · rw [if_neg h1] at hc
      have h1' : ¬ (seq : Int) < (x.seq : Int) := by omega
      apply wc_decF; exact rfl; (with_reducible assumption); refine wc_sr ?_; apply wl_val; apply opv_fa; exact fa_sE (by decide); exact rfl; exact rfl; apply wl_val; apply opv_ldX; exact rfl; assumption; exact e1_u64; exact rfl; exact rfl; refine wl_mv rfl rfl ?_; refine wl_bin rfl rfl bin_lss rfl ?_; refine wl_as rfl rfl ?_; refine wl_ns ?_
      by_cases h2 : x.seq < seq
      · rw [if_pos h2] at hc
        have h2' : (x.seq : Int) < (seq : Int) := by omega
        apply wc_decT; exact rfl; (with_reducible assumption); refine wc_sr ?_; refine wl_as rfl rfl ?_; refine wl_ns ?_; refine wc_ret ?_; refine we_block_ret ?_; refine we_seq_ret ?_
        exact we_ret1 rfl rfl ⟨_, rfl, by rw [hc], hb⟩
      · rw [if_neg h2] at hc
        have h2' : ¬ (x.seq : Int) < (seq : Int) := by omega
        apply wc_decF; exact rfl; (with_reducible assumption); refine wc_skip ?_; refine we_block_norm ?_; refine we_seq ?_; refine wc_sr ?_; refine wl_as rfl rfl ?_; refine wl_ns ?_; refine wc_ret ?_
        exact we_ret1 rfl rfl ⟨_, rfl, by rw [hc], hb⟩
  · refine wl_as rfl rfl ?_; refine wl_ns ?_; refine wc_sr ?_; refine wl_mv rfl rfl ?_; refine wl_bin rfl rfl bin_neq rfl ?_; refine wl_ns ?_; apply wc_decT; exact rfl; (with_reducible assumption); refine wc_sr ?_; refine wl_mv rfl rfl ?_; refine wl_as rfl rfl ?_; refine wl_ns ?_; refine wc_ret ?_; refine we_seq_ret ?_
    exact we_ret1 rfl rfl ⟨_, rfl, by rw [cmpE, if_neg h0], hb⟩
theorem less_any {x y : En} {A B C D : Option Addr} {a b c d : Nat} {w : World} (rx : RdB w A x.key) (ry : RdB w C y.key) :
    CallsV Tryz.prog 83 #[.agg (enV x A a B b).toArray, .agg (enV y C c D d).toArray] w fun v w' => v = .bool (lessE x y) ∧ Below w.heap.size w w' := by
  have hb := Below.refl w.heap.size w
  refine calls_in (N := _) Tryz.func83 rfl Tryz.ntmps83 rfl ?_; show WC _ _ _ _ _ _
  refine wc_sr ?_
  refine wl_box (cs := enV x A a B b) rfl rfl fun g2 w2 hg2 a2 hbx => ?_
  replace hb := hb.trans (hbx.mono hb.size)
  clear hbx
  refine wl_box (cs := enV y C c D d) rfl rfl fun g3 w3 hg3 a3 hbx => ?_
  replace a2 := Ar.bel a2 hbx
  replace hb := hb.trans (hbx.mono hb.size)
  clear hbx
  have ha2 := a2
  unfold enV at a3
  refine wl_as rfl rfl ?_; refine wl_ns ?_; refine wc_sr ?_; apply wl_val; apply opv_loadX; exact rfl; assumption; exact sE; exact rfl; apply wl_val; apply opv_fa; exact fa_sE (by decide); exact rfl; exact rfl; apply wl_val; apply opv_ldX; exact rfl; assumption; exact e1_by; exact rfl; exact rfl; apply wl_val; apply opv_fa; exact fa_sE (by decide); exact rfl; exact rfl; apply wl_val; apply opv_ldX; exact rfl; assumption; exact e1_u64; exact rfl; exact rfl
  refine wl_call ok_mem_compare (compare_any (x := x) (seq := y.seq) (rx.below hb) (ry.below hb) rfl) ⟨rfl, rfl, rfl, trivial⟩ rfl ?_; rintro _ _ ⟨rfl, hbx⟩; replace hb := hb.trans (hbx.mono hb.size); clear hbx
  refine wl_bin rfl rfl bin_lss rfl ?_; refine wl_as rfl rfl ?_; refine wl_ns ?_; refine wc_ret ?_
  exact we_ret1 rfl rfl ⟨_, rfl, by rw [cmpE_less], hb⟩
theorem refLess_any {x y : En} {A B C D : Option Addr} {a b c d : Nat} {w : World} (rx : RdB w A x.key) (ry : RdB w C y.key) (hlx : x.key.length ≤ maxLen) (hly : y.key.length ≤ maxLen) :
    CallsV Tryz.prog 55 #[.agg (enV x A a B b).toArray, .agg (enV y C c D d).toArray] w fun v w' => v = .bool (lessE x y) ∧ Below w.heap.size w w' := by
  have hb := Below.refl w.heap.size w
  refine calls_in (N := _) Tryz.func55 rfl Tryz.ntmps55 rfl ?_; show WC _ _ _ _ _ _
  refine wc_sr ?_
  refine wl_box (cs := enV x A a B b) rfl rfl fun g2 w2 hg2 a2 hbx => ?_
  replace hb := hb.trans (hbx.mono hb.size)
  clear hbx
  refine wl_box (cs := enV y C c D d) rfl rfl fun g3 w3 hg3 a3 hbx => ?_
  replace a2 := Ar.bel a2 hbx
  replace hb := hb.trans (hbx.mono hb.size)
  clear hbx
  unfold enV at a2 a3
  refine wl_as rfl rfl ?_; refine wl_ns ?_; refine wc_sr ?_; apply wl_val; apply opv_fa; exact fa_sE (by decide); exact rfl; exact rfl; apply wl_val; apply opv_ldX; exact rfl; assumption; exact e1_by; exact rfl; exact rfl; apply wl_val; apply opv_fa; exact fa_sE (by decide); exact rfl; exact rfl; apply wl_val; apply opv_ldX; exact rfl; assumption; exact e1_by; exact rfl; exact rfl
  refine wl_call ok_caissonref01_Cmp (refCmp_any (rx.below hb) (ry.below hb) rfl rfl hlx hly) ⟨rfl, rfl, trivial⟩ rfl ?_; rintro _ _ ⟨rfl, hbx⟩; replace a2 := Ar.bel a2 hbx; replace a3 := Ar.bel a3 hbx; replace hb := hb.trans (hbx.mono hb.size); clear hbx
  have hc := cmp_range x.key y.key
  by_cases h1 : cmpB x.key y.key < 0
  · refine wl_as rfl rfl ?_; refine wl_ns ?_; refine wc_sr ?_; refine wl_mv rfl rfl ?_; refine wl_bin rfl rfl bin_lss rfl ?_; refine wl_mv rfl rfl ?_; apply wl_skip; exact rfl; exact rfl; exact rfl; refine bTn ?_; (with_reducible assumption); exact rfl; apply wl_skip; exact rfl; exact rfl; exact rfl; refine bTn ?_; (with_reducible assumption); exact rfl; apply wl_skip; exact rfl; exact rfl; exact rfl; refine bTn ?_; (with_reducible assumption); exact rfl; apply wl_skipU; exact rfl; exact rfl; exact rfl; exact rfl; apply wl_skipU; exact rfl; exact rfl; exact rfl; exact rfl; apply wl_skipU; exact rfl; exact rfl; exact rfl; exact rfl; apply wl_skipU; exact rfl; exact rfl; exact rfl; exact rfl; apply wl_skipU; exact rfl; exact rfl; exact rfl; exact rfl; apply wl_skip; exact rfl; exact rfl; exact rfl; refine bTn ?_; (with_reducible assumption); exact rfl; apply wl_val; apply opv_pickT; exact rfl; refine bT ?_; (with_reducible assumption); exact rfl; exact rfl; refine wl_as rfl rfl ?_; refine wl_ns ?_; refine wc_ret ?_
    exact we_ret1 rfl rfl ⟨_, rfl, by rw [lessE]; simp [h1], hb⟩
  · by_cases h0 : cmpB x.key y.key = 0
    · refine wl_as rfl rfl ?_; refine wl_ns ?_; refine wc_sr ?_; refine wl_mv rfl rfl ?_; refine wl_bin rfl rfl bin_lss rfl ?_; refine wl_mv rfl rfl ?_; apply wl_take; exact rfl; exact rfl; exact rfl; refine bF ?_; (with_reducible assumption); refine wl_mv rfl rfl ?_; apply wl_take; exact rfl; exact rfl; exact rfl; refine bF ?_; (with_reducible assumption); refine wl_bin rfl rfl bin_eql rfl ?_; apply wl_take; exact rfl; exact rfl; exact rfl; refine bF ?_; (with_reducible assumption); refine wl_mv rfl rfl ?_; apply wl_take; exact rfl; exact rfl; exact rfl; refine bT ?_; (with_reducible assumption); apply wl_val; apply opv_fa; exact fa_sE (by decide); exact rfl; exact rfl; apply wl_take; exact rfl; exact rfl; exact rfl; refine bT ?_; (with_reducible assumption); apply wl_val; apply opv_ldX; exact rfl; assumption; exact e1_u64; exact rfl; exact rfl; apply wl_take; exact rfl; exact rfl; exact rfl; refine bT ?_; (with_reducible assumption); apply wl_val; apply opv_fa; exact fa_sE (by decide); exact rfl; exact rfl; apply wl_take; exact rfl; exact rfl; exact rfl; refine bT ?_; (with_reducible assumption); apply wl_val; apply opv_ldX; exact rfl; assumption; exact e1_u64; exact rfl; exact rfl; apply wl_take; exact rfl; exact rfl; exact rfl; refine bT ?_; (with_reducible assumption); refine wl_bin rfl rfl bin_gtr rfl ?_; apply wl_take; exact rfl; exact rfl; exact rfl; refine bF ?_; (with_reducible assumption); apply wl_val; apply opv_pickT; exact rfl; refine bT ?_; (with_reducible assumption); exact rfl; exact rfl; apply wl_val; apply opv_pickF; exact rfl; refine bF ?_; (with_reducible assumption); exact rfl; exact rfl; refine wl_as rfl rfl ?_; refine wl_ns ?_; refine wc_ret ?_
      exact we_ret1 rfl rfl ⟨_, rfl, by rw [lessE]; simp [h0], hb⟩
    · refine wl_as rfl rfl ?_; refine wl_ns ?_; refine wc_sr ?_; refine wl_mv rfl rfl ?_; refine wl_bin rfl rfl bin_lss rfl ?_; refine wl_mv rfl rfl ?_; apply wl_take; exact rfl; exact rfl; exact rfl; refine bF ?_; (with_reducible assumption); refine wl_mv rfl rfl ?_; apply wl_take; exact rfl; exact rfl; exact rfl; refine bF ?_; (with_reducible assumption); refine wl_bin rfl rfl bin_eql rfl ?_; apply wl_take; exact rfl; exact rfl; exact rfl; refine bF ?_; (with_reducible assumption); refine wl_mv rfl rfl ?_; apply wl_skip; exact rfl; exact rfl; exact rfl; refine bFn ?_; (with_reducible assumption); exact rfl; apply wl_skip; exact rfl; exact rfl; exact rfl; refine bFn ?_; (with_reducible assumption); exact rfl; apply wl_skip; exact rfl; exact rfl; exact rfl; refine bFn ?_; (with_reducible assumption); exact rfl; apply wl_skip; exact rfl; exact rfl; exact rfl; refine bFn ?_; (with_reducible assumption); exact rfl; apply wl_skip; exact rfl; exact rfl; exact rfl; refine bFn ?_; (with_reducible assumption); exact rfl; apply wl_take; exact rfl; exact rfl; exact rfl; refine bF ?_; (with_reducible assumption); apply wl_val; apply opv_pickF; exact rfl; refine bF ?_; (with_reducible assumption); exact rfl; exact rfl; apply wl_val; apply opv_pickF; exact rfl; refine bF ?_; (with_reducible assumption); exact rfl; exact rfl; refine wl_as rfl rfl ?_; refine wl_ns ?_; refine wc_ret ?_
      exact we_ret1 rfl rfl ⟨_, rfl, by rw [lessE]; simp [h0, h1], hb⟩
theorem sameE_any {x y : En} {A B C D : Option Addr} {a b c d : Nat} {w : World} (rx : RdB w A x.key) (rx2 : RdB w B x.val) (ry : RdB w C y.key) (ry2 : RdB w D y.val) (hlx : x.key.length ≤ maxLen) (hlx2 : x.val.length ≤ maxLen) :
    CallsV Tryz.prog 23 #[.agg (enV x A a B b).toArray, .agg (enV y C c D d).toArray] w fun v w' => (∃ q, v = .bool q ∧ (q = true ↔ x = y)) ∧ Below w.heap.size w w' := by
  have hb := Below.refl w.heap.size w
  refine calls_in (N := _) Tryz.func23 rfl Tryz.ntmps23 rfl ?_; show WC _ _ _ _ _ _
  refine wc_sr ?_
  refine wl_box (cs := enV x A a B b) rfl rfl fun g2 w2 hg2 a2 hbx => ?_
  replace hb := hb.trans (hbx.mono hb.size)
  clear hbx
  refine wl_box (cs := enV y C c D d) rfl rfl fun g3 w3 hg3 a3 hbx => ?_
  replace a2 := Ar.bel a2 hbx
  replace hb := hb.trans (hbx.mono hb.size)
  clear hbx
  unfold enV at a2 a3
  refine wl_as rfl rfl ?_; refine wl_ns ?_; refine wc_sr ?_; apply wl_val; apply opv_fa; exact fa_sE (by decide); exact rfl; exact rfl; apply wl_val; apply opv_ldX; exact rfl; assumption; exact e1_by; exact rfl; exact rfl; apply wl_val; apply opv_fa; exact fa_sE (by decide); exact rfl; exact rfl; apply wl_val; apply opv_ldX; exact rfl; assumption; exact e1_by; exact rfl; exact rfl
  refine wl_call ok_caissonref01_Equal (equal_any (rx.below hb) (ry.below hb) rfl rfl hlx) ⟨rfl, rfl, trivial⟩ rfl ?_; rintro _ _ ⟨rfl, hbx⟩; replace a2 := Ar.bel a2 hbx; replace a3 := Ar.bel a3 hbx; replace hb := hb.trans (hbx.mono hb.size); clear hbx
  by_cases h1 : x.key = y.key
  case neg =>
    refine wl_mv rfl rfl ?_; apply wl_skip; exact rfl; exact rfl; exact rfl; refine bFn ?_; (with_reducible assumption); exact rfl; apply wl_skip; exact rfl; exact rfl; exact rfl; refine bFn ?_; (with_reducible assumption); exact rfl; apply wl_skip; exact rfl; exact rfl; exact rfl; refine bFn ?_; (with_reducible assumption); exact rfl; apply wl_skip; exact rfl; exact rfl; exact rfl; refine bFn ?_; (with_reducible assumption); exact rfl; apply wl_skip; exact rfl; exact rfl; exact rfl; refine bFn ?_; (with_reducible assumption); exact rfl; apply wl_val; apply opv_pickF; exact rfl; refine bF ?_; (with_reducible assumption); exact rfl; exact rfl; refine wl_mv rfl rfl ?_; apply wl_skip; exact rfl; exact rfl; exact rfl; exact bR2; exact rfl; apply wl_skip; exact rfl; exact rfl; exact rfl; exact bR2; exact rfl; apply wl_skip; exact rfl; exact rfl; exact rfl; exact bR2; exact rfl; apply wl_skip; exact rfl; exact rfl; exact rfl; exact bR2; exact rfl; apply wl_skip; exact rfl; exact rfl; exact rfl; exact bR2; exact rfl; apply wl_val; apply opv_pickF; exact rfl; exact rfl; exact rfl; exact rfl; refine wl_mv rfl rfl ?_; apply wl_skip; exact rfl; exact rfl; exact rfl; exact bR2; exact rfl; apply wl_skip; exact rfl; exact rfl; exact rfl; exact bR2; exact rfl; apply wl_skip; exact rfl; exact rfl; exact rfl; exact bR2; exact rfl; apply wl_skip; exact rfl; exact rfl; exact rfl; exact bR2; exact rfl; apply wl_skip; exact rfl; exact rfl; exact rfl; exact bR2; exact rfl; apply wl_val; apply opv_pickF; exact rfl; exact rfl; exact rfl; exact rfl; refine wl_as rfl rfl ?_; refine wl_ns ?_; refine wc_ret ?_
    exact we_ret1 rfl rfl ⟨_, rfl, ⟨false, rfl, by simp; rintro rfl; exact h1 rfl⟩, hb⟩
  by_cases h2 : x.seq = y.seq
  case neg =>
    have h2' : ¬ (x.seq : Int) = (y.seq : Int) := by omega
    refine wl_mv rfl rfl ?_; apply wl_take; exact rfl; exact rfl; exact rfl; refine bT ?_; (with_reducible assumption); apply wl_val; apply opv_fa; exact fa_sE (by decide); exact rfl; exact rfl; apply wl_take; exact rfl; exact rfl; exact rfl; refine bT ?_; (with_reducible assumption); apply wl_val; apply opv_ldX; exact rfl; assumption; exact e1_u64; exact rfl; exact rfl; apply wl_take; exact rfl; exact rfl; exact rfl; refine bT ?_; (with_reducible assumption); apply wl_val; apply opv_fa; exact fa_sE (by decide); exact rfl; exact rfl; apply wl_take; exact rfl; exact rfl; exact rfl; refine bT ?_; (with_reducible assumption); apply wl_val; apply opv_ldX; exact rfl; assumption; exact e1_u64; exact rfl; exact rfl; apply wl_take; exact rfl; exact rfl; exact rfl; refine bT ?_; (with_reducible assumption); refine wl_bin rfl rfl bin_eql rfl ?_; apply wl_val; apply opv_pickT; exact rfl; refine bT ?_; (with_reducible assumption); exact rfl; exact rfl; refine wl_mv rfl rfl ?_; apply wl_skip; exact rfl; exact rfl; exact rfl; refine bFn ?_; (with_reducible assumption); exact rfl; apply wl_skip; exact rfl; exact rfl; exact rfl; refine bFn ?_; (with_reducible assumption); exact rfl; apply wl_skip; exact rfl; exact rfl; exact rfl; refine bFn ?_; (with_reducible assumption); exact rfl; apply wl_skip; exact rfl; exact rfl; exact rfl; refine bFn ?_; (with_reducible assumption); exact rfl; apply wl_skip; exact rfl; exact rfl; exact rfl; refine bFn ?_; (with_reducible assumption); exact rfl; apply wl_val; apply opv_pickF; exact rfl; refine bF ?_; (with_reducible assumption); exact rfl; exact rfl; refine wl_mv rfl rfl ?_; apply wl_skip; exact rfl; exact rfl; exact rfl; exact bR2; exact rfl; apply wl_skip; exact rfl; exact rfl; exact rfl; exact bR2; exact rfl; apply wl_skip; exact rfl; exact rfl; exact rfl; exact bR2; exact rfl; apply wl_skip; exact rfl; exact rfl; exact rfl; exact bR2; exact rfl; apply wl_skip; exact rfl; exact rfl; exact rfl; exact bR2; exact rfl; apply wl_val; apply opv_pickF; exact rfl; exact rfl; exact rfl; exact rfl; refine wl_as rfl rfl ?_; refine wl_ns ?_; refine wc_ret ?_
    exact we_ret1 rfl rfl ⟨_, rfl, ⟨false, rfl, by simp; rintro rfl; exact h2 rfl⟩, hb⟩
  have h2' : (x.seq : Int) = (y.seq : Int) := by omega
  by_cases h3 : x.kind = y.kind
  case neg =>
    have h3' : ¬ (x.kind.toNat : Int) = (y.kind.toNat : Int) := fun h => h3 (UInt8.toNat_inj.1 (by omega))
    refine wl_mv rfl rfl ?_; apply wl_take; exact rfl; exact rfl; exact rfl; refine bT ?_; (with_reducible assumption); apply wl_val; apply opv_fa; exact fa_sE (by decide); exact rfl; exact rfl; apply wl_take; exact rfl; exact rfl; exact rfl; refine bT ?_; (with_reducible assumption); apply wl_val; apply opv_ldX; exact rfl; assumption; exact e1_u64; exact rfl; exact rfl; apply wl_take; exact rfl; exact rfl; exact rfl; refine bT ?_; (with_reducible assumption); apply wl_val; apply opv_fa; exact fa_sE (by decide); exact rfl; exact rfl; apply wl_take; exact rfl; exact rfl; exact rfl; refine bT ?_; (with_reducible assumption); apply wl_val; apply opv_ldX; exact rfl; assumption; exact e1_u64; exact rfl; exact rfl; apply wl_take; exact rfl; exact rfl; exact rfl; refine bT ?_; (with_reducible assumption); refine wl_bin rfl rfl bin_eql rfl ?_; apply wl_val; apply opv_pickT; exact rfl; refine bT ?_; (with_reducible assumption); exact rfl; exact rfl; refine wl_mv rfl rfl ?_; apply wl_take; exact rfl; exact rfl; exact rfl; refine bT ?_; (with_reducible assumption); apply wl_val; apply opv_fa; exact fa_sE (by decide); exact rfl; exact rfl; apply wl_take; exact rfl; exact rfl; exact rfl; refine bT ?_; (with_reducible assumption); apply wl_val; apply opv_ldX; exact rfl; assumption; exact e1_u8; exact rfl; exact rfl; apply wl_take; exact rfl; exact rfl; exact rfl; refine bT ?_; (with_reducible assumption); apply wl_val; apply opv_fa; exact fa_sE (by decide); exact rfl; exact rfl; apply wl_take; exact rfl; exact rfl; exact rfl; refine bT ?_; (with_reducible assumption); apply wl_val; apply opv_ldX; exact rfl; assumption; exact e1_u8; exact rfl; exact rfl; apply wl_take; exact rfl; exact rfl; exact rfl; refine bT ?_; (with_reducible assumption); refine wl_bin rfl rfl bin_eql rfl ?_; apply wl_val; apply opv_pickT; exact rfl; refine bT ?_; (with_reducible assumption); exact rfl; exact rfl; refine wl_mv rfl rfl ?_; apply wl_skip; exact rfl; exact rfl; exact rfl; refine bFn ?_; (with_reducible assumption); exact rfl; apply wl_skip; exact rfl; exact rfl; exact rfl; refine bFn ?_; (with_reducible assumption); exact rfl; apply wl_skip; exact rfl; exact rfl; exact rfl; refine bFn ?_; (with_reducible assumption); exact rfl; apply wl_skip; exact rfl; exact rfl; exact rfl; refine bFn ?_; (with_reducible assumption); exact rfl; apply wl_skip; exact rfl; exact rfl; exact rfl; refine bFn ?_; (with_reducible assumption); exact rfl; apply wl_val; apply opv_pickF; exact rfl; refine bF ?_; (with_reducible assumption); exact rfl; exact rfl; refine wl_as rfl rfl ?_; refine wl_ns ?_; refine wc_ret ?_
    exact we_ret1 rfl rfl ⟨_, rfl, ⟨false, rfl, by simp; rintro rfl; exact h3 rfl⟩, hb⟩
  have h3' : (x.kind.toNat : Int) = (y.kind.toNat : Int) := by rw [h3]
  refine wl_mv rfl rfl ?_; apply wl_take; exact rfl; exact rfl; exact rfl; refine bT ?_; (with_reducible assumption); apply wl_val; apply opv_fa; exact fa_sE (by decide); exact rfl; exact rfl; apply wl_take; exact rfl; exact rfl; exact rfl; refine bT ?_; (with_reducible assumption); apply wl_val; apply opv_ldX; exact rfl; assumption; exact e1_u64; exact rfl; exact rfl; apply wl_take; exact rfl; exact rfl; exact rfl; refine bT ?_; (with_reducible assumption); apply wl_val; apply opv_fa; exact fa_sE (by decide); exact rfl; exact rfl; apply wl_take; exact rfl; exact rfl; exact rfl; refine bT ?_; (with_reducible assumption); apply wl_val; apply opv_ldX; exact rfl; assumption; exact e1_u64; exact rfl; exact rfl; apply wl_take; exact rfl; exact rfl; exact rfl; refine bT ?_; (with_reducible assumption); refine wl_bin rfl rfl bin_eql rfl ?_; apply wl_val; apply opv_pickT; exact rfl; refine bT ?_; (with_reducible assumption); exact rfl; exact rfl; refine wl_mv rfl rfl ?_; apply wl_take; exact rfl; exact rfl; exact rfl; refine bT ?_; (with_reducible assumption); apply wl_val; apply opv_fa; exact fa_sE (by decide); exact rfl; exact rfl; apply wl_take; exact rfl; exact rfl; exact rfl; refine bT ?_; (with_reducible assumption); apply wl_val; apply opv_ldX; exact rfl; assumption; exact e1_u8; exact rfl; exact rfl; apply wl_take; exact rfl; exact rfl; exact rfl; refine bT ?_; (with_reducible assumption); apply wl_val; apply opv_fa; exact fa_sE (by decide); exact rfl; exact rfl; apply wl_take; exact rfl; exact rfl; exact rfl; refine bT ?_; (with_reducible assumption); apply wl_val; apply opv_ldX; exact rfl; assumption; exact e1_u8; exact rfl; exact rfl; apply wl_take; exact rfl; exact rfl; exact rfl; refine bT ?_; (with_reducible assumption); refine wl_bin rfl rfl bin_eql rfl ?_; apply wl_val; apply opv_pickT; exact rfl; refine bT ?_; (with_reducible assumption); exact rfl; exact rfl; refine wl_mv rfl rfl ?_; apply wl_take; exact rfl; exact rfl; exact rfl; refine bT ?_; (with_reducible assumption); apply wl_val; apply opv_fa; exact fa_sE (by decide); exact rfl; exact rfl; apply wl_take; exact rfl; exact rfl; exact rfl; refine bT ?_; (with_reducible assumption); apply wl_val; apply opv_ldX; exact rfl; assumption; exact e1_by; exact rfl; exact rfl; apply wl_take; exact rfl; exact rfl; exact rfl; refine bT ?_; (with_reducible assumption); apply wl_val; apply opv_fa; exact fa_sE (by decide); exact rfl; exact rfl; apply wl_take; exact rfl; exact rfl; exact rfl; refine bT ?_; (with_reducible assumption); apply wl_val; apply opv_ldX; exact rfl; assumption; exact e1_by; exact rfl; exact rfl; apply wl_take; exact rfl; exact rfl; exact rfl; refine bT ?_; (with_reducible assumption)
  refine wl_call ok_caissonref01_Equal (equal_any (rx2.below hb) (ry2.below hb) rfl rfl hlx2) ⟨rfl, rfl, trivial⟩ rfl ?_; rintro _ _ ⟨rfl, hbx⟩; replace hb := hb.trans (hbx.mono hb.size); clear hbx
  apply wl_val; apply opv_pickT; exact rfl; refine bT ?_; (with_reducible assumption); exact rfl; exact rfl; refine wl_as rfl rfl ?_; refine wl_ns ?_; refine wc_ret ?_
  refine we_ret1 rfl rfl ⟨_, rfl, ⟨decide (x.val = y.val), rfl, ?_⟩, hb⟩
  obtain ⟨k, s, t, v⟩ := x
  obtain ⟨k', s', t', v'⟩ := y
  simp only at h1 h2 h3
  simp [h1, h2, h3]
theorem sameListE_any {A B : Option Addr} {n m c d : Nat} {xs ys : List En} {w : World} (hx : RdR 4 w All A (xs.map enEl)) (hy : RdR 4 w All B (ys.map enEl)) (hn : xs.length = n) (hm : ys.length = m) (hok : ∀ x ∈ xs, x.key.length ≤ maxLen ∧ x.val.length ≤ maxLen) (hl : xs.length ≤ 4294967296) (hl2 : ys.length ≤ 4294967296) :
    CallsV Tryz.prog 24 #[.slice A n c, .slice B m d] w fun v w' => (∃ b, v = .bool b ∧ (b = true ↔ xs = ys)) ∧ Below w.heap.size w w' := by
  subst hn hm
  have hb := Below.refl w.heap.size w
  refine calls_in (N := _) Tryz.func24 rfl Tryz.ntmps24 rfl ?_; show WC _ _ _ _ _ _
  refine wc_sr ?_; refine wl_as rfl rfl ?_; refine wl_ns ?_; refine wc_seq ?_; refine wc_sr ?_; refine wl_mv rfl rfl ?_; apply wl_val; apply opv_len; exact rfl; exact tkE.sl; exact rfl; refine wl_mv rfl rfl ?_; apply wl_val; apply opv_len; exact rfl; exact tkE.sl; exact rfl; refine wl_bin rfl rfl bin_neq rfl ?_; refine wl_ns ?_
  refine wc_cond rfl (fun h1 => ?_) (fun h1 => ?_)
  · refine wc_sr ?_; refine wl_as rfl rfl ?_; refine wl_ns ?_; refine wc_ret ?_; refine we_seq_ret ?_
    exact we_ret1 rfl rfl ⟨_, rfl, ⟨false, rfl, by simp; rintro rfl; exact h1 rfl⟩, hb⟩
  have hlen : xs.length = ys.length := by omega
  refine wc_skip ?_; refine we_seq ?_; refine wc_seq ?_; refine wc_sr ?_; refine wl_as rfl rfl ?_; refine wl_ns ?_; refine wc_block ?_
  refine wc_loop (fun L wr m => ∃ k : Nat, L = [(0, .slice A xs.length c), (1, .slice B ys.length d), (5, .int .i64 (k : Int))] ∧ k ≤ xs.length ∧ xs.take k = ys.take k ∧ Below w.heap.size w wr ∧ m = xs.length - k)
    [(0, .slice A xs.length c), (1, .slice B ys.length d), (5, .int .i64 (0 : Nat))] xs.length ⟨0, rfl, by omega, by simp, hb, rfl⟩ ⟨rfl, rfl, rfl, trivial⟩ ?_
  clear hb
  rintro _ w1 m ⟨k, rfl, hk, he, hb, rfl⟩
  refine wc_seq ?_; refine wc_sr ?_; refine wl_mv rfl rfl ?_; refine wl_mv rfl rfl ?_; apply wl_val; apply opv_len; exact rfl; exact tkE.sl; exact rfl; refine wl_bin rfl rfl bin_lss rfl ?_; refine wl_ns ?_
  refine wc_cond rfl (fun h1 => ?_) (fun h1 => ?_)
  · obtain ⟨x, hxk⟩ : ∃ x, xs[k]? = some x := ⟨_, List.getElem?_eq_getElem (by omega)⟩
    obtain ⟨y, hyk⟩ : ∃ y, ys[k]? = some y := ⟨_, List.getElem?_eq_getElem (by omega)⟩
    obtain ⟨b, o, cs, rfl, _, _, hp, i1⟩ := RdR.at (k := 4) (by decide) hx (E := enEl x) (i := k) (by rw [List.getElem?_map, hxk]; rfl)
    obtain ⟨X, cx, X2, cx2, rfl, rx, _, rx2, _⟩ := enEl.rd hp
    obtain ⟨b2, o2, cs2, rfl, _, _, hp2, i2⟩ := RdR.at (k := 4) (by decide) hy (E := enEl y) (i := k) (by rw [List.getElem?_map, hyk]; rfl)
    obtain ⟨Y, cy, Y2, cy2, rfl, ry, _, ry2, _⟩ := enEl.rd hp2
    replace i1 := i1.below hb
    replace i2 := i2.below hb
    replace rx := rx.below hb
    replace ry := ry.below hb
    replace rx2 := rx2.below hb
    replace ry2 := ry2.below hb
    have hox := hok x (List.mem_of_getElem? hxk)
    have hq : ∃ q, ∀ w', Below w1.heap.size w1 w' → CallsV Tryz.prog 23 #[.agg (enV x X cx X2 cx2).toArray, .agg (enV y Y cy Y2 cy2).toArray] w' fun v w2 => v = .bool q ∧ Below w'.heap.size w' w2 := ⟨decide (x = y), fun w' hw => (sameE_any (rx.below hw) (rx2.below hw) (ry.below hw) (ry2.below hw) hox.1 hox.2).mono fun v w2 ⟨⟨q, hv, hi⟩, h2⟩ => ⟨by rw [hv]; congr 1; rw [Bool.eq_iff_iff, hi, decide_eq_true_eq], h2⟩⟩
    by_cases hxy : x = y
    · subst hxy
      refine wc_skip ?_; refine we_seq ?_; refine wc_seq ?_; refine wc_block ?_; refine wc_seq ?_
      refine wc_drawB mixed (by kernel_rfl) ?_
      apply wq_val; intro _ hw_; apply opv_move; exact rfl; exact rfl; apply wq_val; intro _ hw_; apply opv_move; exact rfl; exact rfl; apply wq_val; intro _ hw_; apply opv_idxG tkE; exact rfl; exact rfl; exact rfl; omega; exact rfl; apply wq_val; intro _ hw_; apply opv_ldG; exact rfl; exact Wi.below (by assumption) hw_; exact sE; exact rfl; apply wq_val; intro _ hw_; apply opv_move; exact rfl; exact rfl; apply wq_val; intro _ hw_; apply opv_move; exact rfl; exact rfl; apply wq_val; intro _ hw_; apply opv_idxG tkE; exact rfl; exact rfl; exact rfl; omega; exact rfl; apply wq_val; intro _ hw_; apply opv_ldG; exact rfl; exact Wi.below (by assumption) hw_; exact sE; exact rfl
      refine wq_call (v := .bool true) ok_caissonref07_Same (fun w' hw => (sameE_any (rx.below hw) (rx2.below hw) (ry.below hw) (ry2.below hw) hox.1 hox.2).mono (fun v w2 ⟨⟨q, hv, hi⟩, h2⟩ => ⟨by rw [hv, hi.2 rfl], hw.trans (h2.mono hw.size)⟩)) ⟨rfl, rfl, trivial⟩ rfl ?_
      apply wq_val; intro _ hw_; apply opv_not; exact rfl; exact rfl; refine wq_nil fun w1 hw1 => ?_
      replace hb := hb.trans (hw1.mono hb.size)
      refine we_seq ?_; apply wc_condFb; exact rfl; exact Bool.not_true; refine wc_skip ?_; refine we_block_norm ?_; refine we_seq ?_; refine wc_region ?_; refine wl_mv rfl rfl ?_; apply wl_val; apply opv_bin; exact rfl; exact rfl; exact bin_add64 (by omega); exact rfl; refine wl_as rfl rfl ?_; refine wl_nil ?_
      refine we_loop _ (xs.length - (k + 1)) ⟨k + 1, rfl, by omega, by rw [take_getR hxk, take_getR hyk, he], hb, rfl⟩ (by omega) ⟨rfl, rfl, by simp [lookT], trivial⟩
    · refine wc_skip ?_; refine we_seq ?_; refine wc_seq ?_; refine wc_block ?_; refine wc_seq ?_
      refine wc_drawB mixed (by kernel_rfl) ?_
      apply wq_val; intro _ hw_; apply opv_move; exact rfl; exact rfl; apply wq_val; intro _ hw_; apply opv_move; exact rfl; exact rfl; apply wq_val; intro _ hw_; apply opv_idxG tkE; exact rfl; exact rfl; exact rfl; omega; exact rfl; apply wq_val; intro _ hw_; apply opv_ldG; exact rfl; exact Wi.below (by assumption) hw_; exact sE; exact rfl; apply wq_val; intro _ hw_; apply opv_move; exact rfl; exact rfl; apply wq_val; intro _ hw_; apply opv_move; exact rfl; exact rfl; apply wq_val; intro _ hw_; apply opv_idxG tkE; exact rfl; exact rfl; exact rfl; omega; exact rfl; apply wq_val; intro _ hw_; apply opv_ldG; exact rfl; exact Wi.below (by assumption) hw_; exact sE; exact rfl
      refine wq_call (v := .bool false) ok_caissonref07_Same (fun w' hw => (sameE_any (rx.below hw) (rx2.below hw) (ry.below hw) (ry2.below hw) hox.1 hox.2).mono (fun v w2 ⟨⟨q, hv, hi⟩, h2⟩ => ⟨by rw [hv]; cases q with | false => rfl | true => exact absurd (hi.1 rfl) hxy, hw.trans (h2.mono hw.size)⟩)) ⟨rfl, rfl, trivial⟩ rfl ?_
      apply wq_val; intro _ hw_; apply opv_not; exact rfl; exact rfl; refine wq_nil fun w1 hw1 => ?_
      replace hb := hb.trans (hw1.mono hb.size)
      refine we_seq ?_; apply wc_condTb; exact rfl; exact Bool.not_false; refine wc_sr ?_; refine wl_as rfl rfl ?_; refine wl_ns ?_; refine wc_ret ?_; refine we_block_ret ?_; refine we_seq_ret ?_; refine we_loop_ret ?_; refine we_block_ret ?_; refine we_seq_ret ?_
      exact we_ret1 rfl rfl ⟨_, rfl, ⟨false, rfl, by
        simp only [Bool.false_eq_true, false_iff]
        rintro rfl
        rw [hxk] at hyk; cases hyk
        exact hxy rfl⟩, hb⟩
  · obtain rfl : k = xs.length := by omega
    refine wc_exit ?_; refine we_seq_exit ?_; refine we_loop_exit ?_; refine we_block_exit ?_; refine we_seq ?_; refine wc_sr ?_; refine wl_as rfl rfl ?_; refine wl_ns ?_; refine wc_ret ?_
    exact we_ret1 rfl rfl ⟨_, rfl, ⟨true, rfl, by rw [List.take_length, hlen, List.take_length] at he; simp [he]⟩, hb⟩
/-- An entry in new memory. -/
def RetE (w : World) (x : En) (v : Value) (w' : World) : Prop :=
  ∃ (A : Option Addr) (c : Nat) (B : Option Addr) (d : Nat), v = .agg (enV x A c B d).toArray ∧ OwB w' w.heap.size A c x.key ∧ OwB w' w.heap.size B d x.val ∧ (∀ a b, A = some a → B = some b → a.block ≠ b.block) ∧ Below w.heap.size w w'
theorem twinE_any {x : En} {A B : Option Addr} {c d : Nat} {w : World} (rx : RdB w A x.key) (rx2 : RdB w B x.val) (hl : x.key.length ≤ 140737488355328) (hl2 : x.val.length ≤ 140737488355328) :
    CallsV Tryz.prog 32 #[.agg (enV x A c B d).toArray] w (RetE w x) := by
  have hb := Below.refl w.heap.size w
  refine calls_in (N := _) Tryz.func32 rfl Tryz.ntmps32 rfl ?_; show WC _ _ _ _ _ _
  refine wc_sr ?_
  refine wl_box (cs := enV x A c B d) rfl rfl fun g1 w1 hg1 a1 hbx => ?_
  replace hb := hb.trans (hbx.mono hb.size)
  clear hbx
  refine wl_new (cs := zE) zeroE rfl fun g2 w2 hg2 a2 hbx => ?_
  have hlt1 := a1.lt
  replace a1 := Ar.bel a1 hbx
  replace hb := hb.trans (hbx.mono hb.size)
  clear hbx
  have hg12 : g1 < g2 := by omega
  have hlt2 := a2.lt
  unfold enV at a1
  refine wl_ns ?_; refine wc_sr ?_; apply wl_val; apply opv_fa; exact fa_sE (by decide); exact rfl; exact rfl; apply wl_val; apply opv_ldX; exact rfl; assumption; exact e1_by; exact rfl; exact rfl
  have hz2 := hb.size
  have hg4 : ∀ {w' : World}, w2.heap.size ≤ w'.heap.size → g2 < w'.heap.size := fun h => by omega
  refine wl_call ok_caissonref01_Copy (copy_any (rx.below hb) rfl hl) ⟨rfl, trivial⟩ rfl ?_
  rintro _ w3 ⟨C, e, rfl, o3, hbx⟩
  have hbs := hbx.size
  replace a1 := Ar.bel a1 hbx
  replace a2 := Ar.bel a2 hbx
  replace hb := hb.trans (hbx.mono hb.size)
  clear hbx
  apply wl_val; apply opv_fa; exact fa_sE (by decide); exact rfl; exact rfl
  refine wl_stA e1_by a1 rfl (show 0 + 0 < 4 by decide) rfl rfl fun w4 a1 hG _ => ?_
  replace a2 := a2.grA hG (fun a ha => by cases ha; exact (show g1 ≠ g2 by omega))
  replace o3 := Ow.gr2 o3 hG (fun b hb => by cases hb; exact (show g1 < w2.heap.size by omega))
  have hs24 : w2.heap.size ≤ w4.heap.size := by have := hbs; have := hG.size; omega
  replace hb := hG.belowI hb hg1 hb.size
  clear hG
  have hC := fun a ha => (Ow.lt o3 a ha)
  have hz4 := hb.size
  refine wl_ns ?_; refine wc_sr ?_; apply wl_val; apply opv_fa; exact fa_sE (by decide); exact rfl; exact rfl; apply wl_val; apply opv_ldX; exact rfl; assumption; exact e1_by; exact rfl; exact rfl
  refine wl_call ok_caissonref01_Copy (copy_any (rx2.below hb) rfl hl2) ⟨rfl, trivial⟩ rfl ?_; rintro _ _ ⟨D, f, rfl, o4, hbx⟩; replace a1 := Ar.bel a1 hbx; replace a2 := Ar.bel a2 hbx; replace o3 := OwB.below o3 hbx; replace hb := hb.trans (hbx.mono hb.size); clear hbx
  apply wl_val; apply opv_fa; exact fa_sE (by decide); exact rfl; exact rfl
  have hD := fun a ha => (Ow.lt o4 a ha).1
  refine wl_stA e1_by a1 rfl (show 0 + 3 < 4 by decide) rfl rfl fun w5 a1 hG _ => ?_
  replace a2 := a2.grA hG (fun a ha => by cases ha; exact (show g1 ≠ g2 by omega))
  replace o3 := Ow.gr2 o3 hG (fun b hb => by cases hb; exact (show g1 < w2.heap.size by omega))
  replace o4 := Ow.gr2 o4 hG (fun b hb => by cases hb; exact (show g1 < w4.heap.size by omega))
  replace hb := hG.belowI hb hg1 hb.size
  clear hG
  have a1' : Ar w5 g1 31 (enV x C e D f) := a1
  clear a1
  refine wl_ns ?_; refine wc_sr ?_; apply wl_val; apply opv_loadX; exact rfl; assumption; exact sE; exact rfl
  refine wl_storeS (cs' := enV x C e D f) sE a2 rfl rfl rfl rfl fun w6 a2 hG _ => ?_
  replace o3 := Ow.gr2 o3 hG (fun b hb => by cases hb; exact (show g2 < w2.heap.size by omega))
  replace o4 := Ow.gr2 o4 hG (fun b hb => by cases hb; exact (show g2 < w4.heap.size by omega))
  replace hb := hG.belowI hb (by omega) hb.size
  refine wl_ns ?_; refine wc_ret ?_
  exact we_retC rfl rfl a2 sE ⟨_, rfl, C, e, D, f, rfl, Ow.mono o3 hz2, Ow.mono o4 hz4, fun a b ha hb' => by have := (hC a ha).2; have := hD b hb'; omega, hb⟩
theorem enEl.own {w : World} {S : Nat → Prop} {base : Nat} {x : En} {A B : Option Addr} {c d : Nat} (h1 : OwB w base A c x.key) (h2 : OwB w base B d x.val) (hs : ∀ b, base ≤ b → b < w.heap.size → S b) : (enEl x).P w S (enV x A c B d) :=
  enEl.mk (byE.own h1 fun a _ h h' => hs _ h h') (byE.own h2 fun a _ h h' => hs _ h h')
end Go.Proofs.YtdgagffieobiiaaGreatDoor

/-
  Walks over the document's Check, Ordered, In and Get of lists of entries.
-/
namespace Go.Proofs.YtdgagffieobiiaaGreatDoor
open Go.RowKit

theorem natc_pred {k : Nat} : ((k + 1 : Nat) : Int) - 1 = (k : Int) := by omega
theorem refCheck_any {A : Option Addr} {n c : Nat} {l : List En} {w : World} (hr : RdR 4 w All A (l.map enEl)) (hn : l.length = n) (hl : l.length ≤ maxLen) :
    CallsV Tryz.prog 26 #[.slice A n c] w fun v w' => v = .int .i64 (checkE l : Nat) ∧ Below w.heap.size w w' := by
  subst hn
  have hmax : maxLen = 9223372036854775807 := rfl
  refine calls_in (N := _) Tryz.func26 rfl Tryz.ntmps26 rfl ?_; show WC _ _ _ _ _ _
  refine wc_sr ?_; refine wl_as rfl rfl ?_; refine wl_ns ?_; refine wc_seq ?_; refine wc_sr ?_; refine wl_as rfl rfl ?_; refine wl_ns ?_; refine wc_block ?_
  refine wc_loop (fun L wr m => ∃ (k : Nat), L = [(0, .slice A l.length c), (3, .int .i64 (k : Int))] ∧ k ≤ l.length ∧ (l.take k).any bigE = false ∧ Below w.heap.size w wr ∧ m = l.length - k)
    [(0, .slice A l.length c), (3, .int .i64 (0 : Nat))] l.length ⟨0, rfl, by omega, by simp, Below.refl _ _, rfl⟩ ⟨rfl, rfl, trivial⟩ ?_
  rintro _ w1 m ⟨k, rfl, hk, hbig, hb, rfl⟩
  refine wc_seq ?_; refine wc_sr ?_; refine wl_mv rfl rfl ?_; refine wl_mv rfl rfl ?_; apply wl_val; apply opv_len; exact rfl; exact tkE.sl; exact rfl; refine wl_bin rfl rfl bin_lss rfl ?_; refine wl_ns ?_
  refine wc_cond rfl (fun h1 => ?_) (fun h1 => ?_)
  · obtain ⟨x, hx⟩ : ∃ x, l[k]? = some x := ⟨_, List.getElem?_eq_getElem (by omega)⟩
    obtain ⟨b, o, cs, rfl, _, _, hp, i1⟩ := RdR.at (k := 4) (by decide) hr (E := enEl x) (i := k) (by rw [List.getElem?_map, hx]; rfl)
    obtain ⟨X, cx, Y, cy, rfl, rx, _, ry, _⟩ := enEl.rd hp
    replace i1 := i1.below hb
    have hbt := any_take (p := bigE) hx
    rw [hbig, Bool.false_or] at hbt
    unfold enV at i1
    refine wc_skip ?_; refine we_seq ?_; refine wc_seq ?_; refine wc_block ?_; refine wc_sr ?_; refine wl_mv rfl rfl ?_; refine wl_mv rfl rfl ?_; apply wl_val; apply opv_idxG tkE; exact rfl; exact rfl; exact rfl; omega; exact rfl; apply wl_val; apply opv_fa; exact fa_sE (by decide); exact rfl; exact rfl; apply wl_val; apply opv_ldW; exact rfl; assumption; exact e1_by; exact rfl; exact rfl; apply wl_val; apply opv_len; exact rfl; exact tyB.sl; exact rfl; refine wl_bin rfl rfl bin_gtr rfl ?_; refine wl_mv rfl rfl ?_
    refine wl_cutV 18 26 (.bool (decide (((1024 : Int) < (x.key.length : Int)) ∨ ((65536 : Int) < (x.val.length : Int))))) ?c3 ?_; (case c3 => (dsimp only [List.take]; by_cases hc0 : ((1024 : Int) < (x.key.length : Int)); (focus (apply wl_skip; exact rfl; exact rfl; exact rfl; refine bTn ?_; (with_reducible assumption); exact rfl; apply wl_skip; exact rfl; exact rfl; exact rfl; refine bTn ?_; (with_reducible assumption); exact rfl; apply wl_skip; exact rfl; exact rfl; exact rfl; refine bTn ?_; (with_reducible assumption); exact rfl; apply wl_skip; exact rfl; exact rfl; exact rfl; refine bTn ?_; (with_reducible assumption); exact rfl; apply wl_skip; exact rfl; exact rfl; exact rfl; refine bTn ?_; (with_reducible assumption); exact rfl; apply wl_skip; exact rfl; exact rfl; exact rfl; refine bTn ?_; (with_reducible assumption); exact rfl; apply wl_skip; exact rfl; exact rfl; exact rfl; refine bTn ?_; (with_reducible assumption); exact rfl; apply wl_val; apply opv_pickT; exact rfl; refine bT ?_; (with_reducible assumption); exact rfl; exact rfl; refine wl_nil ?_; refine we_cut _ ⟨rfl, rfl⟩ ⟨congrArg (fun b => some (Value.bool b)) ?e3_0, ?s3_0⟩; (case e3_0 => ((simp [hc0]; done))); (case s3_0 => (refine And.intro rfl ?_; refine And.intro rfl ?_; refine And.intro rfl ?_; refine And.intro rfl ?_; refine And.intro rfl ?_; refine And.intro rfl ?_; refine And.intro rfl ?_; refine And.intro rfl ?_; refine And.intro rfl ?_; refine And.intro rfl ?_; refine And.intro rfl ?_; refine And.intro rfl ?_; refine And.intro rfl ?_; refine And.intro rfl ?_; exact True.intro)))); (focus (apply wl_take; exact rfl; exact rfl; exact rfl; refine bF ?_; (with_reducible assumption); refine wl_mv rfl rfl ?_; apply wl_take; exact rfl; exact rfl; exact rfl; refine bF ?_; (with_reducible assumption); refine wl_mv rfl rfl ?_; apply wl_take; exact rfl; exact rfl; exact rfl; refine bF ?_; (with_reducible assumption); apply wl_val; apply opv_idxG tkE; exact rfl; exact rfl; exact rfl; omega; exact rfl; apply wl_take; exact rfl; exact rfl; exact rfl; refine bF ?_; (with_reducible assumption); apply wl_val; apply opv_fa; exact fa_sE (by decide); exact rfl; exact rfl; apply wl_take; exact rfl; exact rfl; exact rfl; refine bF ?_; (with_reducible assumption); apply wl_val; apply opv_ldW; exact rfl; assumption; exact e1_by; exact rfl; exact rfl; apply wl_take; exact rfl; exact rfl; exact rfl; refine bF ?_; (with_reducible assumption); apply wl_val; apply opv_len; exact rfl; exact tyB.sl; exact rfl; apply wl_take; exact rfl; exact rfl; exact rfl; refine bF ?_; (with_reducible assumption); refine wl_bin rfl rfl bin_gtr rfl ?_; apply wl_val; apply opv_pickF; exact rfl; refine bF ?_; (with_reducible assumption); exact rfl; exact rfl; refine wl_nil ?_; refine we_cut _ ⟨rfl, rfl⟩ ⟨congrArg (fun b => some (Value.bool b)) ?e3_1, ?s3_1⟩; (case e3_1 => ((simp [hc0]; done))); (case s3_1 => (refine And.intro rfl ?_; refine And.intro rfl ?_; refine And.intro rfl ?_; refine And.intro rfl ?_; refine And.intro rfl ?_; refine And.intro rfl ?_; refine And.intro rfl ?_; refine And.intro rfl ?_; refine And.intro rfl ?_; refine And.intro rfl ?_; refine And.intro rfl ?_; refine And.intro rfl ?_; refine And.intro rfl ?_; refine And.intro rfl ?_; exact True.intro)))))); dsimp only [List.drop]
    refine wl_ns ?_
    refine wc_cond rfl (fun h2 => ?_) (fun h2 => ?_)
    · refine wc_sr ?_; refine wl_as rfl rfl ?_; refine wl_ns ?_; refine wc_ret ?_; refine we_block_ret ?_; refine we_seq_ret ?_; refine we_loop_ret ?_; refine we_block_ret ?_; refine we_seq_ret ?_
      refine we_ret1 rfl rfl ⟨_, rfl, ?_, hb⟩
      rw [checkE, any_at hx (by rw [bigE]; exact decide_eq_true (by omega))]; rfl
    have hnb : bigE x = false := decide_eq_false (by omega)
    rw [hnb] at hbt
    refine wc_skip ?_; refine we_block_norm ?_; refine we_seq ?_; refine wc_region ?_; refine wl_mv rfl rfl ?_; apply wl_val; apply opv_bin; exact rfl; exact rfl; exact bin_add64 (by omega); exact rfl; refine wl_as rfl rfl ?_; refine wl_nil ?_
    refine we_loop _ (l.length - (k + 1)) ⟨k + 1, rfl, by omega, hbt, hb, rfl⟩ (by omega) ⟨rfl, by simp [lookT], trivial⟩
  obtain rfl : k = l.length := by omega
  rw [List.take_length] at hbig
  refine wc_exit ?_; refine we_seq_exit ?_; refine we_loop_exit ?_; refine we_block_exit ?_; refine we_seq ?_; refine wc_seq ?_; refine wc_sr ?_; refine wl_as rfl rfl ?_; refine wl_ns ?_; refine wc_block ?_
  refine wc_loop (fun L wr m => ∃ (k : Nat), L = [(0, .slice A l.length c), (4, .int .i64 (k : Int))] ∧ k ≤ l.length ∧ (l.take k).any badE = false ∧ Below w.heap.size w wr ∧ m = l.length - k)
    [(0, .slice A l.length c), (4, .int .i64 (0 : Nat))] l.length ⟨0, rfl, by omega, by simp, hb, rfl⟩ ⟨rfl, rfl, trivial⟩ ?_
  clear hb
  rintro _ w2 m ⟨k, rfl, hk, hbad, hb, rfl⟩
  refine wc_seq ?_; refine wc_sr ?_; refine wl_mv rfl rfl ?_; refine wl_mv rfl rfl ?_; apply wl_val; apply opv_len; exact rfl; exact tkE.sl; exact rfl; refine wl_bin rfl rfl bin_lss rfl ?_; refine wl_ns ?_
  refine wc_cond rfl (fun h1 => ?_) (fun h1 => ?_)
  · obtain ⟨x, hx⟩ : ∃ x, l[k]? = some x := ⟨_, List.getElem?_eq_getElem (by omega)⟩
    obtain ⟨b, o, cs, rfl, _, _, hp, i1⟩ := RdR.at (k := 4) (by decide) hr (E := enEl x) (i := k) (by rw [List.getElem?_map, hx]; rfl)
    obtain ⟨X, cx, Y, cy, rfl, rx, _, ry, _⟩ := enEl.rd hp
    replace i1 := i1.below hb
    have hft := any_take (p := badE) hx
    rw [hbad, Bool.false_or] at hft
    have e1 : (x.kind.toNat : Int) = 1 ↔ x.kind = 1 := kind_iff (n := 1) (by decide)
    have e2 : (x.kind.toNat : Int) = 2 ↔ x.kind = 2 := kind_iff (n := 2) (by decide)
    unfold enV at i1
    by_cases k1 : x.kind = 1
    · have k1' : (x.kind.toNat : Int) = 1 := e1.2 k1
      have hnd : badE x = false := decide_eq_false (by simp [k1])
      rw [hnd] at hft
      refine wc_skip ?_; refine we_seq ?_; refine wc_seq ?_; refine wc_block ?_; refine wc_sr ?_; refine wl_mv rfl rfl ?_; refine wl_mv rfl rfl ?_; apply wl_val; apply opv_idxG tkE; exact rfl; exact rfl; exact rfl; omega; exact rfl; apply wl_val; apply opv_fa; exact fa_sE (by decide); exact rfl; exact rfl; apply wl_val; apply opv_ldW; exact rfl; assumption; exact e1_u8; exact rfl; exact rfl; refine wl_bin rfl rfl bin_neq rfl ?_; refine wl_mv rfl rfl ?_; apply wl_skip; exact rfl; exact rfl; exact rfl; refine bFn ?_; omega; exact rfl; apply wl_skip; exact rfl; exact rfl; exact rfl; refine bFn ?_; omega; exact rfl; apply wl_skip; exact rfl; exact rfl; exact rfl; refine bFn ?_; omega; exact rfl; apply wl_skip; exact rfl; exact rfl; exact rfl; refine bFn ?_; omega; exact rfl; apply wl_skip; exact rfl; exact rfl; exact rfl; refine bFn ?_; omega; exact rfl; apply wl_skip; exact rfl; exact rfl; exact rfl; refine bFn ?_; omega; exact rfl; apply wl_skip; exact rfl; exact rfl; exact rfl; refine bFn ?_; omega; exact rfl; apply wl_skipU; exact rfl; exact rfl; exact rfl; exact rfl; apply wl_skipU; exact rfl; exact rfl; exact rfl; exact rfl; apply wl_skipU; exact rfl; exact rfl; exact rfl; exact rfl; apply wl_skipU; exact rfl; exact rfl; exact rfl; exact rfl; apply wl_skipU; exact rfl; exact rfl; exact rfl; exact rfl; apply wl_skipU; exact rfl; exact rfl; exact rfl; exact rfl; apply wl_skipU; exact rfl; exact rfl; exact rfl; exact rfl; apply wl_skip; exact rfl; exact rfl; exact rfl; refine bFn ?_; omega; exact rfl; apply wl_val; apply opv_pickF; exact rfl; refine bF ?_; omega; exact rfl; exact rfl; refine wl_ns ?_; apply wc_condFb; exact rfl; exact rfl; refine wc_skip ?_; refine we_block_norm ?_; refine we_seq ?_; refine wc_region ?_; refine wl_mv rfl rfl ?_; apply wl_val; apply opv_bin; exact rfl; exact rfl; exact bin_add64 (by omega); exact rfl; refine wl_as rfl rfl ?_; refine wl_nil ?_
      refine we_loop _ (l.length - (k + 1)) ⟨k + 1, rfl, by omega, hft, hb, rfl⟩ (by omega) ⟨rfl, by simp [lookT], trivial⟩
    have k1' : ¬ (x.kind.toNat : Int) = 1 := fun h => k1 (e1.1 h)
    by_cases k2 : x.kind = 2
    · have k2' : (x.kind.toNat : Int) = 2 := e2.2 k2
      by_cases hv : x.val = []
      · have hv' : ¬ (0 : Int) < (x.val.length : Int) := by rw [hv]; decide
        have hnd : badE x = false := decide_eq_false (by simp [k2, hv])
        rw [hnd] at hft
        refine wc_skip ?_; refine we_seq ?_; refine wc_seq ?_; refine wc_block ?_; refine wc_sr ?_; refine wl_mv rfl rfl ?_; refine wl_mv rfl rfl ?_; apply wl_val; apply opv_idxG tkE; exact rfl; exact rfl; exact rfl; omega; exact rfl; apply wl_val; apply opv_fa; exact fa_sE (by decide); exact rfl; exact rfl; apply wl_val; apply opv_ldW; exact rfl; assumption; exact e1_u8; exact rfl; exact rfl; refine wl_bin rfl rfl bin_neq rfl ?_; refine wl_mv rfl rfl ?_; apply wl_take; exact rfl; exact rfl; exact rfl; refine bT ?_; (with_reducible assumption); refine wl_mv rfl rfl ?_; apply wl_take; exact rfl; exact rfl; exact rfl; refine bT ?_; (with_reducible assumption); refine wl_mv rfl rfl ?_; apply wl_take; exact rfl; exact rfl; exact rfl; refine bT ?_; (with_reducible assumption); apply wl_val; apply opv_idxG tkE; exact rfl; exact rfl; exact rfl; omega; exact rfl; apply wl_take; exact rfl; exact rfl; exact rfl; refine bT ?_; (with_reducible assumption); apply wl_val; apply opv_fa; exact fa_sE (by decide); exact rfl; exact rfl; apply wl_take; exact rfl; exact rfl; exact rfl; refine bT ?_; (with_reducible assumption); apply wl_val; apply opv_ldW; exact rfl; assumption; exact e1_u8; exact rfl; exact rfl; apply wl_take; exact rfl; exact rfl; exact rfl; refine bT ?_; (with_reducible assumption); refine wl_bin rfl rfl bin_neq rfl ?_; apply wl_take; exact rfl; exact rfl; exact rfl; refine bT ?_; (with_reducible assumption); refine wl_mv rfl rfl ?_; apply wl_take; exact rfl; exact rfl; exact rfl; refine bF ?_; omega; refine wl_mv rfl rfl ?_; apply wl_take; exact rfl; exact rfl; exact rfl; refine bF ?_; omega; refine wl_mv rfl rfl ?_; apply wl_take; exact rfl; exact rfl; exact rfl; refine bF ?_; omega; apply wl_val; apply opv_idxG tkE; exact rfl; exact rfl; exact rfl; omega; exact rfl; apply wl_take; exact rfl; exact rfl; exact rfl; refine bF ?_; omega; apply wl_val; apply opv_fa; exact fa_sE (by decide); exact rfl; exact rfl; apply wl_take; exact rfl; exact rfl; exact rfl; refine bF ?_; omega; apply wl_val; apply opv_ldW; exact rfl; assumption; exact e1_by; exact rfl; exact rfl; apply wl_take; exact rfl; exact rfl; exact rfl; refine bF ?_; omega; apply wl_val; apply opv_len; exact rfl; exact tyB.sl; exact rfl; apply wl_take; exact rfl; exact rfl; exact rfl; refine bF ?_; omega; refine wl_bin rfl rfl bin_gtr rfl ?_; apply wl_take; exact rfl; exact rfl; exact rfl; refine bT ?_; (with_reducible assumption); apply wl_val; apply opv_pickF; exact rfl; refine bF ?_; omega; exact rfl; exact rfl; apply wl_val; apply opv_pickT; exact rfl; refine bT ?_; (with_reducible assumption); exact rfl; exact rfl; refine wl_ns ?_; apply wc_decF; exact rfl; (with_reducible assumption); refine wc_skip ?_; refine we_block_norm ?_; refine we_seq ?_; refine wc_region ?_; refine wl_mv rfl rfl ?_; apply wl_val; apply opv_bin; exact rfl; exact rfl; exact bin_add64 (by omega); exact rfl; refine wl_as rfl rfl ?_; refine wl_nil ?_
        refine we_loop _ (l.length - (k + 1)) ⟨k + 1, rfl, by omega, hft, hb, rfl⟩ (by omega) ⟨rfl, by simp [lookT], trivial⟩
      · have hv' : (0 : Int) < (x.val.length : Int) := by have := List.length_pos_iff.2 hv; omega
        have hnd : badE x = true := decide_eq_true (by simp [k2, hv])
        refine wc_skip ?_; refine we_seq ?_; refine wc_seq ?_; refine wc_block ?_; refine wc_sr ?_; refine wl_mv rfl rfl ?_; refine wl_mv rfl rfl ?_; apply wl_val; apply opv_idxG tkE; exact rfl; exact rfl; exact rfl; omega; exact rfl; apply wl_val; apply opv_fa; exact fa_sE (by decide); exact rfl; exact rfl; apply wl_val; apply opv_ldW; exact rfl; assumption; exact e1_u8; exact rfl; exact rfl; refine wl_bin rfl rfl bin_neq rfl ?_; refine wl_mv rfl rfl ?_; apply wl_take; exact rfl; exact rfl; exact rfl; refine bT ?_; (with_reducible assumption); refine wl_mv rfl rfl ?_; apply wl_take; exact rfl; exact rfl; exact rfl; refine bT ?_; (with_reducible assumption); refine wl_mv rfl rfl ?_; apply wl_take; exact rfl; exact rfl; exact rfl; refine bT ?_; (with_reducible assumption); apply wl_val; apply opv_idxG tkE; exact rfl; exact rfl; exact rfl; omega; exact rfl; apply wl_take; exact rfl; exact rfl; exact rfl; refine bT ?_; (with_reducible assumption); apply wl_val; apply opv_fa; exact fa_sE (by decide); exact rfl; exact rfl; apply wl_take; exact rfl; exact rfl; exact rfl; refine bT ?_; (with_reducible assumption); apply wl_val; apply opv_ldW; exact rfl; assumption; exact e1_u8; exact rfl; exact rfl; apply wl_take; exact rfl; exact rfl; exact rfl; refine bT ?_; (with_reducible assumption); refine wl_bin rfl rfl bin_neq rfl ?_; apply wl_take; exact rfl; exact rfl; exact rfl; refine bT ?_; (with_reducible assumption); refine wl_mv rfl rfl ?_; apply wl_take; exact rfl; exact rfl; exact rfl; refine bF ?_; omega; refine wl_mv rfl rfl ?_; apply wl_take; exact rfl; exact rfl; exact rfl; refine bF ?_; omega; refine wl_mv rfl rfl ?_; apply wl_take; exact rfl; exact rfl; exact rfl; refine bF ?_; omega; apply wl_val; apply opv_idxG tkE; exact rfl; exact rfl; exact rfl; omega; exact rfl; apply wl_take; exact rfl; exact rfl; exact rfl; refine bF ?_; omega; apply wl_val; apply opv_fa; exact fa_sE (by decide); exact rfl; exact rfl; apply wl_take; exact rfl; exact rfl; exact rfl; refine bF ?_; omega; apply wl_val; apply opv_ldW; exact rfl; assumption; exact e1_by; exact rfl; exact rfl; apply wl_take; exact rfl; exact rfl; exact rfl; refine bF ?_; omega; apply wl_val; apply opv_len; exact rfl; exact tyB.sl; exact rfl; apply wl_take; exact rfl; exact rfl; exact rfl; refine bF ?_; omega; refine wl_bin rfl rfl bin_gtr rfl ?_; apply wl_take; exact rfl; exact rfl; exact rfl; refine bT ?_; (with_reducible assumption); apply wl_val; apply opv_pickF; exact rfl; refine bF ?_; omega; exact rfl; exact rfl; apply wl_val; apply opv_pickT; exact rfl; refine bT ?_; (with_reducible assumption); exact rfl; exact rfl; refine wl_ns ?_; apply wc_decT; exact rfl; (with_reducible assumption); refine wc_sr ?_; refine wl_as rfl rfl ?_; refine wl_ns ?_; refine wc_ret ?_; refine we_block_ret ?_; refine we_seq_ret ?_; refine we_loop_ret ?_; refine we_block_ret ?_; refine we_seq_ret ?_
        exact we_ret1 rfl rfl ⟨_, rfl, by rw [checkE, hbig, any_at hx hnd]; rfl, hb⟩
    · have k2' : ¬ (x.kind.toNat : Int) = 2 := fun h => k2 (e2.1 h)
      have hnd : badE x = true := decide_eq_true (by simp [k1, k2])
      refine wc_skip ?_; refine we_seq ?_; refine wc_seq ?_; refine wc_block ?_; refine wc_sr ?_; refine wl_mv rfl rfl ?_; refine wl_mv rfl rfl ?_; apply wl_val; apply opv_idxG tkE; exact rfl; exact rfl; exact rfl; omega; exact rfl; apply wl_val; apply opv_fa; exact fa_sE (by decide); exact rfl; exact rfl; apply wl_val; apply opv_ldW; exact rfl; assumption; exact e1_u8; exact rfl; exact rfl; refine wl_bin rfl rfl bin_neq rfl ?_; refine wl_mv rfl rfl ?_; apply wl_take; exact rfl; exact rfl; exact rfl; refine bT ?_; (with_reducible assumption); refine wl_mv rfl rfl ?_; apply wl_take; exact rfl; exact rfl; exact rfl; refine bT ?_; (with_reducible assumption); refine wl_mv rfl rfl ?_; apply wl_take; exact rfl; exact rfl; exact rfl; refine bT ?_; (with_reducible assumption); apply wl_val; apply opv_idxG tkE; exact rfl; exact rfl; exact rfl; omega; exact rfl; apply wl_take; exact rfl; exact rfl; exact rfl; refine bT ?_; (with_reducible assumption); apply wl_val; apply opv_fa; exact fa_sE (by decide); exact rfl; exact rfl; apply wl_take; exact rfl; exact rfl; exact rfl; refine bT ?_; (with_reducible assumption); apply wl_val; apply opv_ldW; exact rfl; assumption; exact e1_u8; exact rfl; exact rfl; apply wl_take; exact rfl; exact rfl; exact rfl; refine bT ?_; (with_reducible assumption); refine wl_bin rfl rfl bin_neq rfl ?_; apply wl_take; exact rfl; exact rfl; exact rfl; refine bT ?_; (with_reducible assumption); refine wl_mv rfl rfl ?_; apply wl_skip; exact rfl; exact rfl; exact rfl; refine bTn ?_; (with_reducible assumption); exact rfl; apply wl_skip; exact rfl; exact rfl; exact rfl; refine bTn ?_; (with_reducible assumption); exact rfl; apply wl_skip; exact rfl; exact rfl; exact rfl; refine bTn ?_; (with_reducible assumption); exact rfl; apply wl_skip; exact rfl; exact rfl; exact rfl; refine bTn ?_; (with_reducible assumption); exact rfl; apply wl_skip; exact rfl; exact rfl; exact rfl; refine bTn ?_; (with_reducible assumption); exact rfl; apply wl_skip; exact rfl; exact rfl; exact rfl; refine bTn ?_; (with_reducible assumption); exact rfl; apply wl_skip; exact rfl; exact rfl; exact rfl; refine bTn ?_; (with_reducible assumption); exact rfl; apply wl_take; exact rfl; exact rfl; exact rfl; refine bT ?_; (with_reducible assumption); apply wl_val; apply opv_pickT; exact rfl; refine bT ?_; (with_reducible assumption); exact rfl; exact rfl; apply wl_val; apply opv_pickT; exact rfl; refine bT ?_; (with_reducible assumption); exact rfl; exact rfl; refine wl_ns ?_; apply wc_condTb; exact rfl; exact rfl; refine wc_sr ?_; refine wl_as rfl rfl ?_; refine wl_ns ?_; refine wc_ret ?_; refine we_block_ret ?_; refine we_seq_ret ?_; refine we_loop_ret ?_; refine we_block_ret ?_; refine we_seq_ret ?_
      exact we_ret1 rfl rfl ⟨_, rfl, by rw [checkE, hbig, any_at hx hnd]; rfl, hb⟩
  · obtain rfl : k = l.length := by omega
    rw [List.take_length] at hbad
    refine wc_exit ?_; refine we_seq_exit ?_; refine we_loop_exit ?_; refine we_block_exit ?_; refine we_seq ?_; refine wc_sr ?_; refine wl_as rfl rfl ?_; refine wl_ns ?_; refine wc_ret ?_
    exact we_ret1 rfl rfl ⟨_, rfl, by rw [checkE, hbig, hbad]; rfl, hb⟩
/-- Each entry stands ahead of the next one. -/
def ordE : List En → Bool
  | a :: b :: l => lessE a b && ordE (b :: l)
  | _ => true
theorem ordE_iff : ∀ {l : List En}, ordE l = true ↔ ∀ i x y, l[i]? = some x → l[i + 1]? = some y → lessE x y = true
  | [] => by simp [ordE]
  | [a] => by simp [ordE]
  | a :: b :: l => by
    rw [ordE, Bool.and_eq_true, ordE_iff]
    constructor
    · rintro ⟨h1, h2⟩ i x y hx hy
      cases i with
      | zero => simp at hx hy; subst hx hy; exact h1
      | succ i => exact h2 i x y (by simpa using hx) (by simpa using hy)
    · intro h
      exact ⟨h 0 a b rfl rfl, fun i x y hx hy => h (i + 1) x y (by simpa using hx) (by simpa using hy)⟩
def inE (l : List En) (e : En) : Bool := l.any fun x => decide (x.key = e.key ∧ x.seq = e.seq)
theorem in_any {A B D : Option Addr} {n c b d : Nat} {l : List En} {e : En} {w : World} (hr : RdR 4 w All A (l.map enEl)) (hn : l.length = n) (re : RdB w B e.key) (hok : ∀ x ∈ l, x.key.length ≤ maxLen) (hl : l.length ≤ 4294967296) :
    CallsV Tryz.prog 27 #[.slice A n c, .agg (enV e B b D d).toArray] w fun v w' => v = .bool (inE l e) ∧ Below w.heap.size w w' := by
  subst hn
  have hb := Below.refl w.heap.size w
  have hmax : maxLen = 9223372036854775807 := rfl
  refine calls_in (N := _) Tryz.func27 rfl Tryz.ntmps27 rfl ?_; show WC _ _ _ _ _ _
  refine wc_sr ?_
  refine wl_box (cs := enV e B b D d) rfl rfl fun g2 w2 hg2 a2 hbx => ?_
  replace hb := hb.trans (hbx.mono hb.size)
  clear hbx
  unfold enV at a2
  have ha2 := a2
  clear a2
  refine wl_as rfl rfl ?_; refine wl_ns ?_; refine wc_seq ?_; refine wc_sr ?_; refine wl_as rfl rfl ?_; refine wl_ns ?_; refine wc_block ?_
  refine wc_loop (fun L wr m => ∃ k : Nat, L = [(0, .slice A l.length c), (3, .pointer (some ⟨g2, 0, none⟩)), (5, .int .i64 (k : Int))] ∧ k ≤ l.length ∧ inE (l.take k) e = false ∧ Below w2.heap.size w2 wr ∧ m = l.length - k)
    [(0, .slice A l.length c), (3, .pointer (some ⟨g2, 0, none⟩)), (5, .int .i64 (0 : Nat))] l.length ⟨0, rfl, by omega, by simp [inE], Below.refl _ _, rfl⟩ ⟨rfl, rfl, rfl, trivial⟩ ?_
  rintro _ w1 m ⟨k, rfl, hk, he, hb3, rfl⟩
  have a2 := Ar.bel ha2 hb3
  have hbw := hb.trans (hb3.mono hb.size)
  refine wc_seq ?_; refine wc_sr ?_; refine wl_mv rfl rfl ?_; refine wl_mv rfl rfl ?_; apply wl_val; apply opv_len; exact rfl; exact tkE.sl; exact rfl; refine wl_bin rfl rfl bin_lss rfl ?_; refine wl_ns ?_
  refine wc_cond rfl (fun h1 => ?_) (fun h1 => ?_)
  · obtain ⟨x, hx⟩ : ∃ x, l[k]? = some x := ⟨_, List.getElem?_eq_getElem (by omega)⟩
    obtain ⟨b1, o1, cs, rfl, _, _, hp, i1⟩ := RdR.at (k := 4) (by decide) hr (E := enEl x) (i := k) (by rw [List.getElem?_map, hx]; rfl)
    obtain ⟨X, cx, Y, cy, rfl, rx, _, _, _⟩ := enEl.rd hp
    replace i1 := i1.below hbw
    replace rx := rx.below hbw
    replace re := re.below hbw
    unfold enV at i1
    have het := any_take (p := fun x => decide (x.key = e.key ∧ x.seq = e.seq)) hx
    have hq : ∀ w', Below w1.heap.size w1 w' → CallsV Tryz.prog 54 #[.slice X x.key.length cx, .slice B e.key.length b] w' fun v w2 => v = .bool (decide (x.key = e.key)) ∧ Below w1.heap.size w1 w2 := fun w' hw => (equal_any (rx.below hw) (re.below hw) rfl rfl (hok x (List.mem_of_getElem? hx))).mono fun v w2 ⟨hv, h2⟩ => ⟨hv, hw.trans (h2.mono hw.size)⟩
    obtain ⟨q, hqd⟩ : ∃ q, q = decide (x.key = e.key) := ⟨_, rfl⟩
    rw [← hqd] at hq
    cases q with
    | false =>
      have hne : ¬ x.key = e.key := of_decide_eq_false hqd.symm
      refine wc_skip ?_; refine we_seq ?_; refine wc_seq ?_; refine wc_block ?_; refine wc_seq ?_
      refine wc_drawB mixed (by kernel_rfl) ?_
      apply wq_val; intro _ hw_; apply opv_move; exact rfl; exact rfl; apply wq_val; intro _ hw_; apply opv_move; exact rfl; exact rfl; apply wq_val; intro _ hw_; apply opv_idxG tkE; exact rfl; exact rfl; exact rfl; omega; exact rfl; apply wq_val; intro _ hw_; apply opv_fa; exact fa_sE (by decide); exact rfl; exact rfl; apply wq_val; intro _ hw_; apply opv_ldW; exact rfl; exact Wi.below (by assumption) hw_; exact e1_by; exact rfl; exact rfl; apply wq_val; intro _ hw_; apply opv_fa; exact fa_sE (by decide); exact rfl; exact rfl; apply wq_val; intro _ hw_; apply opv_ldX; exact rfl; exact Ar.bel (by assumption) hw_; exact e1_by; exact rfl; exact rfl
      refine wq_call (v := .bool false) ok_caissonref01_Equal hq ⟨rfl, rfl, trivial⟩ rfl ?_
      apply wq_val; intro _ hw_; apply opv_move; exact rfl; exact rfl; apply wq_skip; exact rfl; exact rfl; exact rfl; exact bR2; exact rfl; apply wq_skip; exact rfl; exact rfl; exact rfl; exact bR2; exact rfl; apply wq_skip; exact rfl; exact rfl; exact rfl; exact bR2; exact rfl; apply wq_skip; exact rfl; exact rfl; exact rfl; exact bR2; exact rfl; apply wq_skip; exact rfl; exact rfl; exact rfl; exact bR2; exact rfl; apply wq_skip; exact rfl; exact rfl; exact rfl; exact bR2; exact rfl; apply wq_skip; exact rfl; exact rfl; exact rfl; exact bR2; exact rfl; apply wq_skip; exact rfl; exact rfl; exact rfl; exact bR2; exact rfl; apply wq_val; intro _ hw_; apply opv_pickF; exact rfl; exact rfl; exact rfl; exact rfl; refine wq_nil fun w1 hw1 => ?_
      replace hb3 := hb3.trans (hw1.mono hb3.size)
      refine we_seq ?_; apply wc_condFb; exact rfl; exact rfl; refine wc_skip ?_; refine we_block_norm ?_; refine we_seq ?_; refine wc_region ?_; refine wl_mv rfl rfl ?_; apply wl_val; apply opv_bin; exact rfl; exact rfl; exact bin_add64 (by omega); exact rfl; refine wl_as rfl rfl ?_; refine wl_nil ?_
      refine we_loop _ (l.length - (k + 1)) ⟨k + 1, rfl, by omega, by unfold inE at he ⊢; rw [het, he, decide_eq_false (fun h => hne h.1)]; rfl, hb3, rfl⟩ (by omega) ⟨rfl, rfl, by simp [lookT], trivial⟩
    | true =>
      have hye : x.key = e.key := of_decide_eq_true hqd.symm
      by_cases h2 : x.seq = e.seq
      · have h2' : (x.seq : Int) = (e.seq : Int) := by omega
        refine wc_skip ?_; refine we_seq ?_; refine wc_seq ?_; refine wc_block ?_; refine wc_seq ?_
        refine wc_drawB mixed (by kernel_rfl) ?_
        apply wq_val; intro _ hw_; apply opv_move; exact rfl; exact rfl; apply wq_val; intro _ hw_; apply opv_move; exact rfl; exact rfl; apply wq_val; intro _ hw_; apply opv_idxG tkE; exact rfl; exact rfl; exact rfl; omega; exact rfl; apply wq_val; intro _ hw_; apply opv_fa; exact fa_sE (by decide); exact rfl; exact rfl; apply wq_val; intro _ hw_; apply opv_ldW; exact rfl; exact Wi.below (by assumption) hw_; exact e1_by; exact rfl; exact rfl; apply wq_val; intro _ hw_; apply opv_fa; exact fa_sE (by decide); exact rfl; exact rfl; apply wq_val; intro _ hw_; apply opv_ldX; exact rfl; exact Ar.bel (by assumption) hw_; exact e1_by; exact rfl; exact rfl
        refine wq_call (v := .bool true) ok_caissonref01_Equal hq ⟨rfl, rfl, trivial⟩ rfl ?_
        apply wq_val; intro _ hw_; apply opv_move; exact rfl; exact rfl; apply wq_take; exact rfl; exact rfl; exact rfl; exact rfl; apply wq_val; intro _ hw_; apply opv_move; exact rfl; exact rfl; apply wq_take; exact rfl; exact rfl; exact rfl; exact rfl; apply wq_val; intro _ hw_; apply opv_move; exact rfl; exact rfl; apply wq_take; exact rfl; exact rfl; exact rfl; exact rfl; apply wq_val; intro _ hw_; apply opv_idxG tkE; exact rfl; exact rfl; exact rfl; omega; exact rfl; apply wq_take; exact rfl; exact rfl; exact rfl; exact rfl; apply wq_val; intro _ hw_; apply opv_fa; exact fa_sE (by decide); exact rfl; exact rfl; apply wq_take; exact rfl; exact rfl; exact rfl; exact rfl; apply wq_val; intro _ hw_; apply opv_ldW; exact rfl; exact Wi.below (by assumption) hw_; exact e1_u64; exact rfl; exact rfl; apply wq_take; exact rfl; exact rfl; exact rfl; exact rfl; apply wq_val; intro _ hw_; apply opv_fa; exact fa_sE (by decide); exact rfl; exact rfl; apply wq_take; exact rfl; exact rfl; exact rfl; exact rfl; apply wq_val; intro _ hw_; apply opv_ldX; exact rfl; exact Ar.bel (by assumption) hw_; exact e1_u64; exact rfl; exact rfl; apply wq_take; exact rfl; exact rfl; exact rfl; exact rfl; apply wq_val; intro _ hw_; apply opv_bin; exact rfl; exact rfl; exact bin_eql; exact rfl; apply wq_val; intro _ hw_; apply opv_pickT; exact rfl; exact rfl; exact rfl; exact rfl; refine wq_nil fun w1 hw1 => ?_
        replace hb3 := hb3.trans (hw1.mono hb3.size)
        refine we_seq ?_; apply wc_decT; exact rfl; (with_reducible assumption); refine wc_sr ?_; refine wl_as rfl rfl ?_; refine wl_ns ?_; refine wc_ret ?_; refine we_block_ret ?_; refine we_seq_ret ?_; refine we_loop_ret ?_; refine we_block_ret ?_; refine we_seq_ret ?_
        exact we_ret1 rfl rfl ⟨_, rfl, by rw [inE, any_at hx (decide_eq_true ⟨hye, h2⟩)], hb.trans (hb3.mono hb.size)⟩
      · have h2' : ¬ (x.seq : Int) = (e.seq : Int) := by omega
        refine wc_skip ?_; refine we_seq ?_; refine wc_seq ?_; refine wc_block ?_; refine wc_seq ?_
        refine wc_drawB mixed (by kernel_rfl) ?_
        apply wq_val; intro _ hw_; apply opv_move; exact rfl; exact rfl; apply wq_val; intro _ hw_; apply opv_move; exact rfl; exact rfl; apply wq_val; intro _ hw_; apply opv_idxG tkE; exact rfl; exact rfl; exact rfl; omega; exact rfl; apply wq_val; intro _ hw_; apply opv_fa; exact fa_sE (by decide); exact rfl; exact rfl; apply wq_val; intro _ hw_; apply opv_ldW; exact rfl; exact Wi.below (by assumption) hw_; exact e1_by; exact rfl; exact rfl; apply wq_val; intro _ hw_; apply opv_fa; exact fa_sE (by decide); exact rfl; exact rfl; apply wq_val; intro _ hw_; apply opv_ldX; exact rfl; exact Ar.bel (by assumption) hw_; exact e1_by; exact rfl; exact rfl
        refine wq_call (v := .bool true) ok_caissonref01_Equal hq ⟨rfl, rfl, trivial⟩ rfl ?_
        apply wq_val; intro _ hw_; apply opv_move; exact rfl; exact rfl; apply wq_take; exact rfl; exact rfl; exact rfl; exact rfl; apply wq_val; intro _ hw_; apply opv_move; exact rfl; exact rfl; apply wq_take; exact rfl; exact rfl; exact rfl; exact rfl; apply wq_val; intro _ hw_; apply opv_move; exact rfl; exact rfl; apply wq_take; exact rfl; exact rfl; exact rfl; exact rfl; apply wq_val; intro _ hw_; apply opv_idxG tkE; exact rfl; exact rfl; exact rfl; omega; exact rfl; apply wq_take; exact rfl; exact rfl; exact rfl; exact rfl; apply wq_val; intro _ hw_; apply opv_fa; exact fa_sE (by decide); exact rfl; exact rfl; apply wq_take; exact rfl; exact rfl; exact rfl; exact rfl; apply wq_val; intro _ hw_; apply opv_ldW; exact rfl; exact Wi.below (by assumption) hw_; exact e1_u64; exact rfl; exact rfl; apply wq_take; exact rfl; exact rfl; exact rfl; exact rfl; apply wq_val; intro _ hw_; apply opv_fa; exact fa_sE (by decide); exact rfl; exact rfl; apply wq_take; exact rfl; exact rfl; exact rfl; exact rfl; apply wq_val; intro _ hw_; apply opv_ldX; exact rfl; exact Ar.bel (by assumption) hw_; exact e1_u64; exact rfl; exact rfl; apply wq_take; exact rfl; exact rfl; exact rfl; exact rfl; apply wq_val; intro _ hw_; apply opv_bin; exact rfl; exact rfl; exact bin_eql; exact rfl; apply wq_val; intro _ hw_; apply opv_pickT; exact rfl; exact rfl; exact rfl; exact rfl; refine wq_nil fun w1 hw1 => ?_
        replace hb3 := hb3.trans (hw1.mono hb3.size)
        refine we_seq ?_; apply wc_decF; exact rfl; (with_reducible assumption); refine wc_skip ?_; refine we_block_norm ?_; refine we_seq ?_; refine wc_region ?_; refine wl_mv rfl rfl ?_; apply wl_val; apply opv_bin; exact rfl; exact rfl; exact bin_add64 (by omega); exact rfl; refine wl_as rfl rfl ?_; refine wl_nil ?_
        refine we_loop _ (l.length - (k + 1)) ⟨k + 1, rfl, by omega, by unfold inE at he ⊢; rw [het, he, decide_eq_false (fun h => h2 h.2)]; rfl, hb3, rfl⟩ (by omega) ⟨rfl, rfl, by simp [lookT], trivial⟩
  · obtain rfl : k = l.length := by omega
    rw [List.take_length] at he
    refine wc_exit ?_; refine we_seq_exit ?_; refine we_loop_exit ?_; refine we_block_exit ?_; refine we_seq ?_; refine wc_sr ?_; refine wl_as rfl rfl ?_; refine wl_ns ?_; refine wc_ret ?_
    exact we_ret1 rfl rfl ⟨_, rfl, by rw [he], hbw⟩
/-- The first of the key that isn't above. -/
def getE (l : List En) (key : List UInt8) (m : Nat) : Option En := l.find? fun x => decide (x.key = key ∧ x.seq ≤ m)
end Go.Proofs.YtdgagffieobiiaaGreatDoor

/-
  What a call holds, told as a list of pieces that lie apart: blocks, rows, rows of elements with their own memory, and pieces that a reader of this list names; the laws by which a piece changes, comes in and goes, and what a call leaves alone. Nothing here names the program.
-/
namespace Go.Proofs.YtdgagffieobiiaaGreatDoor
open Go.RowKit

abbrev BS := Nat → Prop
/-- Outside a set of blocks the world w' is as w was. -/
structure Mod (M : BS) (w w' : World) : Prop where
  os : w'.os = w.os
  tape : w'.tape = w.tape
  output : w'.output = w.output
  size : w.heap.size ≤ w'.heap.size
  block : ∀ b, b < w.heap.size → ¬ M b → w'.heap[b]? = w.heap[b]?
def NoB : BS := fun _ => False
section
variable {w w' w'' : World} {M M' : BS}
theorem Mod.refl (M : BS) (w : World) : Mod M w w := ⟨rfl, rfl, rfl, Nat.le_refl _, fun _ _ _ => rfl⟩
theorem Mod.trans (h : Mod M w w') (h2 : Mod M' w' w'') (hs : ∀ b, b < w.heap.size → M' b → M b) : Mod M w w'' :=
  ⟨h2.os.trans h.os, h2.tape.trans h.tape, h2.output.trans h.output, Nat.le_trans h.size h2.size, fun b hb hm => (h2.block b (Nat.lt_of_lt_of_le hb h.size) fun hk => hm (hs b hb hk)).trans (h.block b hb hm)⟩
theorem Mod.of_below (h : Below w.heap.size w w') (M : BS) : Mod M w w' := ⟨h.os, h.tape, h.output, h.size, fun b hb _ => h.block b hb⟩
theorem Mod.below (h : Mod NoB w w') : Below w.heap.size w w' := ⟨h.os, h.tape, h.output, h.size, fun b hb => h.block b hb id⟩
theorem Mod.of_gr {A : Option Addr} (h : Gr w w' A) (hA : ∀ a, A = some a → M a.block) : Mod M w w' := ⟨h.os, h.tape, h.output, World.grownBy.size h, fun b hb hm => h.block b hb fun hk => by
  cases A with
  | none => simp at hk
  | some a => simp at hk; exact hm (hk ▸ hA a rfl)⟩
theorem Mod.mono (h : Mod M w w') (hs : ∀ b, b < w.heap.size → M b → M' b) : Mod M' w w' := ⟨h.os, h.tape, h.output, h.size, fun b hb hm => h.block b hb fun hk => hm (hs b hb hk)⟩
theorem Mod.below_of {B : Nat} (h : Mod M w w') (hB : B ≤ w.heap.size) (hM : ∀ b, M b → B ≤ b) : Below B w w' := ⟨h.os, h.tape, h.output, h.size, fun b hb => h.block b (Nat.lt_of_lt_of_le hb hB) fun hm => by have := hM b hm; omega⟩
end

/-- A piece that a reader names. -/
structure Ck where
  P : World → BS → Prop
  move : ∀ {w w' : World} {S S' : BS}, P w S → w.heap.size ≤ w'.heap.size → (∀ b, b < w.heap.size → S b → S' b ∧ w'.heap[b]? = w.heap[b]?) → P w' S'
/-- The pieces. -/
inductive Cd
  | blk (g : Nat) (t : TypeId) (cs : List Value)
  | ow (e : TypeId) (A : Option Addr) (n c : Nat) (xs : List Value)
  | rg (k : Nat) (e : TypeId) (A : Option Addr) (c : Nat) (els : List El)
  | ce (E : El) (cs : List Value)
  | ck (c : Ck)
def Cd.P : Cd → World → BS → Prop
  | .blk g t cs, w, S => S g ∧ Ar w g t cs
  | .ow e A n c xs, w, S => (∀ a, A = some a → S a.block) ∧ Ow w 0 e A n c xs
  | .rg k e A c els, w, S => (∀ a, A = some a → S a.block) ∧ OwR k e w 0 S A c els
  | .ce E cs, w, S => E.P w S cs
  | .ck c, w, S => c.P w S
theorem OwR.moveS {k base c : Nat} {e : TypeId} {w w' : World} {S S' : BS} {A : Option Addr} {els : List El} (h : OwR k e w base S A c els) (hA : ∀ a, A = some a → S a.block) (hz : w.heap.size ≤ w'.heap.size) (hm : ∀ b, b < w.heap.size → S b → S' b ∧ w'.heap[b]? = w.heap[b]?) :
    OwR k e w' base S' A c els := by
  have hl := OwR.lt h
  obtain ⟨css, h1, h2⟩ := h
  refine ⟨css, h1.move hz fun b hb hs => ⟨⟨(hm b hb hs.1).1, hs.2⟩, (hm b hb hs.1).2⟩, h2.1, ?_⟩
  rcases h2.2 with hn | ⟨g, cap, cur, hv, hg, hc, rest⟩
  · exact .inl hn
  · injection hv with hA' hn hc'
    subst hA'
    exact .inr ⟨g, cap, cur, by rw [hc'], hg, by rw [(hm g (hl _ rfl).2 (hA _ rfl)).2]; exact hc, rest⟩
theorem Ow.moveS {base n c : Nat} {e : TypeId} {w w' : World} {A : Option Addr} {xs : List Value} (h : Ow w base e A n c xs) (hm : ∀ a, A = some a → w'.heap[a.block]? = w.heap[a.block]?) : Ow w' base e A n c xs := by
  refine ⟨h.1, ?_⟩
  rcases h.2 with hn | ⟨g, cap, cur, hv, hg, hc, rest⟩
  · exact .inl hn
  · injection hv with hA' hn hc'
    subst hA'
    exact .inr ⟨g, cap, cur, by rw [hc'], hg, by rw [hm _ rfl]; exact hc, rest⟩
theorem Cd.move : ∀ {c : Cd} {w w' : World} {S S' : BS}, c.P w S → w.heap.size ≤ w'.heap.size → (∀ b, b < w.heap.size → S b → S' b ∧ w'.heap[b]? = w.heap[b]?) → c.P w' S'
  | .blk g t cs, w, w', S, S', h, _, hm => ⟨(hm g h.2.lt h.1).1, (hm g h.2.lt h.1).2.trans h.2⟩
  | .ow e A n c xs, w, w', S, S', h, _, hm => ⟨fun a ha => (hm _ (Ow.lt h.2 a ha).2 (h.1 a ha)).1, h.2.moveS fun a ha => (hm _ (Ow.lt h.2 a ha).2 (h.1 a ha)).2⟩
  | .rg k e A c els, w, w', S, S', h, hz, hm => ⟨fun a ha => (hm _ (OwR.lt h.2 a ha).2 (h.1 a ha)).1, h.2.moveS h.1 hz hm⟩
  | .ce E cs, w, w', S, S', h, hz, hm => E.move h hz hm
  | .ck c, w, w', S, S', h, hz, hm => c.move h hz hm

/-- The pieces hold, each in blocks of its own. -/
def Sat (w : World) : List Cd → BS → Prop
  | [], _ => True
  | c :: H, S => ∃ T : BS, (∀ b, T b → S b) ∧ c.P w T ∧ Sat w H fun b => S b ∧ ¬ T b
section
variable {w w' : World} {S S' : BS} {H H1 H2 : List Cd} {c c' : Cd}
theorem Sat.move : ∀ {H : List Cd} {S S' : BS}, Sat w H S → w.heap.size ≤ w'.heap.size → (∀ b, b < w.heap.size → S b → S' b ∧ w'.heap[b]? = w.heap[b]?) → Sat w' H S'
  | [], _, _, _, _, _ => trivial
  | c :: H, S, S', ⟨T, hT, hc, hr⟩, hz, hm => ⟨fun b => T b ∧ b < w.heap.size, fun b hb => (hm b hb.2 (hT b hb.1)).1, Cd.move hc hz fun b hb h => ⟨⟨h, hb⟩, (hm b hb (hT b h)).2⟩,
      Sat.move hr hz fun b hb h => ⟨⟨(hm b hb h.1).1, fun k => h.2 k.1⟩, (hm b hb h.1).2⟩⟩
theorem Sat.mono (h : Sat w H S) (hs : ∀ b, b < w.heap.size → S b → S' b) : Sat w H S' := h.move (Nat.le_refl _) fun b hb h => ⟨hs b hb h, rfl⟩
theorem Sat.append : ∀ {H1 : List Cd} {S : BS}, Sat w (H1 ++ H2) S → ∃ T : BS, (∀ b, T b → S b) ∧ Sat w H1 T ∧ Sat w H2 fun b => S b ∧ ¬ T b
  | [], S, h => ⟨NoB, fun _ h => h.elim, trivial, h.mono fun b _ h => ⟨h, id⟩⟩
  | c :: H1, S, ⟨T, hT, hc, hr⟩ => by
    obtain ⟨T2, h2, h3, h4⟩ := Sat.append hr
    exact ⟨fun b => T b ∨ T2 b, fun b hb => hb.elim (hT b) fun h => (h2 b h).1, ⟨T, fun b => .inl, hc, h3.mono fun b _ hb => ⟨.inr hb, (h2 b hb).2⟩⟩,
      h4.mono fun b _ hb => ⟨hb.1.1, fun k => k.elim hb.1.2 hb.2⟩⟩
theorem Sat.join : ∀ {H1 : List Cd} {S T : BS}, (∀ b, T b → S b) → Sat w H1 T → (Sat w H2 fun b => S b ∧ ¬ T b) → Sat w (H1 ++ H2) S
  | [], S, T, _, _, h2 => h2.mono fun b _ h => h.1
  | c :: H1, S, T, hT, ⟨U, hU, hc, hr⟩, h2 => ⟨U, fun b h => hT b (hU b h), hc, Sat.join (T := fun b => T b ∧ ¬ U b) (fun b h => ⟨hT b h.1, h.2⟩) hr (h2.mono fun b _ h => ⟨⟨h.1, fun k => h.2 (hU b k)⟩, fun k => h.2 k.1⟩)⟩
theorem Sat.swap (h : Sat w (H1 ++ H2) S) : Sat w (H2 ++ H1) S := by
  obtain ⟨T, h1, h2, h3⟩ := h.append
  exact Sat.join (T := fun b => S b ∧ ¬ T b) (fun b h => h.1) h3 (h2.mono fun b _ h => ⟨h1 b h, fun k => k.2 h⟩)
/-- A piece in front of the others. -/
def nthC : List Cd → Nat → Option Cd
  | [], _ => none
  | c :: _, 0 => some c
  | _ :: H, k + 1 => nthC H k
def delC : List Cd → Nat → List Cd
  | [], _ => []
  | _ :: H, 0 => H
  | c :: H, k + 1 => c :: delC H k
def setC : List Cd → Nat → Cd → List Cd
  | [], _, _ => []
  | _ :: H, 0, d => d :: H
  | c :: H, k + 1, d => c :: setC H k d
theorem Sat.front : ∀ {H : List Cd} {i : Nat} {S : BS}, Sat w H S → nthC H i = some c → Sat w (c :: delC H i) S
  | d :: H, 0, S, h, hi => by simp only [nthC, Option.some.injEq] at hi; subst hi; exact h
  | d :: H, i + 1, S, ⟨T, hT, hd, hr⟩, hi => by
    obtain ⟨U, hU, hc, hr2⟩ := Sat.front hr hi
    exact ⟨U, fun b h => (hU b h).1, hc, T, fun b h => ⟨hT b h, fun k => (hU b k).2 h⟩, hd, hr2.mono fun b _ h => ⟨⟨h.1.1, h.2⟩, h.1.2⟩⟩
theorem Sat.back : ∀ {H : List Cd} {i : Nat} {S : BS}, Sat w (c' :: delC H i) S → nthC H i = some c → Sat w (setC H i c') S
  | d :: H, 0, S, h, hi => h
  | d :: H, i + 1, S, ⟨U, hU, hc, T, hT, hd, hr⟩, hi =>
    ⟨T, fun b h => (hT b h).1, hd, Sat.back (H := H) (i := i) ⟨U, fun b h => ⟨hU b h, fun k => (hT b k).2 h⟩, hc, hr.mono fun b _ h => ⟨⟨h.1.1, h.2⟩, h.1.2⟩⟩ hi⟩
  | [], i, S, h, hi => by simp [nthC] at hi
end

/-- What the call may touch: the blocks that came with it, and new ones. -/
def Fr (M : BS) (w0 : World) : BS := fun b => M b ∨ w0.heap.size ≤ b
/-- The state of a call that began in the world w0 and may write in the blocks of M: it holds these pieces. -/
def St (M : BS) (w0 w : World) (H : List Cd) : Prop := Mod M w0 w ∧ Sat w H (Fr M w0)
section
variable {w0 w w' : World} {M : BS} {H H' H1 H2 : List Cd} {c c' : Cd} {i : Nat}
theorem St.start (h : Sat w H M) : St M w w H := ⟨Mod.refl _ _, h.mono fun _ _ h => .inl h⟩
theorem St.init (w : World) : St NoB w w [] := ⟨Mod.refl _ _, trivial⟩
theorem St.bel (h : St NoB w0 w H) : Below w0.heap.size w0 w := h.1.below
theorem St.nil (h : St M w0 w H) : St M w0 w [] := ⟨h.1, trivial⟩
theorem St.size (h : St M w0 w H) : w0.heap.size ≤ w.heap.size := h.1.size
/-- Other words for the same pieces. -/
theorem St.map (h : St M w0 w H) (hH : ∀ S, Sat w H S → Sat w H' S) : St M w0 w H' := ⟨h.1, hH _ h.2⟩
theorem St.front (h : St M w0 w H) (i : Nat) (hi : nthC H i = some c) : St M w0 w (c :: delC H i) := ⟨h.1, h.2.front hi⟩
theorem St.drop (h : St M w0 w H) (i : Nat) (hi : nthC H i = some c) : St M w0 w (delC H i) := ⟨h.1, by obtain ⟨T, hT, _, hr⟩ := h.2.front hi; exact hr.mono fun _ _ h => h.1⟩
/-- The pieces in front are handed to a call. -/
theorem St.lend (h : St M w0 w (H1 ++ H2)) : ∃ S : BS, Sat w H1 S ∧ (∀ b, S b → b < w.heap.size) ∧ (∀ w', Mod S w w' → Mod M w0 w') ∧ (∀ w', Mod S w w' → Sat w' H2 fun b => Fr M w0 b ∧ ¬ S b) ∧ ∀ w' H1', St S w w' H1' → St M w0 w' (H1' ++ H2) := by
  obtain ⟨T, hT, h1, h2⟩ := h.2.append
  have hM : ∀ w', Mod (fun b => T b ∧ b < w.heap.size) w w' → Mod M w0 w' := fun w' hm => h.1.trans hm fun b hb k => (hT b k.1).elim id fun k => absurd k (Nat.not_le.2 hb)
  refine ⟨fun b => T b ∧ b < w.heap.size, h1.mono fun b hb h => ⟨h, hb⟩, fun b h => h.2, hM, fun w' hm => h2.move hm.size fun b hb k => ⟨⟨k.1, fun k2 => k.2 k2.1⟩, hm.block b hb fun k2 => k.2 k2.1⟩, fun w' H1' hs => ⟨hM _ hs.1, ?_⟩⟩
  refine Sat.join (T := Fr (fun b => T b ∧ b < w.heap.size) w) (fun b hb => hb.elim (fun k => hT b k.1) fun k => .inr (Nat.le_trans h.1.size k)) hs.2 ?_
  refine h2.move hs.1.size fun b hb k => ⟨⟨k.1, ?_⟩, hs.1.block b hb fun k2 => k.2 k2.1⟩
  rintro (k2 | k2)
  · exact k.2 k2.1
  · omega
/-- A step that leaves all blocks that are there. -/
theorem St.below (h : St M w0 w H) (hb : Below w.heap.size w w') : St M w0 w' H := by
  obtain ⟨_, _, _, _, _, hB⟩ := St.lend (H1 := []) h
  exact hB w' [] ⟨Mod.of_below hb _, trivial⟩
/-- A call that only reads brings pieces. -/
theorem St.call (h : St M w0 w H) (hb : St NoB w w' H1) : St M w0 w' (H1 ++ H) := by
  obtain ⟨S, _, _, _, _, hB⟩ := St.lend (H1 := []) h
  exact hB w' H1 ⟨hb.1.mono fun _ _ h => h.elim, hb.2.mono fun b _ h => h.elim (fun k => k.elim) .inr⟩
/-- New blocks hold a piece. -/
theorem St.fresh {T : BS} (hb : Below w.heap.size w w') (hc : c.P w' T) (hT : ∀ b, b < w'.heap.size → T b → w.heap.size ≤ b) : St NoB w w' [c] :=
  ⟨Mod.of_below hb _, fun b => T b ∧ b < w'.heap.size, fun b k => .inr (hT b k.2 k.1), Cd.move hc (Nat.le_refl _) fun b hb k => ⟨⟨k, hb⟩, rfl⟩, trivial⟩
theorem St.new {T : BS} (h : St M w0 w H) (hb : Below w.heap.size w w') (hc : c.P w' T) (hT : ∀ b, b < w'.heap.size → T b → w.heap.size ≤ b) : St M w0 w' (c :: H) := h.call (St.fresh hb hc hT)
theorem St.newO {e : TypeId} {A : Option Addr} {base n cc : Nat} {xs : List Value} (h : St M w0 w H) (hb : Below w.heap.size w w') (hc : Ow w' base e A n cc xs) (hB : w.heap.size ≤ base) : St M w0 w' (.ow e A n cc xs :: H) :=
  h.new (T := fun b => w.heap.size ≤ b) (c := .ow e A n cc xs) hb ⟨fun a ha => Nat.le_trans hB (Ow.lt hc a ha).1, hc.mono (Nat.zero_le _)⟩ fun _ _ h => h
theorem St.newG {k : Nat} {e : TypeId} {A : Option Addr} {base cc : Nat} {S : BS} {els : List El} (h : St M w0 w H) (hb : Below w.heap.size w w') (hc : OwR k e w' base S A cc els) (hB : w.heap.size ≤ base) (hS : ∀ b, b < w'.heap.size → S b → w.heap.size ≤ b) : St M w0 w' (.rg k e A cc els :: H) :=
  h.new (T := fun b => w.heap.size ≤ b) (c := .rg k e A cc els) hb ⟨fun a ha => Nat.le_trans hB (OwR.lt hc a ha).1, hc.mono (Nat.zero_le _) hS⟩ fun _ _ h => h
theorem St.newA {g : Nat} {t : TypeId} {cs : List Value} (h : St M w0 w H) (hb : Below w.heap.size w w') (hg : w.heap.size ≤ g) (hc : Ar w' g t cs) : St M w0 w' (.blk g t cs :: H) :=
  h.new (T := fun b => w.heap.size ≤ b) (c := .blk g t cs) hb ⟨hg, hc⟩ fun _ _ h => h
/-- What a piece says. -/
theorem St.get (h : St M w0 w H) (i : Nat) (hi : nthC H i = some c) : ∃ T : BS, c.P w T ∧ (∀ b, T b → Fr M w0 b) := by
  obtain ⟨T, hT, hc, _⟩ := h.2.front hi
  exact ⟨T, hc, hT⟩
theorem St.ar {g : Nat} {t : TypeId} {cs : List Value} (h : St M w0 w H) (i : Nat) (hi : nthC H i = some (.blk g t cs)) : Ar w g t cs := by obtain ⟨T, hc, _⟩ := h.get i hi; exact hc.2
theorem St.ow {e : TypeId} {A : Option Addr} {n c : Nat} {xs : List Value} (h : St M w0 w H) (i : Nat) (hi : nthC H i = some (.ow e A n c xs)) : Ow w 0 e A n c xs := by obtain ⟨T, hc, _⟩ := h.get i hi; exact hc.2
theorem St.rg {k : Nat} {e : TypeId} {A : Option Addr} {c : Nat} {els : List El} (h : St M w0 w H) (i : Nat) (hi : nthC H i = some (.rg k e A c els)) : OwR k e w 0 All A c els := by obtain ⟨T, hc, _⟩ := h.get i hi; exact hc.2.mono (Nat.le_refl _) fun _ _ _ => trivial
theorem St.ce {E : El} {cs : List Value} (h : St M w0 w H) (i : Nat) (hi : nthC H i = some (.ce E cs)) : E.P w All cs := by obtain ⟨T, hc, _⟩ := h.get i hi; exact El.all hc
/-- One piece is written. -/
theorem St.upd (h : St M w0 w H) (i : Nat) (hi : nthC H i = some c) : ∃ T : BS, c.P w T ∧ (∀ b, T b → b < w.heap.size) ∧ ∀ w' c' (T' : BS), Mod T w w' → c'.P w' T' → (∀ b, b < w'.heap.size → T' b → T b ∨ w.heap.size ≤ b) → St M w0 w' (setC H i c') := by
  have h0 := h.front i hi
  obtain ⟨S, ⟨T, hT, hc, _⟩, hS, _, _, hB⟩ := St.lend (H1 := [c]) (H2 := delC H i) h0
  refine ⟨S, Cd.move hc (Nat.le_refl _) fun b _ k => ⟨hT b k, rfl⟩, hS, fun w' c' T' hm hc' hT' => ?_⟩
  have := hB w' [c'] ⟨hm, fun b => T' b ∧ b < w'.heap.size, fun b k => (hT' b k.2 k.1).elim .inl .inr, Cd.move hc' (Nat.le_refl _) fun b hb k => ⟨⟨k, hb⟩, rfl⟩, trivial⟩
  exact ⟨this.1, this.2.back hi⟩
theorem St.updA {g : Nat} {t : TypeId} {cs cs' : List Value} (h : St M w0 w H) (i : Nat) (hi : nthC H i = some (.blk g t cs)) (ha : Ar w' g t cs') (hg : Gr w w' (some ⟨g, 0, none⟩)) : St M w0 w' (setC H i (.blk g t cs')) := by
  obtain ⟨T, hc, hT, hK⟩ := h.upd i hi
  exact hK w' (.blk g t cs') T (Mod.of_gr hg fun a h => by cases h; exact hc.1) ⟨hc.1, ha⟩ fun _ _ h => .inl h
theorem at_in {A A' : Option Addr} {T : BS} (hat : A'.map (·.block) = A.map (·.block) ∨ ∀ a', A' = some a' → w.heap.size ≤ a'.block) (hA : ∀ a, A = some a → T a.block) : ∀ a, A' = some a → T a.block ∨ w.heap.size ≤ a.block := by
  rintro a rfl
  rcases hat with k | k
  · cases A with
    | none => simp at k
    | some a0 => simp at k; exact .inl (k ▸ hA a0 rfl)
  · exact .inr (k a rfl)
theorem at_new {A A' : Option Addr} (h : A'.map (·.block) = A.map (·.block) ∨ A'.map (·.block) = some w.heap.size) : A'.map (·.block) = A.map (·.block) ∨ ∀ a', A' = some a' → w.heap.size ≤ a'.block := h.imp id fun k a ha => by subst ha; simp at k; omega
theorem St.updO {e : TypeId} {A A' : Option Addr} {n n' c c' base : Nat} {xs xs' : List Value} (h : St M w0 w H) (i : Nat) (hi : nthC H i = some (.ow e A n c xs)) (ho : Ow w' base e A' n' c' xs') (hg : Gr w w' A)
    (hat : A'.map (·.block) = A.map (·.block) ∨ ∀ a', A' = some a' → w.heap.size ≤ a'.block) : St M w0 w' (setC H i (.ow e A' n' c' xs')) := by
  obtain ⟨T, hc, hT, hK⟩ := h.upd i hi
  exact hK w' (.ow e A' n' c' xs') (fun b => T b ∨ w.heap.size ≤ b) (Mod.of_gr hg hc.1) ⟨fun a ha => at_in hat hc.1 a ha, ho.mono (Nat.zero_le _)⟩ fun _ _ h => h
end
end Go.Proofs.YtdgagffieobiiaaGreatDoor

/-
  The engine's rules over what a call holds: blocks are made, read and written, rows are made, appended to and set, and the list of pieces keeps count. Nothing here names the program.
-/
namespace Go.Proofs.YtdgagffieobiiaaGreatDoor
open Go.RowKit

section
variable {P : Program} {N : Nat} {ops : Array Oper} {Q : Exit → Act → World → Prop} {rest : List Oper} {L : FL} {w0 w : World} {M : BS} {H : List Cd} {t e : TypeId} {g : Nat} {cs cs' : List Value} {z : Value} {bytes k : Nat}
/-! #### Blocks -/
theorem ws_st {x y : Operand} {ty : TypeId} {pos : String} {aft : Array Edge} {kk : Nat} {T : TypeId} {u : Value} (hs : St M w0 w H) (i : Nat) (hx : look L x = some (.pointer (some ⟨g, kk, none⟩))) (hi : nthC H i = some (.blk g T cs)) (E : Cell1 P e) (hk : Nat.blt kk cs.length = true)
    (hy : look L y = some u) (h1 : u.oneCell' = true)
    (h : ∀ w', St M w0 w' (setC H i (.blk g T (cs.set kk u))) → WL P N ops Q rest L w') :
    WL P N ops Q (⟨none, .store e x y, ty, pos, aft, none⟩ :: rest) L w :=
  wl_stA E (hs.ar i hi) hx (by simpa [Nat.blt_eq] using hk) hy h1 fun _ a2 g2 _ => h _ (hs.updA i hi a2 g2)
theorem ws_stS {x y : Operand} {ty T : TypeId} {pos : String} {aft : Array Edge} (hs : St M w0 w H) (i : Nat) (hx : look L x = some (.pointer (some ⟨g, 0, none⟩))) (hi : nthC H i = some (.blk g T cs)) (hy : look L y = some (.agg cs'.toArray)) (S : StT P t cs'.length) (hl : cs.length = cs'.length) (h1 : cs'.all (·.oneCell') = true)
    (h : ∀ w', St M w0 w' (setC H i (.blk g T cs')) → WL P N ops Q rest L w') :
    WL P N ops Q (⟨none, .store t x y, ty, pos, aft, none⟩ :: rest) L w :=
  wl_storeS S (hs.ar i hi) hx hy hl h1 fun _ a2 g2 _ => h _ (hs.updA i hi a2 g2)
theorem ws_box {d : Nat} {x : Operand} {ty : TypeId} {pos : String} {aft : Array Edge} (hs : St M w0 w H) (hx : look L x = some (.agg cs.toArray)) (hd : Nat.blt d N = true)
    (h : ∀ g w', St M w0 w' (.blk g t cs :: H) → WL P N ops Q rest ((d, .pointer (some ⟨g, 0, none⟩)) :: L) w') :
    WL P N ops Q (⟨some d, .box t x, ty, pos, aft, none⟩ :: rest) L w :=
  wl_box hx hd fun g _ hg a hb => h g _ (hs.newA hb hg a)
theorem ws_new {d : Nat} {ty : TypeId} {pos : String} {aft : Array Edge} (hs : St M w0 w H) (hz : (P.info? t).map (·.zero) = some (some (.agg cs.toArray))) (hd : Nat.blt d N = true)
    (h : ∀ g w', St M w0 w' (.blk g t cs :: H) → WL P N ops Q rest ((d, .pointer (some ⟨g, 0, none⟩)) :: L) w') :
    WL P N ops Q (⟨some d, .alloc t, ty, pos, aft, none⟩ :: rest) L w :=
  wl_new hz hd fun g _ hg a hb => h g _ (hs.newA hb hg a)
theorem ws_var {d : Nat} {x : Operand} {ty1 ty2 : TypeId} {p1 p2 : String} {f1 f2 : Array Edge} {zs : List Value} (hs : St M w0 w H) (hz : (P.info? t).map (·.zero) = some (some (.agg zs.toArray))) (S : StT P t cs.length) (hl : zs.length = cs.length)
    (hx : ∀ p, look ((d, p) :: L) x = some (.agg cs.toArray)) (h1 : cs.all (·.oneCell') = true) (hd : Nat.blt d N = true)
    (h : ∀ g w', St M w0 w' (.blk g t cs :: H) → WL P N ops Q rest ((d, .pointer (some ⟨g, 0, none⟩)) :: L) w') :
    WL P N ops Q (⟨some d, .alloc t, ty1, p1, f1, none⟩ :: ⟨none, .store t (.tmp d) x, ty2, p2, f2, none⟩ :: rest) L w :=
  wl_var hz S hl hx h1 hd fun g _ hg a hb => h g _ (hs.newA hb hg a)
/-! #### Rows of one cell an element -/
theorem ws_bs {d len : Nat} {ps : List (Nat × Operand)} {vs : List Value} {ty : TypeId} {pos : String} {aft : Array Edge} (hs : St M w0 w H) (T : Row1 P t e z bytes) (hp : PLooks L 0 ps vs) (hl : vs.length = len) (hle : len ≤ 16777216) (hd : Nat.blt d N = true)
    (h : ∀ A w', St M w0 w' (.ow e A len len vs :: H) → WL P N ops Q rest ((d, .slice A len len) :: L) w') :
    WL P N ops Q (⟨some d, .buildSlice t len ps.toArray, ty, pos, aft, none⟩ :: rest) L w :=
  wl_bs T hp hl hle hd fun A w' ho hb _ => h A w' (hs.newO hb ho (Nat.le_refl _))
theorem ws_mk {d : Nat} {x y : Operand} {ty : TypeId} {pos : String} {aft : Array Edge} {n c : Nat} {p q : Int} {k1 k2 : IntKind} (hs : St M w0 w H) (T : Row1 P t e z bytes) (hx : look L x = some (.int k1 p)) (hy : look L y = some (.int k2 q)) (hp : p = (n : Int)) (hq : q = (c : Int)) (hnc : n ≤ c)
    (hb : bytes * c ≤ 281474976710656) (hm : c ≤ maxLen) (hd : Nat.blt d N = true)
    (h : ∀ A w', St M w0 w' (.ow e A n c (List.replicate n z) :: H) → WL P N ops Q rest ((d, .slice A n c) :: L) w') :
    WL P N ops Q (⟨some d, .makeSlice t x y, ty, pos, aft, none⟩ :: rest) L w :=
  wl_mk T hx hy hp hq hnc hb hm hd fun A w' ho hb _ => h A w' (hs.newO hb ho (Nat.le_refl _))
theorem ws_app {d : Nat} {s x : Operand} {ty : TypeId} {pos : String} {aft : Array Edge} {A : Option Addr} {n c : Nat} {xs : List Value} {B : Option Addr} {m c' : Nat} {ys : List Value} (hs : St M w0 w H) (i : Nat) (hx0 : look L s = some (.slice A n c)) (hi : nthC H i = some (.ow e A n c xs)) (T : Row1 P t e z bytes)
    (hx : look L x = some (.slice B m c')) (hr : Rd w B m ys) (h1 : ∀ u ∈ ys, u.oneCell' = true)
    (hbytes : (n + m) * bytes ≤ 140737488355328) (hmax : n + m ≤ maxLen) (hd : Nat.blt d N = true)
    (h : ∀ A' c' w', St M w0 w' (setC H i (.ow e A' (n + m) c' (xs ++ ys))) → WL P N ops Q rest ((d, .slice A' (n + m) c') :: L) w') :
    WL P N ops Q (⟨some d, .call { callee := .builtin .append, args := #[s, x], argTypes := #[t, t] }, ty, pos, aft, none⟩ :: rest) L w :=
  wl_app T hx0 (hs.ow i hi) hx hr h1 hbytes hmax (Nat.zero_le _) hd fun A' c' w' ho hg hat => h A' c' w' (hs.updO i hi ho hg (at_new hat))
theorem ws_push {d1 d2 len : Nat} {ps : List (Nat × Operand)} {vs : List Value} {s : Operand} {ty1 ty2 : TypeId} {p1 p2 : String} {f1 f2 : Array Edge} {A : Option Addr} {n c : Nat} {xs : List Value} (hs : St M w0 w H) (i : Nat) (hx0 : look L s = some (.slice A n c)) (hi : nthC H i = some (.ow e A n c xs)) (T : Row1 P t e z bytes)
    (hp : PLooks L 0 ps vs) (hl : vs.length = len) (hle : len ≤ 16777216) (hs1 : look ((d1, .slice (some ⟨w.heap.size, 0, none⟩) len len) :: L) s = some (.slice A n c))
    (hbytes : (n + len) * bytes ≤ 140737488355328) (hmax : n + len ≤ maxLen) (hd1 : Nat.blt d1 N = true) (hd2 : Nat.blt d2 N = true)
    (h : ∀ p A' c' w', St M w0 w' (setC H i (.ow e A' (n + len) c' (xs ++ vs))) → WL P N ops Q rest ((d2, .slice A' (n + len) c') :: (d1, p) :: L) w') :
    WL P N ops Q (⟨some d1, .buildSlice t len ps.toArray, ty1, p1, f1, none⟩ :: ⟨some d2, .call { callee := .builtin .append, args := #[s, .tmp d1], argTypes := #[t, t] }, ty2, p2, f2, none⟩ :: rest) L w :=
  wl_push T hx0 (hs.ow i hi) hp hl hle hs1 hbytes hmax (Nat.zero_le _) hd1 hd2 fun p A' c' w' ho hg hat => h p A' c' w' (hs.updO i hi ho hg hat)
theorem ws_set {d1 : Nat} {x i y : Operand} {ty1 ty2 : TypeId} {p1 p2 : String} {f1 f2 : Array Edge} {A : Option Addr} {n c kk : Nat} {ik : IntKind} {q : Int} {u : Value} {xs : List Value} (hs : St M w0 w H) (j : Nat) (hx : look L x = some (.slice A n c)) (hj : nthC H j = some (.ow e A n c xs)) (T : Row1 P t e z bytes)
    (hi : look L i = some (.int ik q)) (hq : q = (kk : Int)) (hk : kk < n)
    (hy : ∀ p, look ((d1, p) :: L) y = some u) (h1 : u.oneCell' = true) (hd1 : Nat.blt d1 N = true)
    (h : ∀ p w', St M w0 w' (setC H j (.ow e A n c (xs.set kk u))) → WL P N ops Q rest ((d1, p) :: L) w') :
    WL P N ops Q (⟨some d1, .indexAddr t x i, ty1, p1, f1, none⟩ :: ⟨none, .store e (.tmp d1) y, ty2, p2, f2, none⟩ :: rest) L w :=
  wl_set T hx hi (hs.ow j hj) hq hk hy h1 hd1 fun p w' ho hg _ => h p w' (hs.updO j hj ho hg (.inl rfl))
/-! #### Rows of elements -/
/-- What is known by its cells alone. -/
def rawEl (cs : List Value) : El := ⟨fun _ _ cs' => cs' = cs, fun h _ _ => h⟩
theorem St.raw (hs : St M w0 w H) (cs : List Value) : St M w0 w (.ce (rawEl cs) cs :: H) := ⟨hs.1, NoB, fun _ h => h.elim, rfl, hs.2.mono fun _ _ h => ⟨h, id⟩⟩
theorem St.nilO (hs : St M w0 w H) (e : TypeId) : St M w0 w (.ow e none 0 0 [] :: H) := ⟨hs.1, NoB, fun _ h => h.elim, ⟨by simp, Ow.nil _ _ _⟩, hs.2.mono fun _ _ h => ⟨h, id⟩⟩
theorem St.nilG (hs : St M w0 w H) (k : Nat) (e : TypeId) : St M w0 w (.rg k e none 0 [] :: H) := ⟨hs.1, NoB, fun _ h => h.elim, ⟨by simp, OwR.nil _ _ _⟩, hs.2.mono fun _ _ h => ⟨h, id⟩⟩
/-- Pieces in front are told as one. -/
theorem St.pack {H1 : List Cd} (hs : St M w0 w (H1 ++ H)) (c : Cd) (h : ∀ w S, Sat w H1 S → c.P w S) : St M w0 w (c :: H) := by
  obtain ⟨T, hT, h1, h2⟩ := hs.2.append
  exact ⟨hs.1, T, hT, h _ _ h1, h2⟩
theorem Sat.split {c : Cd} {S : BS} (h : Sat w (c :: H) S) {H1 : List Cd} (hc : ∀ T, c.P w T → Sat w H1 T) : Sat w (H1 ++ H) S := by
  obtain ⟨T, hT, h1, h2⟩ := h
  exact Sat.join hT (hc _ h1) h2
/-- A piece in front is told as some. -/
theorem St.unpack {c : Cd} (hs : St M w0 w (c :: H)) {H1 : List Cd} (h : ∀ T, c.P w T → Sat w H1 T) : St M w0 w (H1 ++ H) := ⟨hs.1, hs.2.split h⟩
theorem St.unpackE {c : Cd} (hs : St M w0 w (c :: H)) {α : Type} {H1 : α → List Cd} (h : ∀ T, c.P w T → ∃ a, Sat w (H1 a) T) : ∃ a, St M w0 w (H1 a ++ H) := by
  obtain ⟨T, hT, hc, hr⟩ := hs.2
  obtain ⟨a, ha⟩ := h T hc
  exact ⟨a, hs.1, Sat.join hT ha hr⟩
theorem ws_bsG0 {d : Nat} {ty : TypeId} {pos : String} {aft : Array Edge} (hs : St M w0 w H) (hv : OpV P (.buildSlice t 0 #[]) ty L w (.slice (some ⟨w.heap.size, 0, none⟩) 0 0) (w.alloc (.cells #[] e))) (hd : Nat.blt d N = true)
    (h : ∀ A w', St M w0 w' (.rg k e A 0 [] :: H) → WL P N ops Q rest ((d, .slice A 0 0) :: L) w') :
    WL P N ops Q (⟨some d, .buildSlice t 0 #[], ty, pos, aft, none⟩ :: rest) L w := by
  have hb : Below w.heap.size w (w.alloc (.cells #[] e)) := (Below.refl _ _).alloc (Nat.le_refl _) _
  refine wl_val hv hd (h _ _ (hs.newG (S := NoB) (base := w.heap.size) hb (OwR.nilc ?_) (Nat.le_refl _) fun _ _ h => h.elim))
  have := World.ownsRow_lit (e := e) (size := k) (base := w.heap.size) w #[] 0 (Nat.le_refl _) (by simp) (by simp)
  simpa using this
theorem opv_bsG0 {ty : TypeId} (T : RowK P t e k z bytes) : OpV P (.buildSlice t 0 #[]) ty L w (.slice (some ⟨w.heap.size, 0, none⟩) 0 0) (w.alloc (.cells #[] e)) := fun ρ o hρ ho _ => by
  unfold execOp
  simp only [ho, Instr.buildSlice, Sem.run_bind, run_underlying T.sl, Result.andThen_ok, T.size]
  have h0 : Array.range 0 = #[] := Array.eq_empty_of_size_eq_zero (by simp)
  simp [newRow, Instr.fill, h0]
theorem RdR.raw {w : World} {S : BS} {A : Option Addr} {css : List (List Value)} (h : RdR k w S A (css.map rawEl)) : Rd w A (css.length * k) css.flatten ∧ ∀ cs ∈ css, cs.length = k := by
  obtain ⟨css', h1, h2, _⟩ := h
  have he : css' = css := by
    apply List.ext_getElem?
    intro i
    cases hi : css'[i]? with
    | none => rw [List.getElem?_eq_none]; have := h1.1; rw [List.length_map] at this; have := List.getElem?_eq_none_iff.1 hi; omega
    | some cs =>
      obtain ⟨_, E, hE, hp⟩ := h1.2 i cs hi
      rw [List.getElem?_map] at hE
      cases hc : css[i]? with
      | none => rw [hc] at hE; cases hE
      | some x => rw [hc] at hE; cases hE; have hp' : cs = x := hp; rw [hp']
  subst he
  rw [List.length_map] at h2
  exact ⟨h2, h1.ks⟩
theorem RdR.to_raw {w : World} {S : BS} {A : Option Addr} {els : List El} (h : RdR k w S A els) : ∃ css, Grp k w S els css ∧ RdR k w S A (css.map rawEl) := by
  obtain ⟨css, h1, h2, h3⟩ := h
  exact ⟨css, h1, css, ⟨by simp, fun i cs hcs => ⟨h1.ks cs (List.mem_of_getElem? hcs), rawEl cs, by simp [hcs], rfl⟩⟩, by rw [List.length_map, h1.1]; exact h2, by rw [List.length_map, h1.1]; exact h3⟩
theorem grp_raw {w : World} {S : BS} {css : List (List Value)} (hk : ∀ cs ∈ css, cs.length = k) : Grp k w S (css.map rawEl) css := ⟨by simp, fun i cs hcs => ⟨hk cs (List.mem_of_getElem? hcs), rawEl cs, by simp [hcs], rfl⟩⟩
theorem OwR.raw {w : World} {S : BS} {A : Option Addr} {css : List (List Value)} {base c : Nat} (h : OwR k e w base S A c (css.map rawEl)) : w.ownsRow base e k (.slice A css.length c) css.length css.flatten ∧ ∀ cs ∈ css, cs.length = k := by
  obtain ⟨css', h1, h2⟩ := h
  have he : css' = css := by
    apply List.ext_getElem?
    intro i
    cases hi : css'[i]? with
    | none => rw [List.getElem?_eq_none]; have := h1.1; rw [List.length_map] at this; have := List.getElem?_eq_none_iff.1 hi; omega
    | some cs =>
      obtain ⟨_, E, hE, hp⟩ := h1.2 i cs hi
      rw [List.getElem?_map] at hE
      cases hc : css[i]? with
      | none => rw [hc] at hE; cases hE
      | some x => rw [hc] at hE; cases hE; have hp' : cs = x := hp; rw [hp']
  subst he
  rw [List.length_map] at h2
  exact ⟨h2, h1.ks⟩
/-- What was handed on cell by cell is told as elements again. -/
theorem St.rawOut (hs : St NoB w0 w H) (i : Nat) {A : Option Addr} {c : Nat} {css : List (List Value)} {els : List El} {S : BS} (hi : nthC H i = some (.rg k e A c (css.map rawEl))) (hg : Grp k w0 S els css) : OwR k e w w0.heap.size S A c els := by
  obtain ⟨T, hc, hT⟩ := hs.get i hi
  have hA : ∀ a, A = some a → w0.heap.size ≤ a.block := fun a ha => (hT _ (hc.1 a ha)).elim (fun h => h.elim) id
  obtain ⟨ho, hk⟩ := OwR.raw hc.2
  have hl : css.length = els.length := hg.1
  refine ⟨css, hg.move hs.1.size fun b hb h => ⟨⟨h, fun a ha => by have := hA a ha; omega⟩, hs.1.block b hb id⟩, by rw [← hl]; exact ho.1, ?_⟩
  rcases ho.2 with ⟨hv, hn⟩ | ⟨g, cap, cur, hv, _, rest⟩
  · exact .inl ⟨by rw [← hl]; exact hv, by rw [← hl]; exact hn⟩
  · injection hv with hv1 hv2 hv3
    subst hv1 hv3
    exact .inr ⟨g, c, cur, rfl, hA _ rfl, by rw [← hl]; exact rest⟩
/-- append(s, x...): elements that are known by their cells alone. -/
theorem ws_appR {d : Nat} {s x : Operand} {ty : TypeId} {pos : String} {aft : Array Edge} {A : Option Addr} {n c : Nat} {els : List El} {B : Option Addr} {m c' : Nat} {css : List (List Value)} {S' : BS} (hs : St M w0 w H) (i : Nat) (hx0 : look L s = some (.slice A n c)) (hi : nthC H i = some (.rg k e A c els)) (T : RowK P t e k z bytes)
    (hn : els.length = n) (hx : look L x = some (.slice B m c')) (hr : RdR k w S' B (css.map rawEl)) (hm : css.length = m) (h1 : ∀ u ∈ css.flatten, u.oneCell' = true)
    (hbytes : (n + m) * bytes ≤ 140737488355328) (hmax : n + m ≤ maxLen) (hd : Nat.blt d N = true)
    (h : ∀ A' c' w', St M w0 w' (setC H i (.rg k e A' c' (els ++ css.map rawEl))) → WL P N ops Q rest ((d, .slice A' (n + m) c') :: L) w') :
    WL P N ops Q (⟨some d, .call { callee := .builtin .append, args := #[s, x], argTypes := #[t, t] }, ty, pos, aft, none⟩ :: rest) L w := fun a ha => by
  subst hn hm
  obtain ⟨S, hc, hS, hK⟩ := hs.upd i hi
  obtain ⟨css0, hg, ho⟩ := hc.2
  obtain ⟨hr, hk⟩ := RdR.raw hr
  refine wpList_appG T rfl s x rfl (ha.eval hx0) ho (ha.eval hx) hr h1 hbytes hmax (Nat.zero_le _) fun A' c' w' ho' hgr hat => ?_
  refine h A' c' w' (hK w' (.rg k e A' c' (els ++ css.map rawEl)) (fun b => S b ∨ w.heap.size ≤ b) (Mod.of_gr hgr hc.1) ⟨fun a ha => at_in (at_new hat) hc.1 a ha, css0 ++ css, ?_, ?_⟩ fun _ _ h => h) _ (ha.put hd _)
  · have hg' : Grp k w (fun b => S b ∧ But A b) (css.map rawEl) css := grp_raw hk
    refine (hg.append hg').move hgr.size fun b hlt hb => ⟨⟨.inl hb.1, fun a' ha' => ?_⟩, hgr.block b hlt ?_⟩
    · subst ha'
      rcases hat with e | e
      · cases A with
        | none => simp at e
        | some a0 => simp only [Option.map_some, Option.some.injEq] at e; rw [e]; exact hb.2 a0 rfl
      · simp only [Option.map_some, Option.some.injEq] at e; omega
    · intro hk
      cases A with
      | none => simp at hk
      | some a0 => simp only [Option.map_some, Option.some.injEq] at hk; exact hb.2 a0 rfl hk
  · have : (els ++ css.map rawEl).length = els.length + css.length := by simp
    rw [this, List.flatten_append]; exact ho'
/-- append(s, x): an element that is known by its cells alone. -/
theorem ws_pushR {d1 d2 : Nat} {x : Operand} {s : Operand} {ty1 ty2 : TypeId} {p1 p2 : String} {f1 f2 : Array Edge} {A : Option Addr} {n c : Nat} {els : List El} (hs : St M w0 w H) (i : Nat) (hs1 : ∀ p, look ((d1, p) :: L) s = some (.slice A n c)) (hi : nthC H i = some (.rg k e A c els)) (T : RowK P t e k z bytes)
    (hn : els.length = n) (hx : ∃ v, look L x = some v ∧ v.cells = cs.toArray) (hl : cs.length = k) (h1 : cs.all (·.oneCell') = true) (hk : k ≤ 16777216)
    (hbytes : (n + 1) * bytes ≤ 140737488355328) (hmax : n + 1 ≤ maxLen) (hd1 : Nat.blt d1 N = true) (hd2 : Nat.blt d2 N = true)
    (h : ∀ p A' c' w', St M w0 w' (setC H i (.rg k e A' c' (els ++ [rawEl cs]))) → WL P N ops Q rest ((d2, .slice A' (n + 1) c') :: (d1, p) :: L) w') :
    WL P N ops Q (⟨some d1, .buildSlice t 1 #[(0, x)], ty1, p1, f1, none⟩ :: ⟨some d2, .call { callee := .builtin .append, args := #[s, .tmp d1], argTypes := #[t, t] }, ty2, p2, f2, none⟩ :: rest) L w := by
  obtain ⟨S, hc, hS, hK⟩ := hs.upd i hi
  refine wl_pushG (css' := [cs]) (els' := [rawEl cs]) (ps := [(0, x)]) T hs1 hc.2 hn ⟨rfl, hx, hl, trivial⟩ (grp_raw (css := [cs]) (by simpa using hl)) rfl (by simpa using h1) (by simpa using hk) (by decide) hbytes hmax (Nat.zero_le _) hd1 hd2 fun p A' c' w' hO hG hat => h p A' c' w' ?_
  exact hK w' (.rg k e A' c' (els ++ [rawEl cs])) (fun b => S b ∨ w.heap.size ≤ b) (Mod.of_gr hG hc.1) ⟨fun a ha => at_in hat hc.1 a ha, hO.mono (Nat.le_refl _) fun b _ h => .inl h⟩ fun _ _ h => h
/-- A beginning of a row. -/
theorem OwR.pre {w : World} {S : BS} {A : Option Addr} {base c m : Nat} {els : List El} (h : OwR k e w base S A c els) (hm : m ≤ els.length) : OwR k e w base S A c (els.take m) := by
  obtain ⟨css, hg, ho⟩ := h
  have hl : (els.take m).length = m := by simp; omega
  refine ⟨css.take m, hg.take m, ?_⟩
  rw [hl]
  refine ⟨by have := (hg.take m).len; rw [hl] at this; exact this, ?_⟩
  rcases ho.2 with ⟨hv, hn⟩ | ⟨g, cap, cur, hv, hg', h1, h2, h3, h4, h5⟩
  · injection hv with hA _ hc
    have : m = 0 := by omega
    subst this
    exact .inl ⟨by rw [hA, hc], rfl⟩
  · injection hv with hA _ hc
    subst hA hc
    refine .inr ⟨g, c, cur, rfl, hg', h1, by omega, h3, h4, ?_⟩
    rw [← flat_take m hg.ks, ← h5, List.take_take, Nat.min_eq_left (Nat.mul_le_mul_right _ hm)]
theorem St.pre {A : Option Addr} {c m : Nat} {els : List El} (hs : St M w0 w (.rg k e A c els :: H)) (hm : m ≤ els.length) : St M w0 w (.rg k e A c (els.take m) :: H) := by
  obtain ⟨T, hT, hc, hr⟩ := hs.2
  exact ⟨hs.1, T, hT, ⟨hc.1, hc.2.pre hm⟩, hr⟩
end
end Go.Proofs.YtdgagffieobiiaaGreatDoor

/-
  Walks over Insert, Sorted, few of lists of entries.
-/
namespace Go.Proofs.YtdgagffieobiiaaGreatDoor
open Go.RowKit

theorem enE_one {w : World} {S : Nat → Prop} {l : List En} {css : List (List Value)} (h : Grp 4 w S (l.map enEl) css) : ∀ u ∈ css.flatten, u.oneCell' = true := by
  intro u hu
  obtain ⟨cs, hcs, hu⟩ := List.mem_flatten.1 hu
  obtain ⟨i, hi, rfl⟩ := List.getElem_of_mem hcs
  obtain ⟨_, E, hE, hp⟩ := h.2 i _ (List.getElem?_eq_getElem hi)
  rw [List.getElem?_map] at hE
  cases hx : l[i]? with
  | none => rw [hx] at hE; cases hE
  | some x =>
    rw [hx] at hE; cases hE
    obtain ⟨A, c, B, d, h0, _⟩ := hp
    rw [h0] at hu
    simp [enV] at hu
    rcases hu with rfl | rfl | rfl | rfl <;> rfl
/-- Where an entry belongs, sought from the end on. -/
def posE (l : List En) (e : En) : Nat → Nat
  | 0 => 0
  | k + 1 => match l[k]? with
    | some x => if lessE e x then posE l e k else k + 1
    | none => k + 1
theorem posE_le (l : List En) (e : En) : ∀ k, posE l e k ≤ k
  | 0 => Nat.le_refl _
  | k + 1 => by
    rw [posE]
    have := posE_le l e k
    split
    · split <;> omega
    · omega
def insE (l : List En) (e : En) : List En := l.take (posE l e l.length) ++ [e] ++ l.drop (posE l e l.length)
theorem insE_length (l : List En) (e : En) : (insE l e).length = l.length + 1 := by
  have := posE_le l e l.length
  rw [insE]; simp; omega
theorem raw_cut {w : World} {S : BS} {A : Option Addr} {css : List (List Value)} {k c l h n : Nat} (hr : RdR k w S A (css.map rawEl)) (hn : css.length = n) (h1 : l ≤ h) (h2 : h ≤ n) (hc : n ≤ c) : RdR k w S (cutK A c l k) (((css.take h).drop l).map rawEl) := by
  have := RdR.cut hr (by simpa using hn) h1 h2 hc
  rwa [← List.map_take, ← List.map_drop] at this
theorem mem_flat_cut {css : List (List Value)} {l h : Nat} {p : Value → Prop} (hp : ∀ u ∈ css.flatten, p u) : ∀ u ∈ ((css.take h).drop l).flatten, p u := fun u hu => by
  obtain ⟨cs, hcs, hu⟩ := List.mem_flatten.1 hu
  exact hp u (List.mem_flatten.2 ⟨cs, List.mem_of_mem_take (List.mem_of_mem_drop hcs), hu⟩)
theorem slice_eq {A : Option Addr} {n m c : Nat} (h : n = m) : Value.slice A n c = Value.slice A m c := by rw [h]
set_option maxRecDepth 4000 in
theorem insertG_any {S : BS} {A B D : Option Addr} {n c b d : Nat} {l : List En} {e : En} {w : World} {css : List (List Value)} (hr : RdR 4 w All A (l.map enEl)) (hg : Grp 4 w S (l.map enEl) css) (hraw : RdR 4 w All A (css.map rawEl)) (hn : l.length = n) (hc : n ≤ c) (he : (enEl e).P w S (enV e B b D d)) (hok : ∀ x ∈ l, x.key.length ≤ maxLen) (hoe : e.key.length ≤ maxLen) (hl : l.length ≤ 4294967296) :
    CallsV Tryz.prog 28 #[.slice A n c, .agg (enV e B b D d).toArray] w fun v w' => ∃ P cp, v = .slice P (insE l e).length cp ∧ OwR 4 31 w' w.heap.size S P cp ((insE l e).map enEl) ∧ Below w.heap.size w w' := by
  subst hn
  have hmax : maxLen = 9223372036854775807 := rfl
  have hs := St.init w
  obtain ⟨_, _, _, _, hev, re, _, _, _⟩ := enEl.rd he
  simp only [enV, List.cons.injEq, Value.slice.injEq, true_and, and_true] at hev
  obtain ⟨⟨rfl, rfl⟩, rfl, rfl⟩ := hev
  have hcl : css.length = l.length := by rw [hg.1]; simp
  have hone := enE_one hg
  refine calls_in (N := _) Tryz.func28 rfl Tryz.ntmps28 rfl ?_; show WC _ _ _ _ _ _
  refine wc_sr ?_
  refine ws_box (cs := enV e B b D d) hs rfl rfl ?_; clear hs; intro g2 _ hs
  refine wl_as rfl rfl ?_; refine wl_ns ?_; refine wc_sr ?_; refine wl_mv rfl rfl ?_; apply wl_val; apply opv_len; exact rfl; exact tkE.sl; exact rfl; refine wl_as rfl rfl ?_; refine wl_ns ?_; refine wc_seq ?_; refine wc_block ?_
  refine wc_loop (fun L wr m => ∃ k : Nat, L = [(0, .slice A l.length c), (3, .pointer (some ⟨g2, 0, none⟩)), (5, .int .i64 (k : Int))] ∧ k ≤ l.length ∧ posE l e k = posE l e l.length ∧ St NoB w wr [.blk g2 31 (enV e B b D d)] ∧ k = m)
    [(0, .slice A l.length c), (3, .pointer (some ⟨g2, 0, none⟩)), (5, .int .i64 (l.length : Int))] l.length ⟨l.length, rfl, by omega, rfl, hs, rfl⟩ ⟨rfl, rfl, rfl, trivial⟩ ?_
  clear hs
  rintro _ w1 m ⟨k, rfl, hk, hpos, hs, rfl⟩
  have hstop : (posE l e l.length = k ∧ ((k = 0 ∧ True) ∨ ∃ j x, k = j + 1 ∧ l[j]? = some x ∧ lessE e x = false)) ∨ ∃ j x, k = j + 1 ∧ l[j]? = some x ∧ lessE e x = true ∧ posE l e j = posE l e l.length := by
    rw [← hpos]
    cases k with
    | zero => exact .inl ⟨rfl, .inl ⟨rfl, trivial⟩⟩
    | succ j =>
      have hx : l[j]? = some (l[j]'(by omega)) := List.getElem?_eq_getElem (by omega)
      cases h : lessE e (l[j]'(by omega)) with
      | false => exact .inl ⟨by rw [posE, hx]; simp [h], .inr ⟨j, _, rfl, hx, h⟩⟩
      | true => exact .inr ⟨j, _, rfl, hx, h, by rw [posE, hx]; simp [h]⟩
  refine wc_seq ?_; refine wc_seq ?_
  refine wc_cutE (fun L' w' => ∃ q : Bool, L' = [(0, .slice A l.length c), (3, .pointer (some ⟨g2, 0, none⟩)), (5, .int .i64 (k : Int)), (19, .bool q)] ∧ St NoB w w' [.blk g2 31 (enV e B b D d)] ∧ (if q then ∃ j x, k = j + 1 ∧ l[j]? = some x ∧ posE l e j = posE l e l.length else posE l e l.length = k)) ?_ ?_
  · rcases hstop with ⟨hpk, ⟨rfl, _⟩ | ⟨j, x, rfl, hx, hless⟩⟩ | ⟨j, x, rfl, hx, hless, hpj⟩
    · refine wc_drawB mixed (by kernel_rfl) ?_
      apply wq_val; intro _ hw_; apply opv_move; exact rfl; exact rfl; apply wq_val; intro _ hw_; apply opv_bin; exact rfl; exact rfl; exact bin_gtr; exact rfl; apply wq_val; intro _ hw_; apply opv_move; exact rfl; exact rfl; apply wq_skip; exact rfl; exact rfl; exact rfl; refine bFn ?_; omega; exact rfl; apply wq_skip; exact rfl; exact rfl; exact rfl; refine bFn ?_; omega; exact rfl; apply wq_skip; exact rfl; exact rfl; exact rfl; refine bFn ?_; omega; exact rfl; apply wq_skip; exact rfl; exact rfl; exact rfl; refine bFn ?_; omega; exact rfl; apply wq_skip; exact rfl; exact rfl; exact rfl; refine bFn ?_; omega; exact rfl; apply wq_skip; exact rfl; exact rfl; exact rfl; refine bFn ?_; omega; exact rfl; apply wq_skip; exact rfl; exact rfl; exact rfl; refine bFn ?_; omega; exact rfl; apply wq_val; intro _ hw_; apply opv_pickF; exact rfl; refine bF ?_; omega; exact rfl; exact rfl; refine wq_nil fun w1 hw1 => ?_
      exact we_cut _ ⟨false, rfl, hs.below hw1, hpk⟩ ⟨rfl, rfl, rfl, rfl, trivial⟩
    · obtain ⟨b1, o1, cs, rfl, _, _, hp, i1⟩ := RdR.at (k := 4) (by decide) hr (E := enEl x) (i := j) (by rw [List.getElem?_map, hx]; rfl)
      obtain ⟨X, cx, Y, cy, rfl, rx, _, _, _⟩ := enEl.rd (El.all hp)
      replace i1 := i1.below hs.bel
      have hj : (0 : Int) < ((j + 1 : Nat) : Int) := by omega
      refine wc_drawB mixed (by kernel_rfl) ?_
      apply wq_val; intro _ hw_; apply opv_move; exact rfl; exact rfl; apply wq_val; intro _ hw_; apply opv_bin; exact rfl; exact rfl; exact bin_gtr; exact rfl; apply wq_val; intro _ hw_; apply opv_move; exact rfl; exact rfl; apply wq_take; exact rfl; exact rfl; exact rfl; refine bT ?_; (with_reducible assumption); apply wq_val; intro _ hw_; apply opv_loadX; exact rfl; exact Ar.bel (hs.ar 0 rfl) hw_; exact sE; exact rfl; apply wq_take; exact rfl; exact rfl; exact rfl; refine bT ?_; (with_reducible assumption); apply wq_val; intro _ hw_; apply opv_move; exact rfl; exact rfl; apply wq_take; exact rfl; exact rfl; exact rfl; refine bT ?_; (with_reducible assumption); apply wq_val; intro _ hw_; apply opv_move; exact rfl; exact rfl; apply wq_take; exact rfl; exact rfl; exact rfl; refine bT ?_; (with_reducible assumption); apply wq_val; intro _ hw_; apply opv_bin; exact rfl; exact rfl; exact bin_sub64 (by omega); exact rfl; apply wq_take; exact rfl; exact rfl; exact rfl; refine bT ?_; (with_reducible assumption); apply wq_val; intro _ hw_; apply opv_idxG tkE; exact rfl; exact rfl; exact natc_pred; omega; exact rfl; apply wq_take; exact rfl; exact rfl; exact rfl; refine bT ?_; (with_reducible assumption); apply wq_val; intro _ hw_; apply opv_ldG; exact rfl; exact Wi.below (by assumption) hw_; exact sE; exact rfl; apply wq_take; exact rfl; exact rfl; exact rfl; refine bT ?_; (with_reducible assumption)
      refine wq_call (v := .bool false) ok_caissonref07_Less (fun w' hw => (refLess_any ((re.below hs.bel).below hw) ((rx.below hs.bel).below hw) hoe (hok x (List.mem_of_getElem? hx))).mono (fun v w2 h2 => ⟨by rw [h2.1, hless], hw.trans (h2.2.mono hw.size)⟩)) ⟨rfl, rfl, trivial⟩ rfl ?_
      apply wq_val; intro _ hw_; apply opv_pickT; exact rfl; refine bT ?_; (with_reducible assumption); exact rfl; exact rfl; refine wq_nil fun w1 hw1 => ?_
      exact we_cut _ ⟨false, rfl, hs.below hw1, hpk⟩ ⟨rfl, rfl, rfl, rfl, trivial⟩
    · obtain ⟨b1, o1, cs, rfl, _, _, hp, i1⟩ := RdR.at (k := 4) (by decide) hr (E := enEl x) (i := j) (by rw [List.getElem?_map, hx]; rfl)
      obtain ⟨X, cx, Y, cy, rfl, rx, _, _, _⟩ := enEl.rd (El.all hp)
      replace i1 := i1.below hs.bel
      have hj : (0 : Int) < ((j + 1 : Nat) : Int) := by omega
      refine wc_drawB mixed (by kernel_rfl) ?_
      apply wq_val; intro _ hw_; apply opv_move; exact rfl; exact rfl; apply wq_val; intro _ hw_; apply opv_bin; exact rfl; exact rfl; exact bin_gtr; exact rfl; apply wq_val; intro _ hw_; apply opv_move; exact rfl; exact rfl; apply wq_take; exact rfl; exact rfl; exact rfl; refine bT ?_; (with_reducible assumption); apply wq_val; intro _ hw_; apply opv_loadX; exact rfl; exact Ar.bel (hs.ar 0 rfl) hw_; exact sE; exact rfl; apply wq_take; exact rfl; exact rfl; exact rfl; refine bT ?_; (with_reducible assumption); apply wq_val; intro _ hw_; apply opv_move; exact rfl; exact rfl; apply wq_take; exact rfl; exact rfl; exact rfl; refine bT ?_; (with_reducible assumption); apply wq_val; intro _ hw_; apply opv_move; exact rfl; exact rfl; apply wq_take; exact rfl; exact rfl; exact rfl; refine bT ?_; (with_reducible assumption); apply wq_val; intro _ hw_; apply opv_bin; exact rfl; exact rfl; exact bin_sub64 (by omega); exact rfl; apply wq_take; exact rfl; exact rfl; exact rfl; refine bT ?_; (with_reducible assumption); apply wq_val; intro _ hw_; apply opv_idxG tkE; exact rfl; exact rfl; exact natc_pred; omega; exact rfl; apply wq_take; exact rfl; exact rfl; exact rfl; refine bT ?_; (with_reducible assumption); apply wq_val; intro _ hw_; apply opv_ldG; exact rfl; exact Wi.below (by assumption) hw_; exact sE; exact rfl; apply wq_take; exact rfl; exact rfl; exact rfl; refine bT ?_; (with_reducible assumption)
      refine wq_call (v := .bool true) ok_caissonref07_Less (fun w' hw => (refLess_any ((re.below hs.bel).below hw) ((rx.below hs.bel).below hw) hoe (hok x (List.mem_of_getElem? hx))).mono (fun v w2 h2 => ⟨by rw [h2.1, hless], hw.trans (h2.2.mono hw.size)⟩)) ⟨rfl, rfl, trivial⟩ rfl ?_
      apply wq_val; intro _ hw_; apply opv_pickT; exact rfl; refine bT ?_; (with_reducible assumption); exact rfl; exact rfl; refine wq_nil fun w1 hw1 => ?_
      exact we_cut _ ⟨true, rfl, hs.below hw1, j, x, rfl, hx, hpj⟩ ⟨rfl, rfl, rfl, rfl, trivial⟩
  clear hs hstop hpos
  rintro _ w2 ⟨q, rfl, hs, hq⟩
  cases q with
  | true =>
    obtain ⟨j, x, rfl, hx, hpj⟩ := hq
    refine we_seq ?_; apply wc_condTb; exact rfl; exact rfl; refine wc_skip ?_; refine we_seq ?_; refine wc_block ?_; refine wc_region ?_; refine wl_mv rfl rfl ?_; apply wl_val; apply opv_bin; exact rfl; exact rfl; exact bin_sub64 (by omega); exact rfl; refine wl_as rfl rfl ?_; refine wl_nil ?_; refine we_block_norm ?_
    refine we_loop _ j ⟨j, rfl, by omega, hpj, hs, rfl⟩ (by omega) ⟨rfl, rfl, by simp [lookT] <;> omega, trivial⟩
  | false =>
    have hpk : posE l e l.length = k := hq
    have hins : insE l e = l.take k ++ [e] ++ l.drop k := by rw [insE, hpk]
    have hlen : (insE l e).length = l.length + 1 := insE_length l e
    refine we_seq ?_; apply wc_condFb; exact rfl; exact rfl; refine wc_exit ?_; refine we_seq_exit ?_; refine we_loop_exit ?_; refine we_block_exit ?_; refine we_seq ?_; refine wc_sr ?_
    refine ws_bsG0 (k := 4) (e := 31) hs (opv_bsG0 tkE) rfl ?_
    clear hs; intro R w3 hs
    refine wl_mv rfl rfl ?_; refine wl_mv rfl rfl ?_
    refine wl_slK (l := 0) (h := k) tkE rfl rfl ⟨_, rfl⟩ (by omega) (by omega) rfl ?_
    refine ws_appR hs 0 rfl rfl tkE rfl rfl (raw_cut (hraw.below hs.bel) hcl (Nat.zero_le k) hk hc) (by simp; omega) (mem_flat_cut hone) (by omega) (by simp only [maxLen]; omega) rfl ?_
    clear hs; intro R2 c2 w4 hs; dsimp only [setC] at hs
    refine wl_as rfl rfl ?_; refine wl_ns ?_; refine wc_sr ?_; refine wl_mv rfl rfl ?_; apply wl_val; apply opv_loadX; exact rfl; exact hs.ar 1 rfl; exact sE; exact rfl
    refine ws_pushR (cs := enV e B b D d) hs 0 (fun _ => rfl) rfl tkE (by simp; omega) ⟨_, rfl, rfl⟩ rfl rfl (by decide) (by omega) (by simp only [maxLen]; omega) rfl rfl ?_
    clear hs; intro _ R3 c3 w5 hs; dsimp only [setC] at hs
    refine wl_as rfl rfl ?_; refine wl_ns ?_; refine wc_sr ?_; refine wl_mv rfl rfl ?_; refine wl_mv rfl rfl ?_; refine wl_mv rfl rfl ?_
    refine wl_slK (l := k) (h := l.length) tkE rfl ⟨_, rfl⟩ rfl (by omega) hc rfl ?_
    refine ws_appR hs 0 rfl rfl tkE (by simp; omega) rfl (raw_cut (hraw.below hs.bel) hcl hk (Nat.le_refl _) hc) (by simp; omega) (mem_flat_cut hone) (by omega) (by simp only [maxLen]; omega) rfl ?_
    clear hs; intro R4 c4 w6 hs; dsimp only [setC] at hs
    refine wl_as rfl rfl ?_; refine wl_ns ?_; refine wc_ret ?_
    refine we_ret1 rfl rfl ⟨_, rfl, R4, c4, slice_eq (by rw [hlen]; omega), ?_, hs.bel⟩
    rw [hins]
    refine St.rawOut (css := css.take k ++ [enV e B b D d] ++ css.drop k) hs 0 ?_ ?_
    · show some _ = some _
      congr 2
      simp [← hcl]
    · have := ((hg.take k).append (Grp.one he rfl)).append (hg.drop k)
      simpa using this
theorem insert_any {S : BS} {A B D : Option Addr} {n c b d : Nat} {l : List En} {e : En} {w : World} (hr : RdR 4 w S A (l.map enEl)) (hn : l.length = n) (hc : n ≤ c) (he : (enEl e).P w S (enV e B b D d)) (hok : ∀ x ∈ l, x.key.length ≤ maxLen) (hoe : e.key.length ≤ maxLen) (hl : l.length ≤ 4294967296) :
    CallsV Tryz.prog 28 #[.slice A n c, .agg (enV e B b D d).toArray] w fun v w' => ∃ P cp, v = .slice P (insE l e).length cp ∧ OwR 4 31 w' w.heap.size S P cp ((insE l e).map enEl) ∧ Below w.heap.size w w' := by
  obtain ⟨css, hg, hraw⟩ := RdR.to_raw hr
  exact insertG_any hr.all hg hraw.all hn hc he hok hoe hl
end Go.Proofs.YtdgagffieobiiaaGreatDoor

/-
  The engine's rules for a region whose order Go leaves open and which stores at its end: up to the first store (number m, for which all others wait) operations that yield one value in every world of a class are taken first; from there on the class no longer counts. Nothing here names the program.
-/
namespace Go.Proofs.YtdgagffieobiiaaGreatDoor
open Go.RowKit

def AnyM (P : Program) (ops : Array Oper) (Q : Exit → Act → World → Prop) (S : World → Prop) (m : Nat) : Nat → Array Bool → Act → World → Prop
  | 0, listed, a, w => Region.ready .any ops listed = [] ∧ Q .normal a w
  | fuel + 1, listed, a, w =>
    (Region.ready .any ops listed = [] → Q .normal a w) ∧
    ∀ i ∈ Region.ready .any ops listed, wpOp P ops Q i (fun a' w' => ((listed.setIfInBounds i true).getD m false = false → S w') ∧ AnyM P ops Q S m fuel (listed.setIfInBounds i true) a' w') a w
section
variable {P : Program} {ops : Array Oper} {Q : Exit → Act → World → Prop} {S : World → Prop} {m : Nat}
theorem any_of_M : ∀ (fuel : Nat) (listed : Array Bool) (a : Act) (w : World), AnyM P ops Q S m fuel listed a w → wpAny P .any ops Q fuel listed a w
  | 0, _, _, _, h => h
  | fuel + 1, _, _, _, h => ⟨h.1, fun i hi => wpOp_mono (fun a' w' h' => any_of_M fuel _ a' w' h'.2) (h.2 i hi)⟩
theorem anyM_first {i : Nat} {oi om : Oper} {v : Value} (hi : ops[i]? = some oi) (hsel : ∀ (j : Nat) (o : Oper) cs b, ops[j]? = some o → o.op ≠ .select cs b)
    (hQ : ∀ c a w, Q (.panic c) (a.put oi.dst v) w → Q (.panic c) a w) (hm : ops[m]? = some om) (hmi : m ≠ i) (hwait : ∃ e ∈ om.after, Region.binds .any e = true ∧ e.on = i) :
    ∀ (fuel : Nat) (listed : Array Bool) (a : Act) (w : World),
      (∀ j oj, ops[j]? = some oj → j ≠ i → listed.getD j true = false → (∀ e ∈ oj.after, Region.binds .any e = true → e.on ≠ i) → oi.apart ops oj = true) →
      i ∈ Region.ready .any ops listed → YieldsIf P ops S oi v a → S w → listed.getD m false = false →
      AnyM P ops Q S m fuel (listed.setIfInBounds i true) (a.put oi.dst v) w → AnyM P ops Q S m (fuel + 1) listed a w := by
  have hset : ∀ (l : Array Bool) (j : Nat), m ≠ j → (l.setIfInBounds j true).getD m false = l.getD m false := fun l j h => getD_set_ne false (Ne.symm h)
  intro fuel
  induction fuel with
  | zero =>
    intro listed a w _ hr hy hS hlm H
    refine ⟨fun h => (by rw [h] at hr; cases hr), fun j hj => ?_⟩
    by_cases hji : j = i
    · subst hji; exact hy.wpOp hi hS ⟨fun _ => hS, H⟩
    · have := ready_mono hj hji
      rw [H.1] at this
      cases this
  | succ fuel ih =>
    intro listed a w hfree hr hy hS hlm H
    refine ⟨fun h => (by rw [h] at hr; cases hr), fun j hj => ?_⟩
    by_cases hji : j = i
    · subst hji; exact hy.wpOp hi hS ⟨fun _ => hS, H⟩
    · have h1 := H.2 j (ready_mono hj hji)
      obtain ⟨hjun, oj, hoj, hall⟩ := mem_ready.1 hj
      have hnot : ∀ e ∈ oj.after, Region.binds .any e = true → e.on ≠ i := fun e he hb heq => by
        have h1 := hall e he hb
        have h0 := (mem_ready.1 hr).1
        rw [heq] at h1
        rcases Nat.lt_or_ge i listed.size with h' | h'
        · simp [h'] at h0 h1; rw [h0] at h1; cases h1
        · simp [Array.getElem?_eq_none h'] at h1
      have hjm : m ≠ j := by
        rintro rfl
        rw [hm] at hoj; cases hoj
        obtain ⟨e, he, hb, hon⟩ := hwait
        exact hnot e he hb hon
      have h2 := wpOp_putIf hoj (hfree j oj hoj hji hjun hnot) (fun cs b => hsel i oi cs b hi) (fun cs b => hsel j oj cs b hoj) hQ hy h1
      have hfree' : ∀ k ok, ops[k]? = some ok → k ≠ i → (listed.setIfInBounds j true).getD k true = false →
          (∀ e ∈ ok.after, Region.binds .any e = true → e.on ≠ i) → oi.apart ops ok = true := fun k ok hk hki hun hno => by
        refine hfree k ok hk hki ?_ hno
        by_cases hjk : j = k
        · subst hjk; exact hjun
        · rw [getD_set_ne true hjk] at hun; exact hun
      have hl2 : (listed.setIfInBounds j true).getD m false = false := by rw [hset _ _ hjm]; exact hlm
      refine wpOp_mono (fun a' w' h3 => ?_) h2
      have hSw : S w' := h3.2.1 (by rw [hset _ _ hjm, hset _ _ hmi]; exact hlm)
      refine ⟨fun _ => hSw, ih (listed.setIfInBounds j true) a' w' hfree' (ready_mono hr (Ne.symm hji)) h3.1 hSw hl2 ?_⟩
      rw [Array.setIfInBounds_comm _ _ hji]
      exact h3.2.2
theorem anyM_firstP {i : Nat} {oi : Oper} {v : Value} (hi : ops[i]? = some oi) (hsel : ∀ (j : Nat) (o : Oper) cs b, ops[j]? = some o → o.op ≠ .select cs b)
    (hQ : ∀ c a w, Q (.panic c) (a.put oi.dst v) w → Q (.panic c) a w) (hmi : m ≠ i) :
    ∀ (fuel : Nat) (listed : Array Bool) (a : Act) (w : World),
      (∀ j oj, ops[j]? = some oj → j ≠ i → listed.getD j true = false → (∀ e ∈ oj.after, Region.binds .any e = true → e.on ≠ i) → oi.apart ops oj = true) →
      i ∈ Region.ready .any ops listed → YieldsIf P ops (fun _ => True) oi v a → (listed.getD m false = false → S w) →
      AnyM P ops Q S m fuel (listed.setIfInBounds i true) (a.put oi.dst v) w → AnyM P ops Q S m (fuel + 1) listed a w := by
  have hset : ∀ (l : Array Bool) (j : Nat), m ≠ j → (l.setIfInBounds j true).getD m false = l.getD m false := fun l j h => getD_set_ne false (Ne.symm h)
  intro fuel
  induction fuel with
  | zero =>
    intro listed a w _ hr hy hS H
    refine ⟨fun h => (by rw [h] at hr; cases hr), fun j hj => ?_⟩
    by_cases hji : j = i
    · subst hji; exact hy.wpOp hi trivial ⟨fun h => hS (by rw [← hset _ _ hmi]; exact h), H⟩
    · have := ready_mono hj hji
      rw [H.1] at this
      cases this
  | succ fuel ih =>
    intro listed a w hfree hr hy hS H
    refine ⟨fun h => (by rw [h] at hr; cases hr), fun j hj => ?_⟩
    by_cases hji : j = i
    · subst hji; exact hy.wpOp hi trivial ⟨fun h => hS (by rw [← hset _ _ hmi]; exact h), H⟩
    · have h1 := H.2 j (ready_mono hj hji)
      obtain ⟨hjun, oj, hoj, hall⟩ := mem_ready.1 hj
      have hnot : ∀ e ∈ oj.after, Region.binds .any e = true → e.on ≠ i := fun e he hb heq => by
        have h1 := hall e he hb
        have h0 := (mem_ready.1 hr).1
        rw [heq] at h1
        rcases Nat.lt_or_ge i listed.size with h' | h'
        · simp [h'] at h0 h1; rw [h0] at h1; cases h1
        · simp [Array.getElem?_eq_none h'] at h1
      have h2 := wpOp_putIf hoj (hfree j oj hoj hji hjun hnot) (fun cs b => hsel i oi cs b hi) (fun cs b => hsel j oj cs b hoj) hQ hy h1
      have hfree' : ∀ k ok, ops[k]? = some ok → k ≠ i → (listed.setIfInBounds j true).getD k true = false →
          (∀ e ∈ ok.after, Region.binds .any e = true → e.on ≠ i) → oi.apart ops ok = true := fun k ok hk hki hun hno => by
        refine hfree k ok hk hki ?_ hno
        by_cases hjk : j = k
        · subst hjk; exact hjun
        · rw [getD_set_ne true hjk] at hun; exact hun
      refine wpOp_mono (fun a' w' h3 => ?_) h2
      have hSw : (listed.setIfInBounds j true).getD m false = false → S w' := fun h => h3.2.1 (by rw [Array.setIfInBounds_comm _ _ (Ne.symm hji), hset _ _ hmi]; exact h)
      refine ⟨hSw, ih (listed.setIfInBounds j true) a' w' hfree' (ready_mono hr (Ne.symm hji)) h3.1 hSw ?_⟩
      rw [Array.setIfInBounds_comm _ _ hji]
      exact h3.2.2
end

def waits (ops : Array Oper) (m i : Nat) : Bool := match ops[m]? with
  | some o => o.after.toList.any fun e => Region.binds .any e && Nat.beq e.on i
  | none => false
def okM (ops : Array Oper) (listed : Array Bool) (m i : Nat) : Bool := okAt ops listed i && (waits ops m i && (!Nat.beq m i && !listed.getD m false))
def WM (P : Program) (N : Nat) (ops : Array Oper) (Q : Exit → Act → World → Prop) (S : World → Prop) (m fuel : Nat) (listed : Array Bool) (L : FL) (w : World) : Prop :=
  ∀ a, Has N a L → AnyM P ops (NoPanic Q) S m fuel listed a w
def HeldM (P : Program) (ops : Array Oper) (Q : Exit → Act → World → Prop) (S : World → Prop) (m fuel : Nat) (listed : Array Bool) : Exit → Act → World → Prop :=
  Exit.then (fun a w => (listed.getD m false = false → S w) ∧ AnyM P ops (NoPanic Q) S m fuel listed a w) (NoPanic Q)
section
variable {P : Program} {N : Nat} {ops : Array Oper} {Q : Exit → Act → World → Prop} {S : World → Prop} {m fuel : Nat} {listed : Array Bool} {L : FL} {w : World}
theorem wc_heldM (m : Nat) {id : Nat} {l : List Oper} (hm : P.follows .mixedOrders = true) (h : ∀ w1, Below w.heap.size w w1 → WM P N l.toArray Q (Below w.heap.size w) m l.length (Array.replicate l.length false) L w1) : WC P N (.region id l.toArray true) Q L w := fun a ha =>
  wp_region_noPanic (wp_region_any hm (any_of_M (S := Below w.heap.size w) (m := m) _ _ _ _ (by simpa using h _ ((Below.refl _ _).drew) a ha)))
theorem okM_of {i : Nat} (h : okM ops listed m i = true) : okAt ops listed i = true ∧ (∃ om, ops[m]? = some om ∧ ∃ e ∈ om.after, Region.binds .any e = true ∧ e.on = i) ∧ m ≠ i ∧ listed.getD m false = false := by
  simp only [okM, Bool.and_eq_true, Bool.not_eq_true'] at h
  obtain ⟨h1, h2, h3, h4⟩ := h
  refine ⟨h1, ?_, Nat.ne_of_beq_eq_false h3, h4⟩
  unfold waits at h2
  split at h2
  · rename_i o ho
    obtain ⟨e, he, hb⟩ := List.any_eq_true.1 h2
    rw [Bool.and_eq_true] at hb
    exact ⟨o, ho, e, by simpa using he, hb.1, Nat.eq_of_beq_eq_true hb.2⟩
  · cases h2
theorem wm_done (hr : Region.ready .any ops listed = []) (h : WE N Q .normal L w) : WM P N ops Q S m fuel listed L w := fun a ha => by
  have hq : NoPanic Q .normal a w := NoPanic.normal (h a ha)
  cases fuel with
  | zero => exact ⟨hr, hq⟩
  | succ fuel => exact ⟨fun _ => hq, by rw [hr]; simp⟩
theorem anyM_take {i : Nat} {o : Oper} {v : Value} {a : Act} (hi : ops[i]? = some o) (hk : okM ops listed m i = true) (hS : S w) (hy : YieldsIf P ops S o v a)
    (h : AnyM P ops (NoPanic Q) S m fuel (listed.setIfInBounds i true) (a.put o.dst v) w) : AnyM P ops (NoPanic Q) S m (fuel + 1) listed a w := by
  obtain ⟨h1, ⟨om, h2, h3⟩, h4, h5⟩ := okM_of hk
  obtain ⟨k1, k2, k3⟩ := okAt_of h1
  exact anyM_first hi (Region.noSelect_spec k1) (fun _ _ _ h => np h) h2 h4 h3 fuel listed a w (Region.free_spec hi k2) (by simpa using k3) hy hS h5 h
theorem wm_take (i : Nat) {d : Nat} {op : Op} {ty : TypeId} {pos : String} {aft : Array Edge} {v : Value} (hi : ops[i]? = some ⟨some d, op, ty, pos, aft, none⟩) (hv : ∀ w, S w → OpV P op ty L w v w) (hd : Nat.blt d N = true) (hk : okM ops listed m i = true) (hS : S w)
    (h : WM P N ops Q S m fuel (listed.setIfInBounds i true) ((d, v) :: L) w) : WM P N ops Q S m (fuel + 1) listed L w := fun a ha =>
  anyM_take hi hk hS (.inl ⟨by simp [Region.wanted], fun w hw => hv w hw a.eval _ (fun x u hx => ha.eval hx) rfl rfl⟩) (h _ (ha.put hd v))
/-- The same of an operation that does not look at the world. -/
theorem wm_takeP (i : Nat) {d : Nat} {op : Op} {ty : TypeId} {pos : String} {aft : Array Edge} {v : Value} (hi : ops[i]? = some ⟨some d, op, ty, pos, aft, none⟩) (hv : ∀ w, OpV P op ty L w v w) (hd : Nat.blt d N = true) (hk : (okAt ops listed i && !Nat.beq m i) = true) (hS : listed.getD m false = false → S w)
    (h : WM P N ops Q S m fuel (listed.setIfInBounds i true) ((d, v) :: L) w) : WM P N ops Q S m (fuel + 1) listed L w := fun a ha => by
  rw [Bool.and_eq_true, Bool.not_eq_true'] at hk
  obtain ⟨k1, k2, k3⟩ := okAt_of hk.1
  exact anyM_firstP hi (Region.noSelect_spec k1) (fun _ _ _ h => np h) (Nat.ne_of_beq_eq_false hk.2) fuel listed a w (Region.free_spec hi k2) (by simpa using k3) (.inl ⟨by simp [Region.wanted], fun w _ => hv w a.eval _ (fun x u hx => ha.eval hx) rfl rfl⟩) hS (h _ (ha.put hd v))
/-- One operation alone may come up. -/
theorem wm_one (i : Nat) {o : Oper} (hr : Region.ready .any ops listed = [i]) (hi : ops[i]? = some o)
    (h : WL P N ops (HeldM P ops Q S m fuel (listed.setIfInBounds i true)) [o] L w) : WM P N ops Q S m (fuel + 1) listed L w := fun a ha => by
  refine ⟨fun h0 => absurd (hr ▸ h0) (by simp), hr ▸ fun i' hi' => ?_⟩
  obtain rfl : i' = i := by simpa using hi'
  have h' := h a ha
  unfold wpOp
  simp only [hi]
  unfold wpList at h'
  split
  · rename_i hw
    rw [if_pos hw] at h'
    rcases h' with h' | ⟨ha, a0, w0, h'⟩
    · exact .inl (upon_mono (fun a w h => h) (fun e a w he h => by cases e <;> first | exact absurd rfl he | exact h) h')
    · exact .inr ⟨ha, a0, w0, h'⟩
  · rename_i hw
    rw [if_neg hw] at h'
    exact h'
/-- Two may come up. -/
theorem wm_two (i j : Nat) {o o' : Oper} (hr : Region.ready .any ops listed = [i, j]) (hi : ops[i]? = some o) (hj : ops[j]? = some o')
    (h : WL P N ops (HeldM P ops Q S m fuel (listed.setIfInBounds i true)) [o] L w) (h' : WL P N ops (HeldM P ops Q S m fuel (listed.setIfInBounds j true)) [o'] L w) : WM P N ops Q S m (fuel + 1) listed L w := fun a ha => by
  have key : ∀ {i : Nat} {o : Oper}, ops[i]? = some o → WL P N ops (HeldM P ops Q S m fuel (listed.setIfInBounds i true)) [o] L w → wpOp P ops (NoPanic Q) i (fun a' w' => ((listed.setIfInBounds i true).getD m false = false → S w') ∧ AnyM P ops (NoPanic Q) S m fuel (listed.setIfInBounds i true) a' w') a w := by
    intro i o hi h
    have h' := h a ha
    unfold wpOp
    simp only [hi]
    unfold wpList at h'
    split
    · rename_i hw
      rw [if_pos hw] at h'
      rcases h' with h' | ⟨ha, a0, w0, h'⟩
      · exact .inl (upon_mono (fun a w h => h) (fun e a w he h => by cases e <;> first | exact absurd rfl he | exact h) h')
      · exact .inr ⟨ha, a0, w0, h'⟩
    · rename_i hw
      rw [if_neg hw] at h'
      exact h'
  refine ⟨fun h0 => absurd (hr ▸ h0) (by simp), hr ▸ fun i' hi' => ?_⟩
  rw [List.mem_cons, List.mem_singleton] at hi'
  rcases hi' with rfl | rfl
  · exact key hi h
  · exact key hj h'
theorem we_heldM (hS : listed.getD m false = false → S w) (h : WM P N ops Q S m fuel listed L w) : WE N (HeldM P ops Q S m fuel listed) .normal L w := fun a ha => ⟨hS, h a ha⟩
end
end Go.Proofs.YtdgagffieobiiaaGreatDoor
