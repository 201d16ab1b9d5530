/-
  The texts of this proof, joined: Bc, T4, T5, Bd, Be, Bf, Bg, Bh, Bi, Bj, Bk, Bl, Mq, Mr, Ms, Ka.
-/
import Derived.Test.YtdgagffieobiiaaGreatDoorTabM5
import Derived.Test.YtdgagffieobiiaaGreatDoorTabM4
import Derived.Test.YtdgagffieobiiaaGreatDoorTabM2
import Derived.Test.YtdgagffieobiiaaGreatDoorTabM3

/-
  Engine: functions as values, shifts of ints; walks over put4, get4 and common of blocks.
-/
namespace Go.Proofs.YtdgagffieobiiaaGreatDoor
open Go.RowKit

section
variable {P : Program} {N : Nat} {ops : Array Oper} {Q : Exit → Act → World → Prop} {rest : List Oper} {L : FL} {w : World} {t ty : TypeId}
theorem opv_mkFunc {f : FuncId} {xs : List Operand} {us : List Value} (hx : Looks L xs us) : OpV P (.makeFunc (.func f) #[] xs.toArray) ty L w (.func (.func f) #[] us.toArray) w := fun ρ o hρ ho _ => by
  have hm := Looks.map hρ hx
  unfold execOp
  simp only [ho, Instr.makeFunc]
  have e : xs.toArray.map ρ = us.toArray := by simp [hm]
  rw [e]
  simp
theorem exec_callF {ρ : Operand → Value} {o : Oper} {x : Operand} {f : FuncId} {fs us : Array Value} {xs : List Operand} {vs : List Value} {ats : Array TypeId} (ho : o.op = .call { callee := .value x, args := xs.toArray, argTypes := ats })
    (hc : CallOk P f) (hρ : ∀ x u, look L x = some u → ρ x = u) (hf : look L x = some (.func (.func f) fs us)) (hx : Looks L xs vs) : (execOp ρ o).run P w = .ok (.enter f (fs ++ vs.toArray ++ us)) w := by
  have hf := hρ _ _ hf
  have hm := Looks.map hρ hx
  unfold execOp
  simp only [ho, resolve, Deferred.ofValue, hf, Sem.run_bind, Sem.run_pure, Result.andThen_ok, invoke]
  have : Array.map ρ xs.toArray = vs.toArray := by simp [hm]
  rw [this]
  exact hc _ _
/-- A call of a function that is a value. -/
theorem wl_callF {d : Nat} {x : Operand} {f : FuncId} {fs us : Array Value} {xs : List Operand} {ats : Array TypeId} {ty : TypeId} {pos : String} {aft : Array Edge} {vs : List Value} {R : Value → World → Prop}
    (hc : CallOk P f) (hf : look L x = some (.func (.func f) fs us)) (hr : CallsV P f (fs ++ vs.toArray ++ us) w R) (hx : Looks L xs vs) (hd : Nat.blt d N = true)
    (h : ∀ v w', R v w' → WL P N ops Q rest ((d, v) :: L) w') :
    WL P N ops Q (⟨some d, .call { callee := .value x, args := xs.toArray, argTypes := ats }, ty, pos, aft, none⟩ :: rest) L w := fun a ha =>
  wpList_plain rfl fun K hK => by
    unfold Oper.wp
    rw [exec_callF rfl hc (fun x u hx => ha.eval hx) hf hx]
    refine Calls.mono hr ?_
    rintro _ w' ⟨v, rfl, hv⟩
    exact hK _ _ (h v w' hv _ (ha.put hd v))
theorem wrap64_nat {n : Nat} (h : n ≤ 9223372036854775807) : IntKind.i64.wrap (n : Int) = (n : Int) := IntWalk.i64_in _ (by omega)
theorem bin_shl64 {x y : Nat} {yk : IntKind} (hy : y ≤ 64) (h : x * 2 ^ y ≤ 9223372036854775807) : BinV P .shl t (.int .i64 (x : Int)) (.int yk (y : Int)) (.int .i64 ((x * 2 ^ y : Nat) : Int)) := .mk fun u v w => by
  have h0 : ¬ (y : Int) < 0 := by omega
  have e : ((x : Int) * 2 ^ min y IntKind.i64.bits) = ((x * 2 ^ y : Nat) : Int) := by
    rw [Nat.min_eq_left (show y ≤ IntKind.i64.bits from hy)]; simp
  simp only [eqGuard, binOp, Op.shift, h0, if_false, Int.toNat_natCast, e, wrap64_nat h]
  simp
theorem bin_or64 {a b : Nat} (ha : a ≤ 9223372036854775807) (hb : b ≤ 9223372036854775807) : BinV P .or t (.int .i64 (a : Int)) (.int .i64 (b : Int)) (.int .i64 ((a ||| b : Nat) : Int)) :=
  bin_bits .or (.inr (.inl rfl)) fun w => by
    have h : a ||| b < 2 ^ 63 := Nat.or_lt_two_pow (Nat.lt_of_le_of_lt ha (by decide)) (Nat.lt_of_le_of_lt hb (by decide))
    have ha' : a < 2 ^ IntKind.i64.bits := Nat.lt_of_le_of_lt ha (by decide)
    have hb' : b < 2 ^ IntKind.i64.bits := Nat.lt_of_le_of_lt hb (by decide)
    simp only [Op.intBits, ofInt_nat, BitVec.toNat_or, BitVec.toNat_ofNat, Nat.mod_eq_of_lt ha', Nat.mod_eq_of_lt hb', wrap64_nat (show a ||| b ≤ 9223372036854775807 by omega)]; rfl
end
theorem put4_any (n : Nat) (hn : n < 2 ^ 63) (w : World) : CallsV Tryz.prog 87 #[.int .i64 n] w fun v w' => ∃ (A : Option Addr) (c : Nat), v = .slice A 4 c ∧ 4 ≤ c ∧ RdB w' A (four n) ∧ Below w.heap.size w w' := by
  have h1 : (n : Int) ≤ 9223372036854775807 := by omega
  refine calls_in (N := _) Tryz.func87 rfl Tryz.ntmps87 rfl ?_; show WC _ _ _ _ _ _
  refine wc_sr ?_; refine wl_as rfl rfl ?_; refine wl_ns ?_; refine wc_sr ?_; refine wl_mv rfl rfl ?_; apply wl_val; apply opv_convR; exact rfl; exact Tryz.underlying3; exact Tryz.underlying29; exact IntWalk.u64_in _ (by omega); exact rfl
  refine wl_call ok_codec_OrdU (ordU_any n (by omega) w) ⟨rfl, trivial⟩ rfl ?_
  rintro _ w1 ⟨A, c, rfl, o1, hb⟩
  have hcap := o1.cap
  rw [ordU_length] at hcap
  refine wl_sl (l := 4) (h := (ordU n).length) tyB rfl ⟨_, rfl⟩ rfl (by rw [ordU_length]; decide) o1.cap rfl ?_
  have hr := Rd.cut (l := 4) (h := (ordU n).length) (c := c) o1.rd (by rw [ordU_length]; decide) (Nat.le_refl _) o1.cap
  have e : ((bvs (ordU n)).take (ordU n).length).drop 4 = bvs (four n) := by
    rw [List.take_of_length_le (by rw [bvs_length]; exact Nat.le_refl _), ← ordU_four, bvs, bvs, List.map_drop]
  rw [e, ordU_length] at hr
  rw [ordU_length]
  refine wl_as rfl rfl ?_; refine wl_ns ?_; refine wc_ret ?_
  exact we_ret1 rfl rfl ⟨_, rfl, _, _, rfl, by omega, by unfold RdB; rw [four_length]; exact hr, hb⟩
theorem get4_any {A : Option Addr} {n c : Nat} {xs : List UInt8} {w : World} (hr : RdB w A xs) (hn : xs.length = n) (h4 : 4 ≤ xs.length) :
    CallsV Tryz.prog 111 #[.slice A n c] w fun v w' => v = .int .i64 (numB (xs.take 4) : Nat) ∧ Below w.heap.size w w' := by
  subst hn
  obtain ⟨x0, h0⟩ : ∃ x, xs[0]? = some x := ⟨_, List.getElem?_eq_getElem (by omega)⟩
  obtain ⟨x1, h1⟩ : ∃ x, xs[1]? = some x := ⟨_, List.getElem?_eq_getElem (by omega)⟩
  obtain ⟨x2, h2⟩ : ∃ x, xs[2]? = some x := ⟨_, List.getElem?_eq_getElem (by omega)⟩
  obtain ⟨x3, h3⟩ : ∃ x, xs[3]? = some x := ⟨_, List.getElem?_eq_getElem (by omega)⟩
  have l0 := x0.toNat_lt
  have l1 := x1.toNat_lt
  have l2 := x2.toNat_lt
  have l3 := x3.toNat_lt
  have q0 : x0.toNat * 2 ^ 24 < 2 ^ 32 := Nat.lt_of_lt_of_le ((Nat.mul_lt_mul_right (by decide)).2 l0) (by decide)
  have q1 : x1.toNat * 2 ^ 16 < 2 ^ 32 := Nat.lt_of_lt_of_le ((Nat.mul_lt_mul_right (by decide)).2 l1) (by decide)
  have q2 : x2.toNat * 2 ^ 8 < 2 ^ 32 := Nat.lt_of_lt_of_le ((Nat.mul_lt_mul_right (by decide)).2 l2) (by decide)
  have q3 : x3.toNat < 2 ^ 32 := Nat.lt_of_lt_of_le l3 (by decide)
  have e : numB (xs.take 4) = ((x0.toNat * 256 + x1.toNat) * 256 + x2.toNat) * 256 + x3.toNat := by
    rw [numB_step h3, numB_step h2, numB_step h1, numB_step h0]; simp [numB]
  rw [← or4 (a := x0.toNat) l1 l2 l3] at e
  rw [e]
  have o1 := Nat.or_lt_two_pow q0 q1
  have o2 := Nat.or_lt_two_pow o1 q2
  refine calls_in (N := _) Tryz.func111 rfl Tryz.ntmps111 rfl ?_; show WC _ _ _ _ _ _
  refine wc_sr ?_; refine wl_as rfl rfl ?_; refine wl_ns ?_; refine wc_seq ?_
  refine wc_drawB mixed (by kernel_rfl) ?_
  apply wq_val; intro _ hw_; apply opv_move; exact rfl; exact rfl; apply wq_byK (T := tyB) (hr := hr) (hb := h0); exact rfl; exact rfl; exact rfl; exact rfl; exact rfl; intro _; apply wq_val; intro _ hw_; apply opv_convR; exact rfl; exact Tryz.underlying5; exact Tryz.underlying3; exact IntWalk.i64_in _ (by omega); exact rfl
  refine wq_val (fun _ _ => opv_bin (b := .int .u64 (24 : Nat)) rfl rfl (bin_shl64 (by decide) (by omega))) rfl ?_
  apply wq_val; intro _ hw_; apply opv_move; exact rfl; exact rfl; apply wq_byK (T := tyB) (hr := hr) (hb := h1); exact rfl; exact rfl; exact rfl; exact rfl; exact rfl; intro _; apply wq_val; intro _ hw_; apply opv_convR; exact rfl; exact Tryz.underlying5; exact Tryz.underlying3; exact IntWalk.i64_in _ (by omega); exact rfl
  refine wq_val (fun _ _ => opv_bin (b := .int .u64 (16 : Nat)) rfl rfl (bin_shl64 (by decide) (by omega))) rfl ?_
  refine wq_val (fun _ _ => opv_bin rfl rfl (bin_or64 (by omega) (by omega))) rfl ?_
  apply wq_val; intro _ hw_; apply opv_move; exact rfl; exact rfl; apply wq_byK (T := tyB) (hr := hr) (hb := h2); exact rfl; exact rfl; exact rfl; exact rfl; exact rfl; intro _; apply wq_val; intro _ hw_; apply opv_convR; exact rfl; exact Tryz.underlying5; exact Tryz.underlying3; exact IntWalk.i64_in _ (by omega); exact rfl
  refine wq_val (fun _ _ => opv_bin (b := .int .u64 (8 : Nat)) rfl rfl (bin_shl64 (by decide) (by omega))) rfl ?_
  refine wq_val (fun _ _ => opv_bin rfl rfl (bin_or64 (by omega) (by omega))) rfl ?_
  apply wq_val; intro _ hw_; apply opv_move; exact rfl; exact rfl; apply wq_byK (T := tyB) (hr := hr) (hb := h3); exact rfl; exact rfl; exact rfl; exact rfl; exact rfl; intro _; apply wq_val; intro _ hw_; apply opv_convR; exact rfl; exact Tryz.underlying5; exact Tryz.underlying3; exact IntWalk.i64_in _ (by omega); exact rfl
  refine wq_val (fun _ _ => opv_bin rfl rfl (bin_or64 (by omega) (by omega))) rfl ?_
  apply wq_val; intro _ hw_; apply opv_assign; exact rfl; exact rfl; refine wq_nil fun w1 hw1 => ?_
  refine we_seq ?_; refine wc_ret ?_
  exact we_ret1 rfl rfl ⟨_, rfl, rfl, hw1⟩
/-- One more byte in common. -/
theorem comN_step {a b : List UInt8} {k : Nat} {x y : UInt8} (hx : a[k]? = some x) (hy : b[k]? = some y) : comN (a.drop k) (b.drop k) = if x = y then comN (a.drop (k + 1)) (b.drop (k + 1)) + 1 else 0 := by
  rw [drop_getB hx, drop_getB hy, comN]
theorem comN_end {a b : List UInt8} {k : Nat} (h : a.length ≤ k ∨ b.length ≤ k) : comN (a.drop k) (b.drop k) = 0 := by
  rcases h with h | h
  · rw [List.drop_of_length_le h, comN]; simp
  · rw [List.drop_of_length_le h]
    cases a.drop k <;> simp [comN]
theorem common_any {A B : Option Addr} {n m c d : Nat} {xs ys : List UInt8} {w : World} (hr : RdB w A xs) (hn : xs.length = n) (hs : RdB w B ys) (hm : ys.length = m) (hl : xs.length ≤ 1099511627776) (hl2 : ys.length ≤ 1099511627776) :
    CallsV Tryz.prog 88 #[.slice A n c, .slice B m d] w fun v w' => v = .int .i64 (comN xs ys : Nat) ∧ Below w.heap.size w w' := by
  subst hn hm
  refine calls_in (N := _) Tryz.func88 rfl Tryz.ntmps88 rfl ?_; show WC _ _ _ _ _ _
  refine wc_sr ?_; refine wl_as rfl rfl ?_; refine wl_ns ?_; refine wc_sr ?_; refine wl_as rfl rfl ?_; refine wl_ns ?_; refine wc_seq ?_; refine wc_block ?_
  refine wc_loop (fun L wr mm => ∃ k : Nat, L = [(0, .slice A xs.length c), (1, .slice B ys.length d), (5, .int .i64 (k : Int))] ∧ k ≤ xs.length ∧ comN xs ys = k + comN (xs.drop k) (ys.drop k) ∧ Below w.heap.size w wr ∧ mm = xs.length - k)
    [(0, .slice A xs.length c), (1, .slice B ys.length d), (5, .int .i64 (0 : Nat))] xs.length ⟨0, rfl, by omega, by simp, Below.refl _ _, rfl⟩ ⟨rfl, rfl, rfl, trivial⟩ ?_
  rintro _ w1 mm ⟨k, rfl, hk, hc, hb, rfl⟩
  replace hr := hr.below hb
  replace hs := hs.below hb
  refine wc_seq ?_; refine wc_seq ?_
  refine wc_cutE (fun L' w' => ∃ t : Bool, L' = [(0, .slice A xs.length c), (1, .slice B ys.length d), (5, .int .i64 (k : Int)), (26, .bool t)] ∧ Below w.heap.size w w' ∧ (if t then comN (xs.drop k) (ys.drop k) = comN (xs.drop (k + 1)) (ys.drop (k + 1)) + 1 ∧ k < xs.length else comN (xs.drop k) (ys.drop k) = 0)) ?_ ?_
  · by_cases h1 : k < xs.length
    · by_cases h2 : k < ys.length
      · obtain ⟨x, hx⟩ : ∃ x, xs[k]? = some x := ⟨_, List.getElem?_eq_getElem h1⟩
        obtain ⟨y, hy⟩ : ∃ x, ys[k]? = some x := ⟨_, List.getElem?_eq_getElem h2⟩
        have hst := comN_step hx hy
        have h1' : (k : Int) < (xs.length : Int) := by omega
        have h2' : (k : Int) < (ys.length : Int) := by omega
        have exy : (x.toNat : Int) = (y.toNat : Int) ↔ x = y := by rw [Int.ofNat_inj]; exact UInt8.toNat_inj
        by_cases h3 : x = y
        · have h3' := exy.2 h3
          rw [if_pos h3] at hst
          refine wc_drawB mixed (by kernel_rfl) ?_
          apply wq_val; intro _ hw_; apply opv_move; exact rfl; exact rfl; apply wq_val; intro _ hw_; apply opv_move; exact rfl; exact rfl; apply wq_val; intro _ hw_; apply opv_len; exact rfl; exact tyB.sl; exact rfl; apply wq_val; intro _ hw_; apply opv_bin; exact rfl; exact rfl; exact bin_lss; exact rfl; apply wq_val; intro _ hw_; apply opv_move; exact rfl; exact rfl; apply wq_take; exact rfl; exact rfl; exact rfl; refine bT ?_; (with_reducible assumption); apply wq_val; intro _ hw_; apply opv_move; exact rfl; exact rfl; apply wq_take; exact rfl; exact rfl; exact rfl; refine bT ?_; (with_reducible assumption); apply wq_val; intro _ hw_; apply opv_move; exact rfl; exact rfl; apply wq_take; exact rfl; exact rfl; exact rfl; refine bT ?_; (with_reducible assumption); apply wq_val; intro _ hw_; apply opv_len; exact rfl; exact tyB.sl; exact rfl; apply wq_take; exact rfl; exact rfl; exact rfl; refine bT ?_; (with_reducible assumption); apply wq_val; intro _ hw_; apply opv_bin; exact rfl; exact rfl; exact bin_lss; exact rfl; apply wq_val; intro _ hw_; apply opv_pickT; exact rfl; refine bT ?_; (with_reducible assumption); exact rfl; exact rfl; apply wq_val; intro _ hw_; apply opv_move; exact rfl; exact rfl; apply wq_take; exact rfl; exact rfl; exact rfl; refine bT ?_; (with_reducible assumption); apply wq_val; intro _ hw_; apply opv_move; exact rfl; exact rfl; apply wq_take; exact rfl; exact rfl; exact rfl; refine bT ?_; (with_reducible assumption); apply wq_val; intro _ hw_; apply opv_move; exact rfl; exact rfl; apply wq_byTK (T := tyB) (hr := hr) (hb := hx); exact rfl; exact rfl; exact rfl; refine bT ?_; (with_reducible assumption); exact rfl; exact rfl; exact rfl; exact rfl; refine bT ?_; (with_reducible assumption); exact rfl; exact rfl; exact rfl; exact rfl; exact rfl; intro _; apply wq_take; exact rfl; exact rfl; exact rfl; refine bT ?_; (with_reducible assumption); apply wq_val; intro _ hw_; apply opv_move; exact rfl; exact rfl; apply wq_take; exact rfl; exact rfl; exact rfl; refine bT ?_; (with_reducible assumption); apply wq_val; intro _ hw_; apply opv_move; exact rfl; exact rfl; apply wq_byTK (T := tyB) (hr := hs) (hb := hy); exact rfl; exact rfl; exact rfl; refine bT ?_; (with_reducible assumption); exact rfl; exact rfl; exact rfl; exact rfl; refine bT ?_; (with_reducible assumption); exact rfl; exact rfl; exact rfl; exact rfl; exact rfl; intro _; apply wq_take; exact rfl; exact rfl; exact rfl; refine bT ?_; (with_reducible assumption); apply wq_val; intro _ hw_; apply opv_bin; exact rfl; exact rfl; exact bin_eql; exact rfl; apply wq_val; intro _ hw_; apply opv_pickT; exact rfl; refine bT ?_; (with_reducible assumption); exact rfl; exact rfl; refine wq_nil fun w1 hw1 => ?_
          skip
          exact we_cut _ ⟨true, rfl, hb.trans (hw1.mono hb.size), hst, h1⟩ ⟨rfl, rfl, rfl, congrArg (fun b => some (Value.bool b)) (decide_eq_true h3'), trivial⟩
        · have h3' : ¬ (x.toNat : Int) = (y.toNat : Int) := fun h => h3 (exy.1 h)
          rw [if_neg h3] at hst
          refine wc_drawB mixed (by kernel_rfl) ?_
          apply wq_val; intro _ hw_; apply opv_move; exact rfl; exact rfl; apply wq_val; intro _ hw_; apply opv_move; exact rfl; exact rfl; apply wq_val; intro _ hw_; apply opv_len; exact rfl; exact tyB.sl; exact rfl; apply wq_val; intro _ hw_; apply opv_bin; exact rfl; exact rfl; exact bin_lss; exact rfl; apply wq_val; intro _ hw_; apply opv_move; exact rfl; exact rfl; apply wq_take; exact rfl; exact rfl; exact rfl; refine bT ?_; (with_reducible assumption); apply wq_val; intro _ hw_; apply opv_move; exact rfl; exact rfl; apply wq_take; exact rfl; exact rfl; exact rfl; refine bT ?_; (with_reducible assumption); apply wq_val; intro _ hw_; apply opv_move; exact rfl; exact rfl; apply wq_take; exact rfl; exact rfl; exact rfl; refine bT ?_; (with_reducible assumption); apply wq_val; intro _ hw_; apply opv_len; exact rfl; exact tyB.sl; exact rfl; apply wq_take; exact rfl; exact rfl; exact rfl; refine bT ?_; (with_reducible assumption); apply wq_val; intro _ hw_; apply opv_bin; exact rfl; exact rfl; exact bin_lss; exact rfl; apply wq_val; intro _ hw_; apply opv_pickT; exact rfl; refine bT ?_; (with_reducible assumption); exact rfl; exact rfl; apply wq_val; intro _ hw_; apply opv_move; exact rfl; exact rfl; apply wq_take; exact rfl; exact rfl; exact rfl; refine bT ?_; (with_reducible assumption); apply wq_val; intro _ hw_; apply opv_move; exact rfl; exact rfl; apply wq_take; exact rfl; exact rfl; exact rfl; refine bT ?_; (with_reducible assumption); apply wq_val; intro _ hw_; apply opv_move; exact rfl; exact rfl; apply wq_byTK (T := tyB) (hr := hr) (hb := hx); exact rfl; exact rfl; exact rfl; refine bT ?_; (with_reducible assumption); exact rfl; exact rfl; exact rfl; exact rfl; refine bT ?_; (with_reducible assumption); exact rfl; exact rfl; exact rfl; exact rfl; exact rfl; intro _; apply wq_take; exact rfl; exact rfl; exact rfl; refine bT ?_; (with_reducible assumption); apply wq_val; intro _ hw_; apply opv_move; exact rfl; exact rfl; apply wq_take; exact rfl; exact rfl; exact rfl; refine bT ?_; (with_reducible assumption); apply wq_val; intro _ hw_; apply opv_move; exact rfl; exact rfl; apply wq_byTK (T := tyB) (hr := hs) (hb := hy); exact rfl; exact rfl; exact rfl; refine bT ?_; (with_reducible assumption); exact rfl; exact rfl; exact rfl; exact rfl; refine bT ?_; (with_reducible assumption); exact rfl; exact rfl; exact rfl; exact rfl; exact rfl; intro _; apply wq_take; exact rfl; exact rfl; exact rfl; refine bT ?_; (with_reducible assumption); apply wq_val; intro _ hw_; apply opv_bin; exact rfl; exact rfl; exact bin_eql; exact rfl; apply wq_val; intro _ hw_; apply opv_pickT; exact rfl; refine bT ?_; (with_reducible assumption); exact rfl; exact rfl; refine wq_nil fun w1 hw1 => ?_
          skip
          exact we_cut _ ⟨false, rfl, hb.trans (hw1.mono hb.size), hst⟩ ⟨rfl, rfl, rfl, congrArg (fun b => some (Value.bool b)) (decide_eq_false h3'), trivial⟩
      · have h1' : (k : Int) < (xs.length : Int) := by omega
        have h2' : ¬ (k : Int) < (ys.length : Int) := by omega
        refine wc_drawB mixed (by kernel_rfl) ?_
        apply wq_val; intro _ hw_; apply opv_move; exact rfl; exact rfl; apply wq_val; intro _ hw_; apply opv_move; exact rfl; exact rfl; apply wq_val; intro _ hw_; apply opv_len; exact rfl; exact tyB.sl; exact rfl; apply wq_val; intro _ hw_; apply opv_bin; exact rfl; exact rfl; exact bin_lss; exact rfl; apply wq_val; intro _ hw_; apply opv_move; exact rfl; exact rfl; apply wq_take; exact rfl; exact rfl; exact rfl; refine bT ?_; (with_reducible assumption); apply wq_val; intro _ hw_; apply opv_move; exact rfl; exact rfl; apply wq_take; exact rfl; exact rfl; exact rfl; refine bT ?_; (with_reducible assumption); apply wq_val; intro _ hw_; apply opv_move; exact rfl; exact rfl; apply wq_take; exact rfl; exact rfl; exact rfl; refine bT ?_; (with_reducible assumption); apply wq_val; intro _ hw_; apply opv_len; exact rfl; exact tyB.sl; exact rfl; apply wq_take; exact rfl; exact rfl; exact rfl; refine bT ?_; (with_reducible assumption); apply wq_val; intro _ hw_; apply opv_bin; exact rfl; exact rfl; exact bin_lss; exact rfl; apply wq_val; intro _ hw_; apply opv_pickT; exact rfl; refine bT ?_; (with_reducible assumption); exact rfl; exact rfl; apply wq_val; intro _ hw_; apply opv_move; exact rfl; exact rfl; apply wq_skip; exact rfl; exact rfl; exact rfl; refine bFn ?_; (with_reducible assumption); exact rfl; apply wq_skip; exact rfl; exact rfl; exact rfl; refine bFn ?_; (with_reducible assumption); exact rfl; apply wq_skip; exact rfl; exact rfl; exact rfl; refine bFn ?_; (with_reducible assumption); exact rfl; apply wq_skip; exact rfl; exact rfl; exact rfl; refine bFn ?_; (with_reducible assumption); exact rfl; apply wq_skip; exact rfl; exact rfl; exact rfl; refine bFn ?_; (with_reducible assumption); exact rfl; apply wq_skip; exact rfl; exact rfl; exact rfl; refine bFn ?_; (with_reducible assumption); exact rfl; apply wq_skip; exact rfl; exact rfl; exact rfl; refine bFn ?_; (with_reducible assumption); exact rfl; apply wq_skip; exact rfl; exact rfl; exact rfl; refine bFn ?_; (with_reducible assumption); exact rfl; apply wq_skip; exact rfl; exact rfl; exact rfl; refine bFn ?_; (with_reducible assumption); exact rfl; apply wq_val; intro _ hw_; apply opv_pickF; exact rfl; refine bF ?_; (with_reducible assumption); exact rfl; exact rfl; refine wq_nil fun w1 hw1 => ?_
        skip
        exact we_cut _ ⟨false, rfl, hb.trans (hw1.mono hb.size), comN_end (.inr (by omega))⟩ ⟨rfl, rfl, rfl, rfl, trivial⟩
    · have h1' : ¬ (k : Int) < (xs.length : Int) := by omega
      refine wc_drawB mixed (by kernel_rfl) ?_
      apply wq_val; intro _ hw_; apply opv_move; exact rfl; exact rfl; apply wq_val; intro _ hw_; apply opv_move; exact rfl; exact rfl; apply wq_val; intro _ hw_; apply opv_len; exact rfl; exact tyB.sl; exact rfl; apply wq_val; intro _ hw_; apply opv_bin; exact rfl; exact rfl; exact bin_lss; exact rfl; apply wq_val; intro _ hw_; apply opv_move; exact rfl; exact rfl; apply wq_skip; exact rfl; exact rfl; exact rfl; refine bFn ?_; (with_reducible assumption); exact rfl; apply wq_skip; exact rfl; exact rfl; exact rfl; refine bFn ?_; (with_reducible assumption); exact rfl; apply wq_skip; exact rfl; exact rfl; exact rfl; refine bFn ?_; (with_reducible assumption); exact rfl; apply wq_skip; exact rfl; exact rfl; exact rfl; refine bFn ?_; (with_reducible assumption); exact rfl; apply wq_val; intro _ hw_; apply opv_pickF; exact rfl; refine bF ?_; (with_reducible assumption); exact rfl; exact rfl; apply wq_val; intro _ hw_; apply opv_move; exact rfl; exact rfl; apply wq_skip; exact rfl; exact rfl; exact rfl; exact bR2; exact rfl; apply wq_skip; exact rfl; exact rfl; exact rfl; exact bR2; exact rfl; apply wq_skip; exact rfl; exact rfl; exact rfl; exact bR2; exact rfl; apply wq_skip; exact rfl; exact rfl; exact rfl; exact bR2; exact rfl; apply wq_skip; exact rfl; exact rfl; exact rfl; exact bR2; exact rfl; apply wq_skip; exact rfl; exact rfl; exact rfl; exact bR2; exact rfl; apply wq_skip; exact rfl; exact rfl; exact rfl; exact bR2; exact rfl; apply wq_skip; exact rfl; exact rfl; exact rfl; exact bR2; exact rfl; apply wq_skip; exact rfl; exact rfl; exact rfl; exact bR2; exact rfl; apply wq_val; intro _ hw_; apply opv_pickF; exact rfl; exact rfl; exact rfl; exact rfl; refine wq_nil fun w1 hw1 => ?_
      skip
      exact we_cut _ ⟨false, rfl, hb.trans (hw1.mono hb.size), comN_end (.inl (by omega))⟩ ⟨rfl, rfl, rfl, rfl, trivial⟩
  rintro _ w2 ⟨t, rfl, hb2, ht⟩
  cases t with
  | true =>
    obtain ⟨h1, h2⟩ := ht
    refine we_seq ?_; apply wc_condTb; exact rfl; exact rfl; refine wc_skip ?_; refine we_seq ?_; refine wc_block ?_; refine wc_region ?_; refine wl_mv rfl rfl ?_; apply wl_val; apply opv_bin; exact rfl; exact rfl; exact bin_add64 (by omega); exact rfl; refine wl_as rfl rfl ?_; refine wl_nil ?_; refine we_block_norm ?_
    exact we_loop _ (xs.length - (k + 1)) ⟨k + 1, rfl, by omega, by rw [hc, h1]; omega, hb2, rfl⟩ (by omega) ⟨rfl, rfl, by simp [lookT], trivial⟩
  | false =>
    have h0 : comN xs ys = k := by rw [hc, show comN (xs.drop k) (ys.drop k) = 0 from ht]; rfl
    refine we_seq ?_; apply wc_condFb; exact rfl; exact rfl; refine wc_exit ?_; refine we_seq_exit ?_; refine we_loop_exit ?_; refine we_block_exit ?_; refine we_seq ?_; refine wc_sr ?_; refine wl_mv rfl rfl ?_; refine wl_as rfl rfl ?_; refine wl_ns ?_; refine wc_ret ?_
    exact we_ret1 rfl rfl ⟨_, rfl, by rw [h0], hb2⟩
end Go.Proofs.YtdgagffieobiiaaGreatDoor

/-
  Walks over a disk's list of names that all begin so, and over whether a name stands in a list.
-/
namespace Go.Proofs.YtdgagffieobiiaaGreatDoor
open Go.RowKit
theorem t1_str : Cell1 Tryz.prog 9 := ⟨by kernel_rfl, by rw [Tryz.underlying9]⟩
theorem okHp : CallOk Tryz.prog 79 := callOk Tryz.func79 (by kernel_rfl) rfl
section
variable {p r : List UInt8} {w : World}
theorem hp0_any (hl : (p ++ r).length ≤ 1048576) : CallsV Tryz.prog 79 #[str (p ++ r), str p] w fun v w' => v = .bool true ∧ w = w' := by
  have hle : (p.length : Int) ≤ ((p ++ r).length : Int) := by rw [List.length_append]; omega
  refine calls_in (N := _) Tryz.func79 rfl Tryz.ntmps79 rfl ?_; show WC _ _ _ _ _ _
  refine wc_sr ?_; refine wl_as rfl rfl ?_; refine wl_ns ?_; refine wc_sr ?_; refine wl_mv rfl rfl ?_; apply wl_val; apply opv_lenL; exact rfl; exact Tryz.underlying9; exact rfl; refine wl_mv rfl rfl ?_; apply wl_val; apply opv_lenL; exact rfl; exact Tryz.underlying9; exact rfl; refine wl_bin rfl rfl bin_geq rfl ?_; refine wl_mv rfl rfl ?_; apply wl_take; exact rfl; exact rfl; exact rfl; refine bT ?_; (with_reducible assumption); refine wl_mv rfl rfl ?_; apply wl_take; exact rfl; exact rfl; exact rfl; refine bT ?_; (with_reducible assumption); refine wl_mv rfl rfl ?_; apply wl_take; exact rfl; exact rfl; exact rfl; refine bT ?_; (with_reducible assumption); apply wl_val; apply opv_lenL; exact rfl; exact Tryz.underlying9; exact rfl; apply wl_take; exact rfl; exact rfl; exact rfl; refine bT ?_; (with_reducible assumption)
  refine wl_val (opv_slS (a := 0) (b := p.length) Tryz.underlying9 rfl rfl ⟨_, rfl⟩ (Nat.zero_le _) (by rw [List.length_append]; omega)) rfl ?_
  rw [List.take_left, List.drop_zero]
  apply wl_take; exact rfl; exact rfl; exact rfl; refine bT ?_; (with_reducible assumption); refine wl_mv rfl rfl ?_; apply wl_take; exact rfl; exact rfl; exact rfl; refine bT ?_; (with_reducible assumption); refine wl_bin rfl rfl bin_eqlS rfl ?_; apply wl_val; apply opv_pickT; exact rfl; refine bT ?_; (with_reducible assumption); exact rfl; exact rfl; refine wl_as rfl rfl ?_; refine wl_ns ?_; refine wc_ret ?_
  exact we_ret1 rfl rfl ⟨_, rfl, congrArg Value.bool (bT rfl), rfl⟩
theorem hp_any (hl : (p ++ r).length ≤ 1048576) : CallsV Tryz.prog 49 #[str (p ++ r), str p] w fun v w' => v = .bool true ∧ w = w' := by
  refine calls_in (N := _) Tryz.func49 rfl Tryz.ntmps49 rfl ?_; show WC _ _ _ _ _ _
  refine wc_sr ?_; refine wl_as rfl rfl ?_; refine wl_ns ?_; refine wc_sr ?_; refine wl_mv rfl rfl ?_; refine wl_mv rfl rfl ?_
  refine wl_callX (vs := [_, _]) okHp ⟨rfl, rfl, trivial⟩ rfl (hp0_any hl) ?_
  rintro _ _ ⟨rfl, rfl⟩
  refine wl_as rfl rfl ?_; refine wl_ns ?_; refine wc_ret ?_
  exact we_ret1 rfl rfl ⟨_, rfl, rfl, rfl⟩
end
theorem ws_box1 {P : Program} {N : Nat} {ops : Array Oper} {Q : Exit → Act → World → Prop} {rest : List Oper} {L : FL} {w0 w : World} {M : BS} {H : List Cd} {t : TypeId} {u : Value} {d : Nat} {x : Operand} {ty : TypeId} {pos : String} {aft : Array Edge} (hs : St M w0 w H) (hx : look L x = some u) (h1 : u.oneCell' = true) (hd : Nat.blt d N = true)
    (h : ∀ g w', St M w0 w' (.blk g t [u] :: H) → WL P N ops Q rest ((d, .pointer (some ⟨g, 0, none⟩)) :: L) w') :
    WL P N ops Q (⟨some d, .box t x, ty, pos, aft, none⟩ :: rest) L w := by
  refine wl_val (opv_box hx) hd ?_
  rw [cells_one h1]
  exact h _ _ (hs.newA ((Below.refl _ _).alloc (Nat.le_refl _) _) (Nat.le_refl _) (Ar.new w t [u]))
theorem okDf : CallOk Tryz.prog 47 := callOk Tryz.func47 (by kernel_rfl) rfl
theorem okIf : CallOk Tryz.prog 78 := callOk Tryz.func78 (by kernel_rfl) rfl
theorem okL1 : CallOk Tryz.prog 48 := callOk Tryz.func48 (by kernel_rfl) rfl
theorem list1_any {g : Nat} {pf r : List UInt8} {w : World} (ha : Ar w g 9 [str pf]) (hl : (pf ++ r).length ≤ 1048576) :
    CallsV Tryz.prog 48 #[str (pf ++ r), .pointer (some ⟨g, 0, none⟩)] w fun v w' => v = .bool false ∧ Below w.heap.size w w' := by
  refine calls_in (N := _) Tryz.func48 rfl Tryz.ntmps48 rfl ?_; show WC _ _ _ _ _ _
  refine wc_sr ?_; refine wl_as rfl rfl ?_; refine wl_ns ?_; refine wc_sr ?_; refine wl_mv rfl rfl ?_; apply wl_val; apply opv_ldX; exact rfl; assumption; exact t1_str; exact rfl; exact rfl
  refine wl_callX (vs := [_, _]) ok_strings_HasPrefix ⟨rfl, rfl, trivial⟩ rfl (hp_any hl) ?_
  rintro _ _ ⟨rfl, rfl⟩
  apply wl_val; apply opv_not; exact rfl; exact rfl; refine wl_as rfl rfl ?_; refine wl_ns ?_; refine wc_ret ?_
  exact we_ret1 rfl rfl ⟨_, rfl, rfl, Below.refl _ _⟩
theorem indexF_any {A : Option Addr} {c n : Nat} {l : List (List UInt8)} {f : FuncId} {us : Array Value} {w : World} (hok : CallOk Tryz.prog f) (hr : Rd w A n (l.map str)) (hn : l.length = n) (hl : l.length ≤ 1048576)
    (hf : ∀ s ∈ l, ∀ w', Below w.heap.size w w' → CallsV Tryz.prog f (#[] ++ [str s].toArray ++ us) w' fun v w'' => v = .bool false ∧ Below w'.heap.size w' w'') :
    CallsV Tryz.prog 78 #[.slice A n c, .func (.func f) #[] us] w fun v w' => v = .int .i64 (-1) ∧ Below w.heap.size w w' := by
  subst hn
  refine calls_in (N := _) Tryz.func78 rfl Tryz.ntmps78 rfl ?_; show WC _ _ _ _ _ _
  refine wc_sr ?_; refine wl_as rfl rfl ?_; refine wl_ns ?_; refine wc_seq ?_; refine wc_sr ?_; refine wl_mv rfl rfl ?_; apply wl_val; apply opv_len; exact rfl; exact tyS.sl; exact rfl; refine wl_mv rfl rfl ?_; refine wl_ns ?_; refine wc_block ?_
  refine wc_loop (fun L wr m => ∃ i : Nat, L = [(0, .slice A l.length c), (1, .func (.func f) #[] us), (7, .int .i64 (l.length : Int)), (8, .int .i64 (i : Int))] ∧ i ≤ l.length ∧ Below w.heap.size w wr ∧ m = l.length - i)
    [(0, .slice A l.length c), (1, .func (.func f) #[] us), (7, .int .i64 (l.length : Int)), (8, .int .i64 ((0 : Nat) : Int))] l.length ⟨0, rfl, Nat.zero_le _, Below.refl _ _, rfl⟩ ⟨rfl, rfl, rfl, rfl, trivial⟩ ?_
  rintro _ w1 m ⟨i, rfl, hi, hb, rfl⟩
  refine wc_sr ?_; refine wl_bin rfl rfl bin_lss rfl ?_; refine wl_ns ?_; refine wc_seq ?_
  refine wc_cond rfl (fun h1 => ?_) (fun h1 => ?_)
  · obtain ⟨s, hs⟩ : ∃ s, l[i]? = some s := ⟨_, List.getElem?_eq_getElem (by omega)⟩
    have hu : (l.map str)[i]? = some (str s) := by rw [List.getElem?_map, hs]; rfl
    refine wc_skip ?_; refine we_seq ?_; refine wc_seq ?_; refine wc_block ?_; refine wc_sr ?_; refine wl_mv rfl rfl ?_; refine wl_as rfl rfl ?_; refine wl_ns ?_; refine wc_sr ?_; refine wl_mv rfl rfl ?_; refine wl_mv rfl rfl ?_; refine wl_mv rfl rfl ?_
    refine wl_val (opv_idxR (kk := i) (u := str s) tyNm rfl rfl (hr.below hb) rfl hu) rfl ?_
    refine wl_val (opv_loadR (kk := i) (u := str s) tyNm rfl (hr.below hb) hu) rfl ?_
    skip
    refine wl_callF hok rfl (hf s (List.mem_of_getElem? hs) w1 hb) ⟨rfl, trivial⟩ rfl ?_
    rintro _ w2 ⟨rfl, hb2⟩
    replace hb2 := hb.trans (hb2.mono hb.size)
    refine wl_ns ?_; apply wc_condFb; exact rfl; exact rfl; refine wc_skip ?_; refine we_block_norm ?_; refine we_seq ?_; refine wc_region ?_; apply wl_val; apply opv_bin; exact rfl; exact rfl; exact bin_add64 (by omega); exact rfl; refine wl_mv rfl rfl ?_; refine wl_nil ?_
    exact we_loop _ (l.length - (i + 1)) ⟨i + 1, rfl, by omega, hb2, rfl⟩ (by omega) ⟨rfl, rfl, rfl, by rw [show ((i + 1 : Nat) : Int) = (i : Int) + 1 by omega]; rfl, trivial⟩
  · refine wc_exit ?_; refine we_seq_exit ?_; refine we_loop_exit ?_; refine we_block_exit ?_; refine we_seq ?_; refine wc_sr ?_; refine wl_as rfl rfl ?_; refine wl_ns ?_; refine wc_ret ?_
    exact we_ret1 rfl rfl ⟨_, rfl, rfl, hb⟩
theorem deleteF_any {A : Option Addr} {c n : Nat} {l : List (List UInt8)} {f : FuncId} {us : Array Value} {w : World} (hok : CallOk Tryz.prog f) (hr : Rd w A n (l.map str)) (hn : l.length = n) (hl : l.length ≤ 1048576)
    (hf : ∀ s ∈ l, ∀ w', Below w.heap.size w w' → CallsV Tryz.prog f (#[] ++ [str s].toArray ++ us) w' fun v w'' => v = .bool false ∧ Below w'.heap.size w' w'') :
    CallsV Tryz.prog 47 #[.slice A n c, .func (.func f) #[] us] w fun v w' => v = .slice A n c ∧ Below w.heap.size w w' := by
  refine calls_in (N := _) Tryz.func47 rfl Tryz.ntmps47 rfl ?_; show WC _ _ _ _ _ _
  refine wc_sr ?_; refine wl_as rfl rfl ?_; refine wl_ns ?_; refine wc_sr ?_; refine wl_mv rfl rfl ?_; refine wl_mv rfl rfl ?_
  refine wl_callX (vs := [_, _]) okIf ⟨rfl, rfl, trivial⟩ rfl (indexF_any hok hr hn hl hf) ?_
  rintro _ _ ⟨rfl, hb⟩
  refine wl_as rfl rfl ?_; refine wl_ns ?_; refine wc_seq ?_; refine wc_sr ?_; refine wl_mv rfl rfl ?_; refine wl_bin rfl rfl bin_eql rfl ?_; refine wl_ns ?_; apply wc_condTb; exact rfl; exact rfl; refine wc_sr ?_; refine wl_mv rfl rfl ?_; refine wl_as rfl rfl ?_; refine wl_ns ?_; refine wc_ret ?_; refine we_seq_ret ?_
  exact we_ret1 rfl rfl ⟨_, rfl, rfl, hb⟩
theorem sortN_len (fs : Fs) : (sortN fs).length = fs.length := by rw [sortN, List.length_mergeSort, List.length_map]
theorem list_any {g : Nat} {d : Dk} {pf : List UInt8} {ns : List (List UInt8)} {w : World} (h : RdD w g d) (hd : d.dead = false) (hns : sortN d.fs = ns) (hpf : ∀ n ∈ ns, (∃ r, n = pf ++ r) ∧ n.length ≤ 1048576) (hl : ns.length ≤ 1048576) :
    CallsV Tryz.prog 18 #[.pointer (some ⟨g, 0, none⟩), str pf] w fun v w' => ∃ (A : Option Addr) (c : Nat), v = .slice A ns.length c ∧ Ow w' w.heap.size 9 A ns.length c (ns.map str) ∧ Below w.heap.size w w' := by
  have hs := St.init w
  have hln : d.fs.length = ns.length := by rw [← sortN_len, hns]
  have hnm : ∀ p ∈ d.fs, p.1.length ≤ maxLen := fun p hp => by
    have : p.1 ∈ sortN d.fs := List.mem_mergeSort.2 (List.mem_map.2 ⟨p, hp, rfl⟩)
    rw [hns] at this
    have := (hpf _ this).2
    simp only [maxLen]; omega
  obtain ⟨b, _, _, a1, _, _, _⟩ := h.look []
  unfold dkV at a1
  rw [hd] at a1
  refine calls_in (N := _) Tryz.func18 rfl Tryz.ntmps18 rfl ?_; show WC _ _ _ _ _ _
  refine wc_sr ?_
  refine ws_box1 hs rfl rfl rfl ?_
  clear hs; intro gx w1 hs
  have a2 := a1.bel hs.bel
  refine wl_as rfl rfl ?_; refine wl_ns ?_; refine wc_seq ?_; refine wc_sr ?_; refine wl_mv rfl rfl ?_; apply wl_val; apply opv_nilOk; exact rfl; exact rfl; apply wl_val; apply opv_fa; exact fa_sD (by decide); exact rfl; exact rfl; apply wl_val; apply opv_ldX; exact rfl; assumption; exact d1_bool; exact rfl; exact rfl; refine wl_ns ?_; apply wc_condFb; exact rfl; exact rfl; refine wc_skip ?_; refine we_seq ?_; refine wc_sr ?_; refine wl_mv rfl rfl ?_
  refine wl_call ok_disk_Disk_names (names_any (h.below hs.bel) hnm (by omega)) ⟨rfl, trivial⟩ rfl ?_
  rintro _ _ ⟨A, c, rfl, o_, hbx⟩
  rw [hns] at o_
  rw [hln] at o_ ⊢
  have hz := hs.size
  replace hs := hs.below hbx
  clear hbx
  skip
  refine wl_val (opv_mkFunc (us := [.pointer (some ⟨gx, 0, none⟩)]) ⟨rfl, trivial⟩) rfl ?_
  refine wl_callX (vs := [_, _]) okDf ⟨rfl, rfl, trivial⟩ rfl (deleteF_any okL1 o_.rd rfl hl fun s hm w' hb => ?_) ?_
  · obtain ⟨⟨r, rfl⟩, hln2⟩ := hpf s hm
    exact list1_any ((hs.ar 0 rfl).bel hb) hln2
  rintro _ _ ⟨rfl, hbx⟩
  have hr := Ow.mono (Ow.below o_ hbx (Nat.le_refl _)) hz
  replace hs := hs.below hbx
  refine wl_as rfl rfl ?_; refine wl_ns ?_; refine wc_ret ?_
  exact we_ret1 rfl rfl ⟨_, rfl, A, c, rfl, hr, hs.bel⟩
theorem okIx : CallOk Tryz.prog 66 := callOk Tryz.func66 (by kernel_rfl) rfl
theorem indexS_any {A : Option Addr} {c n : Nat} {l : List (List UInt8)} {s : List UInt8} {w : World} (hr : Rd w A n (l.map str)) (hn : l.length = n) (hl : l.length ≤ 1048576) :
    CallsV Tryz.prog 66 #[.slice A n c, str s] w fun v w' => (∃ z : Int, v = .int .i64 z ∧ (0 ≤ z ↔ s ∈ l)) ∧ w = w' := by
  subst hn
  refine calls_in (N := _) Tryz.func66 rfl Tryz.ntmps66 rfl ?_; show WC _ _ _ _ _ _
  refine wc_sr ?_; refine wl_as rfl rfl ?_; refine wl_ns ?_; refine wc_seq ?_; refine wc_sr ?_; refine wl_mv rfl rfl ?_; apply wl_val; apply opv_len; exact rfl; exact tyS.sl; exact rfl; refine wl_mv rfl rfl ?_; refine wl_ns ?_; refine wc_block ?_
  refine wc_loop (fun L wr m => ∃ i : Nat, L = [(0, .slice A l.length c), (1, str s), (7, .int .i64 (l.length : Int)), (8, .int .i64 (i : Int))] ∧ i ≤ l.length ∧ s ∉ l.take i ∧ wr = w ∧ m = l.length - i)
    [(0, .slice A l.length c), (1, str s), (7, .int .i64 (l.length : Int)), (8, .int .i64 ((0 : Nat) : Int))] l.length ⟨0, rfl, Nat.zero_le _, by simp, rfl, rfl⟩ ⟨rfl, rfl, rfl, rfl, trivial⟩ ?_
  rintro _ _ m ⟨i, rfl, hi, hni, rfl, rfl⟩
  refine wc_sr ?_; refine wl_bin rfl rfl bin_lss rfl ?_; refine wl_ns ?_; refine wc_seq ?_
  refine wc_cond rfl (fun h1 => ?_) (fun h1 => ?_)
  · obtain ⟨x, hx⟩ : ∃ x, l[i]? = some x := ⟨_, List.getElem?_eq_getElem (by omega)⟩
    have hu : (l.map str)[i]? = some (str x) := by rw [List.getElem?_map, hx]; rfl
    have htk := take_getR hx
    refine wc_skip ?_; refine we_seq ?_; refine wc_seq ?_; refine wc_block ?_; refine wc_sr ?_; refine wl_mv rfl rfl ?_; refine wl_as rfl rfl ?_; refine wl_ns ?_; refine wc_sr ?_; refine wl_mv rfl rfl ?_; refine wl_mv rfl rfl ?_; refine wl_mv rfl rfl ?_
    refine wl_val (opv_idxR (kk := i) (u := str x) tyNm rfl rfl hr rfl hu) rfl ?_
    refine wl_val (opv_loadR (kk := i) (u := str x) tyNm rfl hr hu) rfl ?_
    by_cases he : s = x
    · refine wl_bin rfl rfl bin_eqlS rfl ?_; refine wl_ns ?_; apply wc_decT; exact rfl; (with_reducible assumption); refine wc_sr ?_; refine wl_mv rfl rfl ?_; refine wl_as rfl rfl ?_; refine wl_ns ?_; refine wc_ret ?_; refine we_block_ret ?_; refine we_seq_ret ?_; refine we_loop_ret ?_; refine we_block_ret ?_; refine we_seq_ret ?_
      exact we_ret1 rfl rfl ⟨_, rfl, ⟨(i : Int), rfl, iff_of_true (by omega) (by rw [he]; exact List.mem_of_getElem? hx)⟩, rfl⟩
    · refine wl_bin rfl rfl bin_eqlS rfl ?_; refine wl_ns ?_; apply wc_decF; exact rfl; (with_reducible assumption); refine wc_skip ?_; refine we_block_norm ?_; refine we_seq ?_; refine wc_region ?_; apply wl_val; apply opv_bin; exact rfl; exact rfl; exact bin_add64 (by omega); exact rfl; refine wl_mv rfl rfl ?_; refine wl_nil ?_
      exact we_loop _ (l.length - (i + 1)) ⟨i + 1, rfl, by omega, by rw [htk, List.mem_append, List.mem_singleton]; exact fun h => h.elim hni he, rfl, rfl⟩ (by omega) ⟨rfl, rfl, rfl, by rw [show ((i + 1 : Nat) : Int) = (i : Int) + 1 by omega]; rfl, trivial⟩
  · obtain rfl : i = l.length := by omega
    rw [List.take_length] at hni
    refine wc_exit ?_; refine we_seq_exit ?_; refine we_loop_exit ?_; refine we_block_exit ?_; refine we_seq ?_; refine wc_sr ?_; refine wl_as rfl rfl ?_; refine wl_ns ?_; refine wc_ret ?_
    exact we_ret1 rfl rfl ⟨_, rfl, ⟨-1, rfl, iff_of_false (by decide) hni⟩, rfl⟩
theorem contains_any {A : Option Addr} {c n : Nat} {l : List (List UInt8)} {s : List UInt8} {w : World} (hr : Rd w A n (l.map str)) (hn : l.length = n) (hl : l.length ≤ 1048576) :
    CallsV Tryz.prog 34 #[.slice A n c, str s] w fun v w' => v = .bool (decide (s ∈ l)) ∧ w = w' := by
  refine calls_in (N := _) Tryz.func34 rfl Tryz.ntmps34 rfl ?_; show WC _ _ _ _ _ _
  refine wc_sr ?_; refine wl_as rfl rfl ?_; refine wl_ns ?_; refine wc_sr ?_; refine wl_mv rfl rfl ?_; refine wl_mv rfl rfl ?_
  refine wl_callX (vs := [_, _]) okIx ⟨rfl, rfl, trivial⟩ rfl (indexS_any hr hn hl) ?_
  rintro _ _ ⟨⟨z, rfl, hz⟩, rfl⟩
  refine wl_bin rfl rfl bin_geq rfl ?_; refine wl_as rfl rfl ?_; refine wl_ns ?_; refine wc_ret ?_
  exact we_ret1 rfl rfl ⟨_, rfl, congrArg Value.bool (decide_eq_decide.2 hz), rfl⟩
end Go.Proofs.YtdgagffieobiiaaGreatDoor

/-
  Walks over Remove and Rename of a disk with one file.
-/
namespace Go.Proofs.YtdgagffieobiiaaGreatDoor
open Go.RowKit
def remD (d : Dk) : Dk × Nat := (if (turnD d 0).1 = true then { (turnD d 0).2.2 with fs := [] } else (turnD d 0).2.2, (turnD d 0).2.1)
def renD (d : Dk) (b : List UInt8) (f : Fl) : Dk × Nat := (if (turnD d 0).1 = true then { (turnD d 0).2.2 with fs := [(b, f)] } else (turnD d 0).2.2, (turnD d 0).2.1)
theorem dki_one {fs : Fs} {a : List UInt8} {f : Fl} {xs : List FE} {clk : Nat} (h : DkI fs xs clk) (hf : fs = [(a, f)]) : ∃ x : FE, xs = [x] ∧ x.nm = a ∧ x.f = f := by
  have h1 := h.fs
  rw [hf] at h1
  match xs, h1 with
  | [x], h1 =>
    simp only [List.map_cons, List.map_nil, FE.pl, List.cons.injEq, and_true, Prod.mk.injEq] at h1
    exact ⟨x, rfl, h1.1, h1.2⟩
theorem remove_one {S : BS} {g : Nat} {d : Dk} {a : List UInt8} {f : Fl} {w : World} (h0 : Sat w [.ck (dkC g d)] S) (hok : DkOk d) (hf : d.fs = [(a, f)]) :
    CallsV Tryz.prog 35 #[.pointer (some ⟨g, 0, none⟩), str a] w fun v w' => v = .int .i64 ((remD d).2 : Nat) ∧ St S w w' [.ck (dkC g (remD d).1)] := by
  have hs := St.start h0
  have hth : thereD d a = 0 := (One.file hf).2.1
  refine calls_in (N := _) Tryz.func35 rfl Tryz.ntmps35 rfl ?_; show WC _ _ _ _ _ _
  refine wc_sr ?_; refine wl_as rfl rfl ?_; refine wl_ns ?_; refine wc_sr ?_; refine wl_mv rfl rfl ?_; refine wl_mv rfl rfl ?_; refine wl_mv rfl rfl ?_
  refine wl_call ok_disk_Disk_there (dthere_any (n := a) (hs.rdd 0 rfl)) ⟨rfl, rfl, trivial⟩ rfl ?_; rintro _ _ ⟨rfl, hbx⟩; replace hs := hs.below hbx; try dsimp only [List.cons_append, List.nil_append, setC, delC] at hs
  clear hbx
  rw [hth]
  skip
  obtain ⟨S2, hS2, _, _, _, hB⟩ := St.lend (H1 := [.ck (dkC g d)]) (H2 := []) hs
  refine wl_call ok_disk_Disk_turn (turnC_any (e := 0) hS2 hok) ⟨rfl, rfl, trivial⟩ rfl ?_
  rintro _ w4 ⟨rfl, hsx⟩
  replace hs := hB _ _ hsx
  clear hB hS2 hsx
  have hfs2 := (turnD_fs d 0).1
  obtain ⟨t, ht⟩ : ∃ t, turnD d 0 = t := ⟨_, rfl⟩
  unfold remD
  rw [ht] at hs hfs2 ⊢
  obtain ⟨okt, e2, d2⟩ := t
  simp only at hs hfs2 ⊢
  rw [List.append_nil] at hs
  refine wl_cutE (fun L w' => L = [(0, .pointer (some ⟨g, 0, none⟩)), (1, str a), (5, .bool okt), (6, .int .i64 (e2 : Nat))] ∧ w' = w4) ?_ ?_
  · refine wl_mv rfl rfl ?_; apply wl_val; apply opv_extract; exact rfl; exact rfl; exact rfl; apply wl_val; apply opv_extract; exact rfl; exact rfl; exact rfl; refine wl_as rfl rfl ?_; refine wl_as rfl rfl ?_; refine wl_nil ?_
    exact we_cut _ ⟨rfl, rfl⟩ ⟨rfl, rfl, rfl, rfl, trivial⟩
  rintro _ _ ⟨rfl, rfl⟩
  refine we_seq ?_; refine wc_seq ?_; refine wc_sr ?_; refine wl_mv rfl rfl ?_; refine wl_ns ?_
  refine wc_cutE (fun L w' => L = [(6, .int .i64 (e2 : Nat))] ∧ St S w w' [.ck (dkC g (if okt = true then { d2 with fs := [] } else d2))]) ?_ ?_
  · cases okt with
    | false =>
      apply wc_condFb; exact rfl; exact rfl; refine wc_skip ?_
      exact we_cut _ ⟨rfl, hs⟩ ⟨rfl, trivial⟩
    | true =>
      rw [if_pos rfl]
      rcases hs.opn with ⟨h1, hs1⟩ | ⟨m, xs, clk, hI, hs1⟩
      · rw [hfs2, hf] at h1; cases h1
      · replace hs := hs1
        clear hs1
        obtain ⟨x, rfl, hx1, hx2⟩ := dki_one hI (hfs2.trans hf)
        unfold dkV at hs
        apply wc_condTb; exact rfl; exact rfl; refine wc_region ?_; refine wl_mv rfl rfl ?_; apply wl_val; apply opv_nilOk; exact rfl; exact rfl; apply wl_val; apply opv_fa; exact fa_sD (by decide); exact rfl; exact rfl; apply wl_val; apply opv_ldX; exact rfl; exact hs.ar 0 rfl; exact d1_map; exact rfl; exact rfl; refine wl_mv rfl rfl ?_
        refine ws_mdelN hs 1 rfl tyDM tyStrD rfl rfl rfl ?_
        clear hs; intro _ hs; dsimp only [setC] at hs
        rw [show mdel ([x].map FE.me) a = [] by simp [mdel, fnd, FE.me, hx1]] at hs
        replace hs := (hs.drop 2 rfl).pack (H1 := []) (.ck (flC [])) fun _ _ h => h
        dsimp only [delC] at hs
        replace hs := (hs.front 1 rfl).front 2 rfl
        dsimp only [delC] at hs
        replace hs := hs.front 1 rfl
        dsimp only [delC] at hs
        refine wl_nil ?_
        exact we_cut _ ⟨rfl, St.cls (d := { d2 with fs := [] }) (m := m) (clk := clk) (xs := []) hs ⟨rfl, List.nodup_nil, fun _ h => absurd h List.not_mem_nil, List.nodup_nil⟩⟩ ⟨rfl, trivial⟩
  · rintro _ _ ⟨rfl, hs⟩
    refine we_seq ?_; refine wc_sr ?_; refine wl_mv rfl rfl ?_; refine wl_as rfl rfl ?_; refine wl_ns ?_; refine wc_ret ?_
    exact we_ret1 rfl rfl ⟨_, rfl, rfl, hs⟩
/-- A file stands under a name, told by the map alone. -/
theorem putM_any {S : BS} {g m clk c : Nat} {d : Dk} {es : List ME} {n : List UInt8} {f : Fl} {A : Option Addr} {w : World} (h0 : Sat w [.blk g 75 (dkV d (some m)), .ck (mpC m es clk)] S) :
    CallsV Tryz.prog 70 #[.pointer (some ⟨g, 0, none⟩), str n, .agg (flV f A c).toArray] w fun v w' => v = .tuple #[] ∧ St S w w' [.blk g 75 (dkV d (some m)), .ck (mpC m (mput es clk n (.agg (flV f A c).toArray)).1 (mput es clk n (.agg (flV f A c).toArray)).2)] := by
  have hs := St.start h0
  refine calls_in (N := _) Tryz.func70 rfl Tryz.ntmps70 rfl ?_; show WC _ _ _ _ _ _
  refine wc_sr ?_
  refine ws_box (cs := flV f A c) hs rfl rfl ?_; clear hs; intro g5 _ hs
  replace hs := hs.front 1 rfl
  dsimp only [delC] at hs
  unfold dkV at hs
  refine wl_ns ?_; refine wc_seq ?_; refine wc_sr ?_; refine wl_mv rfl rfl ?_; apply wl_val; apply opv_nilOk; exact rfl; exact rfl; apply wl_val; apply opv_fa; exact fa_sD (by decide); exact rfl; exact rfl; apply wl_val; apply opv_ldX; exact rfl; exact hs.ar 0 rfl; exact d1_map; exact rfl; exact rfl; apply wl_val; apply opv_bin; exact rfl; exact rfl; exact bin_eqlMapNil tyDM; exact rfl; refine wl_ns ?_; apply wc_condFb; exact rfl; exact rfl; refine wc_skip ?_; refine we_seq ?_
  refine wc_heldM 6 mixed fun w_ hS => ?_
  apply wm_take 0; exact rfl; intro _ hw_; apply opv_move; exact rfl; exact rfl; kernel_rfl; exact hS; apply wm_take 1; exact rfl; intro _ hw_; apply opv_nilOk; exact rfl; exact rfl; kernel_rfl; exact hS; apply wm_take 2; exact rfl; intro _ hw_; apply opv_fa; exact fa_sD (by decide); exact rfl; exact rfl; kernel_rfl; exact hS; apply wm_take 3; exact rfl; intro _ hw_; apply opv_ldX; exact rfl; exact Ar.bel (hs.ar 0 rfl) hw_; exact d1_map; exact rfl; exact rfl; kernel_rfl; exact hS; apply wm_take 4; exact rfl; intro _ hw_; apply opv_move; exact rfl; exact rfl; kernel_rfl; exact hS; apply wm_take 5; exact rfl; intro _ hw_; apply opv_loadX; exact rfl; exact Ar.bel (hs.ar 1 rfl) hw_; exact sF; exact rfl; kernel_rfl; exact hS
  replace hs := hs.below hS
  refine wm_one 6 (by kernel_rfl) rfl ?_; dsimp only [List.getElem_toArray, List.getElem_cons_succ, List.getElem_cons_zero]
  refine ws_mput hs 2 rfl tyDM tyStrD rfl rfl rfl ?_
  clear hs; intro _ hs
  refine wl_nil ?_
  refine we_heldM (fun h => absurd h (by decide)) ?_
  refine wm_done (by kernel_rfl) ?_
  dsimp only [setC] at hs
  exact we_end0 rfl ⟨_, rfl, rfl, hs.drop 1 rfl⟩
theorem rename_one {S : BS} {g : Nat} {d : Dk} {a b : List UInt8} {f : Fl} {w : World} (h0 : Sat w [.ck (dkC g d)] S) (hok : DkOk d) (hf : d.fs = [(a, f)]) (hab : a ≠ b) :
    CallsV Tryz.prog 38 #[.pointer (some ⟨g, 0, none⟩), str a, str b] w fun v w' => v = .int .i64 ((renD d b f).2 : Nat) ∧ St S w w' [.ck (dkC g (renD d b f).1)] := by
  have hs := St.start h0
  have hth : thereD d a = 0 := (One.file hf).2.1
  refine calls_in (N := _) Tryz.func38 rfl Tryz.ntmps38 rfl ?_; show WC _ _ _ _ _ _
  refine wc_sr ?_; refine wl_as rfl rfl ?_; refine wl_ns ?_; refine wc_sr ?_; refine wl_mv rfl rfl ?_; refine wl_mv rfl rfl ?_; refine wl_mv rfl rfl ?_
  refine wl_call ok_disk_Disk_there (dthere_any (n := a) (hs.rdd 0 rfl)) ⟨rfl, rfl, trivial⟩ rfl ?_; rintro _ _ ⟨rfl, hbx⟩; replace hs := hs.below hbx; try dsimp only [List.cons_append, List.nil_append, setC, delC] at hs
  clear hbx
  rw [hth]
  skip
  obtain ⟨S2, hS2, _, _, _, hB⟩ := St.lend (H1 := [.ck (dkC g d)]) (H2 := []) hs
  refine wl_call ok_disk_Disk_turn (turnC_any (e := 0) hS2 hok) ⟨rfl, rfl, trivial⟩ rfl ?_
  rintro _ w4 ⟨rfl, hsx⟩
  replace hs := hB _ _ hsx
  clear hB hS2 hsx
  have hfs2 := (turnD_fs d 0).1
  obtain ⟨t, ht⟩ : ∃ t, turnD d 0 = t := ⟨_, rfl⟩
  unfold renD
  rw [ht] at hs hfs2 ⊢
  obtain ⟨okt, e2, d2⟩ := t
  simp only at hs hfs2 ⊢
  rw [List.append_nil] at hs
  refine wl_cutE (fun L w' => L = [(0, .pointer (some ⟨g, 0, none⟩)), (1, str a), (2, str b), (7, .bool okt), (8, .int .i64 (e2 : Nat))] ∧ w' = w4) ?_ ?_
  · refine wl_mv rfl rfl ?_; apply wl_val; apply opv_extract; exact rfl; exact rfl; exact rfl; apply wl_val; apply opv_extract; exact rfl; exact rfl; exact rfl; refine wl_as rfl rfl ?_; refine wl_as rfl rfl ?_; refine wl_nil ?_
    exact we_cut _ ⟨rfl, rfl⟩ ⟨rfl, rfl, rfl, rfl, rfl, trivial⟩
  rintro _ _ ⟨rfl, rfl⟩
  refine we_seq ?_; refine wc_seq ?_; refine wc_sr ?_; refine wl_mv rfl rfl ?_; refine wl_mv rfl rfl ?_
  cases okt with
    | false =>
      apply wl_skip; exact rfl; exact rfl; exact rfl; exact bR2; exact rfl; apply wl_skip; exact rfl; exact rfl; exact rfl; exact bR2; exact rfl; apply wl_skip; exact rfl; exact rfl; exact rfl; exact bR2; exact rfl; apply wl_val; apply opv_pickF; exact rfl; exact rfl; exact rfl; exact rfl; refine wl_ns ?_; apply wc_condFb; exact rfl; exact rfl; refine wc_skip ?_; refine we_seq ?_; refine wc_sr ?_; refine wl_mv rfl rfl ?_; refine wl_as rfl rfl ?_; refine wl_ns ?_; refine wc_ret ?_
      exact we_ret1 rfl rfl ⟨_, rfl, rfl, by rw [if_neg (by decide)]; exact hs⟩
    | true =>
      rw [if_pos rfl]
      rcases hs.opn with ⟨h1, hs1⟩ | ⟨m, xs, clk, hI, hs1⟩
      · rw [hfs2, hf] at h1; cases h1
      · replace hs := hs1
        clear hs1
        obtain ⟨x, rfl, rfl, rfl⟩ := dki_one hI (hfs2.trans hf)
        have hmg : mget ([x].map FE.me) x.nm = some (.agg (flV x.f x.A x.c).toArray) := by simp [mget, fnd, FE.me]
        have hm := hs.mp 1 rfl
        have ha0 := hs.ar 0 rfl
        unfold dkV at ha0
        apply wl_take; exact rfl; exact rfl; exact rfl; exact rfl; refine wl_mv rfl rfl ?_; apply wl_take; exact rfl; exact rfl; exact rfl; exact rfl; refine wl_mv rfl rfl ?_; apply wl_take; exact rfl; exact rfl; exact rfl; exact rfl; refine wl_bin rfl rfl bin_neqS rfl ?_; apply wl_val; apply opv_pickT; exact rfl; exact rfl; exact rfl; exact rfl; refine wl_ns ?_; apply wc_decT; exact rfl; (with_reducible assumption); refine wc_sr ?_; refine wl_mv rfl rfl ?_; refine wl_mv rfl rfl ?_; refine wl_mv rfl rfl ?_; apply wl_val; apply opv_nilOk; exact rfl; exact rfl; apply wl_val; apply opv_fa; exact fa_sD (by decide); exact rfl; exact rfl; apply wl_val; apply opv_ldX; exact rfl; assumption; exact d1_map; exact rfl; exact rfl; refine wl_mv rfl rfl ?_; apply wl_val; apply lk1_some; exact rfl; exact rfl; assumption; assumption; exact rfl
        clear hm ha0
        obtain ⟨S2, hS2, _, _, _, hB⟩ := St.lend (H1 := [_, _]) (H2 := [_]) hs
        refine wl_call ok_disk_Disk_put (putM_any hS2) ⟨rfl, rfl, rfl, trivial⟩ rfl ?_
        rintro _ _ ⟨rfl, hsx⟩
        replace hs := hB _ _ hsx
        clear hB hsx hS2
        dsimp only [List.cons_append, List.nil_append] at hs
        unfold dkV at hs
        refine wl_ns ?_; refine wc_region ?_; refine wl_mv rfl rfl ?_; apply wl_val; apply opv_nilOk; exact rfl; exact rfl; apply wl_val; apply opv_fa; exact fa_sD (by decide); exact rfl; exact rfl; apply wl_val; apply opv_ldX; exact rfl; exact hs.ar 0 rfl; exact d1_map; exact rfl; exact rfl; refine wl_mv rfl rfl ?_
        refine ws_mdelN hs 1 rfl tyDM tyStrD rfl rfl rfl ?_
        clear hs; intro _ hs; dsimp only [setC] at hs
        have hba : ¬ b = x.nm := fun h => hab h.symm
        have e1 : mput ([x].map FE.me) clk b (.agg (flV x.f x.A x.c).toArray) = ([x.me, (b, .agg (flV x.f x.A x.c).toArray, clk)], clk + 1) := by
          simp [mput, fnd, FE.me, hba]
        rw [e1] at hs
        rw [show mdel [x.me, (b, .agg (flV x.f x.A x.c).toArray, clk)] x.nm = [(⟨b, x.A, x.c, x.f, clk⟩ : FE)].map FE.me by simp [mdel, fnd, FE.me]] at hs
        refine wl_ns ?_; refine wc_sr ?_; refine wl_mv rfl rfl ?_; refine wl_as rfl rfl ?_; refine wl_ns ?_; refine wc_ret ?_
        exact we_ret1 rfl rfl ⟨_, rfl, rfl, St.cls (d := { d2 with fs := [(b, x.f)] }) (m := m) (clk := clk + 1) (xs := [⟨b, x.A, x.c, x.f, clk⟩]) hs ⟨rfl, by simp, fun y hy => by rw [List.mem_singleton] at hy; subst hy; exact Nat.lt_succ_self _, by simp⟩⟩
end Go.Proofs.YtdgagffieobiiaaGreatDoor

/-
  Rows of bytes told by a list of slices; walk over entry of blocks.
-/
namespace Go.Proofs.YtdgagffieobiiaaGreatDoor
open Go.RowKit

/-- Where bytes lie, and which they are. -/
structure Sl where
  A : Option Addr
  c : Nat
  xs : List UInt8
def slV (s : Sl) : Value := .slice s.A s.xs.length s.c
theorem RdBB.of {w : World} {A : Option Addr} {ts : List Sl} (h : Rd w A ts.length (ts.map slV)) (ht : ∀ t ∈ ts, RdB w t.A t.xs ∧ t.xs.length ≤ t.c) : RdBB w A (ts.map (·.xs)) := by
  refine ⟨ts.map slV, by rw [List.length_map]; exact h, fun i r hi => ?_⟩
  rw [List.getElem?_map] at hi
  obtain ⟨t, hti, rfl⟩ := Option.map_eq_some_iff.1 hi
  obtain ⟨h1, h2⟩ := ht t (List.mem_of_getElem? hti)
  exact ⟨t.A, t.c, by rw [List.getElem?_map, hti]; rfl, h1, h2⟩
theorem cutA_rd {w : World} {A : Option Addr} {xs : List UInt8} {c s : Nat} (h : RdB w A xs) (hs : s ≤ xs.length) (hc : xs.length ≤ c) : RdB w (cutA A c s) (xs.drop s) := by
  have hr := Rd.cut (l := s) (h := xs.length) (c := c) h hs (Nat.le_refl _) hc
  have e : ((bvs xs).take xs.length).drop s = bvs (xs.drop s) := by
    rw [List.take_of_length_le (by rw [bvs_length]; exact Nat.le_refl _), bvs, bvs, List.map_drop]
  rw [e] at hr
  unfold RdB
  rw [List.length_drop]
  exact hr
set_option maxRecDepth 8000 in
set_option maxHeartbeats 2000000 in
theorem blockEntry_any {x : En} {A B : Option Addr} {c d s : Nat} {w : World} (rx : RdB w A x.key) (hcA : x.key.length ≤ c) (rx2 : RdB w B x.val) (hcB : x.val.length ≤ d) (hs : s ≤ x.key.length) (hl : x.key.length ≤ 1099511627776) (hl2 : x.val.length ≤ 1099511627776) (hq : x.seq < 2 ^ 64) :
    CallsV Tryz.prog 89 #[.agg (enV x A c B d).toArray, .int .i64 (s : Int)] w (RetN' w (entB x s)) := by
  have hs0 := St.init w
  refine calls_in (N := _) Tryz.func89 rfl Tryz.ntmps89 rfl ?_; show WC _ _ _ _ _ _
  refine wc_sr ?_
  refine wl_box (cs := enV x A c B d) rfl rfl fun g2 w1 hg2 a2 hbx => ?_
  have hb := hbx
  clear hbx
  unfold enV at a2
  refine wl_as rfl rfl ?_; refine wl_ns ?_; refine wc_sr ?_; apply wl_val; apply opv_fa; exact fa_sE (by decide); exact rfl; exact rfl; apply wl_val; apply opv_ldX; exact rfl; assumption; exact e1_by; exact rfl; exact rfl; refine wl_mv rfl rfl ?_
  refine wl_sl (l := s) (h := x.key.length) tyB rfl ⟨_, rfl⟩ rfl hs hcA rfl ?_
  have r5 := cutA_rd (rx.below hb) hs hcA
  have hd5 : (x.key.drop s).length = x.key.length - s := List.length_drop
  have hcv : ((x.key.length - s : Nat) : Int) = ((x.key.length - s : Nat) : Int) := rfl
  have r6 := rx2.below hb
  refine wl_as rfl rfl ?_; refine wl_ns ?_; refine wc_seq ?_
  refine wc_heldM 23 mixed fun w2 hS => ?_
  apply wm_take 0; exact rfl; intro _ hw_; apply opv_move; exact rfl; exact rfl; kernel_rfl; exact hS; apply wm_take 1; exact rfl; intro _ hw_; apply opv_convR; exact rfl; exact Tryz.underlying3; exact Tryz.underlying29; exact IntWalk.u64_in _ (by omega); exact rfl; kernel_rfl; exact hS; apply wm_take 3; exact rfl; intro _ hw_; apply opv_move; exact rfl; exact rfl; kernel_rfl; exact hS; apply wm_take 4; exact rfl; intro _ hw_; apply opv_len; exact rfl; exact tyB.sl; exact rfl; kernel_rfl; exact hS; apply wm_take 5; exact rfl; intro _ hw_; apply opv_convR; exact rfl; exact Tryz.underlying3; exact Tryz.underlying29; exact IntWalk.u64_in _ (by omega); exact rfl; kernel_rfl; exact hS; apply wm_take 7; exact rfl; intro _ hw_; apply opv_fa; exact fa_sE (by decide); exact rfl; exact rfl; kernel_rfl; exact hS; apply wm_take 8; exact rfl; intro _ hw_; apply opv_ldX; exact rfl; exact Ar.bel (by assumption) hw_; exact e1_u64; exact rfl; exact rfl; kernel_rfl; exact hS; apply wm_take 10; exact rfl; intro _ hw_; apply opv_fa; exact fa_sE (by decide); exact rfl; exact rfl; kernel_rfl; exact hS; apply wm_take 11; exact rfl; intro _ hw_; apply opv_ldX; exact rfl; exact Ar.bel (by assumption) hw_; exact e1_u8; exact rfl; exact rfl; kernel_rfl; exact hS; apply wm_take 13; exact rfl; intro _ hw_; apply opv_fa; exact fa_sE (by decide); exact rfl; exact rfl; kernel_rfl; exact hS; apply wm_take 14; exact rfl; intro _ hw_; apply opv_ldX; exact rfl; exact Ar.bel (by assumption) hw_; exact e1_by; exact rfl; exact rfl; kernel_rfl; exact hS; apply wm_take 15; exact rfl; intro _ hw_; apply opv_len; exact rfl; exact tyB.sl; exact rfl; kernel_rfl; exact hS; apply wm_take 16; exact rfl; intro _ hw_; apply opv_convR; exact rfl; exact Tryz.underlying3; exact Tryz.underlying29; exact IntWalk.u64_in _ (by omega); exact rfl; kernel_rfl; exact hS; apply wm_take 18; exact rfl; intro _ hw_; apply opv_move; exact rfl; exact rfl; kernel_rfl; exact hS; apply wm_take 19; exact rfl; intro _ hw_; apply opv_fa; exact fa_sE (by decide); exact rfl; exact rfl; kernel_rfl; exact hS; apply wm_take 20; exact rfl; intro _ hw_; apply opv_ldX; exact rfl; exact Ar.bel (by assumption) hw_; exact e1_by; exact rfl; exact rfl; kernel_rfl; exact hS
  refine wm_two 2 12 (by kernel_rfl) rfl rfl ?_ ?_ <;> dsimp only [List.getElem_toArray, List.getElem_cons_succ, List.getElem_cons_zero]
  · refine wl_call ok_codec_PutU (putU_any s (by omega) _) ⟨rfl, trivial⟩ rfl ?_
    rintro _ _ ⟨A1, c1, rfl, o_, hbx⟩
    have p1 := o_.rd
    have k1 := o_.cap
    replace hS := hS.trans (hbx.mono hS.size)
    clear o_ hbx
    refine wl_nil ?_
    refine we_heldM (fun _ => hS) ?_
    refine wm_two 6 12 (by kernel_rfl) rfl rfl ?_ ?_ <;> dsimp only [List.getElem_toArray, List.getElem_cons_succ, List.getElem_cons_zero]
    · refine wl_call ok_codec_PutU (putU_any (x.key.length - s) (by omega) _) ⟨rfl, trivial⟩ rfl ?_
      rintro _ _ ⟨A2, c2, rfl, o_, hbx⟩
      have p2 := o_.rd
      have k2 := o_.cap
      replace hS := hS.trans (hbx.mono hS.size)
      replace p1 := p1.below hbx
      clear o_ hbx
      refine wl_nil ?_
      refine we_heldM (fun _ => hS) ?_
      refine wm_two 9 12 (by kernel_rfl) rfl rfl ?_ ?_ <;> dsimp only [List.getElem_toArray, List.getElem_cons_succ, List.getElem_cons_zero]
      · refine wl_call ok_codec_PutU (putU_any x.seq hq _) ⟨rfl, trivial⟩ rfl ?_
        rintro _ _ ⟨A3, c3, rfl, o_, hbx⟩
        have p3 := o_.rd
        have k3 := o_.cap
        replace hS := hS.trans (hbx.mono hS.size)
        replace p1 := p1.below hbx
        replace p2 := p2.below hbx
        clear o_ hbx
        refine wl_nil ?_
        refine we_heldM (fun _ => hS) ?_
        refine wm_two 12 17 (by kernel_rfl) rfl rfl ?_ ?_ <;> dsimp only [List.getElem_toArray, List.getElem_cons_succ, List.getElem_cons_zero]
        · refine wl_bs (vs := bvs [x.kind]) tyB ⟨rfl, rfl, rfl, trivial⟩ rfl (by decide) rfl fun A5 _ o_ hbx _ => ?_
          have p5 : RdB _ A5 [x.kind] := o_.rd
          replace hS := hS.trans (hbx.mono hS.size)
          replace p1 := p1.below hbx
          replace p2 := p2.below hbx
          replace p3 := p3.below hbx
          clear o_ hbx
          refine wl_nil ?_
          refine we_heldM (fun _ => hS) ?_
          refine wm_one 17 (by kernel_rfl) rfl ?_; dsimp only [List.getElem_toArray, List.getElem_cons_succ, List.getElem_cons_zero]
          refine wl_call ok_codec_PutU (putU_any x.val.length (by omega) _) ⟨rfl, trivial⟩ rfl ?_
          rintro _ _ ⟨A4, c4, rfl, o_, hbx⟩
          have p4 := o_.rd
          have k4 := o_.cap
          replace hS := hS.trans (hbx.mono hS.size)
          replace p1 := p1.below hbx
          replace p2 := p2.below hbx
          replace p3 := p3.below hbx
          replace p5 := p5.below hbx
          clear o_ hbx
          refine wl_nil ?_
          refine we_heldM (fun _ => hS) ?_
          refine wm_one 21 (by kernel_rfl) rfl ?_; dsimp only [List.getElem_toArray, List.getElem_cons_succ, List.getElem_cons_zero]
          refine wl_bs (vs := [⟨A1, c1, putU s⟩, ⟨A2, c2, putU (x.key.length - s)⟩, ⟨A3, c3, putU x.seq⟩, ⟨A5, 1, [x.kind]⟩, ⟨A4, c4, putU x.val.length⟩, ⟨cutA A c s, c - s, x.key.drop s⟩, ⟨B, d, x.val⟩].map slV) tyBB ⟨rfl, rfl, rfl, rfl, rfl, rfl, rfl, rfl, rfl, rfl, rfl, rfl, rfl, rfl, rfl, rfl, congrArg some (slice_eq hd5.symm), rfl, rfl, rfl, rfl, trivial⟩ rfl (by decide) rfl fun R w9 o_ hbx _ => ?_
          have hR : RdBB w9 R [putU s, putU (x.key.length - s), putU x.seq, [x.kind], putU x.val.length, x.key.drop s, x.val] := RdBB.of (ts := [⟨A1, c1, putU s⟩, ⟨A2, c2, putU (x.key.length - s)⟩, ⟨A3, c3, putU x.seq⟩, ⟨A5, 1, [x.kind]⟩, ⟨A4, c4, putU x.val.length⟩, ⟨cutA A c s, c - s, x.key.drop s⟩, ⟨B, d, x.val⟩]) o_.rd (by
            intro t ht
            simp only [List.mem_cons, List.not_mem_nil, or_false] at ht
            rcases ht with rfl | rfl | rfl | rfl | rfl | rfl | rfl
            · exact ⟨p1.below hbx, k1⟩
            · exact ⟨p2.below hbx, k2⟩
            · exact ⟨p3.below hbx, k3⟩
            · exact ⟨p5.below hbx, Nat.le_refl _⟩
            · exact ⟨p4.below hbx, k4⟩
            · exact ⟨(r5.below hS).below hbx, show (x.key.drop s).length ≤ c - s by omega⟩
            · exact ⟨(r6.below hS).below hbx, hcB⟩)
          replace hS := hS.trans (hbx.mono hS.size)
          clear o_ hbx
          refine wl_nil ?_
          refine we_heldM (fun _ => hS) ?_
          refine wm_one 22 (by kernel_rfl) rfl ?_; dsimp only [List.getElem_toArray, List.getElem_cons_succ, List.getElem_cons_zero]
          have hfl : [putU s, putU (x.key.length - s), putU x.seq, [x.kind], putU x.val.length, x.key.drop s, x.val].flatten = entB x s := by simp [entB]
          have hel := (entB_length x s hs (by omega) (by omega) hq).1
          refine wl_call ok_bytes_Join (bJoin_any hR rfl (Nat.le_refl _) (by rw [hfl]; omega) (by simp [maxLen])) ⟨rfl, rfl, trivial⟩ rfl ?_
          rw [hfl]
          rintro _ w10 ⟨J, cJ, rfl, n_, hbx⟩
          have hsz := hb.size
          have hsz2 := hS.size
          have n1 := n_.mono (show w.heap.size ≤ w9.heap.size by omega)
          replace hS := hS.trans (hbx.mono hS.size)
          clear n_ hbx
          refine wl_nil ?_
          refine we_heldM (fun _ => hS) ?_
          refine wm_one 23 (by kernel_rfl) rfl ?_; dsimp only [List.getElem_toArray, List.getElem_cons_succ, List.getElem_cons_zero]
          refine wl_as rfl rfl ?_; refine wl_nil ?_
          refine we_heldM (fun h => absurd h (by decide)) ?_
          refine wm_done (by kernel_rfl) ?_
          refine we_seq ?_; refine wc_ret ?_
          exact we_ret1 rfl rfl ⟨_, rfl, J, cJ, rfl, n1, hb.trans (hS.mono hb.size)⟩
        · refine wl_call ok_codec_PutU (putU_any x.val.length (by omega) _) ⟨rfl, trivial⟩ rfl ?_
          rintro _ _ ⟨A4, c4, rfl, o_, hbx⟩
          have p4 := o_.rd
          have k4 := o_.cap
          replace hS := hS.trans (hbx.mono hS.size)
          replace p1 := p1.below hbx
          replace p2 := p2.below hbx
          replace p3 := p3.below hbx
          clear o_ hbx
          refine wl_nil ?_
          refine we_heldM (fun _ => hS) ?_
          refine wm_one 12 (by kernel_rfl) rfl ?_; dsimp only [List.getElem_toArray, List.getElem_cons_succ, List.getElem_cons_zero]
          refine wl_bs (vs := bvs [x.kind]) tyB ⟨rfl, rfl, rfl, trivial⟩ rfl (by decide) rfl fun A5 _ o_ hbx _ => ?_
          have p5 : RdB _ A5 [x.kind] := o_.rd
          replace hS := hS.trans (hbx.mono hS.size)
          replace p1 := p1.below hbx
          replace p2 := p2.below hbx
          replace p3 := p3.below hbx
          replace p4 := p4.below hbx
          clear o_ hbx
          refine wl_nil ?_
          refine we_heldM (fun _ => hS) ?_
          refine wm_one 21 (by kernel_rfl) rfl ?_; dsimp only [List.getElem_toArray, List.getElem_cons_succ, List.getElem_cons_zero]
          refine wl_bs (vs := [⟨A1, c1, putU s⟩, ⟨A2, c2, putU (x.key.length - s)⟩, ⟨A3, c3, putU x.seq⟩, ⟨A5, 1, [x.kind]⟩, ⟨A4, c4, putU x.val.length⟩, ⟨cutA A c s, c - s, x.key.drop s⟩, ⟨B, d, x.val⟩].map slV) tyBB ⟨rfl, rfl, rfl, rfl, rfl, rfl, rfl, rfl, rfl, rfl, rfl, rfl, rfl, rfl, rfl, rfl, congrArg some (slice_eq hd5.symm), rfl, rfl, rfl, rfl, trivial⟩ rfl (by decide) rfl fun R w9 o_ hbx _ => ?_
          have hR : RdBB w9 R [putU s, putU (x.key.length - s), putU x.seq, [x.kind], putU x.val.length, x.key.drop s, x.val] := RdBB.of (ts := [⟨A1, c1, putU s⟩, ⟨A2, c2, putU (x.key.length - s)⟩, ⟨A3, c3, putU x.seq⟩, ⟨A5, 1, [x.kind]⟩, ⟨A4, c4, putU x.val.length⟩, ⟨cutA A c s, c - s, x.key.drop s⟩, ⟨B, d, x.val⟩]) o_.rd (by
            intro t ht
            simp only [List.mem_cons, List.not_mem_nil, or_false] at ht
            rcases ht with rfl | rfl | rfl | rfl | rfl | rfl | rfl
            · exact ⟨p1.below hbx, k1⟩
            · exact ⟨p2.below hbx, k2⟩
            · exact ⟨p3.below hbx, k3⟩
            · exact ⟨p5.below hbx, Nat.le_refl _⟩
            · exact ⟨p4.below hbx, k4⟩
            · exact ⟨(r5.below hS).below hbx, show (x.key.drop s).length ≤ c - s by omega⟩
            · exact ⟨(r6.below hS).below hbx, hcB⟩)
          replace hS := hS.trans (hbx.mono hS.size)
          clear o_ hbx
          refine wl_nil ?_
          refine we_heldM (fun _ => hS) ?_
          refine wm_one 22 (by kernel_rfl) rfl ?_; dsimp only [List.getElem_toArray, List.getElem_cons_succ, List.getElem_cons_zero]
          have hfl : [putU s, putU (x.key.length - s), putU x.seq, [x.kind], putU x.val.length, x.key.drop s, x.val].flatten = entB x s := by simp [entB]
          have hel := (entB_length x s hs (by omega) (by omega) hq).1
          refine wl_call ok_bytes_Join (bJoin_any hR rfl (Nat.le_refl _) (by rw [hfl]; omega) (by simp [maxLen])) ⟨rfl, rfl, trivial⟩ rfl ?_
          rw [hfl]
          rintro _ w10 ⟨J, cJ, rfl, n_, hbx⟩
          have hsz := hb.size
          have hsz2 := hS.size
          have n1 := n_.mono (show w.heap.size ≤ w9.heap.size by omega)
          replace hS := hS.trans (hbx.mono hS.size)
          clear n_ hbx
          refine wl_nil ?_
          refine we_heldM (fun _ => hS) ?_
          refine wm_one 23 (by kernel_rfl) rfl ?_; dsimp only [List.getElem_toArray, List.getElem_cons_succ, List.getElem_cons_zero]
          refine wl_as rfl rfl ?_; refine wl_nil ?_
          refine we_heldM (fun h => absurd h (by decide)) ?_
          refine wm_done (by kernel_rfl) ?_
          refine we_seq ?_; refine wc_ret ?_
          exact we_ret1 rfl rfl ⟨_, rfl, J, cJ, rfl, n1, hb.trans (hS.mono hb.size)⟩
      · refine wl_bs (vs := bvs [x.kind]) tyB ⟨rfl, rfl, rfl, trivial⟩ rfl (by decide) rfl fun A5 _ o_ hbx _ => ?_
        have p5 : RdB _ A5 [x.kind] := o_.rd
        replace hS := hS.trans (hbx.mono hS.size)
        replace p1 := p1.below hbx
        replace p2 := p2.below hbx
        clear o_ hbx
        refine wl_nil ?_
        refine we_heldM (fun _ => hS) ?_
        refine wm_one 9 (by kernel_rfl) rfl ?_; dsimp only [List.getElem_toArray, List.getElem_cons_succ, List.getElem_cons_zero]
        refine wl_call ok_codec_PutU (putU_any x.seq hq _) ⟨rfl, trivial⟩ rfl ?_
        rintro _ _ ⟨A3, c3, rfl, o_, hbx⟩
        have p3 := o_.rd
        have k3 := o_.cap
        replace hS := hS.trans (hbx.mono hS.size)
        replace p1 := p1.below hbx
        replace p2 := p2.below hbx
        replace p5 := p5.below hbx
        clear o_ hbx
        refine wl_nil ?_
        refine we_heldM (fun _ => hS) ?_
        refine wm_one 17 (by kernel_rfl) rfl ?_; dsimp only [List.getElem_toArray, List.getElem_cons_succ, List.getElem_cons_zero]
        refine wl_call ok_codec_PutU (putU_any x.val.length (by omega) _) ⟨rfl, trivial⟩ rfl ?_
        rintro _ _ ⟨A4, c4, rfl, o_, hbx⟩
        have p4 := o_.rd
        have k4 := o_.cap
        replace hS := hS.trans (hbx.mono hS.size)
        replace p1 := p1.below hbx
        replace p2 := p2.below hbx
        replace p5 := p5.below hbx
        replace p3 := p3.below hbx
        clear o_ hbx
        refine wl_nil ?_
        refine we_heldM (fun _ => hS) ?_
        refine wm_one 21 (by kernel_rfl) rfl ?_; dsimp only [List.getElem_toArray, List.getElem_cons_succ, List.getElem_cons_zero]
        refine wl_bs (vs := [⟨A1, c1, putU s⟩, ⟨A2, c2, putU (x.key.length - s)⟩, ⟨A3, c3, putU x.seq⟩, ⟨A5, 1, [x.kind]⟩, ⟨A4, c4, putU x.val.length⟩, ⟨cutA A c s, c - s, x.key.drop s⟩, ⟨B, d, x.val⟩].map slV) tyBB ⟨rfl, rfl, rfl, rfl, rfl, rfl, rfl, rfl, rfl, rfl, rfl, rfl, rfl, rfl, rfl, rfl, congrArg some (slice_eq hd5.symm), rfl, rfl, rfl, rfl, trivial⟩ rfl (by decide) rfl fun R w9 o_ hbx _ => ?_
        have hR : RdBB w9 R [putU s, putU (x.key.length - s), putU x.seq, [x.kind], putU x.val.length, x.key.drop s, x.val] := RdBB.of (ts := [⟨A1, c1, putU s⟩, ⟨A2, c2, putU (x.key.length - s)⟩, ⟨A3, c3, putU x.seq⟩, ⟨A5, 1, [x.kind]⟩, ⟨A4, c4, putU x.val.length⟩, ⟨cutA A c s, c - s, x.key.drop s⟩, ⟨B, d, x.val⟩]) o_.rd (by
          intro t ht
          simp only [List.mem_cons, List.not_mem_nil, or_false] at ht
          rcases ht with rfl | rfl | rfl | rfl | rfl | rfl | rfl
          · exact ⟨p1.below hbx, k1⟩
          · exact ⟨p2.below hbx, k2⟩
          · exact ⟨p3.below hbx, k3⟩
          · exact ⟨p5.below hbx, Nat.le_refl _⟩
          · exact ⟨p4.below hbx, k4⟩
          · exact ⟨(r5.below hS).below hbx, show (x.key.drop s).length ≤ c - s by omega⟩
          · exact ⟨(r6.below hS).below hbx, hcB⟩)
        replace hS := hS.trans (hbx.mono hS.size)
        clear o_ hbx
        refine wl_nil ?_
        refine we_heldM (fun _ => hS) ?_
        refine wm_one 22 (by kernel_rfl) rfl ?_; dsimp only [List.getElem_toArray, List.getElem_cons_succ, List.getElem_cons_zero]
        have hfl : [putU s, putU (x.key.length - s), putU x.seq, [x.kind], putU x.val.length, x.key.drop s, x.val].flatten = entB x s := by simp [entB]
        have hel := (entB_length x s hs (by omega) (by omega) hq).1
        refine wl_call ok_bytes_Join (bJoin_any hR rfl (Nat.le_refl _) (by rw [hfl]; omega) (by simp [maxLen])) ⟨rfl, rfl, trivial⟩ rfl ?_
        rw [hfl]
        rintro _ w10 ⟨J, cJ, rfl, n_, hbx⟩
        have hsz := hb.size
        have hsz2 := hS.size
        have n1 := n_.mono (show w.heap.size ≤ w9.heap.size by omega)
        replace hS := hS.trans (hbx.mono hS.size)
        clear n_ hbx
        refine wl_nil ?_
        refine we_heldM (fun _ => hS) ?_
        refine wm_one 23 (by kernel_rfl) rfl ?_; dsimp only [List.getElem_toArray, List.getElem_cons_succ, List.getElem_cons_zero]
        refine wl_as rfl rfl ?_; refine wl_nil ?_
        refine we_heldM (fun h => absurd h (by decide)) ?_
        refine wm_done (by kernel_rfl) ?_
        refine we_seq ?_; refine wc_ret ?_
        exact we_ret1 rfl rfl ⟨_, rfl, J, cJ, rfl, n1, hb.trans (hS.mono hb.size)⟩
    · refine wl_bs (vs := bvs [x.kind]) tyB ⟨rfl, rfl, rfl, trivial⟩ rfl (by decide) rfl fun A5 _ o_ hbx _ => ?_
      have p5 : RdB _ A5 [x.kind] := o_.rd
      replace hS := hS.trans (hbx.mono hS.size)
      replace p1 := p1.below hbx
      clear o_ hbx
      refine wl_nil ?_
      refine we_heldM (fun _ => hS) ?_
      refine wm_one 6 (by kernel_rfl) rfl ?_; dsimp only [List.getElem_toArray, List.getElem_cons_succ, List.getElem_cons_zero]
      refine wl_call ok_codec_PutU (putU_any (x.key.length - s) (by omega) _) ⟨rfl, trivial⟩ rfl ?_
      rintro _ _ ⟨A2, c2, rfl, o_, hbx⟩
      have p2 := o_.rd
      have k2 := o_.cap
      replace hS := hS.trans (hbx.mono hS.size)
      replace p1 := p1.below hbx
      replace p5 := p5.below hbx
      clear o_ hbx
      refine wl_nil ?_
      refine we_heldM (fun _ => hS) ?_
      refine wm_one 9 (by kernel_rfl) rfl ?_; dsimp only [List.getElem_toArray, List.getElem_cons_succ, List.getElem_cons_zero]
      refine wl_call ok_codec_PutU (putU_any x.seq hq _) ⟨rfl, trivial⟩ rfl ?_
      rintro _ _ ⟨A3, c3, rfl, o_, hbx⟩
      have p3 := o_.rd
      have k3 := o_.cap
      replace hS := hS.trans (hbx.mono hS.size)
      replace p1 := p1.below hbx
      replace p5 := p5.below hbx
      replace p2 := p2.below hbx
      clear o_ hbx
      refine wl_nil ?_
      refine we_heldM (fun _ => hS) ?_
      refine wm_one 17 (by kernel_rfl) rfl ?_; dsimp only [List.getElem_toArray, List.getElem_cons_succ, List.getElem_cons_zero]
      refine wl_call ok_codec_PutU (putU_any x.val.length (by omega) _) ⟨rfl, trivial⟩ rfl ?_
      rintro _ _ ⟨A4, c4, rfl, o_, hbx⟩
      have p4 := o_.rd
      have k4 := o_.cap
      replace hS := hS.trans (hbx.mono hS.size)
      replace p1 := p1.below hbx
      replace p5 := p5.below hbx
      replace p2 := p2.below hbx
      replace p3 := p3.below hbx
      clear o_ hbx
      refine wl_nil ?_
      refine we_heldM (fun _ => hS) ?_
      refine wm_one 21 (by kernel_rfl) rfl ?_; dsimp only [List.getElem_toArray, List.getElem_cons_succ, List.getElem_cons_zero]
      refine wl_bs (vs := [⟨A1, c1, putU s⟩, ⟨A2, c2, putU (x.key.length - s)⟩, ⟨A3, c3, putU x.seq⟩, ⟨A5, 1, [x.kind]⟩, ⟨A4, c4, putU x.val.length⟩, ⟨cutA A c s, c - s, x.key.drop s⟩, ⟨B, d, x.val⟩].map slV) tyBB ⟨rfl, rfl, rfl, rfl, rfl, rfl, rfl, rfl, rfl, rfl, rfl, rfl, rfl, rfl, rfl, rfl, congrArg some (slice_eq hd5.symm), rfl, rfl, rfl, rfl, trivial⟩ rfl (by decide) rfl fun R w9 o_ hbx _ => ?_
      have hR : RdBB w9 R [putU s, putU (x.key.length - s), putU x.seq, [x.kind], putU x.val.length, x.key.drop s, x.val] := RdBB.of (ts := [⟨A1, c1, putU s⟩, ⟨A2, c2, putU (x.key.length - s)⟩, ⟨A3, c3, putU x.seq⟩, ⟨A5, 1, [x.kind]⟩, ⟨A4, c4, putU x.val.length⟩, ⟨cutA A c s, c - s, x.key.drop s⟩, ⟨B, d, x.val⟩]) o_.rd (by
        intro t ht
        simp only [List.mem_cons, List.not_mem_nil, or_false] at ht
        rcases ht with rfl | rfl | rfl | rfl | rfl | rfl | rfl
        · exact ⟨p1.below hbx, k1⟩
        · exact ⟨p2.below hbx, k2⟩
        · exact ⟨p3.below hbx, k3⟩
        · exact ⟨p5.below hbx, Nat.le_refl _⟩
        · exact ⟨p4.below hbx, k4⟩
        · exact ⟨(r5.below hS).below hbx, show (x.key.drop s).length ≤ c - s by omega⟩
        · exact ⟨(r6.below hS).below hbx, hcB⟩)
      replace hS := hS.trans (hbx.mono hS.size)
      clear o_ hbx
      refine wl_nil ?_
      refine we_heldM (fun _ => hS) ?_
      refine wm_one 22 (by kernel_rfl) rfl ?_; dsimp only [List.getElem_toArray, List.getElem_cons_succ, List.getElem_cons_zero]
      have hfl : [putU s, putU (x.key.length - s), putU x.seq, [x.kind], putU x.val.length, x.key.drop s, x.val].flatten = entB x s := by simp [entB]
      have hel := (entB_length x s hs (by omega) (by omega) hq).1
      refine wl_call ok_bytes_Join (bJoin_any hR rfl (Nat.le_refl _) (by rw [hfl]; omega) (by simp [maxLen])) ⟨rfl, rfl, trivial⟩ rfl ?_
      rw [hfl]
      rintro _ w10 ⟨J, cJ, rfl, n_, hbx⟩
      have hsz := hb.size
      have hsz2 := hS.size
      have n1 := n_.mono (show w.heap.size ≤ w9.heap.size by omega)
      replace hS := hS.trans (hbx.mono hS.size)
      clear n_ hbx
      refine wl_nil ?_
      refine we_heldM (fun _ => hS) ?_
      refine wm_one 23 (by kernel_rfl) rfl ?_; dsimp only [List.getElem_toArray, List.getElem_cons_succ, List.getElem_cons_zero]
      refine wl_as rfl rfl ?_; refine wl_nil ?_
      refine we_heldM (fun h => absurd h (by decide)) ?_
      refine wm_done (by kernel_rfl) ?_
      refine we_seq ?_; refine wc_ret ?_
      exact we_ret1 rfl rfl ⟨_, rfl, J, cJ, rfl, n1, hb.trans (hS.mono hb.size)⟩
  · refine wl_bs (vs := bvs [x.kind]) tyB ⟨rfl, rfl, rfl, trivial⟩ rfl (by decide) rfl fun A5 _ o_ hbx _ => ?_
    have p5 : RdB _ A5 [x.kind] := o_.rd
    replace hS := hS.trans (hbx.mono hS.size)
    clear o_ hbx
    refine wl_nil ?_
    refine we_heldM (fun _ => hS) ?_
    refine wm_one 2 (by kernel_rfl) rfl ?_; dsimp only [List.getElem_toArray, List.getElem_cons_succ, List.getElem_cons_zero]
    refine wl_call ok_codec_PutU (putU_any s (by omega) _) ⟨rfl, trivial⟩ rfl ?_
    rintro _ _ ⟨A1, c1, rfl, o_, hbx⟩
    have p1 := o_.rd
    have k1 := o_.cap
    replace hS := hS.trans (hbx.mono hS.size)
    replace p5 := p5.below hbx
    clear o_ hbx
    refine wl_nil ?_
    refine we_heldM (fun _ => hS) ?_
    refine wm_one 6 (by kernel_rfl) rfl ?_; dsimp only [List.getElem_toArray, List.getElem_cons_succ, List.getElem_cons_zero]
    refine wl_call ok_codec_PutU (putU_any (x.key.length - s) (by omega) _) ⟨rfl, trivial⟩ rfl ?_
    rintro _ _ ⟨A2, c2, rfl, o_, hbx⟩
    have p2 := o_.rd
    have k2 := o_.cap
    replace hS := hS.trans (hbx.mono hS.size)
    replace p5 := p5.below hbx
    replace p1 := p1.below hbx
    clear o_ hbx
    refine wl_nil ?_
    refine we_heldM (fun _ => hS) ?_
    refine wm_one 9 (by kernel_rfl) rfl ?_; dsimp only [List.getElem_toArray, List.getElem_cons_succ, List.getElem_cons_zero]
    refine wl_call ok_codec_PutU (putU_any x.seq hq _) ⟨rfl, trivial⟩ rfl ?_
    rintro _ _ ⟨A3, c3, rfl, o_, hbx⟩
    have p3 := o_.rd
    have k3 := o_.cap
    replace hS := hS.trans (hbx.mono hS.size)
    replace p5 := p5.below hbx
    replace p1 := p1.below hbx
    replace p2 := p2.below hbx
    clear o_ hbx
    refine wl_nil ?_
    refine we_heldM (fun _ => hS) ?_
    refine wm_one 17 (by kernel_rfl) rfl ?_; dsimp only [List.getElem_toArray, List.getElem_cons_succ, List.getElem_cons_zero]
    refine wl_call ok_codec_PutU (putU_any x.val.length (by omega) _) ⟨rfl, trivial⟩ rfl ?_
    rintro _ _ ⟨A4, c4, rfl, o_, hbx⟩
    have p4 := o_.rd
    have k4 := o_.cap
    replace hS := hS.trans (hbx.mono hS.size)
    replace p5 := p5.below hbx
    replace p1 := p1.below hbx
    replace p2 := p2.below hbx
    replace p3 := p3.below hbx
    clear o_ hbx
    refine wl_nil ?_
    refine we_heldM (fun _ => hS) ?_
    refine wm_one 21 (by kernel_rfl) rfl ?_; dsimp only [List.getElem_toArray, List.getElem_cons_succ, List.getElem_cons_zero]
    refine wl_bs (vs := [⟨A1, c1, putU s⟩, ⟨A2, c2, putU (x.key.length - s)⟩, ⟨A3, c3, putU x.seq⟩, ⟨A5, 1, [x.kind]⟩, ⟨A4, c4, putU x.val.length⟩, ⟨cutA A c s, c - s, x.key.drop s⟩, ⟨B, d, x.val⟩].map slV) tyBB ⟨rfl, rfl, rfl, rfl, rfl, rfl, rfl, rfl, rfl, rfl, rfl, rfl, rfl, rfl, rfl, rfl, congrArg some (slice_eq hd5.symm), rfl, rfl, rfl, rfl, trivial⟩ rfl (by decide) rfl fun R w9 o_ hbx _ => ?_
    have hR : RdBB w9 R [putU s, putU (x.key.length - s), putU x.seq, [x.kind], putU x.val.length, x.key.drop s, x.val] := RdBB.of (ts := [⟨A1, c1, putU s⟩, ⟨A2, c2, putU (x.key.length - s)⟩, ⟨A3, c3, putU x.seq⟩, ⟨A5, 1, [x.kind]⟩, ⟨A4, c4, putU x.val.length⟩, ⟨cutA A c s, c - s, x.key.drop s⟩, ⟨B, d, x.val⟩]) o_.rd (by
      intro t ht
      simp only [List.mem_cons, List.not_mem_nil, or_false] at ht
      rcases ht with rfl | rfl | rfl | rfl | rfl | rfl | rfl
      · exact ⟨p1.below hbx, k1⟩
      · exact ⟨p2.below hbx, k2⟩
      · exact ⟨p3.below hbx, k3⟩
      · exact ⟨p5.below hbx, Nat.le_refl _⟩
      · exact ⟨p4.below hbx, k4⟩
      · exact ⟨(r5.below hS).below hbx, show (x.key.drop s).length ≤ c - s by omega⟩
      · exact ⟨(r6.below hS).below hbx, hcB⟩)
    replace hS := hS.trans (hbx.mono hS.size)
    clear o_ hbx
    refine wl_nil ?_
    refine we_heldM (fun _ => hS) ?_
    refine wm_one 22 (by kernel_rfl) rfl ?_; dsimp only [List.getElem_toArray, List.getElem_cons_succ, List.getElem_cons_zero]
    have hfl : [putU s, putU (x.key.length - s), putU x.seq, [x.kind], putU x.val.length, x.key.drop s, x.val].flatten = entB x s := by simp [entB]
    have hel := (entB_length x s hs (by omega) (by omega) hq).1
    refine wl_call ok_bytes_Join (bJoin_any hR rfl (Nat.le_refl _) (by rw [hfl]; omega) (by simp [maxLen])) ⟨rfl, rfl, trivial⟩ rfl ?_
    rw [hfl]
    rintro _ w10 ⟨J, cJ, rfl, n_, hbx⟩
    have hsz := hb.size
    have hsz2 := hS.size
    have n1 := n_.mono (show w.heap.size ≤ w9.heap.size by omega)
    replace hS := hS.trans (hbx.mono hS.size)
    clear n_ hbx
    refine wl_nil ?_
    refine we_heldM (fun _ => hS) ?_
    refine wm_one 23 (by kernel_rfl) rfl ?_; dsimp only [List.getElem_toArray, List.getElem_cons_succ, List.getElem_cons_zero]
    refine wl_as rfl rfl ?_; refine wl_nil ?_
    refine we_heldM (fun h => absurd h (by decide)) ?_
    refine wm_done (by kernel_rfl) ?_
    refine we_seq ?_; refine wc_ret ?_
    exact we_ret1 rfl rfl ⟨_, rfl, J, cJ, rfl, n1, hb.trans (hS.mono hb.size)⟩
end Go.Proofs.YtdgagffieobiiaaGreatDoor

/-
  Walk over Build of blocks.
-/
namespace Go.Proofs.YtdgagffieobiiaaGreatDoor
open Go.RowKit

def stepO (l : List En) (k : Nat) : Bool := match k with
  | 0 => true
  | j + 1 => match l[j]?, l[j + 1]? with
    | some a, some b => lessE a b
    | _, _ => true
def ordT (l : List En) : Nat → Bool
  | 0 => true
  | k + 1 => ordT l k && stepO l k
theorem ordT_iff {l : List En} : ∀ {k : Nat}, ordT l k = true ↔ ∀ i x y, i + 1 < k → l[i]? = some x → l[i + 1]? = some y → lessE x y = true
  | 0 => by simp [ordT]
  | k + 1 => by
    rw [ordT, Bool.and_eq_true, ordT_iff]
    constructor
    · rintro ⟨h1, h2⟩ i x y hi hx hy
      rcases Nat.lt_or_ge (i + 1) k with h | h
      · exact h1 i x y h hx hy
      · obtain rfl : i + 1 = k := by omega
        rw [stepO, hx, hy] at h2; exact h2
    · intro h
      refine ⟨fun i x y hi => h i x y (by omega), ?_⟩
      cases k with
      | zero => rfl
      | succ j =>
        rw [stepO]
        cases hx : l[j]? with
        | none => rfl
        | some x =>
          cases hy : l[j + 1]? with
          | none => rfl
          | some y => exact h j x y (by omega) hx hy
theorem ordT_all (l : List En) : ordT l l.length = ordE l := by
  rw [Bool.eq_iff_iff, ordT_iff, ordE_iff]
  constructor
  · intro h i x y hx hy
    exact h i x y (List.getElem?_eq_some_iff.1 hy).1 hx hy
  · intro h i x y _ hx hy
    exact h i x y hx hy
/-- The sizes that walks over blocks ask of entries. -/
def Siz2 (l : List En) : Prop := ∀ x ∈ l, x.key.length ≤ 2097152 ∧ x.val.length ≤ 2097152 ∧ x.seq < 2 ^ 64
theorem Siz2.siz {l : List En} (h : Siz2 l) : Siz l := fun x hx => by have := h x hx; omega
theorem body_max {every : Nat} {l : List En} (hz : Siz2 l) : ∀ k, k ≤ l.length → (bodyB every l k).length ≤ k * 4194345
  | 0, _ => by simp [bodyB]
  | k + 1, hk => by
    have hx : l[k]? = some (l[k]'(by omega)) := List.getElem?_eq_getElem (by omega)
    obtain ⟨z1, z2, z3⟩ := hz _ (List.mem_of_getElem? hx)
    have h1 := (entB_length _ _ (shrN_le (every := every) hx).1 (by omega) (by omega) z3).1
    have h2 := body_max (every := every) hz k (by omega)
    rw [bodyB_succ hx, List.length_append, Nat.add_mul]; omega
theorem resB_max (every : Nat) (l : List En) (k : Nat) : (resB every l k).length ≤ 4 * k := by
  have := stN_le every k; rw [resB_length]; omega
set_option maxRecDepth 8000 in
set_option maxHeartbeats 2000000 in
theorem blkBuild_any {A : Option Addr} {n c every : Nat} {l : List En} {w : World} (he : 0 < every) (he2 : every ≤ 9223372036854775807) (hr : RdR 4 w All A (l.map enEl)) (hn : l.length = n) (hl : l.length ≤ 2097152) (hz : Siz2 l) :
    CallsV Tryz.prog 62 #[.int .i64 (every : Int), .slice A n c] w (RetSN w (buildB every l)) := by
  subst hn
  have hs := St.init w
  have h1' : ¬ (every : Int) < 1 := by omega
  refine calls_in (N := _) Tryz.func62 rfl Tryz.ntmps62 rfl ?_; show WC _ _ _ _ _ _
  refine wc_sr ?_; refine wl_as rfl rfl ?_; refine wl_as rfl rfl ?_; refine wl_ns ?_; refine wc_seq ?_; refine wc_sr ?_; refine wl_mv rfl rfl ?_; refine wl_bin rfl rfl bin_lss rfl ?_; refine wl_ns ?_; apply wc_decF; exact rfl; (with_reducible assumption); refine wc_skip ?_; refine we_seq ?_; refine wc_sr ?_; refine wl_mv rfl rfl ?_
  refine wl_call ok_mem_Check (check_any (hr.below hs.bel) rfl (by simp only [maxLen]; omega)) ⟨rfl, trivial⟩ rfl ?_
  rintro _ w1 ⟨rfl, hbx⟩
  replace hs := hs.below hbx
  clear hbx
  by_cases hc2 : checkE l = 2
  · rw [hc2]
    refine wl_as rfl rfl ?_; refine wl_ns ?_; refine wc_seq ?_; refine wc_sr ?_; refine wl_mv rfl rfl ?_; refine wl_bin rfl rfl bin_eql rfl ?_; refine wl_ns ?_; apply wc_condTb; exact rfl; exact rfl; refine wc_sr ?_; refine wl_mv rfl rfl ?_; refine wl_as rfl rfl ?_; refine wl_as rfl rfl ?_; refine wl_ns ?_; refine wc_ret ?_; refine we_seq_ret ?_
    exact we_ret2 rfl rfl rfl ⟨_, rfl, none, 0, by rw [buildB, if_pos hc2]; rfl, by rw [buildB, if_pos hc2]; exact .inl ⟨rfl, rfl, rfl⟩, hs.bel⟩
  have hc2' : ¬ ((checkE l : Nat) : Int) = 2 := by omega
  replace hs := (hs.nilO 5).nilO 5
  refine wl_as rfl rfl ?_; refine wl_ns ?_; refine wc_seq ?_; refine wc_sr ?_; refine wl_mv rfl rfl ?_; refine wl_bin rfl rfl bin_eql rfl ?_; refine wl_ns ?_; apply wc_decF; exact rfl; (with_reducible assumption); refine wc_skip ?_; refine we_seq ?_; refine wc_sr ?_; refine wl_as rfl rfl ?_; refine wl_as rfl rfl ?_; refine wl_ns ?_; refine wc_sr ?_; refine wl_as rfl rfl ?_; refine wl_as rfl rfl ?_; refine wl_ns ?_; refine wc_seq ?_; refine wc_sr ?_; refine wl_mv rfl rfl ?_; apply wl_val; apply opv_len; exact rfl; exact tkE.sl; exact rfl; refine wl_mv rfl rfl ?_; refine wl_ns ?_; refine wc_block ?_
  refine wc_loop (fun L wr mm => ∃ (k : Nat) (Bd : Option Addr) (cb : Nat) (Rs : Option Addr) (cr : Nat), L = [(0, .int .i64 (every : Int)), (1, .slice A l.length c), (6, .int .i64 (checkE l : Nat)), (7, .slice Bd (bodyB every l k).length cb), (8, .slice Rs (resB every l k).length cr), (9, .int .i64 (stN every k : Nat)), (10, .bool (ordT l k)), (23, .slice A l.length c), (24, .int .i64 (l.length : Int)), (25, .int .i64 (k : Int))] ∧ k ≤ l.length ∧ St NoB w wr [.ow 5 Bd (bodyB every l k).length cb (bvs (bodyB every l k)), .ow 5 Rs (resB every l k).length cr (bvs (resB every l k))] ∧ mm = l.length - k)
    [(0, .int .i64 (every : Int)), (1, .slice A l.length c), (6, .int .i64 (checkE l : Nat)), (7, .slice none 0 0), (8, .slice none 0 0), (9, .int .i64 0), (10, .bool true), (23, .slice A l.length c), (24, .int .i64 (l.length : Int)), (25, .int .i64 (0 : Nat))] l.length ⟨0, none, 0, none, 0, rfl, by omega, hs, rfl⟩ ⟨rfl, rfl, rfl, rfl, rfl, rfl, rfl, rfl, rfl, rfl, trivial⟩ ?_
  clear hs
  rintro _ w2 mm ⟨k, Bd, cb, Rs, cr, rfl, hk, hs, rfl⟩
  have hbm := body_max (every := every) hz k hk
  have hrm := resB_max every l k
  have hsn := stN_le every k
  refine wc_sr ?_; refine wl_bin rfl rfl bin_lss rfl ?_; refine wl_ns ?_; refine wc_seq ?_
  refine wc_cond rfl (fun h1 => ?_) (fun h1 => ?_)
  · obtain ⟨x, hx⟩ : ∃ x, l[k]? = some x := ⟨_, List.getElem?_eq_getElem (by omega)⟩
    obtain ⟨z1, z2, z3⟩ := hz _ (List.mem_of_getElem? hx)
    obtain ⟨s1, s2⟩ := shrN_le (every := every) hx
    have hent := (entB_length x _ s1 (by omega) (by omega) z3).1
    obtain ⟨b, o, cs, rfl, _, _, hp, i0⟩ := RdR.at (k := 4) (by decide) hr (E := enEl x) (i := k) (by rw [List.getElem?_map, hx]; rfl)
    obtain ⟨X, cx, X2, cx2, rfl, rx, hcx, rx2, hcx2⟩ := enEl.rd hp
    have i1 := i0.below hs.bel
    refine wc_skip ?_; refine we_seq ?_; refine wc_seq ?_; refine wc_block ?_; refine wc_sr ?_; refine wl_mv rfl rfl ?_; apply wl_val; apply opv_idxG tkE; exact rfl; exact rfl; exact rfl; omega; exact rfl; apply wl_val; apply opv_ldG; exact rfl; assumption; exact sE; exact rfl
    refine ws_new hs zeroE rfl ?_; clear hs; intro g12 _ hs
    unfold zE at hs
    refine wl_as rfl rfl ?_; apply ws_stS hs 0; exact rfl; exact rfl; exact rfl; exact sE; exact rfl; exact rfl; clear hs; intro _ hs; dsimp only [setC] at hs; refine wl_ns ?_; refine wc_sr ?_; refine wl_as rfl rfl ?_; refine wl_ns ?_; refine wc_seq ?_; refine wc_sr ?_; refine wl_mv rfl rfl ?_; refine wl_mv rfl rfl ?_; apply wl_val; apply opv_bin; exact rfl; exact rfl; exact bin_rem (by omega); exact rfl; refine wl_bin rfl rfl bin_eql rfl ?_; refine wl_ns ?_
    refine wc_cutE (fun L' w' => ∃ (Rs : Option Addr) (cr : Nat), L' = [(0, .int .i64 (every : Int)), (1, .slice (some ⟨b, o, none⟩) l.length c), (6, .int .i64 (checkE l : Nat)), (7, .slice Bd (bodyB every l k).length cb), (8, .slice Rs (resB every l (k + 1)).length cr), (9, .int .i64 (stN every (k + 1) : Nat)), (10, .bool (ordT l k)), (11, .int .i64 (k : Int)), (12, .pointer (some ⟨g12, 0, none⟩)), (13, .int .i64 (shrN every l k : Nat)), (23, .slice (some ⟨b, o, none⟩) l.length c), (24, .int .i64 (l.length : Int)), (25, .int .i64 (k : Int))] ∧ St NoB w w' [.blk g12 31 (enV x X cx X2 cx2), .ow 5 Bd (bodyB every l k).length cb (bvs (bodyB every l k)), .ow 5 Rs (resB every l (k + 1)).length cr (bvs (resB every l (k + 1)))]) ?_ ?_
    · by_cases hm : k % every = 0
      · have hm' : ((k % every : Nat) : Int) = 0 := by omega
        have e1 : resB every l (k + 1) = resB every l k ++ four (bodyB every l k).length := by rw [resB, if_pos hm]
        have e2 : stN every (k + 1) = stN every k + 1 := by rw [stN, if_pos hm]
        have e3 : shrN every l k = 0 := by rw [shrN, if_pos hm]
        have e4 : (resB every l (k + 1)).length = (resB every l k).length + 4 := by rw [e1, List.length_append, four_length]
        apply wc_decT; exact rfl; (with_reducible assumption); refine wc_region ?_; refine wl_mv rfl rfl ?_; refine wl_mv rfl rfl ?_; apply wl_val; apply opv_len; exact rfl; exact tyB.sl; exact rfl
        refine wl_call ok_block_put4 (put4_any (bodyB every l k).length (by omega) _) ⟨rfl, trivial⟩ rfl ?_
        rintro _ w4 ⟨F, cF, rfl, _, rF, hbx⟩
        replace hs := hs.below hbx
        clear hbx
        have rF' : Rd w4 F 4 (bvs (four (bodyB every l k).length)) := by have := rF; unfold RdB at this; rw [four_length] at this; exact this
        skip
        refine ws_app (ys := bvs (four (bodyB every l k).length)) (m := 4) hs 2 rfl rfl tyB rfl rF' (bvs_one _) (by omega) (by simp only [maxLen]; omega) rfl ?_
        clear hs; intro Rs2 cr2 w5 hs; dsimp only [setC] at hs
        rw [← bvs_append, ← e1, ← e4] at hs
        rw [← e4]
        refine wl_mv rfl rfl ?_; apply wl_val; apply opv_bin; exact rfl; exact rfl; exact bin_add64 (by omega); exact rfl; refine wl_as rfl rfl ?_; refine wl_as rfl rfl ?_; refine wl_nil ?_
        exact we_cut _ ⟨Rs2, cr2, rfl, hs⟩ ⟨rfl, rfl, rfl, rfl, rfl, congrArg (fun z : Int => some (Value.int .i64 z)) (show (stN every k : Int) + 1 = ((stN every (k + 1) : Nat) : Int) by rw [e2]; omega), rfl, rfl, rfl, congrArg (fun z : Nat => some (Value.int .i64 (z : Int))) e3.symm, rfl, rfl, rfl, trivial⟩
      · have hm' : ¬ ((k % every : Nat) : Int) = 0 := by omega
        have e1 : resB every l (k + 1) = resB every l k := by rw [resB, if_neg hm, List.append_nil]
        have e2 : stN every (k + 1) = stN every k := by rw [stN, if_neg hm]; rfl
        obtain ⟨j, rfl⟩ : ∃ j, k = j + 1 := ⟨k - 1, by
          rcases Nat.eq_zero_or_pos k with h | h
          · subst h; exact absurd (Nat.zero_mod _) hm
          · omega⟩
        obtain ⟨y, hy⟩ : ∃ y, l[j]? = some y := ⟨_, List.getElem?_eq_getElem (by omega)⟩
        obtain ⟨y1, y2, y3⟩ := hz _ (List.mem_of_getElem? hy)
        have e3 : shrN every l (j + 1) = comN y.key x.key := by rw [shrN, if_neg hm, prevK_succ hy, hx]; rfl
        rw [e1, e2, e3]
        obtain ⟨b', o', cs, hA', _, _, hp, j0⟩ := RdR.at (k := 4) (by decide) hr (E := enEl y) (i := j) (by rw [List.getElem?_map, hy]; rfl)
        simp only [Option.some.injEq, Addr.mk.injEq, and_true] at hA'
        obtain ⟨rfl, rfl⟩ := hA'
        obtain ⟨Y, cy, Y2, cy2, rfl, ry, _, _, _⟩ := enEl.rd hp
        have j1 := j0.below hs.bel
        unfold enV at j1
        unfold enV at hs
        have a12 := hs.ar 0 rfl
        have hbw := hs.bel
        apply wc_decF; exact rfl; (with_reducible assumption)
        refine wc_drawB mixed (by kernel_rfl) ?_
        apply wq_val; intro _ hw_; apply opv_move; exact rfl; exact rfl; apply wq_val; intro _ hw_; apply opv_move; exact rfl; exact rfl; apply wq_val; intro _ hw_; apply opv_bin; exact rfl; exact rfl; exact bin_sub64 (by omega); exact rfl; apply wq_val; intro _ hw_; apply opv_idxG tkE; exact rfl; exact rfl; exact natc_pred; omega; exact rfl; apply wq_val; intro _ hw_; apply opv_fa; exact fa_sE (by decide); exact rfl; exact rfl; apply wq_val; intro _ hw_; apply opv_ldW; exact rfl; exact Wi.below (by assumption) hw_; exact e1_by; exact rfl; exact rfl; apply wq_val; intro _ hw_; apply opv_fa; exact fa_sE (by decide); exact rfl; exact rfl; apply wq_val; intro _ hw_; apply opv_ldX; exact rfl; exact Ar.bel (by assumption) hw_; exact e1_by; exact rfl; exact rfl
        refine wq_call (v := .int .i64 (comN y.key x.key : Nat)) ok_block_common (fun w' hw => (common_any ((ry.below hbw).below hw) rfl ((rx.below hbw).below hw) rfl (by omega) (by omega)).mono fun v w2 h2 => ⟨h2.1, hw.trans (h2.2.mono hw.size)⟩) ⟨rfl, rfl, trivial⟩ rfl ?_
        apply wq_val; intro _ hw_; apply opv_assign; exact rfl; exact rfl; refine wq_nil fun w1 hw1 => ?_
        replace hs := hs.below hw1
        skip
        exact we_cut _ ⟨Rs, cr, rfl, hs⟩ ⟨rfl, rfl, rfl, rfl, rfl, rfl, rfl, rfl, rfl, rfl, rfl, rfl, rfl, trivial⟩
    clear hs
    rintro _ w4 ⟨Rs, cr, rfl, hs⟩
    refine we_seq ?_; refine wc_seq ?_
    refine wc_cutE (fun L' w' => L' = [(0, .int .i64 (every : Int)), (1, .slice (some ⟨b, o, none⟩) l.length c), (6, .int .i64 (checkE l : Nat)), (7, .slice Bd (bodyB every l k).length cb), (8, .slice Rs (resB every l (k + 1)).length cr), (9, .int .i64 (stN every (k + 1) : Nat)), (10, .bool (ordT l (k + 1))), (12, .pointer (some ⟨g12, 0, none⟩)), (13, .int .i64 (shrN every l k : Nat)), (23, .slice (some ⟨b, o, none⟩) l.length c), (24, .int .i64 (l.length : Int)), (25, .int .i64 (k : Int))] ∧ St NoB w w' [.blk g12 31 (enV x X cx X2 cx2), .ow 5 Bd (bodyB every l k).length cb (bvs (bodyB every l k)), .ow 5 Rs (resB every l (k + 1)).length cr (bvs (resB every l (k + 1)))]) ?_ ?_
    · have hbw := hs.bel
      have a12 := hs.ar 0 rfl
      cases hot : ordT l k with
      | false =>
        have e1 : ordT l (k + 1) = false := by rw [ordT, hot]; rfl
        rw [e1]
        refine wc_drawB mixed (by kernel_rfl) ?_
        apply wq_val; intro _ hw_; apply opv_move; exact rfl; exact rfl; apply wq_val; intro _ hw_; apply opv_move; exact rfl; exact rfl; apply wq_skip; exact rfl; exact rfl; exact rfl; exact bR2; exact rfl; apply wq_skip; exact rfl; exact rfl; exact rfl; exact bR2; exact rfl; apply wq_skip; exact rfl; exact rfl; exact rfl; exact bR2; exact rfl; apply wq_skipU; exact rfl; exact rfl; exact rfl; exact rfl; apply wq_skipU; exact rfl; exact rfl; exact rfl; exact rfl; apply wq_skipU; exact rfl; exact rfl; exact rfl; exact rfl; apply wq_skipU; exact rfl; exact rfl; exact rfl; exact rfl; apply wq_skipU; exact rfl; exact rfl; exact rfl; exact rfl; apply wq_skipU; exact rfl; exact rfl; exact rfl; exact rfl; apply wq_skipU; exact rfl; exact rfl; exact rfl; exact rfl; apply wq_skip; exact rfl; exact rfl; exact rfl; exact bR2; exact rfl; apply wq_val; intro _ hw_; apply opv_pickF; exact rfl; exact rfl; exact rfl; exact rfl; apply wq_val; intro _ hw_; apply opv_assign; exact rfl; exact rfl; refine wq_nil fun w1 hw1 => ?_
        replace hs := hs.below hw1
        skip
        exact we_cut _ ⟨rfl, hs⟩ ⟨rfl, rfl, rfl, rfl, rfl, rfl, rfl, rfl, rfl, rfl, rfl, rfl, trivial⟩
      | true =>
        cases k with
        | zero =>
          have e1 : ordT l (0 + 1) = true := rfl
          have hz0 : ((0 : Nat) : Int) = 0 := rfl
          rw [e1]
          refine wc_drawB mixed (by kernel_rfl) ?_
          apply wq_val; intro _ hw_; apply opv_move; exact rfl; exact rfl; apply wq_val; intro _ hw_; apply opv_move; exact rfl; exact rfl; apply wq_take; exact rfl; exact rfl; exact rfl; exact rfl; apply wq_val; intro _ hw_; apply opv_move; exact rfl; exact rfl; apply wq_take; exact rfl; exact rfl; exact rfl; exact rfl; apply wq_val; intro _ hw_; apply opv_bin; exact rfl; exact rfl; exact bin_eql; exact rfl; apply wq_take; exact rfl; exact rfl; exact rfl; exact rfl; apply wq_val; intro _ hw_; apply opv_move; exact rfl; exact rfl; apply wq_skip; exact rfl; exact rfl; exact rfl; refine bTn ?_; (with_reducible assumption); exact rfl; apply wq_skip; exact rfl; exact rfl; exact rfl; refine bTn ?_; (with_reducible assumption); exact rfl; apply wq_skip; exact rfl; exact rfl; exact rfl; refine bTn ?_; (with_reducible assumption); exact rfl; apply wq_skip; exact rfl; exact rfl; exact rfl; refine bTn ?_; (with_reducible assumption); exact rfl; apply wq_skip; exact rfl; exact rfl; exact rfl; refine bTn ?_; (with_reducible assumption); exact rfl; apply wq_skip; exact rfl; exact rfl; exact rfl; refine bTn ?_; (with_reducible assumption); exact rfl; apply wq_skip; exact rfl; exact rfl; exact rfl; refine bTn ?_; (with_reducible assumption); exact rfl; apply wq_take; exact rfl; exact rfl; exact rfl; exact rfl; apply wq_val; intro _ hw_; apply opv_pickT; exact rfl; refine bT ?_; (with_reducible assumption); exact rfl; exact rfl; apply wq_val; intro _ hw_; apply opv_pickT; exact rfl; exact rfl; exact rfl; exact rfl; apply wq_val; intro _ hw_; apply opv_assign; exact rfl; exact rfl; refine wq_nil fun w1 hw1 => ?_
          replace hs := hs.below hw1
          skip
          exact we_cut _ ⟨rfl, hs⟩ ⟨rfl, rfl, rfl, rfl, rfl, rfl, rfl, rfl, rfl, rfl, rfl, rfl, trivial⟩
        | succ j =>
          have hz0 : ¬ ((j + 1 : Nat) : Int) = 0 := by omega
          obtain ⟨y, hy⟩ : ∃ y, l[j]? = some y := ⟨_, List.getElem?_eq_getElem (by omega)⟩
          obtain ⟨b', o', cs, hA', _, _, hp, j0⟩ := RdR.at (k := 4) (by decide) hr (E := enEl y) (i := j) (by rw [List.getElem?_map, hy]; rfl)
          simp only [Option.some.injEq, Addr.mk.injEq, and_true] at hA'
          obtain ⟨rfl, rfl⟩ := hA'
          obtain ⟨Y, cy, Y2, cy2, rfl, ry, _, _, _⟩ := enEl.rd hp
          have j1 := j0.below hs.bel
          have e1 : ordT l (j + 1 + 1) = lessE y x := by rw [ordT, hot, stepO, hy, hx]; rfl
          rw [e1]
          refine wc_drawB mixed (by kernel_rfl) ?_
          apply wq_val; intro _ hw_; apply opv_move; exact rfl; exact rfl; apply wq_val; intro _ hw_; apply opv_move; exact rfl; exact rfl; apply wq_take; exact rfl; exact rfl; exact rfl; exact rfl; apply wq_val; intro _ hw_; apply opv_move; exact rfl; exact rfl; apply wq_take; exact rfl; exact rfl; exact rfl; exact rfl; apply wq_val; intro _ hw_; apply opv_bin; exact rfl; exact rfl; exact bin_eql; exact rfl; apply wq_take; exact rfl; exact rfl; exact rfl; exact rfl; apply wq_val; intro _ hw_; apply opv_move; exact rfl; exact rfl; apply wq_take; exact rfl; exact rfl; exact rfl; refine bF ?_; (with_reducible assumption); apply wq_val; intro _ hw_; apply opv_move; exact rfl; exact rfl; apply wq_take; exact rfl; exact rfl; exact rfl; refine bF ?_; (with_reducible assumption); apply wq_val; intro _ hw_; apply opv_move; exact rfl; exact rfl; apply wq_take; exact rfl; exact rfl; exact rfl; refine bF ?_; (with_reducible assumption); apply wq_val; intro _ hw_; apply opv_bin; exact rfl; exact rfl; exact bin_sub64 (by omega); exact rfl; apply wq_take; exact rfl; exact rfl; exact rfl; refine bF ?_; (with_reducible assumption); apply wq_val; intro _ hw_; apply opv_idxG tkE; exact rfl; exact rfl; exact natc_pred; omega; exact rfl; apply wq_take; exact rfl; exact rfl; exact rfl; refine bF ?_; (with_reducible assumption); apply wq_val; intro _ hw_; apply opv_ldG; exact rfl; exact Wi.below (by assumption) hw_; exact sE; exact rfl; apply wq_take; exact rfl; exact rfl; exact rfl; refine bF ?_; (with_reducible assumption); apply wq_val; intro _ hw_; apply opv_loadX; exact rfl; exact Ar.bel (by assumption) hw_; exact sE; exact rfl; apply wq_take; exact rfl; exact rfl; exact rfl; refine bF ?_; (with_reducible assumption)
          refine wq_call (v := .bool (lessE y x)) ok_mem_Less (fun w' hw => (less_any ((ry.below hbw).below hw) ((rx.below hbw).below hw)).mono fun v w2 h2 => ⟨h2.1, hw.trans (h2.2.mono hw.size)⟩) ⟨rfl, rfl, trivial⟩ rfl ?_
          apply wq_take; exact rfl; exact rfl; exact rfl; exact rfl; apply wq_val; intro _ hw_; apply opv_pickF; exact rfl; refine bF ?_; (with_reducible assumption); exact rfl; exact rfl; apply wq_val; intro _ hw_; apply opv_pickT; exact rfl; exact rfl; exact rfl; exact rfl; apply wq_val; intro _ hw_; apply opv_assign; exact rfl; exact rfl; refine wq_nil fun w1 hw1 => ?_
          replace hs := hs.below hw1
          skip
          exact we_cut _ ⟨rfl, hs⟩ ⟨rfl, rfl, rfl, rfl, rfl, rfl, rfl, rfl, rfl, rfl, rfl, rfl, trivial⟩
    clear hs
    rintro _ w5 ⟨rfl, hs⟩
    refine we_seq ?_; refine wc_region ?_; refine wl_mv rfl rfl ?_; apply wl_val; apply opv_loadX; exact rfl; exact hs.ar 0 rfl; exact sE; exact rfl; refine wl_mv rfl rfl ?_
    refine wl_call ok_block_entry (blockEntry_any (x := x) (s := shrN every l k) (rx.below hs.bel) hcx (rx2.below hs.bel) hcx2 s1 (by omega) (by omega) z3) ⟨rfl, rfl, trivial⟩ rfl ?_
    rintro _ w6 ⟨E, cE, rfl, n_, hbx⟩
    replace hs := hs.below hbx
    clear hbx
    have hbs := bodyB_succ (every := every) hx
    have hbl : (bodyB every l (k + 1)).length = (bodyB every l k).length + (entB x (shrN every l k)).length := by rw [hbs, List.length_append]
    skip
    refine ws_app (ys := bvs (entB x (shrN every l k))) (m := (entB x (shrN every l k)).length) hs 1 rfl rfl tyB rfl n_.rd (bvs_one _) (by omega) (by simp only [maxLen]; omega) rfl ?_
    clear hs n_; intro Bd2 cb2 w7 hs; dsimp only [setC] at hs
    rw [← bvs_append, ← hbs, ← hbl] at hs
    rw [← hbl]
    refine wl_as rfl rfl ?_; refine wl_nil ?_; refine we_block_norm ?_; refine we_seq ?_; refine wc_region ?_; apply wl_val; apply opv_bin; exact rfl; exact rfl; exact bin_add64 (by omega); exact rfl; refine wl_mv rfl rfl ?_; refine wl_nil ?_
    exact we_loop _ (l.length - (k + 1)) ⟨k + 1, Bd2, cb2, Rs, cr, rfl, by omega, hs.drop 0 rfl, rfl⟩ (by omega) ⟨rfl, rfl, rfl, rfl, rfl, rfl, rfl, rfl, rfl, by simp [lookT], trivial⟩
  · obtain rfl : k = l.length := by omega
    rw [ordT_all]
    have h0 := ordT_all l
    refine wc_exit ?_; refine we_seq_exit ?_; refine we_loop_exit ?_; refine we_block_exit ?_; refine we_seq ?_; refine wc_sr ?_; refine wl_mv rfl rfl ?_; refine wl_mv rfl rfl ?_; refine wl_mv rfl rfl ?_
    refine wl_call ok_block_put4 (put4_any (stN every l.length) (by omega) _) ⟨rfl, trivial⟩ rfl ?_
    rintro _ w4 ⟨F, cF, rfl, hcF, rF, hbx⟩
    replace hs := hs.below hbx
    clear hbx
    have cB := ow_cap (hs.ow 0 rfl)
    have cR := ow_cap (hs.ow 1 rfl)
    skip
    refine wl_bs (vs := [.slice Bd (bodyB every l l.length).length cb, .slice Rs (resB every l l.length).length cr, .slice F 4 cF]) tyBB ⟨rfl, rfl, rfl, rfl, rfl, rfl, rfl, rfl, rfl, trivial⟩ rfl (by decide) rfl fun R w5 o_ hbx _ => ?_
    replace hs := hs.below hbx
    have hR : RdBB w5 R [bodyB every l l.length, resB every l l.length, four (stN every l.length)] := RdBB.three' o_.rd (hs.ow 0 rfl).rd rfl cB (hs.ow 1 rfl).rd rfl cR (rF.below hbx) (four_length _) (by rw [four_length]; exact hcF)
    have hfl : [bodyB every l l.length, resB every l l.length, four (stN every l.length)].flatten = blkB every l := by simp [blkB]
    clear hbx o_ rF
    refine wl_call ok_crc_Seal (seal_any hR rfl (Nat.le_refl _) (by rw [hfl, blkB_length]; omega) (by simp [maxLen])) ⟨rfl, trivial⟩ rfl ?_
    rw [hfl]
    rintro _ w6 ⟨J, cJ, rfl, n_, hbx⟩
    have hsz := hs.size
    replace hs := hs.below hbx
    have n1 := n_.mono hsz
    clear hbx n_
    by_cases hse : (sealB (blkB every l)).2 = 0
    · rw [hse]
      by_cases hck : checkE l = 0
      · rw [hck]
        cases hoe : ordE l with
        | true =>
          have hbd : buildB every l = ((sealB (blkB every l)).1, 0) := by rw [buildB, if_neg hc2, if_pos hse, if_pos ⟨hck, hoe⟩]
          rw [hbd]
          refine wl_mv rfl rfl ?_; apply wl_val; apply opv_extract; exact rfl; exact rfl; exact rfl; apply wl_val; apply opv_extract; exact rfl; exact rfl; exact rfl; refine wl_as rfl rfl ?_; refine wl_as rfl rfl ?_; refine wl_ns ?_; refine wc_seq ?_; refine wc_sr ?_; refine wl_mv rfl rfl ?_; refine wl_bin rfl rfl bin_neq rfl ?_; refine wl_ns ?_; apply wc_condFb; exact rfl; exact rfl; refine wc_skip ?_; refine we_seq ?_; refine wc_seq ?_; refine wc_sr ?_; refine wl_mv rfl rfl ?_; refine wl_bin rfl rfl bin_neq rfl ?_; refine wl_mv rfl rfl ?_; apply wl_take; exact rfl; exact rfl; exact rfl; refine bF ?_; omega; refine wl_mv rfl rfl ?_; apply wl_take; exact rfl; exact rfl; exact rfl; refine bF ?_; omega; apply wl_val; apply opv_not; exact rfl; exact rfl; apply wl_val; apply opv_pickF; exact rfl; refine bF ?_; omega; exact rfl; exact rfl; refine wl_ns ?_; apply wc_condFb; exact rfl; exact Bool.not_true; refine wc_skip ?_; refine we_seq ?_; refine wc_sr ?_; refine wl_mv rfl rfl ?_; refine wl_as rfl rfl ?_; refine wl_as rfl rfl ?_; refine wl_ns ?_; refine wc_ret ?_
          exact we_ret2 rfl rfl rfl ⟨_, rfl, J, cJ, rfl, n1, hs.bel⟩
        | false =>
          have hbd : buildB every l = ([], 3) := by rw [buildB, if_neg hc2, if_pos hse, if_neg (by rw [hoe]; simp)]
          rw [hbd]
          refine wl_mv rfl rfl ?_; apply wl_val; apply opv_extract; exact rfl; exact rfl; exact rfl; apply wl_val; apply opv_extract; exact rfl; exact rfl; exact rfl; refine wl_as rfl rfl ?_; refine wl_as rfl rfl ?_; refine wl_ns ?_; refine wc_seq ?_; refine wc_sr ?_; refine wl_mv rfl rfl ?_; refine wl_bin rfl rfl bin_neq rfl ?_; refine wl_ns ?_; apply wc_condFb; exact rfl; exact rfl; refine wc_skip ?_; refine we_seq ?_; refine wc_seq ?_; refine wc_sr ?_; refine wl_mv rfl rfl ?_; refine wl_bin rfl rfl bin_neq rfl ?_; refine wl_mv rfl rfl ?_; apply wl_take; exact rfl; exact rfl; exact rfl; refine bF ?_; omega; refine wl_mv rfl rfl ?_; apply wl_take; exact rfl; exact rfl; exact rfl; refine bF ?_; omega; apply wl_val; apply opv_not; exact rfl; exact rfl; apply wl_val; apply opv_pickF; exact rfl; refine bF ?_; omega; exact rfl; exact rfl; refine wl_ns ?_; apply wc_condTb; exact rfl; exact Bool.not_false; refine wc_sr ?_; refine wl_as rfl rfl ?_; refine wl_as rfl rfl ?_; refine wl_ns ?_; refine wc_ret ?_; refine we_seq_ret ?_
          exact we_ret2 rfl rfl rfl ⟨_, rfl, none, 0, rfl, .inl ⟨rfl, rfl, rfl⟩, hs.bel⟩
      · have hck' : ((checkE l : Nat) : Int) ≠ 0 := by omega
        have hbd : buildB every l = ([], 3) := by rw [buildB, if_neg hc2, if_pos hse, if_neg (fun h => hck h.1)]
        rw [hbd]
        refine wl_mv rfl rfl ?_; apply wl_val; apply opv_extract; exact rfl; exact rfl; exact rfl; apply wl_val; apply opv_extract; exact rfl; exact rfl; exact rfl; refine wl_as rfl rfl ?_; refine wl_as rfl rfl ?_; refine wl_ns ?_; refine wc_seq ?_; refine wc_sr ?_; refine wl_mv rfl rfl ?_; refine wl_bin rfl rfl bin_neq rfl ?_; refine wl_ns ?_; apply wc_condFb; exact rfl; exact rfl; refine wc_skip ?_; refine we_seq ?_; refine wc_seq ?_; refine wc_sr ?_; refine wl_mv rfl rfl ?_; refine wl_bin rfl rfl bin_neq rfl ?_; refine wl_mv rfl rfl ?_; apply wl_skip; exact rfl; exact rfl; exact rfl; refine bTn ?_; (with_reducible assumption); exact rfl; apply wl_skip; exact rfl; exact rfl; exact rfl; refine bTn ?_; (with_reducible assumption); exact rfl; apply wl_val; apply opv_pickT; exact rfl; refine bT ?_; (with_reducible assumption); exact rfl; exact rfl; refine wl_ns ?_; apply wc_condTb; exact rfl; exact rfl; refine wc_sr ?_; refine wl_as rfl rfl ?_; refine wl_as rfl rfl ?_; refine wl_ns ?_; refine wc_ret ?_; refine we_seq_ret ?_
        exact we_ret2 rfl rfl rfl ⟨_, rfl, none, 0, rfl, .inl ⟨rfl, rfl, rfl⟩, hs.bel⟩
    · have hse' : (((sealB (blkB every l)).2 : Nat) : Int) ≠ 0 := by omega
      have hbd : buildB every l = ([], (sealB (blkB every l)).2) := by rw [buildB, if_neg hc2, if_neg hse]
      rw [hbd]
      refine wl_mv rfl rfl ?_; apply wl_val; apply opv_extract; exact rfl; exact rfl; exact rfl; apply wl_val; apply opv_extract; exact rfl; exact rfl; exact rfl; refine wl_as rfl rfl ?_; refine wl_as rfl rfl ?_; refine wl_ns ?_; refine wc_seq ?_; refine wc_sr ?_; refine wl_mv rfl rfl ?_; refine wl_bin rfl rfl bin_neq rfl ?_; refine wl_ns ?_; apply wc_decT; exact rfl; (with_reducible assumption); refine wc_sr ?_; refine wl_mv rfl rfl ?_; refine wl_as rfl rfl ?_; refine wl_as rfl rfl ?_; refine wl_ns ?_; refine wc_ret ?_; refine we_seq_ret ?_
      exact we_ret2 rfl rfl rfl ⟨_, rfl, none, 0, rfl, .inl ⟨rfl, rfl, rfl⟩, hs.bel⟩
end Go.Proofs.YtdgagffieobiiaaGreatDoor

/-
  Walks over number and take of the reader of blocks.
-/
namespace Go.Proofs.YtdgagffieobiiaaGreatDoor
open Go.RowKit

theorem fa_R {k : Nat} (h : k < 4) : FieldAt Tryz.prog 147 k k := by
  match k, h with
  | 0, _ => exact fieldAt_mk Tryz.underlying147 rfl rfl (by kernel_rfl)
  | 1, _ => exact fieldAt_mk Tryz.underlying147 rfl rfl (by kernel_rfl)
  | 2, _ => exact fieldAt_mk Tryz.underlying147 rfl rfl (by kernel_rfl)
  | 3, _ => exact fieldAt_mk Tryz.underlying147 rfl rfl (by kernel_rfl)
theorem e1_iB : Cell1 Tryz.prog 3 := ⟨by kernel_rfl, by rw [Tryz.underlying3]⟩
theorem e1_bB : Cell1 Tryz.prog 4 := ⟨by kernel_rfl, by rw [Tryz.underlying4]⟩
/-- A reader's cells. -/
def rdV (A : Option Addr) (n c : Nat) (p : Int) (K : Option Addr) (kn kc : Nat) (f : Bool) : List Value := [.slice A n c, .int .i64 p, .slice K kn kc, .bool f]
/-- What number answers, and the place and the flag behind it. -/
def numF (xs : List UInt8) (p : Int) (f : Bool) : Nat × Int × Bool := if f then (0, p, true) else ((getU xs p).1, (getU xs p).2.1, decide (¬ (getU xs p).2.2 = 0))
/-- What take answers, and the place and the flag behind it. -/
def takF (xs : List UInt8) (p : Int) (f : Bool) (n : Nat) : List UInt8 × Int × Bool := if f = true ∨ xs.length - p.toNat < n then ([], p, true) else ((xs.drop p.toNat).take n, p + n, false)
theorem getU_rng {b : List UInt8} {p p1 : Int} {v e : Nat} (h : getU b p = (v, p1, e)) : v < 2 ^ 64 ∧ 0 ≤ p1 ∧ p1 ≤ b.length ∧ (¬ e = 0 → v = 0) := by
  cases e with
  | zero =>
    have h1 := getU_adv h
    obtain ⟨q, k, hq, hk, hqk, hkl, _, hv⟩ := getU_inv h
    exact ⟨by omega, by omega, by omega, fun h => absurd rfl h⟩
  | succ e =>
    rw [getU] at h
    split at h
    · simp only [Prod.mk.injEq] at h
      obtain ⟨rfl, rfl, _⟩ := h
      exact ⟨by decide, Int.le_refl _, by omega, fun _ => rfl⟩
    · split at h
      · simp at h
      · simp only [Prod.mk.injEq] at h
        obtain ⟨rfl, rfl, _⟩ := h
        exact ⟨by decide, Int.le_refl _, by omega, fun _ => rfl⟩
theorem numF_rng {xs : List UInt8} {p : Int} {f : Bool} (hp : 0 ≤ p ∧ p ≤ xs.length) : (numF xs p f).1 < 2 ^ 64 ∧ 0 ≤ (numF xs p f).2.1 ∧ (numF xs p f).2.1 ≤ xs.length := by
  unfold numF
  cases f with
  | true => exact ⟨Nat.zero_lt_succ _, hp⟩
  | false =>
    have := getU_rng (b := xs) (p := p) rfl
    exact ⟨this.1, this.2.1, this.2.2.1⟩
theorem takF_rng {xs : List UInt8} {p : Int} {f : Bool} {n : Nat} (hp : 0 ≤ p ∧ p ≤ xs.length) : 0 ≤ (takF xs p f n).2.1 ∧ (takF xs p f n).2.1 ≤ xs.length := by
  unfold takF
  split
  · exact hp
  · rename_i h
    have : ¬ xs.length - p.toNat < n := fun h' => h (.inr h')
    simp only
    omega
set_option maxRecDepth 8000 in
theorem number_any {S : BS} {g n c kn kc : Nat} {A K : Option Addr} {xs : List UInt8} {p : Int} {f : Bool} {w : World} (h0 : Sat w [.blk g 147 (rdV A n c p K kn kc f)] S) (hb : ∀ w', Mod S w w' → RdB w' A xs) (hn : xs.length = n) (hl : xs.length ≤ 1099511627776) (hp : 0 ≤ p ∧ p ≤ xs.length) :
    CallsV Tryz.prog 112 #[.pointer (some ⟨g, 0, none⟩)] w fun v w' => v = .int .u64 ((numF xs p f).1 : Nat) ∧ St S w w' [.blk g 147 (rdV A n c (numF xs p f).2.1 K kn kc (numF xs p f).2.2)] := by
  subst hn
  have hs := St.start h0
  unfold rdV at hs
  refine calls_in (N := _) Tryz.func112 rfl Tryz.ntmps112 rfl ?_; show WC _ _ _ _ _ _
  cases f with
  | true =>
    refine wc_sr ?_; refine wl_as rfl rfl ?_; refine wl_ns ?_; refine wc_seq ?_; refine wc_sr ?_; refine wl_mv rfl rfl ?_; apply wl_val; apply opv_nilOk; exact rfl; exact rfl; apply wl_val; apply opv_fa; exact fa_R (by decide); exact rfl; exact rfl; apply wl_val; apply opv_ldX; exact rfl; exact hs.ar 0 rfl; exact e1_bB; exact rfl; exact rfl; refine wl_ns ?_; apply wc_condTb; exact rfl; exact rfl; refine wc_sr ?_; refine wl_as rfl rfl ?_; refine wl_ns ?_; refine wc_ret ?_; refine we_seq_ret ?_
    exact we_ret1 rfl rfl ⟨_, rfl, rfl, hs⟩
  | false =>
    refine wc_sr ?_; refine wl_as rfl rfl ?_; refine wl_ns ?_; refine wc_seq ?_; refine wc_sr ?_; refine wl_mv rfl rfl ?_; apply wl_val; apply opv_nilOk; exact rfl; exact rfl; apply wl_val; apply opv_fa; exact fa_R (by decide); exact rfl; exact rfl; apply wl_val; apply opv_ldX; exact rfl; exact hs.ar 0 rfl; exact e1_bB; exact rfl; exact rfl; refine wl_ns ?_; apply wc_condFb; exact rfl; exact rfl; refine wc_skip ?_; refine we_seq ?_; refine wc_seq ?_
    obtain ⟨v, p1, e, hg⟩ : ∃ v p1 e, getU xs p = (v, p1, e) := ⟨_, _, _, rfl⟩
    have e1 : (numF xs p false).1 = v := by rw [numF, if_neg (by decide), hg]
    have e2 : (numF xs p false).2.1 = p1 := by rw [numF, if_neg (by decide), hg]
    have e3 : (numF xs p false).2.2 = decide (¬ e = 0) := by rw [numF, if_neg (by decide), hg]
    rw [e1, e2, e3]
    have hrng := getU_rng hg
    have hbw := hb _ hs.1
    refine wc_drawB mixed (by kernel_rfl) ?_
    apply wq_val; intro _ hw_; apply opv_move; exact rfl; exact rfl; apply wq_val; intro _ hw_; apply opv_nilOk; exact rfl; exact rfl; apply wq_val; intro _ hw_; apply opv_fa; exact fa_R (by decide); exact rfl; exact rfl; apply wq_val; intro _ hw_; apply opv_ldX; exact rfl; exact Ar.bel (hs.ar 0 rfl) hw_; exact e1_by; exact rfl; exact rfl; apply wq_val; intro _ hw_; apply opv_move; exact rfl; exact rfl; apply wq_val; intro _ hw_; apply opv_nilOk; exact rfl; exact rfl; apply wq_val; intro _ hw_; apply opv_fa; exact fa_R (by decide); exact rfl; exact rfl; apply wq_val; intro _ hw_; apply opv_ldX; exact rfl; exact Ar.bel (hs.ar 0 rfl) hw_; exact e1_iB; exact rfl; exact rfl
    refine wq_call (v := .tuple #[.int .u64 (v : Int), .int .i64 p1, .int .i64 (e : Int)]) ok_codec_GetU (fun w' hw => (getU_at hg (hbw.below hw) rfl (by simp only [maxLen]; omega) (by omega)).mono fun v w2 h2 => ⟨h2.1, hw.trans (h2.2.mono hw.size)⟩) ⟨rfl, rfl, trivial⟩ rfl ?_
    apply wq_val; intro _ hw_; apply opv_move; exact rfl; exact rfl; apply wq_val; intro _ hw_; apply opv_extract; exact rfl; exact rfl; exact rfl; apply wq_val; intro _ hw_; apply opv_extract; exact rfl; exact rfl; exact rfl; apply wq_val; intro _ hw_; apply opv_extract; exact rfl; exact rfl; exact rfl; apply wq_val; intro _ hw_; apply opv_assign; exact rfl; exact rfl; apply wq_val; intro _ hw_; apply opv_assign; exact rfl; exact rfl; apply wq_val; intro _ hw_; apply opv_assign; exact rfl; exact rfl; refine wq_nil fun w1 hw1 => ?_
    replace hs := hs.below hw1
    by_cases he : e = 0
    · subst he
      refine we_seq ?_; refine wc_seq ?_; refine wc_sr ?_; refine wl_mv rfl rfl ?_; refine wl_bin rfl rfl bin_neq rfl ?_; refine wl_ns ?_; apply wc_condFb; exact rfl; exact rfl; refine wc_skip ?_; refine we_seq ?_; refine wc_sr ?_; refine wl_mv rfl rfl ?_; refine wl_mv rfl rfl ?_; apply wl_val; apply opv_nilOk; exact rfl; exact rfl; apply wl_val; apply opv_fa; exact fa_R (by decide); exact rfl; exact rfl; apply ws_st hs 0; exact rfl; exact rfl; exact e1_iB; exact rfl; exact rfl; exact rfl; clear hs; intro _ hs; dsimp only [setC, List.set] at hs; refine wl_ns ?_; refine wc_sr ?_; refine wl_mv rfl rfl ?_; refine wl_as rfl rfl ?_; refine wl_ns ?_; refine wc_ret ?_
      exact we_ret1 rfl rfl ⟨_, rfl, rfl, hs⟩
    · have he' : ((e : Nat) : Int) ≠ 0 := by omega
      rw [show decide (¬ e = 0) = true from decide_eq_true he]
      refine we_seq ?_; refine wc_seq ?_; refine wc_sr ?_; refine wl_mv rfl rfl ?_; refine wl_bin rfl rfl bin_neq rfl ?_; refine wl_ns ?_; apply wc_decT; exact rfl; (with_reducible assumption); refine wc_region ?_; refine wl_mv rfl rfl ?_; apply wl_val; apply opv_nilOk; exact rfl; exact rfl; apply wl_val; apply opv_fa; exact fa_R (by decide); exact rfl; exact rfl; apply ws_st hs 0; exact rfl; exact rfl; exact e1_bB; exact rfl; exact rfl; exact rfl; clear hs; intro _ hs; dsimp only [setC, List.set] at hs; refine wl_ns ?_; refine wc_sr ?_; refine wl_mv rfl rfl ?_; refine wl_mv rfl rfl ?_; apply wl_val; apply opv_nilOk; exact rfl; exact rfl; apply wl_val; apply opv_fa; exact fa_R (by decide); exact rfl; exact rfl; apply ws_st hs 0; exact rfl; exact rfl; exact e1_iB; exact rfl; exact rfl; exact rfl; clear hs; intro _ hs; dsimp only [setC, List.set] at hs; refine wl_ns ?_; refine wc_sr ?_; refine wl_mv rfl rfl ?_; refine wl_as rfl rfl ?_; refine wl_ns ?_; refine wc_ret ?_
      exact we_ret1 rfl rfl ⟨_, rfl, rfl, hs⟩
theorem cutB_rd {w : World} {A : Option Addr} {xs : List UInt8} {c l h : Nat} (hr : RdB w A xs) (h1 : l ≤ h) (h2 : h ≤ xs.length) (hc : xs.length ≤ c) : RdB w (cutA A c l) ((xs.take h).drop l) := by
  have hr := Rd.cut (l := l) (h := h) (c := c) hr h1 h2 hc
  have e : ((bvs xs).take h).drop l = bvs ((xs.take h).drop l) := by rw [bvs, bvs, List.map_drop, List.map_take]
  rw [e] at hr
  unfold RdB
  rw [List.length_drop, List.length_take, Nat.min_eq_left h2]
  exact hr
theorem take_drop_take (xs : List UInt8) (p n : Nat) : (xs.take (p + n)).drop p = (xs.drop p).take n := by rw [List.drop_take]; congr 1; omega
set_option maxRecDepth 8000 in
theorem take_any {S : BS} {g n c kn kc m : Nat} {A K : Option Addr} {xs : List UInt8} {p : Int} {f : Bool} {w : World} (h0 : Sat w [.blk g 147 (rdV A n c p K kn kc f)] S) (hb : ∀ w', Mod S w w' → RdB w' A xs) (hn : xs.length = n) (hc : n ≤ c) (hl : xs.length ≤ 1099511627776) (hp : 0 ≤ p ∧ p ≤ xs.length) (hm : m < 2 ^ 64) :
    CallsV Tryz.prog 113 #[.pointer (some ⟨g, 0, none⟩), .int .u64 (m : Int)] w fun v w' => (∃ (P : Option Addr) (pc : Nat), v = .slice P (takF xs p f m).1.length pc ∧ (takF xs p f m).1.length ≤ pc ∧ ∀ w'', RdB w'' A xs → RdB w'' P (takF xs p f m).1) ∧ St S w w' [.blk g 147 (rdV A n c (takF xs p f m).2.1 K kn kc (takF xs p f m).2.2)] := by
  subst hn
  obtain ⟨q, rfl⟩ := Int.eq_ofNat_of_zero_le hp.1
  have hs := St.start h0
  unfold rdV at hs
  have hq : ((xs.length : Int) - (q : Int)) = ((xs.length - q : Nat) : Int) := by omega
  refine calls_in (N := _) Tryz.func113 rfl Tryz.ntmps113 rfl ?_; show WC _ _ _ _ _ _
  cases f with
  | true =>
    have e1 : takF xs (q : Int) true m = ([], (q : Int), true) := by rw [takF, if_pos (.inl rfl)]
    rw [e1]
    refine wc_sr ?_; refine wl_as rfl rfl ?_; refine wl_ns ?_; refine wc_seq ?_; refine wc_seq ?_
    refine wc_drawB mixed (by kernel_rfl) ?_
    apply wq_val; intro _ hw_; apply opv_move; exact rfl; exact rfl; apply wq_val; intro _ hw_; apply opv_nilOk; exact rfl; exact rfl; apply wq_val; intro _ hw_; apply opv_fa; exact fa_R (by decide); exact rfl; exact rfl; apply wq_val; intro _ hw_; apply opv_ldX; exact rfl; exact Ar.bel (hs.ar 0 rfl) hw_; exact e1_bB; exact rfl; exact rfl; apply wq_val; intro _ hw_; apply opv_move; exact rfl; exact rfl; apply wq_skip; exact rfl; exact rfl; exact rfl; exact bR1; exact rfl; apply wq_skip; exact rfl; exact rfl; exact rfl; exact bR1; exact rfl; apply wq_skip; exact rfl; exact rfl; exact rfl; exact bR1; exact rfl; apply wq_skip; exact rfl; exact rfl; exact rfl; exact bR1; exact rfl; apply wq_skip; exact rfl; exact rfl; exact rfl; exact bR1; exact rfl; apply wq_skip; exact rfl; exact rfl; exact rfl; exact bR1; exact rfl; apply wq_skip; exact rfl; exact rfl; exact rfl; exact bR1; exact rfl; apply wq_skip; exact rfl; exact rfl; exact rfl; exact bR1; exact rfl; apply wq_skip; exact rfl; exact rfl; exact rfl; exact bR1; exact rfl; apply wq_skip; exact rfl; exact rfl; exact rfl; exact bR1; exact rfl; apply wq_skip; exact rfl; exact rfl; exact rfl; exact bR1; exact rfl; apply wq_skip; exact rfl; exact rfl; exact rfl; exact bR1; exact rfl; apply wq_skip; exact rfl; exact rfl; exact rfl; exact bR1; exact rfl; apply wq_val; intro _ hw_; apply opv_pickT; exact rfl; exact rfl; exact rfl; exact rfl; refine wq_nil fun w1 hw1 => ?_
    replace hs := hs.below hw1
    refine we_seq ?_; apply wc_condTb; exact rfl; exact rfl; refine wc_sr ?_; refine wl_mv rfl rfl ?_; apply wl_val; apply opv_nilOk; exact rfl; exact rfl; apply wl_val; apply opv_fa; exact fa_R (by decide); exact rfl; exact rfl; apply ws_st hs 0; exact rfl; exact rfl; exact e1_bB; exact rfl; exact rfl; exact rfl; clear hs; intro _ hs; dsimp only [setC, List.set] at hs; refine wl_ns ?_; refine wc_sr ?_; refine wl_as rfl rfl ?_; refine wl_ns ?_; refine wc_ret ?_; refine we_seq_ret ?_
    exact we_ret1 rfl rfl ⟨_, rfl, ⟨none, 0, rfl, Nat.zero_le _, fun _ _ => Rd.nil _ _⟩, hs⟩
  | false =>
    by_cases h1 : xs.length - q < m
    · have e1 : takF xs (q : Int) false m = ([], (q : Int), true) := by rw [takF, if_pos (.inr (by simpa using h1))]
      rw [e1]
      have h1' : ((xs.length - q : Nat) : Int) < (m : Int) := by omega
      refine wc_sr ?_; refine wl_as rfl rfl ?_; refine wl_ns ?_; refine wc_seq ?_; refine wc_seq ?_
      refine wc_drawB mixed (by kernel_rfl) ?_
      apply wq_val; intro _ hw_; apply opv_move; exact rfl; exact rfl; apply wq_val; intro _ hw_; apply opv_nilOk; exact rfl; exact rfl; apply wq_val; intro _ hw_; apply opv_fa; exact fa_R (by decide); exact rfl; exact rfl; apply wq_val; intro _ hw_; apply opv_ldX; exact rfl; exact Ar.bel (hs.ar 0 rfl) hw_; exact e1_bB; exact rfl; exact rfl; apply wq_val; intro _ hw_; apply opv_move; exact rfl; exact rfl; apply wq_take; exact rfl; exact rfl; exact rfl; exact rfl; apply wq_val; intro _ hw_; apply opv_move; exact rfl; exact rfl; apply wq_take; exact rfl; exact rfl; exact rfl; exact rfl; apply wq_val; intro _ hw_; apply opv_move; exact rfl; exact rfl; apply wq_take; exact rfl; exact rfl; exact rfl; exact rfl; apply wq_val; intro _ hw_; apply opv_nilOk; exact rfl; exact rfl; apply wq_take; exact rfl; exact rfl; exact rfl; exact rfl; apply wq_val; intro _ hw_; apply opv_fa; exact fa_R (by decide); exact rfl; exact rfl; apply wq_take; exact rfl; exact rfl; exact rfl; exact rfl; apply wq_val; intro _ hw_; apply opv_ldX; exact rfl; exact Ar.bel (hs.ar 0 rfl) hw_; exact e1_by; exact rfl; exact rfl; apply wq_take; exact rfl; exact rfl; exact rfl; exact rfl; apply wq_val; intro _ hw_; apply opv_len; exact rfl; exact tyB.sl; exact rfl; apply wq_take; exact rfl; exact rfl; exact rfl; exact rfl; apply wq_val; intro _ hw_; apply opv_move; exact rfl; exact rfl; apply wq_take; exact rfl; exact rfl; exact rfl; exact rfl; apply wq_val; intro _ hw_; apply opv_nilOk; exact rfl; exact rfl; apply wq_take; exact rfl; exact rfl; exact rfl; exact rfl; apply wq_val; intro _ hw_; apply opv_fa; exact fa_R (by decide); exact rfl; exact rfl; apply wq_take; exact rfl; exact rfl; exact rfl; exact rfl; apply wq_val; intro _ hw_; apply opv_ldX; exact rfl; exact Ar.bel (hs.ar 0 rfl) hw_; exact e1_iB; exact rfl; exact rfl; apply wq_take; exact rfl; exact rfl; exact rfl; exact rfl; apply wq_val; intro _ hw_; apply opv_bin; exact rfl; exact rfl; exact bin_sub64 (by omega); exact rfl; apply wq_take; exact rfl; exact rfl; exact rfl; exact rfl; apply wq_val; intro _ hw_; apply opv_convR; exact rfl; exact Tryz.underlying3; exact Tryz.underlying29; exact IntWalk.u64_in _ (by omega); exact rfl; apply wq_take; exact rfl; exact rfl; exact rfl; exact rfl; apply wq_val; intro _ hw_; apply opv_bin; exact rfl; exact rfl; exact bin_gtr; exact rfl; apply wq_val; intro _ hw_; apply opv_pickF; exact rfl; exact rfl; exact rfl; exact rfl; refine wq_nil fun w1 hw1 => ?_
      replace hs := hs.below hw1
      refine we_seq ?_; apply wc_decT; exact rfl; omega; refine wc_sr ?_; refine wl_mv rfl rfl ?_; apply wl_val; apply opv_nilOk; exact rfl; exact rfl; apply wl_val; apply opv_fa; exact fa_R (by decide); exact rfl; exact rfl; apply ws_st hs 0; exact rfl; exact rfl; exact e1_bB; exact rfl; exact rfl; exact rfl; clear hs; intro _ hs; dsimp only [setC, List.set] at hs; refine wl_ns ?_; refine wc_sr ?_; refine wl_as rfl rfl ?_; refine wl_ns ?_; refine wc_ret ?_; refine we_seq_ret ?_
      exact we_ret1 rfl rfl ⟨_, rfl, ⟨none, 0, rfl, Nat.zero_le _, fun _ _ => Rd.nil _ _⟩, hs⟩
    · have h2 : q + m ≤ xs.length := by omega
      have e1 : takF xs (q : Int) false m = ((xs.drop q).take m, (q : Int) + m, false) := by rw [takF, if_neg (by simp; omega)]; rfl
      have e2 : ((xs.drop q).take m).length = m := by simp; omega
      rw [e1, e2]
      have h1' : ¬ ((xs.length - q : Nat) : Int) < (m : Int) := by omega
      have hqm : (q : Int) + (m : Int) = ((q + m : Nat) : Int) := by omega
      have e3 : q + m - q = m := by omega
      refine wc_sr ?_; refine wl_as rfl rfl ?_; refine wl_ns ?_; refine wc_seq ?_; refine wc_seq ?_
      refine wc_drawB mixed (by kernel_rfl) ?_
      apply wq_val; intro _ hw_; apply opv_move; exact rfl; exact rfl; apply wq_val; intro _ hw_; apply opv_nilOk; exact rfl; exact rfl; apply wq_val; intro _ hw_; apply opv_fa; exact fa_R (by decide); exact rfl; exact rfl; apply wq_val; intro _ hw_; apply opv_ldX; exact rfl; exact Ar.bel (hs.ar 0 rfl) hw_; exact e1_bB; exact rfl; exact rfl; apply wq_val; intro _ hw_; apply opv_move; exact rfl; exact rfl; apply wq_take; exact rfl; exact rfl; exact rfl; exact rfl; apply wq_val; intro _ hw_; apply opv_move; exact rfl; exact rfl; apply wq_take; exact rfl; exact rfl; exact rfl; exact rfl; apply wq_val; intro _ hw_; apply opv_move; exact rfl; exact rfl; apply wq_take; exact rfl; exact rfl; exact rfl; exact rfl; apply wq_val; intro _ hw_; apply opv_nilOk; exact rfl; exact rfl; apply wq_take; exact rfl; exact rfl; exact rfl; exact rfl; apply wq_val; intro _ hw_; apply opv_fa; exact fa_R (by decide); exact rfl; exact rfl; apply wq_take; exact rfl; exact rfl; exact rfl; exact rfl; apply wq_val; intro _ hw_; apply opv_ldX; exact rfl; exact Ar.bel (hs.ar 0 rfl) hw_; exact e1_by; exact rfl; exact rfl; apply wq_take; exact rfl; exact rfl; exact rfl; exact rfl; apply wq_val; intro _ hw_; apply opv_len; exact rfl; exact tyB.sl; exact rfl; apply wq_take; exact rfl; exact rfl; exact rfl; exact rfl; apply wq_val; intro _ hw_; apply opv_move; exact rfl; exact rfl; apply wq_take; exact rfl; exact rfl; exact rfl; exact rfl; apply wq_val; intro _ hw_; apply opv_nilOk; exact rfl; exact rfl; apply wq_take; exact rfl; exact rfl; exact rfl; exact rfl; apply wq_val; intro _ hw_; apply opv_fa; exact fa_R (by decide); exact rfl; exact rfl; apply wq_take; exact rfl; exact rfl; exact rfl; exact rfl; apply wq_val; intro _ hw_; apply opv_ldX; exact rfl; exact Ar.bel (hs.ar 0 rfl) hw_; exact e1_iB; exact rfl; exact rfl; apply wq_take; exact rfl; exact rfl; exact rfl; exact rfl; apply wq_val; intro _ hw_; apply opv_bin; exact rfl; exact rfl; exact bin_sub64 (by omega); exact rfl; apply wq_take; exact rfl; exact rfl; exact rfl; exact rfl; apply wq_val; intro _ hw_; apply opv_convR; exact rfl; exact Tryz.underlying3; exact Tryz.underlying29; exact IntWalk.u64_in _ (by omega); exact rfl; apply wq_take; exact rfl; exact rfl; exact rfl; exact rfl; apply wq_val; intro _ hw_; apply opv_bin; exact rfl; exact rfl; exact bin_gtr; exact rfl; apply wq_val; intro _ hw_; apply opv_pickF; exact rfl; exact rfl; exact rfl; exact rfl; refine wq_nil fun w1 hw1 => ?_
      replace hs := hs.below hw1
      refine we_seq ?_; apply wc_decF; exact rfl; omega; refine wc_skip ?_; refine we_seq ?_; refine wc_seq ?_
      refine wc_drawB mixed (by kernel_rfl) ?_
      apply wq_val; intro _ hw_; apply opv_move; exact rfl; exact rfl; apply wq_val; intro _ hw_; apply opv_nilOk; exact rfl; exact rfl; apply wq_val; intro _ hw_; apply opv_fa; exact fa_R (by decide); exact rfl; exact rfl; apply wq_val; intro _ hw_; apply opv_ldX; exact rfl; exact Ar.bel (hs.ar 0 rfl) hw_; exact e1_by; exact rfl; exact rfl; apply wq_val; intro _ hw_; apply opv_move; exact rfl; exact rfl; apply wq_val; intro _ hw_; apply opv_nilOk; exact rfl; exact rfl; apply wq_val; intro _ hw_; apply opv_fa; exact fa_R (by decide); exact rfl; exact rfl; apply wq_val; intro _ hw_; apply opv_ldX; exact rfl; exact Ar.bel (hs.ar 0 rfl) hw_; exact e1_iB; exact rfl; exact rfl; apply wq_val; intro _ hw_; apply opv_move; exact rfl; exact rfl; apply wq_val; intro _ hw_; apply opv_nilOk; exact rfl; exact rfl; apply wq_val; intro _ hw_; apply opv_fa; exact fa_R (by decide); exact rfl; exact rfl; apply wq_val; intro _ hw_; apply opv_ldX; exact rfl; exact Ar.bel (hs.ar 0 rfl) hw_; exact e1_iB; exact rfl; exact rfl; apply wq_val; intro _ hw_; apply opv_move; exact rfl; exact rfl; apply wq_val; intro _ hw_; apply opv_convR; exact rfl; exact Tryz.underlying29; exact Tryz.underlying3; exact IntWalk.i64_in _ (by omega); exact rfl; apply wq_val; intro _ hw_; apply opv_bin; exact rfl; exact rfl; exact bin_add64 (by omega); exact rfl
      refine wq_val (fun _ _ => opv_slice (l := q) (h := q + m) tyB rfl ⟨_, rfl⟩ ⟨_, congrArg (fun z => some (Value.int .i64 z)) hqm⟩ (by omega) (by omega)) rfl ?_
      apply wq_val; intro _ hw_; apply opv_assign; exact rfl; exact rfl; refine wq_nil fun w1 hw1 => ?_
      replace hs := hs.below hw1
      rw [e3]
      refine we_seq ?_; refine wc_sr ?_; refine wl_mv rfl rfl ?_; apply wl_val; apply opv_nilOk; exact rfl; exact rfl; apply wl_val; apply opv_fa; exact fa_R (by decide); exact rfl; exact rfl; apply wl_val; apply opv_ldX; exact rfl; exact hs.ar 0 rfl; exact e1_iB; exact rfl; exact rfl; refine wl_mv rfl rfl ?_; apply wl_val; apply opv_convR; exact rfl; exact Tryz.underlying29; exact Tryz.underlying3; exact IntWalk.i64_in _ (by omega); exact rfl; apply wl_val; apply opv_bin; exact rfl; exact rfl; exact bin_add64 (by omega); exact rfl; apply wl_val; apply opv_nilOk; exact rfl; exact rfl; apply wl_val; apply opv_fa; exact fa_R (by decide); exact rfl; exact rfl; apply ws_st hs 0; exact rfl; exact rfl; exact e1_iB; exact rfl; exact rfl; exact rfl; clear hs; intro _ hs; dsimp only [setC, List.set] at hs; refine wl_ns ?_; refine wc_sr ?_; refine wl_mv rfl rfl ?_; refine wl_as rfl rfl ?_; refine wl_ns ?_; refine wc_ret ?_
      exact we_ret1 rfl rfl ⟨_, rfl, ⟨cutA A c q, c - q, rfl, by omega, fun w'' hm => by rw [← take_drop_take]; exact cutB_rd hm (by omega) h2 hc⟩, hs⟩
end Go.Proofs.YtdgagffieobiiaaGreatDoor

/-
  Walk over entry of the reader of blocks.
-/
namespace Go.Proofs.YtdgagffieobiiaaGreatDoor
open Go.RowKit

theorem numF_true {xs : List UInt8} {p : Int} : numF xs p true = (0, p, true) := rfl
theorem numF_false {xs : List UInt8} {p : Int} {f : Bool} {v : Nat} {p' : Int} (h : numF xs p f = (v, p', false)) : f = false ∧ getU xs p = (v, p', 0) := by
  cases f with
  | true => rw [numF_true] at h; simp at h
  | false =>
    refine ⟨rfl, ?_⟩
    rw [numF, if_neg (by decide)] at h
    simp only [Prod.mk.injEq, decide_eq_false_iff_not, Decidable.not_not] at h
    obtain ⟨h1, h2, h3⟩ := h
    rw [← h1, ← h2, ← h3]
theorem takF_false {xs : List UInt8} {p : Int} {f : Bool} {n : Nat} {bs : List UInt8} {p' : Int} (h : takF xs p f n = (bs, p', false)) : f = false ∧ n ≤ xs.length - p.toNat ∧ bs = (xs.drop p.toNat).take n ∧ p' = p + n := by
  unfold takF at h
  split at h
  · simp at h
  · rename_i hc
    simp only [Prod.mk.injEq, and_true] at h
    cases f with
    | true => exact absurd (.inl rfl) hc
    | false => exact ⟨rfl, by omega, h.1.symm, h.2.symm⟩
/-- The steps of entry, told by one result. -/
theorem rd_chain {xs key : List UInt8} {p : Nat} (hp : p ≤ xs.length) {v1 v2 v3 z : Nat} {p1 p2 p3 p4 p5 p6 p7 : Int} {f1 f2 f3 f4 f5 f7 f8 : Bool} {t1 t2 t3 : List UInt8}
    (h1 : numF xs p false = (v1, p1, f1)) (h2 : numF xs p1 f1 = (v2, p2, f2)) (h3 : numF xs p2 f2 = (v3, p3, f3)) (h4 : takF xs p3 f3 1 = (t1, p4, f4)) (h5 : numF xs p4 f4 = (z, p5, f5))
    (h7 : takF xs p5 (f5 || decide (key.length < v1)) v2 = (t2, p6, f7)) (h8 : takF xs p6 f7 z = (t3, p7, f8)) :
    (f8 = true ∧ rdE xs p key = none) ∨ (f8 = false ∧ v1 ≤ key.length ∧ ∃ kd, t1 = [kd] ∧ v3 < 2 ^ 64 ∧ 0 ≤ p7 ∧ rdE xs p key = some (⟨key.take v1 ++ t2, v3, kd, t3⟩, p7.toNat)) := by
  have n0 : ∀ (q : Int), 0 ≤ q → q = (q.toNat : Nat) := fun q h => by omega
  cases f8 with
  | false =>
    right
    obtain ⟨rfl, b1, b2, b3⟩ := takF_false h8
    obtain ⟨hf, c1, c2, c3⟩ := takF_false h7
    rw [Bool.or_eq_false_iff, decide_eq_false_iff_not] at hf
    obtain ⟨rfl, hk⟩ := hf
    obtain ⟨rfl, g5⟩ := numF_false h5
    obtain ⟨rfl, d1, d2, d3⟩ := takF_false h4
    obtain ⟨rfl, g3⟩ := numF_false h3
    obtain ⟨rfl, g2⟩ := numF_false h2
    obtain ⟨_, g1⟩ := numF_false h1
    have i1 := getU_rng g1
    have i2 := getU_rng g2
    have i3 := getU_rng g3
    have i5 := getU_rng g5
    have hlt : p3.toNat < xs.length := by omega
    have hx : xs[p3.toNat]? = some (xs[p3.toNat]'hlt) := List.getElem?_eq_getElem hlt
    refine ⟨rfl, by omega, xs[p3.toNat]'hlt, by rw [d2, drop_getB hx]; rfl, i3.1, by omega, ?_⟩
    subst d3 c3 b3
    unfold rdE
    rw [g1]
    simp only
    rw [g2]
    simp only
    rw [g3]
    simp only
    rw [hx]
    simp only
    rw [show ((1 : Nat) : Int) = 1 from rfl] at g5
    rw [g5]
    simp only
    have e6 : (p5 + (v2 : Int)).toNat = p5.toNat + v2 := by omega
    rw [if_neg (by omega), if_neg (by omega), if_neg (by omega), c2, b2, e6]
    simp only [Option.some.injEq, Prod.mk.injEq, true_and]
    omega
  | true =>
    left
    refine ⟨rfl, ?_⟩
    cases hr : rdE xs p key with
    | none => rfl
    | some y =>
      exfalso
      unfold rdE at hr
      split at hr
      case h_2 => cases hr
      rename_i s q1 g1
      split at hr
      case h_2 => cases hr
      rename_i r q2 g2
      split at hr
      case h_2 => cases hr
      rename_i q q3 g3
      split at hr
      case h_1 => cases hr
      rename_i kd hkd
      split at hr
      case h_2 => cases hr
      rename_i zz q5 g5
      have a1 : numF xs p false = (s, q1, false) := by rw [numF, if_neg (by decide), g1]; rfl
      rw [a1] at h1
      simp only [Prod.mk.injEq] at h1
      obtain ⟨rfl, rfl, rfl⟩ := h1
      have a2 : numF xs q1 false = (r, q2, false) := by rw [numF, if_neg (by decide), g2]; rfl
      rw [a2] at h2
      simp only [Prod.mk.injEq] at h2
      obtain ⟨rfl, rfl, rfl⟩ := h2
      have a3 : numF xs q2 false = (q, q3, false) := by rw [numF, if_neg (by decide), g3]; rfl
      rw [a3] at h3
      simp only [Prod.mk.injEq] at h3
      obtain ⟨rfl, rfl, rfl⟩ := h3
      have i3 := getU_rng g3
      have hlt := (List.getElem?_eq_some_iff.1 hkd).1
      rw [takF, if_neg (by rintro (h | h); · cases h
                           · omega)] at h4
      simp only [Prod.mk.injEq] at h4
      obtain ⟨_, rfl, rfl⟩ := h4
      have a5 : numF xs (q3 + ((1 : Nat) : Int)) false = (zz, q5, false) := by rw [numF, if_neg (by decide), show ((1 : Nat) : Int) = 1 from rfl, g5]; rfl
      rw [a5] at h5
      simp only [Prod.mk.injEq] at h5
      obtain ⟨rfl, rfl, rfl⟩ := h5
      have i5 := getU_rng g5
      split at hr
      · cases hr
      · rename_i hk
        split at hr
        · cases hr
        · rename_i hr1
          split at hr
          · cases hr
          · rename_i hr2
            rw [decide_eq_false hk, takF, if_neg (by rintro (h | h); · cases h
                                                     · omega)] at h7
            simp only [Prod.mk.injEq] at h7
            obtain ⟨_, rfl, rfl⟩ := h7
            have e6 : (q5 + (r : Int)).toNat = q5.toNat + r := by omega
            rw [takF, if_neg (by rw [e6]; rintro (h | h); · cases h
                                 · omega)] at h8
            simp only [Prod.mk.injEq] at h8
            exact absurd h8.2.2 (by decide)
end Go.Proofs.YtdgagffieobiiaaGreatDoor

/-
  Walk over entry of the reader of blocks.
-/
namespace Go.Proofs.YtdgagffieobiiaaGreatDoor
open Go.RowKit

/-- What a reader's entry answers, and what it brings. -/
def RdOut (S : BS) (g n c kn : Nat) (A : Option Addr) (o : Option (En × Nat)) (w : World) (v : Value) (w' : World) : Prop := match o with
  | some (x, p') => ∃ (X : Option Addr) (cx : Nat) (Y : Option Addr) (cy : Nat) (K : Option Addr) (kc : Nat), v = .agg (enV x X cx Y cy).toArray ∧ St S w w' (.ow 5 X x.key.length cx (bvs x.key) :: .ow 5 Y x.val.length cy (bvs x.val) :: .blk g 147 (rdV A n c (p' : Nat) K x.key.length kc false) :: .ow 5 K x.key.length kc (bvs x.key) :: [])
  | none => ∃ (p' : Int) (K : Option Addr) (kc : Nat), v = .agg zE.toArray ∧ St S w w' [.blk g 147 (rdV A n c p' K kn kc true)]
theorem takF_len {xs : List UInt8} {p : Int} {f : Bool} {n : Nat} : (takF xs p f n).1.length ≤ xs.length := by
  unfold takF
  split
  · exact Nat.zero_le _
  · simp only [List.length_take, List.length_drop]; omega
set_option maxRecDepth 8000 in
set_option maxHeartbeats 2000000 in
theorem rdEntry_any {S : BS} {g n c kc p : Nat} {A K : Option Addr} {xs key : List UInt8} {w : World} (h0 : Sat w [.blk g 147 (rdV A n c (p : Nat) K key.length kc false), .ow 5 K key.length kc (bvs key)] S) (hb : ∀ w', Mod S w w' → RdB w' A xs) (hn : xs.length = n) (hc : n ≤ c) (hl : xs.length ≤ 1099511627776) (hp : p ≤ xs.length) (hkl : key.length ≤ 1099511627776) :
    CallsV Tryz.prog 101 #[.pointer (some ⟨g, 0, none⟩)] w (RdOut S g n c key.length A (rdE xs p key) w) := by
  subst hn
  have hs := St.start h0
  have hp0 : 0 ≤ (p : Int) ∧ (p : Int) ≤ xs.length := by omega
  refine calls_in (N := _) Tryz.func101 rfl Tryz.ntmps101 rfl ?_; show WC _ _ _ _ _ _
  refine wc_sr ?_
  refine ws_new hs zeroE rfl ?_; clear hs; intro g2 _ hs
  replace hs := hs.front 1 rfl
  dsimp only [delC] at hs
  refine wl_ns ?_; refine wc_sr ?_; refine wl_mv rfl rfl ?_
  obtain ⟨S2, hS2, _, hM, hH, hB⟩ := St.lend (H1 := [.blk g 147 _]) (H2 := [_, _]) hs
  refine wl_call ok_block_reader_number (number_any hS2 (fun w' hm => hb _ (hM w' hm)) rfl hl hp0) ⟨rfl, trivial⟩ rfl ?_
  rintro _ _ ⟨rfl, hsx⟩
  replace hs := hB _ _ hsx
  clear hB hsx hS2 hM hH
  obtain ⟨⟨v1, p1, f1⟩, ev1⟩ : ∃ q, numF xs (p : Int) false = q := ⟨_, rfl⟩
  have rv1 := numF_rng (xs := xs) (p := (p : Int)) (f := false) hp0
  rw [ev1] at hs rv1
  rw [ev1]
  dsimp only [List.cons_append, List.nil_append] at hs rv1 ⊢
  refine wl_mv rfl rfl ?_
  obtain ⟨S2, hS2, _, hM, hH, hB⟩ := St.lend (H1 := [.blk g 147 _]) (H2 := [_, _]) hs
  refine wl_call ok_block_reader_number (number_any hS2 (fun w' hm => hb _ (hM w' hm)) rfl hl rv1.2) ⟨rfl, trivial⟩ rfl ?_
  rintro _ _ ⟨rfl, hsx⟩
  replace hs := hB _ _ hsx
  clear hB hsx hS2 hM hH
  obtain ⟨⟨v2, p2, f2⟩, ev2⟩ : ∃ q, numF xs p1 f1 = q := ⟨_, rfl⟩
  have rv2 := numF_rng (xs := xs) (p := p1) (f := f1) rv1.2
  rw [ev2] at hs rv2
  rw [ev2]
  dsimp only [List.cons_append, List.nil_append] at hs rv2 ⊢
  refine wl_as rfl rfl ?_; refine wl_as rfl rfl ?_; refine wl_ns ?_; refine wc_sr ?_; refine wl_mv rfl rfl ?_
  obtain ⟨S2, hS2, _, hM, hH, hB⟩ := St.lend (H1 := [.blk g 147 _]) (H2 := [_, _]) hs
  refine wl_call ok_block_reader_number (number_any hS2 (fun w' hm => hb _ (hM w' hm)) rfl hl rv2.2) ⟨rfl, trivial⟩ rfl ?_
  rintro _ _ ⟨rfl, hsx⟩
  replace hs := hB _ _ hsx
  clear hB hsx hS2 hM hH
  obtain ⟨⟨v3, p3, f3⟩, ev3⟩ : ∃ q, numF xs p2 f2 = q := ⟨_, rfl⟩
  have rv3 := numF_rng (xs := xs) (p := p2) (f := f2) rv2.2
  rw [ev3] at hs rv3
  rw [ev3]
  dsimp only [List.cons_append, List.nil_append] at hs rv3 ⊢
  refine wl_as rfl rfl ?_; refine wl_ns ?_; refine wc_sr ?_; refine wl_mv rfl rfl ?_
  obtain ⟨S2, hS2, _, hM, hH, hB⟩ := St.lend (H1 := [.blk g 147 _]) (H2 := [_, _]) hs
  refine wl_call ok_block_reader_take (take_any (m := 1) hS2 (fun w' hm => hb _ (hM w' hm)) rfl hc hl rv3.2 (by decide)) ⟨rfl, rfl, trivial⟩ rfl ?_
  rintro _ _ ⟨⟨Pt1, ct1, rfl, kt1, qt1⟩, hsx⟩
  replace hs := hB _ _ hsx
  clear hB hsx hS2 hM hH
  obtain ⟨⟨t1, p4, f4⟩, et1⟩ : ∃ q, takF xs p3 f3 1 = q := ⟨_, rfl⟩
  have rt1 := takF_rng (xs := xs) (p := p3) (f := f3) (n := 1) rv3.2
  rw [et1] at hs rt1 kt1 qt1
  rw [et1]
  dsimp only [List.cons_append, List.nil_append] at hs rt1 kt1 qt1 ⊢
  refine wl_as rfl rfl ?_; refine wl_ns ?_; refine wc_sr ?_; refine wl_mv rfl rfl ?_
  obtain ⟨S2, hS2, _, hM, hH, hB⟩ := St.lend (H1 := [.blk g 147 _]) (H2 := [_, _]) hs
  refine wl_call ok_block_reader_number (number_any hS2 (fun w' hm => hb _ (hM w' hm)) rfl hl rt1) ⟨rfl, trivial⟩ rfl ?_
  rintro _ _ ⟨rfl, hsx⟩
  replace hs := hB _ _ hsx
  clear hB hsx hS2 hM hH
  obtain ⟨⟨z, p5, f5⟩, ez⟩ : ∃ q, numF xs p4 f4 = q := ⟨_, rfl⟩
  have rz := numF_rng (xs := xs) (p := p4) (f := f4) rt1
  rw [ez] at hs rz
  rw [ez]
  dsimp only [List.cons_append, List.nil_append] at hs rz ⊢
  have hcap := ow_cap (hs.ow 2 rfl)
  unfold rdV at hs
  have hk64 : ((key.length : Nat) : Int) = (key.length : Int) := rfl
  refine wl_as rfl rfl ?_; refine wl_ns ?_; refine wc_seq ?_; refine wc_sr ?_; refine wl_mv rfl rfl ?_; refine wl_mv rfl rfl ?_; apply wl_val; apply opv_nilOk; exact rfl; exact rfl; apply wl_val; apply opv_fa; exact fa_R (by decide); exact rfl; exact rfl; apply wl_val; apply opv_ldX; exact rfl; exact hs.ar 0 rfl; exact e1_by; exact rfl; exact rfl; apply wl_val; apply opv_len; exact rfl; exact tyB.sl; exact rfl; apply wl_val; apply opv_convR; exact rfl; exact Tryz.underlying3; exact Tryz.underlying29; exact IntWalk.u64_in _ (by omega); exact rfl; refine wl_bin rfl rfl bin_gtr rfl ?_; refine wl_ns ?_
  refine wc_cutE (fun L' w' => L' = [(0, .pointer (some ⟨g, 0, none⟩)), (2, .pointer (some ⟨g2, 0, none⟩)), (3, .int .u64 (v1 : Int)), (4, .int .u64 (v2 : Int)), (5, .int .u64 (v3 : Int)), (6, .slice Pt1 t1.length ct1), (7, .int .u64 (z : Int))] ∧ St S w w' [.blk g 147 (rdV A xs.length c p5 K key.length kc (f5 || decide (key.length < v1))), .blk g2 31 zE, .ow 5 K key.length kc (bvs key)]) ?_ ?_
  · refine wc_cond rfl (fun h1 => ?_) (fun h1 => ?_)
    · have e6 : (f5 || decide (key.length < v1)) = true := by rw [decide_eq_true (show key.length < v1 by omega), Bool.or_true]
      rw [e6]
      refine wc_region ?_; refine wl_mv rfl rfl ?_; apply wl_val; apply opv_nilOk; exact rfl; exact rfl; apply wl_val; apply opv_fa; exact fa_R (by decide); exact rfl; exact rfl; apply ws_st hs 0; exact rfl; exact rfl; exact e1_bB; exact rfl; exact rfl; exact rfl; clear hs; intro _ hs; dsimp only [setC, List.set] at hs; refine wl_nil ?_
      exact we_cut _ ⟨rfl, hs⟩ ⟨rfl, rfl, rfl, rfl, rfl, rfl, rfl, trivial⟩
    · have e6 : (f5 || decide (key.length < v1)) = f5 := by rw [decide_eq_false (show ¬ key.length < v1 by omega), Bool.or_false]
      rw [e6]
      refine wc_skip ?_
      exact we_cut _ ⟨rfl, hs⟩ ⟨rfl, rfl, rfl, rfl, rfl, rfl, rfl, trivial⟩
  clear hs
  rintro _ w9 ⟨rfl, hs⟩
  refine we_seq ?_; refine wc_sr ?_; refine wl_mv rfl rfl ?_; refine wl_mv rfl rfl ?_
  obtain ⟨S2, hS2, _, hM, hH, hB⟩ := St.lend (H1 := [.blk g 147 _]) (H2 := [_, _]) hs
  refine wl_call ok_block_reader_take (take_any (m := v2) hS2 (fun w' hm => hb _ (hM w' hm)) rfl hc hl rz.2 rv2.1) ⟨rfl, rfl, trivial⟩ rfl ?_
  rintro _ _ ⟨⟨Pt2, ct2, rfl, kt2, qt2⟩, hsx⟩
  replace hs := hB _ _ hsx
  clear hB hsx hS2 hM hH
  obtain ⟨⟨t2, p6, f7⟩, et2⟩ : ∃ q, takF xs p5 (f5 || decide (key.length < v1)) v2 = q := ⟨_, rfl⟩
  have rt2 := takF_rng (xs := xs) (p := p5) (f := (f5 || decide (key.length < v1))) (n := v2) rz.2
  rw [et2] at hs rt2 kt2 qt2
  rw [et2]
  dsimp only [List.cons_append, List.nil_append] at hs rt2 kt2 qt2 ⊢
  refine wl_as rfl rfl ?_; refine wl_ns ?_; refine wc_sr ?_; refine wl_mv rfl rfl ?_; refine wl_mv rfl rfl ?_
  obtain ⟨S2, hS2, _, hM, hH, hB⟩ := St.lend (H1 := [.blk g 147 _]) (H2 := [_, _]) hs
  refine wl_call ok_block_reader_take (take_any (m := z) hS2 (fun w' hm => hb _ (hM w' hm)) rfl hc hl rt2 rz.1) ⟨rfl, rfl, trivial⟩ rfl ?_
  rintro _ _ ⟨⟨Pt3, ct3, rfl, kt3, qt3⟩, hsx⟩
  replace hs := hB _ _ hsx
  clear hB hsx hS2 hM hH
  obtain ⟨⟨t3, p7, f8⟩, et3⟩ : ∃ q, takF xs p6 f7 z = q := ⟨_, rfl⟩
  have rt3 := takF_rng (xs := xs) (p := p6) (f := f7) (n := z) rt2
  rw [et3] at hs rt3 kt3 qt3
  rw [et3]
  dsimp only [List.cons_append, List.nil_append] at hs rt3 kt3 qt3 ⊢
  unfold rdV at hs
  refine wl_as rfl rfl ?_; refine wl_ns ?_; refine wc_seq ?_; refine wc_sr ?_; refine wl_mv rfl rfl ?_; apply wl_val; apply opv_nilOk; exact rfl; exact rfl; apply wl_val; apply opv_fa; exact fa_R (by decide); exact rfl; exact rfl; apply wl_val; apply opv_ldX; exact rfl; exact hs.ar 0 rfl; exact e1_bB; exact rfl; exact rfl; refine wl_ns ?_
  have hch := rd_chain hp ev1 ev2 ev3 et1 ez et2 et3
  cases f8 with
  | true =>
    obtain ⟨_, hnone⟩ : True ∧ rdE xs p key = none := hch.elim (fun h => ⟨trivial, h.2⟩) fun h => absurd h.1 (by decide)
    rw [hnone]
    apply wc_condTb; exact rfl; exact rfl; refine wc_sr ?_
    refine wl_val (opv_build (vs := []) (cs := zE) trivial (by kernel_rfl)) rfl ?_
    apply ws_stS hs 1; exact rfl; exact rfl; exact rfl; exact sE; exact rfl; exact rfl; clear hs; intro _ hs; dsimp only [setC] at hs; refine wl_ns ?_; refine wc_ret ?_; refine we_seq_ret ?_
    exact we_retC rfl rfl (hs.ar 1 rfl) sE ⟨_, rfl, p7, K, kc, rfl, (hs.drop 1 rfl).drop 1 rfl⟩
  | false =>
    obtain ⟨hv1, kd, rfl, hv3, hp7, hsome⟩ := hch.elim (fun h => absurd h.1 (by decide)) fun h => h.2
    rw [hsome]
    apply wc_condFb; exact rfl; exact rfl; refine wc_skip ?_; refine we_seq ?_; refine wc_sr ?_; refine wl_mv rfl rfl ?_; refine wl_mv rfl rfl ?_; apply wl_val; apply opv_nilOk; exact rfl; exact rfl; apply wl_val; apply opv_fa; exact fa_R (by decide); exact rfl; exact rfl; apply wl_val; apply opv_ldX; exact rfl; exact hs.ar 0 rfl; exact e1_by; exact rfl; exact rfl; refine wl_mv rfl rfl ?_
    have hcap := ow_cap (hs.ow 2 rfl)
    have hkt : (key.take v1).length = v1 := by simp; omega
    refine wl_sl (l := 0) (h := v1) tyB rfl rfl ⟨_, rfl⟩ (Nat.zero_le _) (by omega) rfl ?_
    have hpre := cutB_rd (l := 0) (h := v1) (c := kc) (xs := key) (hs.ow 2 rfl).rd (Nat.zero_le _) (by omega) hcap
    rw [List.drop_zero] at hpre
    rw [Nat.sub_zero, Nat.sub_zero]
    refine wl_call ok_bytes_Clone (clone_any hpre hkt (by omega)) ⟨rfl, trivial⟩ rfl ?_
    rintro _ w10 ⟨C, e, rfl, o_, hbx⟩
    replace hs := hs.newO hbx o_ (Nat.le_refl _)
    clear o_ hbx hpre
    rw [hkt] at hs
    rw [hkt]
    have ht2 : t2.length ≤ xs.length := by have h := takF_len (xs := xs) (p := p5) (f := (f5 || decide (key.length < v1))) (n := v2); rw [et2] at h; exact h
    have ht3 : t3.length ≤ xs.length := by have h := takF_len (xs := xs) (p := p6) (f := f7) (n := z); rw [et3] at h; exact h
    have hKl : (key.take v1 ++ t2).length = v1 + t2.length := by rw [List.length_append, hkt]
    refine wl_mv rfl rfl ?_
    refine ws_app (ys := bvs t2) (m := t2.length) hs 0 rfl rfl tyB rfl (qt2 _ (hb _ hs.1)) (bvs_one _) (by omega) (by simp only [maxLen]; omega) rfl ?_
    clear hs; intro K2 kc2 w11 hs; dsimp only [setC] at hs
    rw [← bvs_append, ← hKl] at hs
    rw [← hKl]
    obtain ⟨nk, hnk⟩ : ∃ q, key.take v1 ++ t2 = q := ⟨_, rfl⟩
    rw [hnk] at hs hKl
    rw [hnk]
    apply wl_val; apply opv_nilOk; exact rfl; exact rfl; apply wl_val; apply opv_fa; exact fa_R (by decide); exact rfl; exact rfl; apply ws_st hs 1; exact rfl; exact rfl; exact e1_by; exact rfl; exact rfl; exact rfl; clear hs; intro _ hs; dsimp only [setC, List.set] at hs; refine wl_ns ?_; refine wc_seq ?_
    have hrow : (bvs [kd])[0]? = some (bv kd) := rfl
    have hkd := qt1 _ (hb _ hs.1)
    refine wc_heldM 12 mixed fun w_ hS => ?_
    apply wm_take 0; exact rfl; intro _ hw_; apply opv_move; exact rfl; exact rfl; kernel_rfl; exact hS; apply wm_take 1; exact rfl; intro _ hw_; apply opv_nilOk; exact rfl; exact rfl; kernel_rfl; exact hS; apply wm_take 2; exact rfl; intro _ hw_; apply opv_fa; exact fa_R (by decide); exact rfl; exact rfl; kernel_rfl; exact hS; apply wm_take 3; exact rfl; intro _ hw_; apply opv_ldX; exact rfl; exact Ar.bel (hs.ar 1 rfl) hw_; exact e1_by; exact rfl; exact rfl; kernel_rfl; exact hS; apply wm_take 5; exact rfl; intro _ hw_; apply opv_move; exact rfl; exact rfl; kernel_rfl; exact hS; apply wm_take 6; exact rfl; intro _ hw_; apply opv_move; exact rfl; exact rfl; kernel_rfl; exact hS; apply wm_take 9; exact rfl; intro _ hw_; apply opv_move; exact rfl; exact rfl; kernel_rfl; exact hS
    refine wm_take 7 rfl (fun _ hw_ => opv_idxR tyB rfl rfl (RdB.below hkd hw_) rfl hrow) rfl (by kernel_rfl) hS ?_
    refine wm_take 8 rfl (fun _ hw_ => opv_loadR tyB rfl (RdB.below hkd hw_) hrow) rfl (by kernel_rfl) hS ?_
    replace hs := hs.below hS
    refine wm_one 4 (by kernel_rfl) rfl ?_; dsimp only [List.getElem_toArray, List.getElem_cons_succ, List.getElem_cons_zero]
    refine wl_call ok_bytes_Clone (clone_any (xs := nk) (hs.ow 0 rfl).rd rfl (by omega)) ⟨rfl, trivial⟩ rfl ?_; rintro _ _ ⟨X, cx, rfl, o_, hbx⟩; replace hs := hs.newO hbx o_ (Nat.le_refl _); try dsimp only [List.cons_append, List.nil_append, setC, delC] at hs
    replace hS := hS.trans (hbx.mono hS.size)
    clear o_ hbx
    refine wl_nil ?_
    refine we_heldM (fun _ => hS) ?_
    refine wm_one 10 (by kernel_rfl) rfl ?_; dsimp only [List.getElem_toArray, List.getElem_cons_succ, List.getElem_cons_zero]
    refine wl_call ok_bytes_Clone (clone_any (xs := t3) (qt3 _ (hb _ hs.1)) rfl (by omega)) ⟨rfl, trivial⟩ rfl ?_; rintro _ _ ⟨Y, cy, rfl, o_, hbx⟩; replace hs := hs.newO hbx o_ (Nat.le_refl _); try dsimp only [List.cons_append, List.nil_append, setC, delC] at hs
    replace hS := hS.trans (hbx.mono hS.size)
    clear o_ hbx
    refine wl_nil ?_
    refine we_heldM (fun _ => hS) ?_
    refine wm_one 11 (by kernel_rfl) rfl ?_; dsimp only [List.getElem_toArray, List.getElem_cons_succ, List.getElem_cons_zero]
    refine wl_val (opv_build (vs := [(0, .slice X nk.length cx), (1, .int .u64 (v3 : Int)), (2, bv kd), (3, .slice Y t3.length cy)]) (cs := enV ⟨nk, v3, kd, t3⟩ X cx Y cy) ⟨rfl, rfl, rfl, rfl, rfl, rfl, rfl, rfl, trivial⟩ (by kernel_rfl)) rfl ?_
    refine wl_nil ?_
    refine we_heldM (fun _ => hS) ?_
    refine wm_one 12 (by kernel_rfl) rfl ?_; dsimp only [List.getElem_toArray, List.getElem_cons_succ, List.getElem_cons_zero]
    apply ws_stS hs 4; exact rfl; exact rfl; exact rfl; exact sE; exact rfl; exact rfl; clear hs; intro _ hs; dsimp only [setC] at hs; refine wl_nil ?_
    refine we_heldM (fun h => absurd h (by decide)) ?_
    refine wm_done (by kernel_rfl) ?_
    refine we_seq ?_; refine wc_ret ?_
    refine we_retC rfl rfl (hs.ar 4 rfl) sE ⟨_, rfl, ?_⟩
    have hp7' : p7 = ((p7.toNat : Nat) : Int) := by omega
    rw [hp7'] at hs
    exact ⟨X, cx, Y, cy, K2, kc2, rfl, ((((((hs.drop 4 rfl).drop 4 rfl).front 2 rfl).front 3 rfl).front 2 rfl).front 3 rfl)⟩
end Go.Proofs.YtdgagffieobiiaaGreatDoor

/-
  Walk over split of blocks.
-/
namespace Go.Proofs.YtdgagffieobiiaaGreatDoor
open Go.RowKit

def natV (ns : List Nat) : List Value := ns.map fun (n : Nat) => Value.int .i64 (n : Int)
/-- What split answers: the entries' bytes and the places of the restarts. -/
def splB (b : List UInt8) : (List UInt8 × List Nat) × Nat :=
  match openB b 0 with
  | (body, next, 0) => if next < b.length ∨ body.length < 4 then (([], []), 3) else
      if (body.length - 4) / 4 < numB (body.drop (body.length - 4)) then (([], []), 3) else
      ((body.take (body.length - 4 - 4 * numB (body.drop (body.length - 4))), startsB (body.take (body.length - 4)) (body.length - 4 - 4 * numB (body.drop (body.length - 4))) (numB (body.drop (body.length - 4)))), 0)
  | (_, _, e) => (([], []), e)
theorem dec_spl (b : List UInt8) : decB b = match splB b with
    | ((body, ss), 0) => (match rdL body body.length 0 [] with
      | none => ([], 3)
      | some r => if buildB (evL ss (r.map (·.2))) (r.map (·.1)) = (b, 0) then (r.map (·.1), 0) else ([], 3))
    | (_, e) => ([], e) := by
  unfold decB splB
  rcases openB b 0 with ⟨body, next, e⟩
  cases e with
  | zero =>
    simp only
    split
    · rfl
    · split
      · rfl
      · simp only
        rw [show (body.take (body.length - 4 - 4 * numB (body.drop (body.length - 4)))).length = body.length - 4 - 4 * numB (body.drop (body.length - 4)) by rw [List.length_take]; omega]
        rfl
  | succ e => rfl
theorem spl_small {b body : List UInt8} {ss : List Nat} {e : Nat} (h : splB b = ((body, ss), e)) : body.length ≤ 1048576 ∧ body.length ≤ b.length ∧ ss.length ≤ 1048576 := by
  unfold splB at h
  rcases ho : openB b 0 with ⟨bo, next, e2⟩
  rw [ho] at h
  cases e2 with
  | zero =>
    have hi := openB_inv (q := 0) (Nat.zero_le _) ho
    simp only at h
    split at h
    · simp only [Prod.mk.injEq] at h; obtain ⟨⟨rfl, rfl⟩, _⟩ := h; simp
    · split at h
      · simp only [Prod.mk.injEq] at h; obtain ⟨⟨rfl, rfl⟩, _⟩ := h; simp
      · simp only [Prod.mk.injEq] at h; obtain ⟨⟨rfl, rfl⟩, _⟩ := h
        rw [List.length_take, startsB_len]; omega
  | succ e2 => simp only [Prod.mk.injEq] at h; obtain ⟨⟨rfl, rfl⟩, _⟩ := h; simp
theorem starts_succ (b : List UInt8) (e i : Nat) : startsB b e (i + 1) = startsB b e i ++ [numB ((b.drop (e + 4 * i)).take 4)] := by rw [startsB, List.range_succ, List.map_append]; rfl
set_option maxRecDepth 8000 in
theorem split_any {A : Option Addr} {n c : Nat} {xs : List UInt8} {w : World} (hr : RdB w A xs) (hn : xs.length = n) (hc : xs.length ≤ c) (hl : xs.length ≤ 1099511627776) :
    CallsV Tryz.prog 100 #[.slice A n c] w fun v w' => ∃ (P : Option Addr) (pc : Nat) (Q : Option Addr) (qc : Nat), v = .tuple #[.slice P (splB xs).1.1.length pc, .slice Q (splB xs).1.2.length qc, .int .i64 ((splB xs).2 : Nat)] ∧ (splB xs).1.1.length ≤ pc ∧ RdB w' P (splB xs).1.1 ∧ Rd w' Q (splB xs).1.2.length (natV (splB xs).1.2) ∧ Below w.heap.size w w' := by
  subst hn
  refine calls_in (N := _) Tryz.func100 rfl Tryz.ntmps100 rfl ?_; show WC _ _ _ _ _ _
  refine wc_sr ?_; refine wl_as rfl rfl ?_; refine wl_as rfl rfl ?_; refine wl_as rfl rfl ?_; refine wl_ns ?_; refine wc_sr ?_; refine wl_mv rfl rfl ?_
  obtain ⟨body, next, e, ho⟩ : ∃ b n e, openB xs 0 = (b, n, e) := ⟨_, _, _, rfl⟩
  refine wl_call ok_crc_Open (open_at ho hr rfl hc (by omega)) ⟨rfl, rfl, trivial⟩ rfl ?_
  rintro _ w1 ⟨B, cB, rfl, o1, hb⟩
  dsimp only
  cases e with
  | succ e =>
    have hs : splB xs = (([], []), e + 1) := by unfold splB; rw [ho]; rfl
    rw [hs]
    have h1 : ((e + 1 : Nat) : Int) ≠ 0 := by omega
    refine wl_mv rfl rfl ?_; apply wl_val; apply opv_extract; exact rfl; exact rfl; exact rfl; apply wl_val; apply opv_extract; exact rfl; exact rfl; exact rfl; apply wl_val; apply opv_extract; exact rfl; exact rfl; exact rfl; refine wl_as rfl rfl ?_; refine wl_as rfl rfl ?_; refine wl_as rfl rfl ?_; refine wl_ns ?_; refine wc_seq ?_; refine wc_sr ?_; refine wl_mv rfl rfl ?_; refine wl_bin rfl rfl bin_neq rfl ?_; refine wl_ns ?_; apply wc_condTb; exact rfl; exact rfl; refine wc_sr ?_; refine wl_mv rfl rfl ?_; refine wl_as rfl rfl ?_; refine wl_as rfl rfl ?_; refine wl_as rfl rfl ?_; refine wl_ns ?_; refine wc_ret ?_; refine we_seq_ret ?_
    exact we_ret3 rfl rfl rfl rfl ⟨_, rfl, none, 0, none, 0, rfl, Nat.zero_le _, Rd.nil _ _, Rd.nil _ _, hb⟩
  | zero =>
    have hi := openB_inv (q := 0) (Nat.zero_le _) ho
    by_cases h1 : next < xs.length ∨ body.length < 4
    · have hs : splB xs = (([], []), 3) := by unfold splB; rw [ho]; simp only; rw [if_pos h1]
      rw [hs]
      by_cases h2 : next < xs.length
      · have h2' : (next : Int) < (xs.length : Int) := by omega
        refine wl_mv rfl rfl ?_; apply wl_val; apply opv_extract; exact rfl; exact rfl; exact rfl; apply wl_val; apply opv_extract; exact rfl; exact rfl; exact rfl; apply wl_val; apply opv_extract; exact rfl; exact rfl; exact rfl; refine wl_as rfl rfl ?_; refine wl_as rfl rfl ?_; refine wl_as rfl rfl ?_; refine wl_ns ?_; refine wc_seq ?_; refine wc_sr ?_; refine wl_mv rfl rfl ?_; refine wl_bin rfl rfl bin_neq rfl ?_; refine wl_ns ?_; apply wc_condFb; exact rfl; exact rfl; refine wc_skip ?_; refine we_seq ?_; refine wc_seq ?_; refine wc_sr ?_; refine wl_mv rfl rfl ?_; refine wl_mv rfl rfl ?_; apply wl_val; apply opv_len; exact rfl; exact tyB.sl; exact rfl; refine wl_bin rfl rfl bin_lss rfl ?_; refine wl_mv rfl rfl ?_; apply wl_skip; exact rfl; exact rfl; exact rfl; refine bTn ?_; (with_reducible assumption); exact rfl; apply wl_skip; exact rfl; exact rfl; exact rfl; refine bTn ?_; (with_reducible assumption); exact rfl; apply wl_skip; exact rfl; exact rfl; exact rfl; refine bTn ?_; (with_reducible assumption); exact rfl; apply wl_val; apply opv_pickT; exact rfl; refine bT ?_; (with_reducible assumption); exact rfl; exact rfl; refine wl_ns ?_; apply wc_condTb; exact rfl; exact rfl; refine wc_sr ?_; refine wl_as rfl rfl ?_; refine wl_as rfl rfl ?_; refine wl_as rfl rfl ?_; refine wl_ns ?_; refine wc_ret ?_; refine we_seq_ret ?_
        exact we_ret3 rfl rfl rfl rfl ⟨_, rfl, none, 0, none, 0, rfl, Nat.zero_le _, Rd.nil _ _, Rd.nil _ _, hb⟩
      · have h2' : ¬ (next : Int) < (xs.length : Int) := by omega
        have h3' : (body.length : Int) < 4 := by omega
        refine wl_mv rfl rfl ?_; apply wl_val; apply opv_extract; exact rfl; exact rfl; exact rfl; apply wl_val; apply opv_extract; exact rfl; exact rfl; exact rfl; apply wl_val; apply opv_extract; exact rfl; exact rfl; exact rfl; refine wl_as rfl rfl ?_; refine wl_as rfl rfl ?_; refine wl_as rfl rfl ?_; refine wl_ns ?_; refine wc_seq ?_; refine wc_sr ?_; refine wl_mv rfl rfl ?_; refine wl_bin rfl rfl bin_neq rfl ?_; refine wl_ns ?_; apply wc_condFb; exact rfl; exact rfl; refine wc_skip ?_; refine we_seq ?_; refine wc_seq ?_; refine wc_sr ?_; refine wl_mv rfl rfl ?_; refine wl_mv rfl rfl ?_; apply wl_val; apply opv_len; exact rfl; exact tyB.sl; exact rfl; refine wl_bin rfl rfl bin_lss rfl ?_; refine wl_mv rfl rfl ?_; apply wl_take; exact rfl; exact rfl; exact rfl; refine bF ?_; (with_reducible assumption); refine wl_mv rfl rfl ?_; apply wl_take; exact rfl; exact rfl; exact rfl; refine bF ?_; (with_reducible assumption); apply wl_val; apply opv_len; exact rfl; exact tyB.sl; exact rfl; apply wl_take; exact rfl; exact rfl; exact rfl; refine bF ?_; (with_reducible assumption); refine wl_bin rfl rfl bin_lss rfl ?_; apply wl_val; apply opv_pickF; exact rfl; refine bF ?_; (with_reducible assumption); exact rfl; exact rfl; refine wl_ns ?_; apply wc_decT; exact rfl; (with_reducible assumption); refine wc_sr ?_; refine wl_as rfl rfl ?_; refine wl_as rfl rfl ?_; refine wl_as rfl rfl ?_; refine wl_ns ?_; refine wc_ret ?_; refine we_seq_ret ?_
        exact we_ret3 rfl rfl rfl rfl ⟨_, rfl, none, 0, none, 0, rfl, Nat.zero_le _, Rd.nil _ _, Rd.nil _ _, hb⟩
    · have h2' : ¬ (next : Int) < (xs.length : Int) := by omega
      have h3' : ¬ (body.length : Int) < 4 := by omega
      have h4 : 4 ≤ body.length := by omega
      have hcap : body.length ≤ cB := o1.cap
      have hm4 : (body.length : Int) - 4 = ((body.length - 4 : Nat) : Int) := by omega
      refine wl_mv rfl rfl ?_; apply wl_val; apply opv_extract; exact rfl; exact rfl; exact rfl; apply wl_val; apply opv_extract; exact rfl; exact rfl; exact rfl; apply wl_val; apply opv_extract; exact rfl; exact rfl; exact rfl; refine wl_as rfl rfl ?_; refine wl_as rfl rfl ?_; refine wl_as rfl rfl ?_; refine wl_ns ?_; refine wc_seq ?_; refine wc_sr ?_; refine wl_mv rfl rfl ?_; refine wl_bin rfl rfl bin_neq rfl ?_; refine wl_ns ?_; apply wc_condFb; exact rfl; exact rfl; refine wc_skip ?_; refine we_seq ?_; refine wc_seq ?_; refine wc_sr ?_; refine wl_mv rfl rfl ?_; refine wl_mv rfl rfl ?_; apply wl_val; apply opv_len; exact rfl; exact tyB.sl; exact rfl; refine wl_bin rfl rfl bin_lss rfl ?_; refine wl_mv rfl rfl ?_; apply wl_take; exact rfl; exact rfl; exact rfl; refine bF ?_; (with_reducible assumption); refine wl_mv rfl rfl ?_; apply wl_take; exact rfl; exact rfl; exact rfl; refine bF ?_; (with_reducible assumption); apply wl_val; apply opv_len; exact rfl; exact tyB.sl; exact rfl; apply wl_take; exact rfl; exact rfl; exact rfl; refine bF ?_; (with_reducible assumption); refine wl_bin rfl rfl bin_lss rfl ?_; apply wl_val; apply opv_pickF; exact rfl; refine bF ?_; (with_reducible assumption); exact rfl; exact rfl; refine wl_ns ?_; apply wc_decF; exact rfl; (with_reducible assumption); refine wc_skip ?_; refine we_seq ?_; refine wc_sr ?_; refine wl_mv rfl rfl ?_; refine wl_mv rfl rfl ?_; apply wl_val; apply opv_len; exact rfl; exact tyB.sl; exact rfl; apply wl_val; apply opv_bin; exact rfl; exact rfl; exact bin_sub64 (by omega); exact rfl
      refine wl_sl (l := body.length - 4) (h := body.length) tyB rfl ⟨_, congrArg (fun z => some (Value.int .i64 z)) hm4⟩ rfl (by omega) hcap rfl ?_
      have r1 := cutB_rd (l := body.length - 4) (h := body.length) (c := cB) (xs := body) o1.rd (by omega) (Nat.le_refl _) hcap
      rw [List.take_length] at r1
      have l1 : (body.drop (body.length - 4)).length = 4 := by rw [List.length_drop]; omega
      refine wl_call ok_block_get4 (get4_any (xs := body.drop (body.length - 4)) (n := body.length - (body.length - 4)) r1 (by rw [l1]; omega) (by omega)) ⟨rfl, trivial⟩ rfl ?_
      rintro _ w2 ⟨rfl, hbx⟩
      rw [List.take_of_length_le (show (body.drop (body.length - 4)).length ≤ 4 by omega)]
      have hs := ((St.init w).newO hb o1 (Nat.le_refl _)).below hbx
      clear o1 r1 hbx hb
      obtain ⟨k, hk⟩ : ∃ q, numB (body.drop (body.length - 4)) = q := ⟨_, rfl⟩
      have hklt : k < 4294967296 := by have := numB_lt (body.drop (body.length - 4)); rw [l1, hk] at this; exact this
      rw [hk]
      refine wl_as rfl rfl ?_; refine wl_ns ?_; refine wc_sr ?_; refine wl_mv rfl rfl ?_; refine wl_mv rfl rfl ?_; apply wl_val; apply opv_len; exact rfl; exact tyB.sl; exact rfl; apply wl_val; apply opv_bin; exact rfl; exact rfl; exact bin_sub64 (by omega); exact rfl
      refine wl_sl (l := 0) (h := body.length - 4) tyB rfl rfl ⟨_, congrArg (fun z => some (Value.int .i64 z)) hm4⟩ (Nat.zero_le _) (by omega) rfl ?_
      rw [cutA_zero, Nat.sub_zero, Nat.sub_zero]
      refine wl_as rfl rfl ?_; refine wl_ns ?_; refine wc_seq ?_; refine wc_sr ?_; refine wl_mv rfl rfl ?_; refine wl_mv rfl rfl ?_; apply wl_val; apply opv_len; exact rfl; exact tyB.sl; exact rfl
      refine wl_val (opv_bin (b := .int .i64 ((4 : Nat) : Int)) rfl rfl (bin_quoN (a := body.length - 4) (b := 4) (by decide) (by omega))) rfl ?_
      refine wl_bin rfl rfl bin_gtr rfl ?_; refine wl_ns ?_
      by_cases h5 : (body.length - 4) / 4 < k
      · have hsp : splB xs = (([], []), 3) := by unfold splB; rw [ho]; simp only; rw [if_neg h1, hk, if_pos h5]
        rw [hsp]
        have h5' : (((body.length - 4) / 4 : Nat) : Int) < (k : Int) := by omega
        apply wc_decT; exact rfl; (with_reducible assumption); refine wc_sr ?_; refine wl_as rfl rfl ?_; refine wl_as rfl rfl ?_; refine wl_as rfl rfl ?_; refine wl_ns ?_; refine wc_ret ?_; refine we_seq_ret ?_
        exact we_ret3 rfl rfl rfl rfl ⟨_, rfl, none, 0, none, 0, rfl, Nat.zero_le _, Rd.nil _ _, Rd.nil _ _, hs.bel⟩
      · have hsp : splB xs = ((body.take (body.length - 4 - 4 * k), startsB (body.take (body.length - 4)) (body.length - 4 - 4 * k) k), 0) := by unfold splB; rw [ho]; simp only; rw [if_neg h1, hk, if_neg h5]
        have h5' : ¬ (((body.length - 4) / 4 : Nat) : Int) < (k : Int) := by omega
        have h6 : 4 * k ≤ body.length - 4 := by omega
        apply wc_decF; exact rfl; (with_reducible assumption); refine wc_skip ?_; refine we_seq ?_; refine wc_sr ?_; refine wl_mv rfl rfl ?_; apply wl_val; apply opv_len; exact rfl; exact tyB.sl; exact rfl; refine wl_mv rfl rfl ?_
        refine wl_val (opv_bin (a := .int .i64 ((4 : Nat) : Int)) rfl rfl (bin_mulN (a := 4) (b := k) (by omega))) rfl ?_
        refine wl_val (opv_bin rfl rfl (bin_subN (a := body.length - 4) (b := 4 * k) h6 (by omega))) rfl ?_
        obtain ⟨q, hq⟩ : ∃ q, body.length - 4 - 4 * k = q := ⟨_, rfl⟩
        rw [hq] at hsp
        rw [hsp, hq]
        replace hs := hs.nilO 3
        refine wl_as rfl rfl ?_; refine wl_ns ?_; refine wc_sr ?_; refine wl_as rfl rfl ?_; refine wl_ns ?_; refine wc_seq ?_; refine wc_sr ?_; refine wl_mv rfl rfl ?_; refine wl_mv rfl rfl ?_; refine wl_ns ?_; refine wc_block ?_
        refine wc_loop (fun L wr mm => ∃ (i : Nat) (Q : Option Addr) (qc : Nat), L = [(5, .slice B (body.length - 4) cB), (9, .int .i64 (q : Int)), (10, .slice Q i qc), (51, .int .i64 (k : Int)), (52, .int .i64 (i : Int))] ∧ i ≤ k ∧ St NoB w wr [.ow 3 Q i qc (natV (startsB (body.take (body.length - 4)) q i)), .ow 5 B body.length cB (bvs body)] ∧ mm = k - i)
          [(5, .slice B (body.length - 4) cB), (9, .int .i64 (q : Int)), (10, .slice none 0 0), (51, .int .i64 (k : Int)), (52, .int .i64 (0 : Nat))] k ⟨0, none, 0, rfl, by omega, hs, rfl⟩ ⟨rfl, rfl, rfl, rfl, rfl, trivial⟩ ?_
        clear hs
        rintro _ w3 mm ⟨i, Q, qc, rfl, hi, hs, rfl⟩
        refine wc_sr ?_; refine wl_bin rfl rfl bin_lss rfl ?_; refine wl_ns ?_; refine wc_seq ?_
        refine wc_cond rfl (fun h7 => ?_) (fun h7 => ?_)
        · refine wc_skip ?_; refine we_seq ?_; refine wc_seq ?_; refine wc_block ?_; refine wc_sr ?_; refine wl_mv rfl rfl ?_; refine wl_as rfl rfl ?_; refine wl_ns ?_; refine wc_region ?_; refine wl_mv rfl rfl ?_; refine wl_mv rfl rfl ?_; refine wl_mv rfl rfl ?_; refine wl_mv rfl rfl ?_
          refine wl_val (opv_bin (a := .int .i64 ((4 : Nat) : Int)) rfl rfl (bin_mulN (a := 4) (b := i) (by omega))) rfl ?_
          refine wl_val (opv_bin rfl rfl (bin_addN (a := q) (b := 4 * i) (by omega))) rfl ?_
          refine wl_sl (l := q + 4 * i) (h := body.length - 4) tyB rfl ⟨_, rfl⟩ rfl (by omega) (by omega) rfl ?_
          have r2 := cutB_rd (l := q + 4 * i) (h := body.length - 4) (c := cB) (xs := body) (hs.ow 1 rfl).rd (by omega) (by omega) hcap
          have l2 : ((body.take (body.length - 4)).drop (q + 4 * i)).length = body.length - 4 - (q + 4 * i) := by rw [List.length_drop, List.length_take]; omega
          refine wl_call ok_block_get4 (get4_any r2 l2 (by omega)) ⟨rfl, trivial⟩ rfl ?_
          rintro _ w4 ⟨rfl, hbx⟩
          replace hs := hs.below hbx
          clear hbx r2
          have hst := starts_succ (body.take (body.length - 4)) q i
          refine ws_push (vs := natV [numB (((body.take (body.length - 4)).drop (q + 4 * i)).take 4)]) hs 0 rfl rfl tyI ⟨rfl, rfl, rfl, trivial⟩ rfl (by decide) rfl (by omega) (by simp only [maxLen]; omega) rfl rfl ?_
          clear hs; intro _ Q2 qc2 w5 hs; dsimp only [setC] at hs
          rw [show natV (startsB (body.take (body.length - 4)) q i) ++ natV [numB (((body.take (body.length - 4)).drop (q + 4 * i)).take 4)] = natV (startsB (body.take (body.length - 4)) q (i + 1)) by rw [hst]; simp [natV]] at hs
          refine wl_as rfl rfl ?_; refine wl_nil ?_; refine we_block_norm ?_; refine we_seq ?_; refine wc_region ?_; apply wl_val; apply opv_bin; exact rfl; exact rfl; exact bin_add64 (by omega); exact rfl; refine wl_mv rfl rfl ?_; refine wl_nil ?_
          exact we_loop _ (k - (i + 1)) ⟨i + 1, Q2, qc2, rfl, by omega, hs, rfl⟩ (by omega) ⟨rfl, rfl, rfl, rfl, by simp [lookT], trivial⟩
        · obtain rfl : i = k := by omega
          have l3 : (body.take q).length = q := by rw [List.length_take]; omega
          have l4 : (startsB (body.take (body.length - 4)) q i).length = i := startsB_len _ _ _
          refine wc_exit ?_; refine we_seq_exit ?_; refine we_loop_exit ?_; refine we_block_exit ?_; refine we_seq ?_; refine wc_sr ?_; refine wl_mv rfl rfl ?_; refine wl_mv rfl rfl ?_
          refine wl_sl (l := 0) (h := q) tyB rfl rfl ⟨_, rfl⟩ (Nat.zero_le _) (by omega) rfl ?_
          rw [cutA_zero, Nat.sub_zero, Nat.sub_zero]
          have r3 := cutB_rd (l := 0) (h := q) (c := cB) (xs := body) (hs.ow 1 rfl).rd (Nat.zero_le _) (by omega) hcap
          rw [cutA_zero, List.drop_zero] at r3
          refine wl_mv rfl rfl ?_; refine wl_as rfl rfl ?_; refine wl_as rfl rfl ?_; refine wl_as rfl rfl ?_; refine wl_ns ?_; refine wc_ret ?_
          refine we_ret3 rfl rfl rfl rfl ⟨_, rfl, B, cB, Q, qc, ?_, ?_, r3, ?_, hs.bel⟩
          · show Value.tuple #[.slice B q cB, .slice Q i qc, .int .i64 0] = .tuple #[.slice B (body.take q).length cB, .slice Q (startsB (body.take (body.length - 4)) q i).length qc, .int .i64 0]
            rw [l3, l4]
          · show (body.take q).length ≤ cB
            omega
          · show Rd _ Q (startsB (body.take (body.length - 4)) q i).length (natV (startsB (body.take (body.length - 4)) q i))
            rw [l4]; exact (hs.ow 0 rfl).rd
end Go.Proofs.YtdgagffieobiiaaGreatDoor

/-
  Walk over Decode of blocks.
-/
namespace Go.Proofs.YtdgagffieobiiaaGreatDoor
open Go.RowKit

theorem rdE_bnd {b key : List UInt8} {p p' : Nat} {x : En} (h : rdE b p key = some (x, p')) : x.key.length ≤ key.length + (p' - p) ∧ x.val.length ≤ p' - p ∧ x.seq < 2 ^ 64 := by
  unfold rdE at h
  split at h
  case h_2 => cases h
  rename_i s p1 h1
  split at h
  case h_2 => cases h
  rename_i r p2 h2
  split at h
  case h_2 => cases h
  rename_i q p3 h3
  split at h
  case h_1 => cases h
  rename_i kd h4
  split at h
  case h_2 => cases h
  rename_i z p5 h5
  have i1 := getU_adv h1
  have i2 := getU_adv h2
  have i3 := getU_adv h3
  have i5 := getU_adv h5
  have j3 := (getU_rng h3).1
  split at h
  · cases h
  · split at h
    · cases h
    · split at h
      · cases h
      · simp only [Option.some.injEq, Prod.mk.injEq] at h
        obtain ⟨rfl, rfl⟩ := h
        simp only [List.length_append, List.length_take, List.length_drop]
        omega
theorem rdL_step {b key : List UInt8} {f p p' : Nat} {x : En} (hp : p < b.length) (h : rdE b p key = some (x, p')) : rdL b (f + 1) p key = (rdL b f p' x.key).map ((x, p) :: ·) := by rw [rdL, if_pos hp, h]
theorem rdL_bad {b key : List UInt8} {f p : Nat} (hp : p < b.length) (h : rdE b p key = none) : rdL b (f + 1) p key = none := by rw [rdL, if_pos hp, h]
theorem rdL_end {b key : List UInt8} {f p : Nat} (hp : ¬ p < b.length) : rdL b f p key = some [] := by
  cases f with
  | zero => rw [rdL, if_neg hp]
  | succ f => rw [rdL, if_neg hp]
theorem evF_app (ss ps qs : List Nat) : ∀ i, i ≤ ps.length → evF ss (ps ++ qs) i = evF ss ps i
  | 0, _ => rfl
  | i + 1, h => by
    rw [evF, evF, evF_app ss ps qs i (by omega), List.getElem?_append_left (by omega)]
theorem evF_le (ss ps : List Nat) : ∀ i, evF ss ps i ≤ i
  | 0 => Nat.le_refl _
  | i + 1 => by
    have := evF_le ss ps i
    rw [evF]; split <;> omega
theorem opt_map_app {α : Type} {o : Option (List α)} {a : α} {l : List α} : (o.map (a :: ·)).map (l ++ ·) = o.map ((l ++ [a]) ++ ·) := by
  cases o with
  | none => rfl
  | some x => simp
/-- What the loop of Decode knows. -/
structure DecI (body : List UInt8) (done : List (En × Nat)) (p : Nat) (key : List UInt8) (f : Nat) : Prop where
  all : rdL body body.length 0 [] = (rdL body f p key).map (done ++ ·)
  fuel : body.length ≤ p + f
  le : p ≤ body.length
  key : key.length ≤ p
  len : done.length ≤ p
  siz : ∀ y ∈ done, y.1.key.length ≤ body.length ∧ y.1.val.length ≤ body.length ∧ y.1.seq < 2 ^ 64
theorem DecI.start (body : List UInt8) : DecI body [] 0 [] body.length := ⟨by cases rdL body body.length 0 [] <;> simp, by omega, Nat.zero_le _, Nat.zero_le _, Nat.zero_le _, by simp⟩
theorem DecI.step {body key : List UInt8} {done : List (En × Nat)} {p p' f : Nat} {x : En} (h : DecI body done p key f) (hp : p < body.length) (hr : rdE body p key = some (x, p')) : ∃ f', DecI body (done ++ [(x, p)]) p' x.key f' ∧ p < p' := by
  have h1 := rdE_inv hr
  have h2 := rdE_bnd hr
  have hk := h.key
  have hl := h.len
  obtain ⟨f', rfl⟩ : ∃ f', f = f' + 1 := ⟨f - 1, by have := h.fuel; omega⟩
  refine ⟨f', ⟨?_, ?_, h1.2, ?_, ?_, fun y hy => ?_⟩, h1.1⟩
  · rw [h.all, rdL_step hp hr, opt_map_app]
  · have := h.fuel; omega
  · omega
  · rw [List.length_append]; simp; omega
  · rcases List.mem_append.1 hy with hy | hy
    · exact h.siz y hy
    · rw [List.mem_singleton.1 hy]
      show x.key.length ≤ body.length ∧ x.val.length ≤ body.length ∧ x.seq < 2 ^ 64
      exact ⟨by omega, by omega, h2.2.2⟩
theorem DecI.bad {body key : List UInt8} {done : List (En × Nat)} {p f : Nat} (h : DecI body done p key f) (hp : p < body.length) (hr : rdE body p key = none) : rdL body body.length 0 [] = none := by
  obtain ⟨f', rfl⟩ : ∃ f', f = f' + 1 := ⟨f - 1, by have := h.fuel; omega⟩
  rw [h.all, rdL_bad hp hr]; rfl
theorem DecI.fin {body key : List UInt8} {done : List (En × Nat)} {p f : Nat} (h : DecI body done p key f) (hp : ¬ p < body.length) : rdL body body.length 0 [] = some done := by rw [h.all, rdL_end hp]; simp
set_option maxRecDepth 8000 in
theorem decode_any {A : Option Addr} {n c : Nat} {xs : List UInt8} {w : World} (hr : RdB w A xs) (hn : xs.length = n) (hc : xs.length ≤ c) (hl : xs.length ≤ 1099511627776) :
    CallsV Tryz.prog 76 #[.slice A n c] w fun v w' => ∃ (R : Option Addr) (rc : Nat), v = .tuple #[.slice R (decB xs).1.length rc, .int .i64 ((decB xs).2 : Nat)] ∧ St NoB w w' [.ck (rsC 4 31 R rc ((decB xs).1.map oE))] := by
  subst hn
  refine calls_in (N := _) Tryz.func76 rfl Tryz.ntmps76 rfl ?_; show WC _ _ _ _ _ _
  refine wc_sr ?_; refine wl_as rfl rfl ?_; refine wl_as rfl rfl ?_; refine wl_ns ?_; refine wc_sr ?_; refine wl_mv rfl rfl ?_
  obtain ⟨⟨⟨body, ss⟩, e⟩, hsp⟩ : ∃ q, splB xs = q := ⟨_, rfl⟩
  obtain ⟨hs1, hs2, hs3⟩ := spl_small hsp
  refine wl_call ok_block_split (split_any hr rfl hc hl) ⟨rfl, trivial⟩ rfl ?_
  rw [hsp]
  rintro _ w1 ⟨P, pc, Q, qc, rfl, hpc, rP, rQ, hb⟩
  dsimp only at hpc rP rQ ⊢
  by_cases he : e = 0
  · subst he
    have hdec : decB xs = (match rdL body body.length 0 [] with
      | none => ([], 3)
      | some r => if buildB (evL ss (r.map (·.2))) (r.map (·.1)) = (xs, 0) then (r.map (·.1), 0) else ([], 3)) := by rw [dec_spl, hsp]; rfl
    have hs := (St.init w1).nilO 5
    refine wl_mv rfl rfl ?_; apply wl_val; apply opv_extract; exact rfl; exact rfl; exact rfl; apply wl_val; apply opv_extract; exact rfl; exact rfl; exact rfl; apply wl_val; apply opv_extract; exact rfl; exact rfl; exact rfl; refine wl_as rfl rfl ?_; refine wl_as rfl rfl ?_; refine wl_as rfl rfl ?_; refine wl_ns ?_; refine wc_seq ?_; refine wc_sr ?_; refine wl_mv rfl rfl ?_; refine wl_bin rfl rfl bin_neq rfl ?_; refine wl_ns ?_; apply wc_condFb; exact rfl; exact rfl; refine wc_skip ?_; refine we_seq ?_; refine wc_sr ?_; refine wl_as rfl rfl ?_; refine wl_ns ?_; refine wc_sr ?_; refine wl_as rfl rfl ?_; refine wl_ns ?_; refine wc_sr ?_; refine wl_mv rfl rfl ?_
    refine wl_val (opv_build (vs := [(0, .slice P body.length pc)]) (cs := rdV P body.length pc 0 none 0 0 false) ⟨rfl, rfl, trivial⟩ (by kernel_rfl)) rfl ?_
    refine ws_box (cs := rdV P body.length pc 0 none 0 0 false) hs rfl rfl ?_; clear hs; intro g9 _ hs
    replace hs := hs.nilS 4 31
    refine wl_as rfl rfl ?_; refine wl_ns ?_; refine wc_seq ?_; refine wc_block ?_
    refine wc_loop (fun L wr mm => ∃ (done : List (En × Nat)) (p : Nat) (key : List UInt8) (f : Nat) (R : Option Addr) (rc : Nat) (K : Option Addr) (kc : Nat), L = [(0, .slice A xs.length c), (4, .slice P body.length pc), (5, .slice Q ss.length qc), (7, .slice R done.length rc), (8, .int .i64 (evF ss (done.map (·.2)) done.length : Nat)), (9, .pointer (some ⟨g9, 0, none⟩))] ∧ DecI body done p key f ∧ St NoB w1 wr [.ck (rsC 4 31 R rc ((done.map (·.1)).map oE)), .blk g9 147 (rdV P body.length pc (p : Nat) K key.length kc false), .ow 5 K key.length kc (bvs key)] ∧ mm = body.length - p)
      [(0, .slice A xs.length c), (4, .slice P body.length pc), (5, .slice Q ss.length qc), (7, .slice none 0 0), (8, .int .i64 0), (9, .pointer (some ⟨g9, 0, none⟩))] body.length ⟨[], 0, [], body.length, none, 0, none, 0, rfl, DecI.start body, hs, rfl⟩ ⟨rfl, rfl, rfl, rfl, rfl, rfl, trivial⟩ ?_
    clear hs
    rintro _ w2 mm ⟨done, p, key, f, R, rc, K, kc, rfl, hI, hs, rfl⟩
    unfold rdV at hs
    refine wc_seq ?_; refine wc_sr ?_; refine wl_mv rfl rfl ?_; apply wl_val; apply opv_nilOk; exact rfl; exact rfl; apply wl_val; apply opv_fa; exact fa_R (by decide); exact rfl; exact rfl; apply wl_val; apply opv_ldX; exact rfl; exact hs.ar 1 rfl; exact e1_iB; exact rfl; exact rfl; refine wl_mv rfl rfl ?_; apply wl_val; apply opv_len; exact rfl; exact tyB.sl; exact rfl; refine wl_bin rfl rfl bin_lss rfl ?_; refine wl_ns ?_
    refine wc_cond rfl (fun h1 => ?_) (fun h1 => ?_)
    · have hlt : p < body.length := by omega
      have hbw := hs.bel
      have hQ := rQ.below hbw
      have hpl : (done.map (·.2) ++ [p])[done.length]? = some p := by rw [List.getElem?_append_right (by simp)]; simp
      refine wc_skip ?_; refine we_seq ?_; refine wc_block ?_; refine wc_seq ?_; refine wc_seq ?_
      refine wc_cutE (fun L' w' => ∃ t : Bool, L' = [(0, .slice A xs.length c), (4, .slice P body.length pc), (5, .slice Q ss.length qc), (7, .slice R done.length rc), (8, .int .i64 (evF ss (done.map (·.2)) done.length : Nat)), (9, .pointer (some ⟨g9, 0, none⟩)), (47, .bool t)] ∧ St NoB w1 w' [.ck (rsC 4 31 R rc ((done.map (·.1)).map oE)), .blk g9 147 [.slice P body.length pc, .int .i64 (p : Int), .slice K key.length kc, .bool false], .ow 5 K key.length kc (bvs key)] ∧ (t = true ↔ (1 < ss.length ∧ some p = ss[1]? ∧ evF ss (done.map (·.2)) done.length = 0))) ?_ ?_
      · by_cases k1 : 1 < ss.length
        · obtain ⟨s1, hs1⟩ : ∃ s, ss[1]? = some s := ⟨_, List.getElem?_eq_getElem k1⟩
          have hu : (natV ss)[1]? = some (.int .i64 (s1 : Int)) := by rw [natV, List.getElem?_map, hs1]; rfl
          have k1' : (1 : Int) < (ss.length : Int) := by omega
          have a9 := hs.ar 1 rfl
          by_cases k2 : p = s1
          · have k2' : (p : Int) = (s1 : Int) := by omega
            refine wc_drawB mixed (by kernel_rfl) ?_
            apply wq_val; intro _ hw_; apply opv_move; exact rfl; exact rfl; apply wq_val; intro _ hw_; apply opv_len; exact rfl; exact tyI.sl; exact rfl; apply wq_val; intro _ hw_; apply opv_bin; exact rfl; exact rfl; exact bin_gtr; exact rfl; apply wq_val; intro _ hw_; apply opv_move; exact rfl; exact rfl; apply wq_take; exact rfl; exact rfl; exact rfl; refine bT ?_; (with_reducible assumption); apply wq_val; intro _ hw_; apply opv_move; exact rfl; exact rfl; apply wq_take; exact rfl; exact rfl; exact rfl; refine bT ?_; (with_reducible assumption); apply wq_val; intro _ hw_; apply opv_nilOk; exact rfl; exact rfl; apply wq_take; exact rfl; exact rfl; exact rfl; refine bT ?_; (with_reducible assumption); apply wq_val; intro _ hw_; apply opv_fa; exact fa_R (by decide); exact rfl; exact rfl; apply wq_take; exact rfl; exact rfl; exact rfl; refine bT ?_; (with_reducible assumption); apply wq_val; intro _ hw_; apply opv_ldX; exact rfl; exact Ar.bel (by assumption) hw_; exact e1_iB; exact rfl; exact rfl; apply wq_take; exact rfl; exact rfl; exact rfl; refine bT ?_; (with_reducible assumption); apply wq_val; intro _ hw_; apply opv_move; exact rfl; exact rfl; apply wq_elTK (T := tyI) (hr := hQ) (hb := hu); exact rfl; exact rfl; exact rfl; refine bT ?_; (with_reducible assumption); exact rfl; exact rfl; exact rfl; exact rfl; refine bT ?_; (with_reducible assumption); exact rfl; exact rfl; exact rfl; exact rfl; exact rfl; intro _; apply wq_take; exact rfl; exact rfl; exact rfl; refine bT ?_; (with_reducible assumption); apply wq_val; intro _ hw_; apply opv_bin; exact rfl; exact rfl; exact bin_eql; exact rfl; apply wq_val; intro _ hw_; apply opv_pickT; exact rfl; refine bT ?_; (with_reducible assumption); exact rfl; exact rfl; apply wq_val; intro _ hw_; apply opv_move; exact rfl; exact rfl; apply wq_take; exact rfl; exact rfl; exact rfl; refine bT ?_; (with_reducible assumption); apply wq_val; intro _ hw_; apply opv_move; exact rfl; exact rfl; apply wq_take; exact rfl; exact rfl; exact rfl; refine bT ?_; (with_reducible assumption); apply wq_val; intro _ hw_; apply opv_bin; exact rfl; exact rfl; exact bin_eql; exact rfl; apply wq_val; intro _ hw_; apply opv_pickT; exact rfl; refine bT ?_; (with_reducible assumption); exact rfl; exact rfl; refine wq_nil fun w1 hw1 => ?_
            replace hs := hs.below hw1
            skip
            refine we_cut _ ⟨decide (((evF ss (done.map (·.2)) done.length : Nat) : Int) = 0), rfl, hs, ?_⟩ ⟨rfl, rfl, rfl, rfl, rfl, rfl, rfl, trivial⟩
            rw [decide_eq_true_eq]
            constructor
            · intro h; exact ⟨k1, by rw [hs1, k2], by omega⟩
            · intro h; omega
          · have k2' : ¬ (p : Int) = (s1 : Int) := by omega
            refine wc_drawB mixed (by kernel_rfl) ?_
            apply wq_val; intro _ hw_; apply opv_move; exact rfl; exact rfl; apply wq_val; intro _ hw_; apply opv_len; exact rfl; exact tyI.sl; exact rfl; apply wq_val; intro _ hw_; apply opv_bin; exact rfl; exact rfl; exact bin_gtr; exact rfl; apply wq_val; intro _ hw_; apply opv_move; exact rfl; exact rfl; apply wq_take; exact rfl; exact rfl; exact rfl; refine bT ?_; (with_reducible assumption); apply wq_val; intro _ hw_; apply opv_move; exact rfl; exact rfl; apply wq_take; exact rfl; exact rfl; exact rfl; refine bT ?_; (with_reducible assumption); apply wq_val; intro _ hw_; apply opv_nilOk; exact rfl; exact rfl; apply wq_take; exact rfl; exact rfl; exact rfl; refine bT ?_; (with_reducible assumption); apply wq_val; intro _ hw_; apply opv_fa; exact fa_R (by decide); exact rfl; exact rfl; apply wq_take; exact rfl; exact rfl; exact rfl; refine bT ?_; (with_reducible assumption); apply wq_val; intro _ hw_; apply opv_ldX; exact rfl; exact Ar.bel (by assumption) hw_; exact e1_iB; exact rfl; exact rfl; apply wq_take; exact rfl; exact rfl; exact rfl; refine bT ?_; (with_reducible assumption); apply wq_val; intro _ hw_; apply opv_move; exact rfl; exact rfl; apply wq_elTK (T := tyI) (hr := hQ) (hb := hu); exact rfl; exact rfl; exact rfl; refine bT ?_; (with_reducible assumption); exact rfl; exact rfl; exact rfl; exact rfl; refine bT ?_; (with_reducible assumption); exact rfl; exact rfl; exact rfl; exact rfl; exact rfl; intro _; apply wq_take; exact rfl; exact rfl; exact rfl; refine bT ?_; (with_reducible assumption); apply wq_val; intro _ hw_; apply opv_bin; exact rfl; exact rfl; exact bin_eql; exact rfl; apply wq_val; intro _ hw_; apply opv_pickT; exact rfl; refine bT ?_; (with_reducible assumption); exact rfl; exact rfl; apply wq_val; intro _ hw_; apply opv_move; exact rfl; exact rfl; apply wq_skip; exact rfl; exact rfl; exact rfl; refine bFn ?_; (with_reducible assumption); exact rfl; apply wq_skip; exact rfl; exact rfl; exact rfl; refine bFn ?_; (with_reducible assumption); exact rfl; apply wq_val; intro _ hw_; apply opv_pickF; exact rfl; refine bF ?_; (with_reducible assumption); exact rfl; exact rfl; refine wq_nil fun w1 hw1 => ?_
            replace hs := hs.below hw1
            skip
            refine we_cut _ ⟨false, rfl, hs, ?_⟩ ⟨rfl, rfl, rfl, rfl, rfl, rfl, rfl, trivial⟩
            constructor
            · intro h; cases h
            · rintro ⟨_, h, _⟩; rw [hs1] at h; exact absurd (Option.some.inj h) k2
        · have k1' : ¬ (1 : Int) < (ss.length : Int) := by omega
          refine wc_drawB mixed (by kernel_rfl) ?_
          apply wq_val; intro _ hw_; apply opv_move; exact rfl; exact rfl; apply wq_val; intro _ hw_; apply opv_len; exact rfl; exact tyI.sl; exact rfl; apply wq_val; intro _ hw_; apply opv_bin; exact rfl; exact rfl; exact bin_gtr; exact rfl; apply wq_val; intro _ hw_; apply opv_move; exact rfl; exact rfl; apply wq_skip; exact rfl; exact rfl; exact rfl; refine bFn ?_; (with_reducible assumption); exact rfl; apply wq_skip; exact rfl; exact rfl; exact rfl; refine bFn ?_; (with_reducible assumption); exact rfl; apply wq_skip; exact rfl; exact rfl; exact rfl; refine bFn ?_; (with_reducible assumption); exact rfl; apply wq_skip; exact rfl; exact rfl; exact rfl; refine bFn ?_; (with_reducible assumption); exact rfl; apply wq_skip; exact rfl; exact rfl; exact rfl; refine bFn ?_; (with_reducible assumption); exact rfl; apply wq_skip; exact rfl; exact rfl; exact rfl; refine bFn ?_; (with_reducible assumption); exact rfl; apply wq_skip; exact rfl; exact rfl; exact rfl; refine bFn ?_; (with_reducible assumption); exact rfl; apply wq_skip; exact rfl; exact rfl; exact rfl; refine bFn ?_; (with_reducible assumption); exact rfl; apply wq_val; intro _ hw_; apply opv_pickF; exact rfl; refine bF ?_; (with_reducible assumption); exact rfl; exact rfl; apply wq_val; intro _ hw_; apply opv_move; exact rfl; exact rfl; apply wq_skip; exact rfl; exact rfl; exact rfl; exact bR2; exact rfl; apply wq_skip; exact rfl; exact rfl; exact rfl; exact bR2; exact rfl; apply wq_val; intro _ hw_; apply opv_pickF; exact rfl; exact rfl; exact rfl; exact rfl; refine wq_nil fun w1 hw1 => ?_
          replace hs := hs.below hw1
          skip
          refine we_cut _ ⟨false, rfl, hs, ?_⟩ ⟨rfl, rfl, rfl, rfl, rfl, rfl, rfl, trivial⟩
          constructor
          · intro h; cases h
          · rintro ⟨h, _⟩; exact absurd h k1
      clear hs
      rintro _ w3 ⟨t, rfl, hs, ht⟩
      have hev0 : evF ss (done.map (·.2) ++ [p]) done.length = evF ss (done.map (·.2)) done.length := evF_app _ _ _ _ (by simp)
      refine we_seq ?_
      refine wc_cutE (fun L' w' => L' = [(0, .slice A xs.length c), (4, .slice P body.length pc), (5, .slice Q ss.length qc), (7, .slice R done.length rc), (8, .int .i64 (evF ss (done.map (·.2) ++ [p]) (done.length + 1) : Nat)), (9, .pointer (some ⟨g9, 0, none⟩))] ∧ St NoB w1 w' [.ck (rsC 4 31 R rc ((done.map (·.1)).map oE)), .blk g9 147 [.slice P body.length pc, .int .i64 (p : Int), .slice K key.length kc, .bool false], .ow 5 K key.length kc (bvs key)]) ?_ ?_
      · cases t with
        | true =>
          have hev : evF ss (done.map (·.2) ++ [p]) (done.length + 1) = done.length := by rw [evF, hpl, hev0, if_pos (ht.1 rfl)]
          rw [hev]
          apply wc_condTb; exact rfl; exact rfl; refine wc_region ?_; refine wl_mv rfl rfl ?_; apply wl_val; apply opv_len; exact rfl; exact tkE.sl; exact rfl; refine wl_as rfl rfl ?_; refine wl_nil ?_
          exact we_cut _ ⟨rfl, hs⟩ ⟨rfl, rfl, rfl, rfl, rfl, rfl, trivial⟩
        | false =>
          have hev : evF ss (done.map (·.2) ++ [p]) (done.length + 1) = evF ss (done.map (·.2)) done.length := by rw [evF, hpl, hev0, if_neg fun h => by have := ht.2 h; cases this]
          rw [hev]
          apply wc_condFb; exact rfl; exact rfl; refine wc_skip ?_
          exact we_cut _ ⟨rfl, hs⟩ ⟨rfl, rfl, rfl, rfl, rfl, rfl, trivial⟩
      clear hs
      rintro _ w4 ⟨rfl, hs⟩
      have hdl := hI.len
      have hkl := hI.key
      refine we_seq ?_; refine wc_sr ?_; refine wl_mv rfl rfl ?_; refine wl_mv rfl rfl ?_
      obtain ⟨S2, hS2, _, hM, hH, hB⟩ := St.lend (H1 := [.blk g9 147 (rdV P body.length pc (p : Nat) K key.length kc false), .ow 5 K key.length kc (bvs key)]) (H2 := [.ck (rsC 4 31 R rc ((done.map (·.1)).map oE))]) ((hs.front 2 rfl).front 2 rfl)
      refine wl_call ok_block_reader_entry (rdEntry_any (xs := body) hS2 (fun w' hm => rP.below (hM w' hm).below) rfl hpc (by omega) hI.le (by omega)) ⟨rfl, trivial⟩ rfl ?_
      intro v w5 hout
      cases hrd : rdE body p key with
      | none =>
        rw [hrd] at hout
        obtain ⟨p', K', kc', rfl, hsx⟩ := hout
        replace hs := hB _ _ hsx
        clear hB hsx hS2 hM hH
        dsimp only [List.cons_append, List.nil_append] at hs
        replace hs := (((hs.nilO 5).nilO 5).pack (H1 := enOw ⟨[], 0, 0, []⟩ none 0 none 0) (.ce (oE ⟨[], 0, 0, []⟩) (enV ⟨[], 0, 0, []⟩ none 0 none 0)) oE_of).front 2 rfl
        dsimp only [delC] at hs
        have hnone := hI.bad hlt hrd
        rw [hnone] at hdec
        rw [hdec]
        skip
        refine ws_pushS hs tkE (fun _ => rfl) (by simp) ⟨_, rfl, rfl⟩ rfl rfl (by decide) (by omega) (by simp only [maxLen]; omega) rfl rfl ?_; clear hs; intro _ R2 c2 _ hs
        unfold rdV at hs
        refine wl_as rfl rfl ?_; refine wl_ns ?_; refine wc_sr ?_; refine wl_mv rfl rfl ?_; apply wl_val; apply opv_nilOk; exact rfl; exact rfl; apply wl_val; apply opv_fa; exact fa_R (by decide); exact rfl; exact rfl; apply wl_val; apply opv_ldX; exact rfl; exact hs.ar 1 rfl; exact e1_bB; exact rfl; exact rfl; refine wl_ns ?_; apply wc_condTb; exact rfl; exact rfl; refine wc_sr ?_; refine wl_as rfl rfl ?_; refine wl_as rfl rfl ?_; refine wl_ns ?_; refine wc_ret ?_; refine we_block_ret ?_; refine we_loop_ret ?_; refine we_block_ret ?_; refine we_seq_ret ?_
        exact we_ret2 rfl rfl rfl ⟨_, rfl, none, 0, rfl, (hs.nil.nilS 4 31).rebase hb⟩
      | some y =>
        obtain ⟨x, p'⟩ := y
        rw [hrd] at hout
        obtain ⟨X, cx, Y, cy, K', kc', rfl, hsx⟩ := hout
        replace hs := hB _ _ hsx
        clear hB hsx hS2 hM hH
        dsimp only [List.cons_append, List.nil_append] at hs
        replace hs := (hs.pack (H1 := enOw x X cx Y cy) (.ce (oE x) (enV x X cx Y cy)) oE_of).front 3 rfl
        dsimp only [delC] at hs
        obtain ⟨f', hI2, hpp⟩ := hI.step hlt hrd
        have hle2 := hI2.le
        skip
        refine ws_pushS hs tkE (fun _ => rfl) (by simp) ⟨_, rfl, rfl⟩ rfl rfl (by decide) (by omega) (by simp only [maxLen]; omega) rfl rfl ?_; clear hs; intro _ R2 c2 _ hs
        unfold rdV at hs
        refine wl_as rfl rfl ?_; refine wl_ns ?_; refine wc_sr ?_; refine wl_mv rfl rfl ?_; apply wl_val; apply opv_nilOk; exact rfl; exact rfl; apply wl_val; apply opv_fa; exact fa_R (by decide); exact rfl; exact rfl; apply wl_val; apply opv_ldX; exact rfl; exact hs.ar 1 rfl; exact e1_bB; exact rfl; exact rfl; refine wl_ns ?_; apply wc_condFb; exact rfl; exact rfl; refine wc_skip ?_; refine we_block_norm ?_
        refine we_loop _ (body.length - p') ⟨done ++ [(x, p)], p', x.key, f', R2, c2, K', kc', rfl, hI2, by rw [List.map_append, List.map_append]; exact hs, rfl⟩ (by omega) ⟨rfl, rfl, rfl, by rw [List.length_append]; rfl, by rw [List.map_append, List.length_append]; rfl, rfl, trivial⟩
    · have hfin := hI.fin (by omega)
      rw [hfin] at hdec
      dsimp only at hdec
      have hlen := hI.len
      have hple := hI.le
      have hel := evF_le ss (done.map (·.2)) done.length
      have hpos : 0 < evL ss (done.map (·.2)) ∧ evL ss (done.map (·.2)) ≤ 1048577 := by
        unfold evL; rw [List.length_map]; split <;> omega
      refine wc_exit ?_; refine we_seq_exit ?_; refine we_loop_exit ?_; refine we_block_exit ?_; refine we_seq ?_; refine wc_seq ?_; refine wc_sr ?_; refine wl_mv rfl rfl ?_; refine wl_bin rfl rfl bin_eql rfl ?_; refine wl_ns ?_
      refine wc_cutE (fun L' w' => L' = [(0, .slice A xs.length c), (4, .slice P body.length pc), (5, .slice Q ss.length qc), (7, .slice R done.length rc), (8, .int .i64 (evL ss (done.map (·.2)) : Nat)), (9, .pointer (some ⟨g9, 0, none⟩))] ∧ w' = w2) ?_ ?_
      · by_cases hev : evF ss (done.map (·.2)) done.length = 0
        · have hevL : evL ss (done.map (·.2)) = done.length + 1 := by unfold evL; rw [List.length_map, if_pos hev]
          have hev' : ((evF ss (done.map (·.2)) done.length : Nat) : Int) = 0 := by omega
          rw [hevL]
          apply wc_decT; exact rfl; (with_reducible assumption); refine wc_region ?_; refine wl_mv rfl rfl ?_; apply wl_val; apply opv_len; exact rfl; exact tkE.sl; exact rfl; apply wl_val; apply opv_bin; exact rfl; exact rfl; exact bin_add64 (by omega); exact rfl; refine wl_as rfl rfl ?_; refine wl_nil ?_
          exact we_cut _ ⟨rfl, rfl⟩ ⟨rfl, rfl, rfl, rfl, rfl, rfl, trivial⟩
        · have hevL : evL ss (done.map (·.2)) = evF ss (done.map (·.2)) done.length := by unfold evL; rw [List.length_map, if_neg hev]
          have hev' : ¬ ((evF ss (done.map (·.2)) done.length : Nat) : Int) = 0 := by omega
          rw [hevL]
          apply wc_decF; exact rfl; (with_reducible assumption); refine wc_skip ?_
          exact we_cut _ ⟨rfl, rfl⟩ ⟨rfl, rfl, rfl, rfl, rfl, rfl, trivial⟩
      rintro _ _ ⟨rfl, rfl⟩
      refine we_seq ?_
      refine wc_seq ?_; refine wc_sr ?_; refine wl_mv rfl rfl ?_; refine wl_mv rfl rfl ?_
      obtain ⟨⟨B, eb⟩, hbB⟩ : ∃ q, buildB (evL ss (done.map (·.2))) (done.map (·.1)) = q := ⟨_, rfl⟩
      have hbw := hs.bel
      refine wl_call ok_block_Build (blkBuild_any (l := done.map (·.1)) hpos.1 (by omega) (OwR.rd (hs.rsE 0 rfl)) (by simp) (by simp; omega) (by
        intro x hx
        obtain ⟨y, hy, rfl⟩ := List.mem_map.1 hx
        have := hI.siz y hy
        exact ⟨by omega, by omega, this.2.2⟩)) ⟨rfl, rfl, trivial⟩ rfl ?_
      rw [hbB] at hdec ⊢
      rintro _ w3 ⟨BA, bc, rfl, oB, hb3⟩
      dsimp only at oB ⊢
      replace hs := hs.below hb3
      have hbw3 := hs.bel
      by_cases k1 : eb = 0
      · subst k1
        refine wl_mv rfl rfl ?_; apply wl_val; apply opv_extract; exact rfl; exact rfl; exact rfl; apply wl_val; apply opv_extract; exact rfl; exact rfl; exact rfl; refine wl_as rfl rfl ?_; refine wl_as rfl rfl ?_; refine wl_ns ?_; refine wc_sr ?_; refine wl_mv rfl rfl ?_; refine wl_bin rfl rfl bin_neq rfl ?_; refine wl_mv rfl rfl ?_; apply wl_take; exact rfl; exact rfl; exact rfl; refine bF ?_; omega; refine wl_mv rfl rfl ?_; apply wl_take; exact rfl; exact rfl; exact rfl; refine bF ?_; omega; refine wl_mv rfl rfl ?_; apply wl_take; exact rfl; exact rfl; exact rfl; refine bF ?_; omega
        refine wl_call ok_bytes_Equal (beq_any (oB.rd) ((hr.below hb).below hbw3) rfl rfl) ⟨rfl, rfl, trivial⟩ rfl ?_
        rintro _ _ ⟨rfl, rfl⟩
        by_cases k2 : B = xs
        · rw [if_pos (by rw [k2])] at hdec
          rw [hdec]
          have k2' : ¬ ¬ B = xs := fun h => h k2
          apply wl_take; exact rfl; exact rfl; exact rfl; refine bF ?_; omega; apply wl_val; apply opv_notD; exact rfl; exact rfl; apply wl_val; apply opv_pickF; exact rfl; refine bF ?_; omega; exact rfl; exact rfl; refine wl_ns ?_; apply wc_decF; exact rfl; (with_reducible assumption); refine wc_skip ?_; refine we_seq ?_; refine wc_sr ?_; refine wl_mv rfl rfl ?_; refine wl_as rfl rfl ?_; refine wl_as rfl rfl ?_; refine wl_ns ?_; refine wc_ret ?_
          exact we_ret2 rfl rfl rfl ⟨_, rfl, R, rc, by rw [List.length_map]; rfl, ((hs.drop 1 rfl).drop 1 rfl).rebase hb⟩
        · rw [if_neg fun h => k2 (Prod.mk.inj h).1] at hdec
          rw [hdec]
          apply wl_take; exact rfl; exact rfl; exact rfl; refine bF ?_; omega; apply wl_val; apply opv_notD; exact rfl; exact rfl; apply wl_val; apply opv_pickF; exact rfl; refine bF ?_; omega; exact rfl; exact rfl; refine wl_ns ?_; apply wc_decT; exact rfl; (with_reducible assumption); refine wc_sr ?_; refine wl_as rfl rfl ?_; refine wl_as rfl rfl ?_; refine wl_ns ?_; refine wc_ret ?_; refine we_seq_ret ?_
          exact we_ret2 rfl rfl rfl ⟨_, rfl, none, 0, rfl, (hs.nil.nilS 4 31).rebase hb⟩
      · have k1' : ¬ (eb : Int) = 0 := by omega
        have hne : ¬ (B, eb) = (xs, 0) := fun h => k1 (Prod.mk.inj h).2
        rw [if_neg hne] at hdec
        rw [hdec]
        refine wl_mv rfl rfl ?_; apply wl_val; apply opv_extract; exact rfl; exact rfl; exact rfl; apply wl_val; apply opv_extract; exact rfl; exact rfl; exact rfl; refine wl_as rfl rfl ?_; refine wl_as rfl rfl ?_; refine wl_ns ?_; refine wc_sr ?_; refine wl_mv rfl rfl ?_; refine wl_bin rfl rfl bin_neq rfl ?_; refine wl_mv rfl rfl ?_; apply wl_skip; exact rfl; exact rfl; exact rfl; refine bTn ?_; (with_reducible assumption); exact rfl; apply wl_skip; exact rfl; exact rfl; exact rfl; refine bTn ?_; (with_reducible assumption); exact rfl; apply wl_skip; exact rfl; exact rfl; exact rfl; refine bTn ?_; (with_reducible assumption); exact rfl; apply wl_skip; exact rfl; exact rfl; exact rfl; refine bTn ?_; (with_reducible assumption); exact rfl; apply wl_val; apply opv_pickT; exact rfl; refine bT ?_; (with_reducible assumption); exact rfl; exact rfl; refine wl_ns ?_; apply wc_condTb; exact rfl; exact rfl; refine wc_sr ?_; refine wl_as rfl rfl ?_; refine wl_as rfl rfl ?_; refine wl_ns ?_; refine wc_ret ?_; refine we_seq_ret ?_
        exact we_ret2 rfl rfl rfl ⟨_, rfl, none, 0, rfl, (hs.nil.nilS 4 31).rebase hb⟩
  · have he' : ((e : Nat) : Int) ≠ 0 := by omega
    have hdec : decB xs = ([], e) := by
      rw [dec_spl, hsp]
      cases e with
      | zero => exact absurd rfl he
      | succ e => rfl
    rw [hdec]
    refine wl_mv rfl rfl ?_; apply wl_val; apply opv_extract; exact rfl; exact rfl; exact rfl; apply wl_val; apply opv_extract; exact rfl; exact rfl; exact rfl; apply wl_val; apply opv_extract; exact rfl; exact rfl; exact rfl; refine wl_as rfl rfl ?_; refine wl_as rfl rfl ?_; refine wl_as rfl rfl ?_; refine wl_ns ?_; refine wc_seq ?_; refine wc_sr ?_; refine wl_mv rfl rfl ?_; refine wl_bin rfl rfl bin_neq rfl ?_; refine wl_ns ?_; apply wc_decT; exact rfl; (with_reducible assumption); refine wc_sr ?_; refine wl_mv rfl rfl ?_; refine wl_as rfl rfl ?_; refine wl_as rfl rfl ?_; refine wl_ns ?_; refine wc_ret ?_; refine we_seq_ret ?_
    exact we_ret2 rfl rfl rfl ⟨_, rfl, none, 0, rfl, ((St.init w1).nilS 4 31).rebase hb⟩
end Go.Proofs.YtdgagffieobiiaaGreatDoor

/-
  Walk over sort.Search.
-/
namespace Go.Proofs.YtdgagffieobiiaaGreatDoor
open Go.RowKit

/-- The least place at which p holds, of a p that keeps on. -/
structure SchR (n : Nat) (p : Nat → Bool) (i : Nat) : Prop where
  le : i ≤ n
  lo : ∀ k, k < i → p k = false
  hi : i < n → p i = true
theorem search_any {n : Nat} {f : FuncId} {us : Array Value} {p : Nat → Bool} {w : World} (hok : CallOk Tryz.prog f) (hn : n ≤ 4611686018427387903)
    (hf : ∀ k, k < n → ∀ w', Below w.heap.size w w' → CallsV Tryz.prog f (#[] ++ [Value.int .i64 (k : Int)].toArray ++ us) w' fun v w'' => v = .bool (p k) ∧ Below w'.heap.size w' w'')
    (hm : ∀ i j, i ≤ j → j < n → p i = true → p j = true) :
    CallsV Tryz.prog 81 #[.int .i64 (n : Int), .func (.func f) #[] us] w fun v w' => (∃ i : Nat, v = .int .i64 (i : Int) ∧ SchR n p i) ∧ Below w.heap.size w w' := by
  refine calls_in (N := _) Tryz.func81 rfl Tryz.ntmps81 rfl ?_; show WC _ _ _ _ _ _
  refine wc_sr ?_; refine wl_as rfl rfl ?_; refine wl_ns ?_; refine wc_sr ?_; refine wl_mv rfl rfl ?_; refine wl_as rfl rfl ?_; refine wl_as rfl rfl ?_; refine wl_ns ?_; refine wc_seq ?_; refine wc_block ?_
  refine wc_loop (fun L wr m => ∃ lo hi : Nat, L = [(0, .int .i64 (n : Int)), (1, .func (.func f) #[] us), (4, .int .i64 0), (5, .int .i64 (lo : Int)), (6, .int .i64 (hi : Int))] ∧ lo ≤ hi ∧ hi ≤ n ∧ (∀ k, k < lo → p k = false) ∧ (hi < n → p hi = true) ∧ Below w.heap.size w wr ∧ m = hi - lo)
    [(0, .int .i64 (n : Int)), (1, .func (.func f) #[] us), (4, .int .i64 0), (5, .int .i64 0), (6, .int .i64 (n : Int))] n ⟨0, n, rfl, Nat.zero_le _, Nat.le_refl _, fun k h => absurd h (Nat.not_lt_zero _), fun h => absurd h (Nat.lt_irrefl _), Below.refl _ _, rfl⟩ ⟨rfl, rfl, rfl, rfl, rfl, trivial⟩ ?_
  rintro _ w1 m ⟨lo, hi, rfl, h1, h2, h3, h4, hb, rfl⟩
  refine wc_seq ?_; refine wc_sr ?_; refine wl_mv rfl rfl ?_; refine wl_mv rfl rfl ?_; refine wl_bin rfl rfl bin_lss rfl ?_; refine wl_ns ?_
  refine wc_cond rfl (fun hlt => ?_) (fun hlt => ?_)
  · have hlt' : lo < hi := by omega
    refine wc_skip ?_; refine we_seq ?_; refine wc_block ?_; refine wc_sr ?_; refine wl_mv rfl rfl ?_; refine wl_mv rfl rfl ?_; apply wl_val; apply opv_bin; exact rfl; exact rfl; exact bin_add64 (by omega); exact rfl; apply wl_val; apply opv_convR; exact rfl; exact Tryz.underlying3; exact Tryz.underlying126; exact IntWalk.u64_in _ (by omega); exact rfl
    have hx : lo + hi < 2 ^ IntKind.u64.bits := by show _ < 2 ^ 64; omega
    rw [← Int.natCast_add]
    refine wl_val (opv_bin (b := .int .u64 (1 : Nat)) rfl rfl (bin_shr hx)) rfl ?_
    obtain ⟨m, hm1⟩ : ∃ m, (lo + hi) / 2 ^ 1 = m := ⟨_, rfl⟩
    rw [hm1]
    have hm2 : lo ≤ m ∧ m < hi := by omega
    apply wl_val; apply opv_convR; exact rfl; exact Tryz.underlying126; exact Tryz.underlying3; exact IntWalk.i64_in _ (by omega); exact rfl; refine wl_as rfl rfl ?_; refine wl_ns ?_; refine wc_sr ?_; refine wl_mv rfl rfl ?_; refine wl_mv rfl rfl ?_
    refine wl_callF hok rfl (hf m (by omega) w1 hb) ⟨rfl, trivial⟩ rfl ?_
    rintro _ w2 ⟨rfl, hb2⟩
    replace hb2 := hb.trans (hb2.mono hb.size)
    cases hpm : p m with
    | true =>
      apply wl_val; apply opv_not; exact rfl; exact rfl; refine wl_ns ?_; apply wc_condFb; exact rfl; exact Bool.not_true; refine wc_region ?_; refine wl_mv rfl rfl ?_; refine wl_as rfl rfl ?_; refine wl_nil ?_; refine we_block_norm ?_
      refine we_loop _ (m - lo) ⟨lo, m, rfl, hm2.1, by omega, h3, fun _ => hpm, hb2, rfl⟩ (by omega) ⟨rfl, rfl, rfl, rfl, rfl, trivial⟩
    | false =>
      apply wl_val; apply opv_not; exact rfl; exact rfl; refine wl_ns ?_; apply wc_condTb; exact rfl; exact Bool.not_false; refine wc_region ?_; refine wl_mv rfl rfl ?_; apply wl_val; apply opv_bin; exact rfl; exact rfl; exact bin_add64 (by omega); exact rfl; refine wl_as rfl rfl ?_; refine wl_nil ?_; refine we_block_norm ?_
      refine we_loop _ (hi - (m + 1)) ⟨m + 1, hi, rfl, by omega, h2, fun k hk => ?_, h4, hb2, rfl⟩ (by omega) ⟨rfl, rfl, rfl, rfl, rfl, trivial⟩
      cases hpk : p k with
      | false => rfl
      | true => rw [hm k m (by omega) (by omega) hpk] at hpm; cases hpm
  · have : lo = hi := by omega
    subst this
    refine wc_exit ?_; refine we_seq_exit ?_; refine we_loop_exit ?_; refine we_block_exit ?_; refine we_seq ?_; refine wc_sr ?_; refine wl_mv rfl rfl ?_; refine wl_as rfl rfl ?_; refine wl_ns ?_; refine wc_ret ?_
    exact we_ret1 rfl rfl ⟨_, rfl, ⟨lo, rfl, h2, h3, h4⟩, hb⟩
end Go.Proofs.YtdgagffieobiiaaGreatDoor

/-
  Walk over the test that Seek hands to Search, and over Seek of blocks.
-/
namespace Go.Proofs.YtdgagffieobiiaaGreatDoor
open Go.RowKit
/-- New bytes with room behind them, as a piece. -/
def nwC (A : Option Addr) (c : Nat) (xs : List UInt8) : Ck := ⟨fun w S => (∀ a, A = some a → S a.block) ∧ NwB w 0 A c xs, fun {w w' S S'} ⟨h1, h2⟩ hz hm => by
  rcases h2 with ⟨rfl, h⟩ | ⟨g, cs, rfl, hg, ha, h⟩
  · exact ⟨fun a h => (by cases h), .inl ⟨rfl, h⟩⟩
  · have := hm g ha.lt (h1 _ rfl)
    exact ⟨fun a h => (by cases h; exact this.1), .inr ⟨g, cs, rfl, hg, this.2.trans ha, h⟩⟩⟩
theorem St.nw {M : BS} {w0 w : World} {H : List Cd} {A : Option Addr} {c : Nat} {xs : List UInt8} (h : St M w0 w H) (i : Nat) (hi : nthC H i = some (.ck (nwC A c xs))) : RdB w A xs ∧ xs.length ≤ c := by
  obtain ⟨T, hc, _⟩ := h.get i hi
  exact ⟨hc.2.rd, hc.2.cap⟩
theorem enEl_rdW {w : World} {S : Nat → Prop} {x : En} {A B : Option Addr} {c d : Nat} (h : (enEl x).P w S (enV x A c B d)) : RdB w A x.key ∧ RdB w B x.val := by
  obtain ⟨A', c', B', d', he, r1, _, r2, _⟩ := enEl.rd h
  simp only [enV, List.cons.injEq, Value.slice.injEq] at he
  obtain ⟨⟨rfl, _⟩, _, _, ⟨rfl, _⟩, _⟩ := he
  exact ⟨r1, r2⟩
def noE : En := ⟨[], 0, 0, []⟩
/-- What Seek answers. -/
def sekE (l : List En) (y : En) : Option En := l.find? fun x => !lessE x y
theorem sek_at {l : List En} {y : En} {i : Nat} (h : SchR l.length (fun k => !lessE (l[k]?.getD noE) y) i) : sekE l y = l[i]? := by
  obtain ⟨h1, h2, h3⟩ := h
  have hpre : (l.take i).find? (fun x => !lessE x y) = none := List.find?_eq_none.2 fun x hx => by
    obtain ⟨k, hk⟩ := List.mem_iff_getElem?.1 hx
    have hki : k < i := by
      have := (List.getElem?_eq_some_iff.1 hk).1
      rw [List.length_take] at this; omega
    rw [List.getElem?_take_of_lt hki] at hk
    have := h2 k hki
    rw [hk, Option.getD_some] at this
    simpa using this
  have e : sekE l y = (l.drop i).find? fun x => !lessE x y := by
    have := List.find?_append (xs := l.take i) (ys := l.drop i) (p := fun x => !lessE x y)
    rw [List.take_append_drop, hpre, Option.none_or] at this
    exact this
  rw [e]
  by_cases hi : i < l.length
  · have h4 := h3 hi
    rw [List.getElem?_eq_getElem hi, Option.getD_some] at h4
    rw [List.drop_eq_getElem_cons hi, List.find?_cons, h4, List.getElem?_eq_getElem hi]
  · rw [List.drop_eq_nil_of_le (by omega), List.getElem?_eq_none (by omega)]; rfl
theorem ord_mono {l : List En} {y : En} (ho : Ord l) {i j : Nat} (hij : i ≤ j) (hj : j < l.length) (h : (!lessE (l[i]?.getD noE) y) = true) : (!lessE (l[j]?.getD noE) y) = true := by
  rw [List.getElem?_eq_getElem hj, Option.getD_some]
  rw [List.getElem?_eq_getElem (by omega), Option.getD_some] at h
  rcases Nat.eq_or_lt_of_le hij with rfl | hlt
  · exact h
  · have := List.pairwise_iff_getElem.1 ho i j (by omega) hj hlt
    cases hb : lessE l[j] y with
    | false => rfl
    | true => rw [lessE_trans this hb] at h; cases h
end Go.Proofs.YtdgagffieobiiaaGreatDoor

/-
  Walks over PutAll, Size and Range of the document.
-/
namespace Go.Proofs.YtdgagffieobiiaaGreatDoor
open Go.RowKit

theorem okP_step {xs l : List En} {k : Nat} {x : En} (hx : l[k]? = some x) : okP xs l (k + 1) = (okP xs l k && !inE ((l.take k).foldl insE xs) x) := by rw [okP_succ hx, inE_fold (out := xs)]
theorem foldI_len {xs : List En} : ∀ {l : List En}, (l.foldl insE xs).length = xs.length + l.length := by
  intro l
  induction l generalizing xs with
  | nil => rfl
  | cons x l ih => rw [List.foldl_cons, ih, insE_length, List.length_cons]; omega
/-- The list behind PutAll. -/
def putL (xs l : List En) : List En := if putC xs l = 0 then l.foldl insE xs else xs
/-- A row of entries whose own memory lies in blocks of S, the row itself anywhere. -/
def RdO (w : World) (S : BS) (A : Option Addr) (l : List En) : Prop := ∃ css, Grp 4 w S (l.map enEl) css ∧ RdR 4 w All A (css.map rawEl)
theorem RdO.rd {w : World} {S : BS} {A : Option Addr} {l : List En} (h : RdO w S A l) : RdR 4 w All A (l.map enEl) := by
  obtain ⟨css, h1, h2⟩ := h
  obtain ⟨h3, _⟩ := RdR.raw h2
  exact ⟨css, h1.all, by rw [← h1.1]; exact h3, fun _ _ _ => trivial⟩
theorem RdO.below {w w' : World} {S : BS} {A : Option Addr} {l : List En} (h : RdO w S A l) (hb : Below w.heap.size w w') : RdO w' S A l := by
  obtain ⟨css, h1, h2⟩ := h
  exact ⟨css, h1.move hb.size fun b hlt hs => ⟨hs, hb.block b hlt⟩, h2.below hb⟩
theorem OwR.base {k base base' c : Nat} {e : TypeId} {w : World} {S : BS} {A : Option Addr} {els : List El} (h : OwR k e w base S A c els) (hb : base' ≤ base) : OwR k e w base' S A c els := h.mono hb fun _ _ h => h
theorem tsz_mem {l : List En} {b : Nat} (h : ∀ x ∈ l, x.key.length + x.val.length ≤ b) : tszE l ≤ l.length * b := by
  induction l with
  | nil => simp [tszE]
  | cons x l ih =>
    have h1 := h x List.mem_cons_self
    have h2 := ih fun y hy => h y (List.mem_cons_of_mem _ hy)
    simp only [tszE, List.map_cons, List.sum_cons, List.length_cons] at h2 ⊢
    rw [Nat.add_mul]; omega
end Go.Proofs.YtdgagffieobiiaaGreatDoor

/-
  What the laws of tables in memory need: Get told in one way, rows whose entries lie in old memory as pieces, twins to be turned over, arguments of asks.
-/
namespace Go.Proofs.YtdgagffieobiiaaGreatDoor
open Go.RowKit Go.ChangeShapes Go.WideShapes Go.ChangeAt Go.Deep

def zEn : En := ⟨[], 0, 0, []⟩
def gtE (l : List En) (key : List UInt8) (m : Nat) : En := (getE l key m).getD zEn
theorem tget2_any {TX : TypeId × List Value} {S : BS} {t kn e m : Nat} {xs : List En} {K : Option Addr} {key : List UInt8} {w : World} (h0 : Sat w [.ck (tblX TX t xs)] S) (ho : Ord xs) (hkn : key.length = kn) (hkey : ∀ w', Mod S w w' → RdB w' K key) (hok : ∀ x ∈ xs, x.key.length ≤ 140737488355328 ∧ x.val.length ≤ 140737488355328) :
    CallsV Tryz.prog 21 #[pN t, .slice K kn e, .int .u64 (m : Int)] w fun v w' => ∃ (X : Option Addr) (cx : Nat) (Y : Option Addr) (cy : Nat), v = .tuple #[.agg (enV (gtE xs key m) X cx Y cy).toArray, .bool (getE xs key m).isSome] ∧ St S w w' (enOw (gtE xs key m) X cx Y cy ++ [.ck (tblX TX t xs)]) :=
  (tget_any h0 ho hkn hkey hok).mono fun v w' ⟨H, hv, hs⟩ => by
    rw [gtE]
    cases hg : getE xs key m with
    | none =>
      rw [hg] at hv
      obtain ⟨rfl, rfl⟩ := hv
      exact ⟨none, 0, none, 0, rfl, (hs.nilO 5).nilO 5⟩
    | some x =>
      rw [hg] at hv
      obtain ⟨A, c, B, d, rfl, rfl⟩ := hv
      exact ⟨A, c, B, d, rfl, hs⟩
/-- Blocks that stood when the call began. -/
def Old (w0 : World) : BS := fun b => b < w0.heap.size
theorem byEl.back {w0 w : World} {S : BS} {xs : List UInt8} {cs : List Value} (hS : ∀ b, S b → b < w0.heap.size) (hb : Below w0.heap.size w0 w) (h : (byEl xs).P w S cs) : (byEl xs).P w0 (Old w0) cs := by
  obtain ⟨A, c, h1, h2, h3, h4⟩ := h
  refine ⟨A, c, h1, h2, ⟨h3.1, fun hn => ?_⟩, fun a ha hn => hS _ (h4 a ha hn)⟩
  obtain ⟨b, o, hA, _, hc⟩ := h3.2 hn
  have hlt := hS _ (h4 _ hA hn)
  exact ⟨b, o, hA, hlt, fun j u hu => (World.cell?_of_block (a := ⟨b, o + j, none⟩) (hb.block b hlt)).symm.trans (hc j u hu)⟩
theorem enEl.back {w0 w : World} {S : BS} {x : En} {cs : List Value} (hS : ∀ b, S b → b < w0.heap.size) (hb : Below w0.heap.size w0 w) (h : (enEl x).P w S cs) : (enEl x).P w0 (Old w0) cs := by
  obtain ⟨A, c, B, d, h1, h2, h3⟩ := h
  exact ⟨A, c, B, d, h1, byEl.back hS hb h2, byEl.back hS hb h3⟩
/-- A row of entries, its own memory a piece, the entries' memory old. -/
def oldC (w0 : World) (A : Option Addr) (c : Nat) (l : List En) : Ck := ⟨fun w S => ∃ css, Grp 4 w0 (Old w0) (l.map enEl) css ∧ (Cd.rg 4 31 A c (css.map rawEl)).P w S, fun ⟨css, h1, h2⟩ hz hm => ⟨css, h1, Cd.move (c := .rg 4 31 A c (css.map rawEl)) h2 hz hm⟩⟩
section
variable {w0 w w' : World} {H : List Cd} {A : Option Addr} {c base : Nat} {l : List En}
theorem St.old (hs : St NoB w0 w H) (i : Nat) (hi : nthC H i = some (.ck (oldC w0 A c l))) : RdO w (Old w0) A l := by
  obtain ⟨T, ⟨css, h1, h2⟩, _⟩ := hs.get i hi
  exact ⟨css, h1.move hs.size fun b _ h => ⟨h, hs.bel.block b h⟩, OwR.rd h2.2⟩
end
/-- An ask. -/
structure Ak where
  key : List UInt8
  to : List UInt8
  at_ : Nat
def akV (a : Ak) (A : Option Addr) (c : Nat) (B : Option Addr) (d : Nat) : List Value := [.slice A a.key.length c, .slice B a.to.length d, .int .u64 (a.at_ : Int)]
def akEl (a : Ak) : El where
  P w S cs := ∃ (A : Option Addr) (c : Nat) (B : Option Addr) (d : Nat), cs = akV a A c B d ∧ (byEl a.key).P w S [.slice A a.key.length c] ∧ (byEl a.to).P w S [.slice B a.to.length d]
  move := by rintro w w' S S' cs ⟨A, c, B, d, h, h1, h2⟩ hz hm; exact ⟨A, c, B, d, h, El.move _ h1 hz hm, El.move _ h2 hz hm⟩
theorem akEl.rd {w : World} {S : BS} {a : Ak} {cs : List Value} (h : (akEl a).P w S cs) : ∃ A c B d, cs = akV a A c B d ∧ RdB w A a.key ∧ RdB w B a.to := by
  obtain ⟨A, c, B, d, h0, h1, h2⟩ := h
  exact ⟨A, c, B, d, h0, (byE.rd h1).1, (byE.rd h2).1⟩
end Go.Proofs.YtdgagffieobiiaaGreatDoor

/-
  Walk over the law MemTables.
-/
namespace Go.Proofs.YtdgagffieobiiaaGreatDoor
open Go.RowKit

/-- What the law knows of the list that the table should have. -/
structure WOk (xs : List En) (b : Nat) : Prop where
  ord : Ord xs
  len : xs.length ≤ b
  mem : ∀ x ∈ xs, (x.key.length ≤ 1048576 ∧ x.val.length ≤ 1048576) ∧ x.seq < 2 ^ 64
theorem WOk.nil : WOk [] 0 := ⟨.nil, by simp, by simp⟩
theorem WOk.put {xs l : List En} {b m : Nat} (h : WOk xs b) (hl : l.length ≤ m) (hm : ∀ x ∈ l, (x.key.length ≤ 1048576 ∧ x.val.length ≤ 1048576) ∧ x.seq < 2 ^ 64) : WOk (putL xs l) (b + m) := by
  unfold putL
  by_cases hz : putC xs l = 0
  · rw [if_pos hz]
    have hck : checkE l = 0 := by
      rcases Decidable.em (checkE l = 0) with h1 | h1
      · exact h1
      · rw [putC, if_neg h1] at hz; exact hz
    have hok : okP xs l l.length = true := by
      rw [putC, if_pos hck] at hz
      cases h1 : okP xs l l.length with
      | true => rfl
      | false => rw [h1] at hz; cases hz
    have ho := okP_ord h.ord (Nat.le_refl _) hok
    rw [List.take_length] at ho
    refine ⟨ho, by rw [foldI_len]; have := h.len; omega, fun x hx => ?_⟩
    rcases foldI_mem.1 hx with h1 | h1
    · exact h.mem x h1
    · exact hm x h1
  · rw [if_neg hz]
    exact ⟨h.ord, by have := h.len; omega, h.mem⟩
theorem cmp_nil (xs : List UInt8) : 0 ≤ cmpB xs [] := by cases xs <;> simp [cmpB]
theorem range_nil (xs : List En) : rangeE xs [] [] = xs := List.filter_eq_self.2 fun x _ => by simp [cmp_nil]
end Go.Proofs.YtdgagffieobiiaaGreatDoor

/-
  Blocks that hold a list's marks: append onto a slice at the head of a block that is known whole, and what a step may change of such blocks.
-/
namespace Go.Proofs.YtdgagffieobiiaaGreatDoor
open Go.RowKit

section
variable {P : Program} {N : Nat} {ops : Array Oper} {Q : Exit → Act → World → Prop} {rest : List Oper} {L : FL} {w : World} {t e : TypeId} {z : Value} {bytes : Nat}
end

/-- The byte that stands for place j of list i. -/
def mkb (i j : Nat) : UInt8 := UInt8.ofNat (17 * i + 3 * j + 1)
def mk (i j : Nat) : Value := bv (mkb i j)
def mkl (i n : Nat) : List UInt8 := (List.range n).map (mkb i)
theorem mkl_length (i n : Nat) : (mkl i n).length = n := by simp [mkl]
theorem mkl_get {i n j : Nat} (h : j < n) : (mkl i n)[j]? = some (mkb i j) := by simp [mkl, h]
/-- Block b holds the marks of list i, at its first n places. -/
def MkB (w : World) (b i n : Nat) : Prop := ∃ cs, Ar w b 5 cs ∧ n ≤ cs.length ∧ ∀ j, j < n → cs[j]? = some (mk i j)
/-- A step that may write marks of list i into block X, and changes no other block of bytes. -/
def Sk (w w' : World) (X : Option Nat) (i : Nat) : Prop :=
  ∀ b cs, Ar w b 5 cs → ∃ cs', Ar w' b 5 cs' ∧ cs'.length = cs.length ∧ (cs' = cs ∨ (X = some b ∧ ∀ j u, cs'[j]? = some u → cs[j]? = some u ∨ u = mk i j))
/-- A slice at the head of a block of the call's own, or nil. -/
def Hd (w : World) (base : Nat) (A : Option Addr) (n c : Nat) : Prop :=
  (A = none ∧ n = 0 ∧ c = 0) ∨ ∃ g cs, A = some ⟨g, 0, none⟩ ∧ base ≤ g ∧ Ar w g 5 cs ∧ n ≤ c ∧ c ≤ cs.length
section
variable {w w' w1 : World} {X : Option Nat} {A : Option Addr} {b i k n c base : Nat}
theorem MkB.rd (h : MkB w b i n) : RdB w (some ⟨b, 0, none⟩) (mkl i n) := by
  obtain ⟨cs, ha, hl, hm⟩ := h
  refine ⟨bvs_length _, fun _ => ⟨b, 0, rfl, ha.lt, fun j u hu => ?_⟩⟩
  rw [ha.cell, Nat.zero_add]
  have hj : j < n := by have := (List.getElem?_eq_some_iff.1 hu).1; rwa [bvs_length, mkl_length] at this
  rw [bvs, List.getElem?_map, mkl_get hj] at hu
  rw [hm j hj]; exact hu
theorem Sk.refl (w : World) (X : Option Nat) (i : Nat) : Sk w w X i := fun _ cs h => ⟨cs, h, rfl, .inl rfl⟩
theorem Sk.trans (h : Sk w w1 X i) (h2 : Sk w1 w' X i) : Sk w w' X i := fun b cs ha => by
  obtain ⟨c1, a1, l1, r1⟩ := h b cs ha
  obtain ⟨c2, a2, l2, r2⟩ := h2 b c1 a1
  refine ⟨c2, a2, l2.trans l1, ?_⟩
  rcases r2 with rfl | ⟨hX, r2⟩
  · exact r1
  · refine .inr ⟨hX, fun j u hu => ?_⟩
    rcases r2 j u hu with h | h
    · rcases r1 with rfl | ⟨_, r1⟩
      · exact .inl h
      · exact r1 j u h
    · exact .inr h
theorem Sk.bel (h : Below w.heap.size w w') : Sk w w' X i := fun _ cs ha => ⟨cs, ha.bel h, rfl, .inl rfl⟩
/-- A step that changes one block of another type alone. -/
theorem Sk.other {g : Nat} {t : TypeId} {cs : List Value} (h : Gr w w' A) (hA : ∀ a, A = some a → a.block = g) (ht : A = none ∨ Ar w g t cs) (hne : t ≠ 5) : Sk w w' X i := fun b ds hb => by
  refine ⟨ds, ?_, rfl, .inl rfl⟩
  unfold Ar
  rw [h.block b hb.lt fun hk => ?_]
  · exact hb
  · cases A with
    | none => simp at hk
    | some a =>
      simp only [Option.map_some, Option.some.injEq] at hk
      rcases ht with ht | ht
      · cases ht
      · rw [← hA a rfl, ← hk] at ht
        unfold Ar at ht hb
        rw [ht] at hb
        simp only [Option.some.injEq, Obj.cells.injEq] at hb
        exact hne hb.2.1
/-- A step that writes marks into block g. -/
theorem Sk.at {g : Nat} {cs cs' : List Value} (h : Gr w w' (some ⟨g, 0, none⟩)) (ha : Ar w g 5 cs) (ha' : Ar w' g 5 cs') (hl : cs'.length = cs.length) (hm : ∀ j u, cs'[j]? = some u → cs[j]? = some u ∨ u = mk i j) : Sk w w' (some g) i := fun b ds hb => by
  by_cases hbg : b = g
  · subst hbg
    have e : ds = cs := by
      unfold Ar at ha hb
      rw [ha] at hb
      simp only [Option.some.injEq, Obj.cells.injEq] at hb
      have := congrArg Array.toList hb.1
      simpa using this.symm
    subst e
    exact ⟨cs', ha', hl, .inr ⟨rfl, hm⟩⟩
  · refine ⟨ds, ?_, rfl, .inl rfl⟩
    unfold Ar
    rw [h.block b hb.lt (by simp; exact fun h => hbg h)]
    exact hb
theorem MkB.st (h : MkB w b i n) (s : Sk w w' X k) (hX : X = some b → k = i) : MkB w' b i n := by
  obtain ⟨cs, ha, hl, hm⟩ := h
  obtain ⟨cs', ha', hl', r⟩ := s b cs ha
  refine ⟨cs', ha', by omega, fun j hj => ?_⟩
  rcases r with rfl | ⟨hXb, r⟩
  · exact hm j hj
  · have hk := hX hXb
    subst hk
    rw [List.getElem?_eq_getElem (by omega)]
    rcases r j _ (List.getElem?_eq_getElem (by omega)) with h | h
    · rw [← h]; exact hm j hj
    · rw [h]
theorem Hd.st (h : Hd w base A n c) (s : Sk w w' X k) : Hd w' base A n c := by
  rcases h with h | ⟨g, cs, hA, hb, ha, h1, h2⟩
  · exact .inl h
  · obtain ⟨cs', ha', hl', _⟩ := s g cs ha
    exact .inr ⟨g, cs', hA, hb, ha', h1, by omega⟩
theorem NwB.hd {xs : List UInt8} (h : NwB w base A c xs) : Hd w base A xs.length c := by
  rcases h with ⟨hA, hc, rfl⟩ | ⟨g, cs, hA, hb, ha, h1, h2, _⟩
  · exact .inl ⟨hA, rfl, hc⟩
  · exact .inr ⟨g, cs, hA, hb, ha, h1, h2⟩
end

/-- All slices of a list lie at the heads of blocks of the call's own, each in another one. -/
def Own1 (w : World) (base : Nat) (vs : List Value) : Prop :=
  (∀ v ∈ vs, ∃ (A : Option Addr) (n c : Nat), v = .slice A n c ∧ Hd w base A n c ∧ n ≤ 1099511627776) ∧ vs.Pairwise fun v v' => ∀ g, v.ownBlock = some g → v'.ownBlock ≠ some g
section
variable {w w' w0 : World} {X : Option Nat} {vs : List Value} {base k : Nat}
theorem Own1.at (h : Own1 w base vs) {i : Nat} {v : Value} (hi : vs[i]? = some v) : ∃ (A : Option Addr) (n c : Nat), v = .slice A n c ∧ Hd w base A n c ∧ n ≤ 1099511627776 := h.1 v (List.mem_of_getElem? hi)
theorem Own1.inj (h : Own1 w base vs) {i j g : Nat} {v v' : Value} (hi : vs[i]? = some v) (hj : vs[j]? = some v') (hg : v.ownBlock = some g) (hg' : v'.ownBlock = some g) : i = j := by
  have hp := List.pairwise_iff_getElem.1 h.2
  obtain ⟨h1, e1⟩ := List.getElem?_eq_some_iff.1 hi
  obtain ⟨h2, e2⟩ := List.getElem?_eq_some_iff.1 hj
  rcases Nat.lt_trichotomy i j with hlt | heq | hgt
  · exact absurd (e2 ▸ hg') (hp i j h1 h2 hlt g (e1 ▸ hg))
  · exact heq
  · exact absurd (e1 ▸ hg) (hp j i h2 h1 hgt g (e2 ▸ hg'))
theorem Own1.st (h : Own1 w base vs) (s : Sk w w' X k) : Own1 w' base vs := ⟨fun v hv => by
  obtain ⟨A, n, c, e, hd, hn⟩ := h.1 v hv
  exact ⟨A, n, c, e, hd.st s, hn⟩, h.2⟩
/-- The marks of the first m lists stand. -/
def Mx (w : World) (vs : List Value) (m : Nat) : Prop := ∀ (k : Nat) (A : Addr) (n c : Nat), k < m → vs[k]? = some (.slice (some A) n c) → MkB w A.block k n
theorem Mx.st {i m : Nat} {A : Option Addr} {n c : Nat} (h : Mx w vs m) (ho : Own1 w base vs) (hi : vs[i]? = some (.slice A n c)) (s : Sk w w' (A.map (·.block)) i) : Mx w' vs m := fun k A' n' c' hk hv =>
  (h k A' n' c' hk hv).st s fun hX => ho.inj hi hv (by rw [ownBlock_slice]; exact hX) (by rw [ownBlock_slice]; rfl)
theorem Mx.bel {m : Nat} (h : Mx w vs m) (hb : Below w.heap.size w w') : Mx w' vs m := fun k A n c hk hv => (h k A n c hk hv).st (X := none) (k := 0) (Sk.bel hb) (by simp)
/-- A grown slice: marks of list i, in list i's own block or in another one. -/
def Gd (w : World) (vs : List Value) (i : Nat) (v : Value) : Prop := ∃ b n c, v = .slice (some ⟨b, 0, none⟩) n c ∧ n ≤ c ∧ n ≤ 2199023255552 ∧ MkB w b i n ∧ ∀ (k : Nat) (u : Value), vs[k]? = some u → u.ownBlock = some b → k = i
theorem Gd.st {i m : Nat} {A : Option Addr} {n c : Nat} {v : Value} (h : Gd w vs m v) (hi : vs[i]? = some (.slice A n c)) (s : Sk w w' (A.map (·.block)) i) : Gd w' vs m v := by
  obtain ⟨b, n', c', e, h1, h2, hm, ht⟩ := h
  exact ⟨b, n', c', e, h1, h2, hm.st s fun hX => ht i _ hi (by rw [ownBlock_slice]; exact hX), ht⟩
/-- Nothing below base changes, and of what stood at the start the lists' blocks alone. -/
def Kp (w0 w : World) (vs : List Value) : Prop := w.os = w0.os ∧ w.tape = w0.tape ∧ w.output = w0.output ∧ w0.heap.size ≤ w.heap.size ∧ ∀ k, k < w0.heap.size → (∀ v ∈ vs, v.ownBlock ≠ some k) → w.heap[k]? = w0.heap[k]?
theorem Kp.refl (w : World) (vs : List Value) : Kp w w vs := ⟨rfl, rfl, rfl, Nat.le_refl _, fun _ _ _ => rfl⟩
theorem Kp.gr {A : Option Addr} (h : Kp w0 w vs) (g : Gr w w' A) (hA : ∀ a, A = some a → a.block < w0.heap.size → ∃ v ∈ vs, v.ownBlock = some a.block) : Kp w0 w' vs := by
  obtain ⟨h1, h2, h3, h4, h5⟩ := h
  refine ⟨g.os.trans h1, g.tape.trans h2, g.output.trans h3, Nat.le_trans h4 g.size, fun k hk hv => ?_⟩
  rw [← h5 k hk hv]
  refine g.block k (by omega) fun hk' => ?_
  cases A with
  | none => simp at hk'
  | some a =>
    simp only [Option.map_some, Option.some.injEq] at hk'
    obtain ⟨v, hm, hv'⟩ := hA a rfl (by rw [← hk']; exact hk)
    exact hv v hm (by rw [hv', ← hk'])
theorem Kp.bel (h : Kp w0 w vs) (hb : Below w.heap.size w w') : Kp w0 w' vs := h.gr (Gr.of_below none hb (Nat.le_refl _)) (by simp)
theorem Kp.below (h : Kp w0 w vs) (ho : ∀ v ∈ vs, ∀ g, v.ownBlock = some g → base ≤ g) (hb : base ≤ w0.heap.size) : Below base w0 w :=
  ⟨h.1, h.2.1, h.2.2.1, h.2.2.2.1, fun j hj => h.2.2.2.2 j (by omega) fun v hv hc => by have := ho v hv j hc; omega⟩
theorem Kp.rd {A : Option Addr} {n : Nat} {xs : List Value} (h : Kp w0 w vs) (hr : Rd w0 A n xs) (hA : ∀ a, A = some a → ∀ v ∈ vs, v.ownBlock ≠ some a.block) : Rd w A n xs := ⟨hr.1, fun hn => by
  obtain ⟨b, o, rfl, hb, hc⟩ := hr.2 hn
  exact ⟨b, o, rfl, Nat.lt_of_lt_of_le hb h.2.2.2.1, fun j u hu => by
    rw [World.cell?_of_block (a := ⟨b, o + j, none⟩) (h.2.2.2.2 b hb (hA _ rfl))]; exact hc j u hu⟩⟩
end
end Go.Proofs.YtdgagffieobiiaaGreatDoor
