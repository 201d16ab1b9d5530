/-
  The walk over the law CodecOrders.
-/
import Derived.Test.YtdppekhnahnjjaaWd
import Derived.Test.YtdppekhnahnjjaaWf
import Derived.Test.YtdppekhnahnjjaaWm
namespace Go.Proofs.Ytdppekhnahnjjaa
open Go.RowKit

theorem run_equalIn_bool {P : Program} {t : TypeId} (w : World) (d : Nat) (a b : Bool) (ht : P.underlying t = some .bool) : (Op.equalIn (d + 1) t (.bool a) (.bool b)).run P w = .ok (a == b) w := by
  cases a <;> cases b <;> simp [Op.equalIn, run_underlying ht]
theorem bin_neqB {P : Program} {t : TypeId} {a b : Bool} (ht : P.underlying t = some .bool) : BinV P .neq t (.bool a) (.bool b) (.bool (a != b)) := fun x y w => by
  simp only [eqGuard, binOp]
  simp [Op.equal, Op.maxDepth, run_equalIn_bool w 9999 a b ht]
  try cases a <;> cases b <;> rfl
theorem lift_cmp {i j : Int} (hi : -9223372036854775808 ≤ i ∧ i ≤ 9223372036854775807) (hj : -9223372036854775808 ≤ j ∧ j ≤ 9223372036854775807) : (cmpB (ordU (lift i)) (ordU (lift j)) < 0) = (i < j) := by
  rw [cmp_ordU (lift_lt hi) (lift_lt hj)]
  unfold lift
  apply propext; omega
theorem wrap_range (n : Nat) : ∃ i : Int, IntKind.i64.wrap (n : Int) = i ∧ -9223372036854775808 ≤ i ∧ i ≤ 9223372036854775807 := ⟨_, rfl, by rw [IntKind.wrap_i64]; omega⟩

theorem orders_walk {C : Option Addr} {l d : Nat} {n m : Nat} {ys : List UInt8} {w : World} (hn : n < 18446744073709551616) (hm : m < 18446744073709551616) (r2 : RdB w C ys) (hl : ys.length = l) (hd : ys.length ≤ d) (hl2 : ys.length ≤ 140737488355328) :
    CallsV Try.prog 8 #[.int .u64 n, .int .u64 m, .slice C l d] w (RetTrue w) := by
  subst hl
  obtain ⟨i, hi, hir⟩ := wrap_range n
  obtain ⟨j, hj, hjr⟩ := wrap_range m
  have hb := Below.refl w.heap.size w
  refine calls_in (N := _) Try.func8 rfl Try.ntmps8 rfl ?_; show WC _ _ _ _ _ _
  refine wc_sr ?_; refine wl_as rfl rfl ?_; refine wl_ns ?_; refine wc_sr ?_; refine wl_as rfl rfl ?_; refine wl_ns ?_; refine wc_seq ?_; refine wc_sr ?_; refine wl_mv rfl rfl ?_; apply wl_val; apply opv_len; exact rfl; exact tyB.sl; exact rfl; refine wl_bin rfl rfl bin_gtr rfl ?_; refine wl_mv rfl rfl ?_
  refine wl_cutE (fun L' w' => ∃ t : Bool, L' = [(0, .int .u64 (n : Int)), (1, .int .u64 (m : Int)), (2, .slice C ys.length d), (7, .int .i64 0), (30, .bool t)] ∧ (t = true → 0 < ys.length) ∧ w = w') ?_ ?_
  · by_cases hpos : ys = []
    · subst hpos
      apply wl_skip; exact rfl; exact rfl; exact rfl; exact rfl; exact rfl; apply wl_skip; exact rfl; exact rfl; exact rfl; exact rfl; exact rfl; apply wl_skip; exact rfl; exact rfl; exact rfl; exact rfl; exact rfl; apply wl_skip; exact rfl; exact rfl; exact rfl; exact rfl; exact rfl; apply wl_skip; exact rfl; exact rfl; exact rfl; exact rfl; exact rfl; apply wl_val; apply opv_pickF; exact rfl; exact rfl; exact rfl; exact rfl; refine wl_nil ?_
      exact we_cut _ ⟨false, rfl, by simp, rfl⟩ ⟨rfl, rfl, rfl, rfl, rfl, trivial⟩
    · have hlp := List.length_pos_iff.2 hpos
      obtain ⟨x, hx⟩ : ∃ x, ys[0]? = some x := ⟨_, List.getElem?_eq_getElem hlp⟩
      apply wl_take; exact rfl; exact rfl; exact rfl; exact decide_eq_true (by omega); refine wl_mv rfl rfl ?_; apply wl_byTK (T := tyB) (hr := r2) (hb := hx); exact rfl; exact rfl; exact rfl; exact decide_eq_true (by omega); exact rfl; exact rfl; exact rfl; exact rfl; exact decide_eq_true (by omega); exact rfl; exact rfl; exact rfl; exact rfl; exact rfl; intro _; apply wl_take; exact rfl; exact rfl; exact rfl; exact decide_eq_true (by omega)
      refine wl_val (opv_bin (b := .int .u8 (3 : Nat)) rfl rfl (bin_rem (by omega))) rfl ?_
      apply wl_take; exact rfl; exact rfl; exact rfl; exact decide_eq_true (by omega); refine wl_bin rfl rfl bin_eql rfl ?_; apply wl_val; apply opv_pickT; exact rfl; exact decide_eq_true (by omega); exact rfl; exact rfl; refine wl_nil ?_
      refine we_cut _ ⟨_, rfl, fun _ => hlp, rfl⟩ ⟨rfl, rfl, rfl, rfl, rfl, trivial⟩
  · rintro _ _ ⟨t, rfl, htl, rfl⟩
    refine we_seq ?_
    refine wc_cutE (fun L' w' => ∃ p : Int, L' = [(0, .int .u64 (n : Int)), (1, .int .u64 (m : Int)), (2, .slice C ys.length d), (7, .int .i64 p)] ∧ (-5 ≤ p ∧ p ≤ 255) ∧ w = w') ?_ ?_
    · refine wc_condB rfl (fun h => ?_) (fun h => ?_)
      · obtain ⟨x, hx⟩ : ∃ x, ys[0]? = some x := ⟨_, List.getElem?_eq_getElem (htl h)⟩
        have hxl := x.toNat_lt
        refine wc_region ?_; refine wl_mv rfl rfl ?_; apply wl_byK (T := tyB) (hr := r2) (hb := hx); exact rfl; exact rfl; exact rfl; exact rfl; exact rfl; intro _; apply wl_val; apply opv_convR; exact rfl; exact Try.underlying5; exact Try.underlying3; exact IntWalk.i64_in _ (by omega); exact rfl; apply wl_val; apply opv_bin; exact rfl; exact rfl; exact bin_sub64 (by omega); exact rfl; refine wl_as rfl rfl ?_; refine wl_nil ?_
        exact we_cut _ ⟨_, rfl, by omega, rfl⟩ ⟨rfl, rfl, rfl, rfl, trivial⟩
      · refine wc_skip ?_
        exact we_cut _ ⟨0, rfl, by omega, rfl⟩ ⟨rfl, rfl, rfl, rfl, trivial⟩
    · rintro _ _ ⟨p, rfl, hp, rfl⟩
      refine we_seq ?_; refine wc_seq ?_; refine wc_sr ?_
      refine wl_call ok_caissonlaw01_awake (awake_any _) trivial rfl ?_; rintro _ _ ⟨rfl, hbx⟩; replace r2 := RdB.below r2 hbx; replace hb := hb.trans (hbx.mono hb.size); clear hbx
      apply wl_val; apply opv_not; exact rfl; exact rfl; refine wl_ns ?_
      refine wc_condF rfl ?_
      refine wc_skip ?_; refine we_seq ?_; refine wc_sr ?_; refine wl_mv rfl rfl ?_
      refine wl_val (opv_convR rfl Try.underlying37 Try.underlying2 hi) rfl ?_
      refine wl_mv rfl rfl ?_
      refine wl_val (opv_convR rfl Try.underlying37 Try.underlying2 hj) rfl ?_
      refine wl_as rfl rfl ?_; refine wl_as rfl rfl ?_; refine wl_ns ?_; refine wc_sr ?_; refine wl_mv rfl rfl ?_
      refine wl_call ok_codec_OrdU (ordU_any n hn _) ⟨rfl, trivial⟩ rfl ?_; rintro _ _ ⟨A3, c3, rfl, o3, hbx⟩; replace r2 := RdB.below r2 hbx; replace hb := hb.trans (hbx.mono hb.size); clear hbx
      refine wl_mv rfl rfl ?_
      refine wl_call ok_codec_OrdI (ordI_any i hir _) ⟨rfl, trivial⟩ rfl ?_; rintro _ _ ⟨A4, c4, rfl, o4, hbx⟩; replace r2 := RdB.below r2 hbx; replace o3 := OwB.below o3 hbx; replace hb := hb.trans (hbx.mono hb.size); clear hbx
      refine wl_as rfl rfl ?_; refine wl_as rfl rfl ?_; refine wl_ns ?_; refine wc_seq ?_; refine wc_sr ?_; refine wl_mv rfl rfl ?_; refine wl_mv rfl rfl ?_
      refine wl_call ok_caissonref01_OrdU (refOrdU_any n hn _) ⟨rfl, trivial⟩ rfl ?_; rintro _ _ ⟨A5, c5, rfl, o5, hbx⟩; replace r2 := RdB.below r2 hbx; replace o3 := OwB.below o3 hbx; replace o4 := OwB.below o4 hbx; replace hb := hb.trans (hbx.mono hb.size); clear hbx
      refine wl_call ok_caissonref01_Equal (equal_yes rfl o3.rd o5.rd rfl rfl (by rw [ordU_length]; decide)) ⟨rfl, rfl, trivial⟩ rfl ?_; rintro _ _ ⟨rfl, hbx⟩; replace r2 := RdB.below r2 hbx; replace o3 := OwB.below o3 hbx; replace o4 := OwB.below o4 hbx; replace hb := hb.trans (hbx.mono hb.size); clear hbx
      apply wl_val; apply opv_not; exact rfl; exact rfl; refine wl_mv rfl rfl ?_; apply wl_take; exact rfl; exact rfl; exact rfl; exact rfl; refine wl_mv rfl rfl ?_; apply wl_take; exact rfl; exact rfl; exact rfl; exact rfl; refine wl_mv rfl rfl ?_; apply wl_take; exact rfl; exact rfl; exact rfl; exact rfl
      refine wl_call ok_caissonref01_OrdI (refOrdI_any i hir _) ⟨rfl, trivial⟩ rfl ?_; rintro _ _ ⟨A6, c6, rfl, o6, hbx⟩; replace r2 := RdB.below r2 hbx; replace o3 := OwB.below o3 hbx; replace o4 := OwB.below o4 hbx; replace hb := hb.trans (hbx.mono hb.size); clear hbx
      apply wl_take; exact rfl; exact rfl; exact rfl; exact rfl
      refine wl_call ok_caissonref01_Equal (equal_yes rfl o4.rd o6.rd rfl rfl (by rw [ordU_length]; decide)) ⟨rfl, rfl, trivial⟩ rfl ?_; rintro _ _ ⟨rfl, hbx⟩; replace r2 := RdB.below r2 hbx; replace o3 := OwB.below o3 hbx; replace o4 := OwB.below o4 hbx; replace hb := hb.trans (hbx.mono hb.size); clear hbx
      apply wl_take; exact rfl; exact rfl; exact rfl; exact rfl; apply wl_val; apply opv_not; exact rfl; exact rfl; apply wl_val; apply opv_pickF; exact rfl; exact rfl; exact rfl; exact rfl; refine wl_mv rfl rfl ?_; apply wl_take; exact rfl; exact rfl; exact rfl; exact rfl; refine wl_mv rfl rfl ?_; apply wl_take; exact rfl; exact rfl; exact rfl; exact rfl; refine wl_mv rfl rfl ?_; apply wl_take; exact rfl; exact rfl; exact rfl; exact rfl
      refine wl_call ok_codec_OrdU (ordU_any m hm _) ⟨rfl, trivial⟩ rfl ?_; rintro _ _ ⟨A7, c7, rfl, o7, hbx⟩; replace r2 := RdB.below r2 hbx; replace o3 := OwB.below o3 hbx; replace o4 := OwB.below o4 hbx; replace hb := hb.trans (hbx.mono hb.size); clear hbx
      apply wl_take; exact rfl; exact rfl; exact rfl; exact rfl
      refine wl_call ok_caissonref01_Cmp (refCmp_any o3.rd o7.rd rfl rfl (by rw [ordU_length]; decide) (by rw [ordU_length]; decide)) ⟨rfl, rfl, trivial⟩ rfl ?_; rintro _ _ ⟨rfl, hbx⟩; replace r2 := RdB.below r2 hbx; replace o3 := OwB.below o3 hbx; replace o4 := OwB.below o4 hbx; replace hb := hb.trans (hbx.mono hb.size); clear hbx
      apply wl_take; exact rfl; exact rfl; exact rfl; exact rfl; refine wl_bin rfl rfl bin_lss rfl ?_; apply wl_take; exact rfl; exact rfl; exact rfl; exact rfl; refine wl_mv rfl rfl ?_; apply wl_take; exact rfl; exact rfl; exact rfl; exact rfl; refine wl_mv rfl rfl ?_; apply wl_take; exact rfl; exact rfl; exact rfl; exact rfl; refine wl_bin rfl rfl bin_lss rfl ?_; apply wl_take; exact rfl; exact rfl; exact rfl; exact rfl
      refine wl_val (opv_bin rfl rfl ((bin_neqB Try.underlying4).to (show _ = Value.bool false from by simp [cmp_ordU hn hm]))) rfl ?_
      apply wl_val; apply opv_pickF; exact rfl; exact rfl; exact rfl; exact rfl; refine wl_mv rfl rfl ?_; apply wl_take; exact rfl; exact rfl; exact rfl; exact rfl; refine wl_mv rfl rfl ?_; apply wl_take; exact rfl; exact rfl; exact rfl; exact rfl; refine wl_mv rfl rfl ?_; apply wl_take; exact rfl; exact rfl; exact rfl; exact rfl
      refine wl_call ok_codec_OrdI (ordI_any j hjr _) ⟨rfl, trivial⟩ rfl ?_; rintro _ _ ⟨A8, c8, rfl, o8, hbx⟩; replace r2 := RdB.below r2 hbx; replace o3 := OwB.below o3 hbx; replace o4 := OwB.below o4 hbx; replace hb := hb.trans (hbx.mono hb.size); clear hbx
      apply wl_take; exact rfl; exact rfl; exact rfl; exact rfl
      refine wl_call ok_caissonref01_Cmp (refCmp_any o4.rd o8.rd rfl rfl (by rw [ordU_length]; decide) (by rw [ordU_length]; decide)) ⟨rfl, rfl, trivial⟩ rfl ?_; rintro _ _ ⟨rfl, hbx⟩; replace r2 := RdB.below r2 hbx; replace o3 := OwB.below o3 hbx; replace o4 := OwB.below o4 hbx; replace hb := hb.trans (hbx.mono hb.size); clear hbx
      apply wl_take; exact rfl; exact rfl; exact rfl; exact rfl; refine wl_bin rfl rfl bin_lss rfl ?_; apply wl_take; exact rfl; exact rfl; exact rfl; exact rfl; refine wl_mv rfl rfl ?_; apply wl_take; exact rfl; exact rfl; exact rfl; exact rfl; refine wl_mv rfl rfl ?_; apply wl_take; exact rfl; exact rfl; exact rfl; exact rfl; refine wl_bin rfl rfl bin_lss rfl ?_; apply wl_take; exact rfl; exact rfl; exact rfl; exact rfl
      refine wl_val (opv_bin rfl rfl ((bin_neqB Try.underlying4).to (show _ = Value.bool false from by simp [lift_cmp hir hjr]))) rfl ?_
      apply wl_val; apply opv_pickF; exact rfl; exact rfl; exact rfl; exact rfl; refine wl_ns ?_
      refine wc_condF rfl ?_
      have hrg := getOrdU_cases ys p
      refine wc_skip ?_; refine we_seq ?_; refine wc_sr ?_; refine wl_mv rfl rfl ?_
      refine wl_call ok_caissonref01_Copy (copy_any r2 rfl (by omega)) ⟨rfl, trivial⟩ rfl ?_; rintro _ _ ⟨A9, c9, rfl, o9, hbx⟩; replace r2 := RdB.below r2 hbx; replace hb := hb.trans (hbx.mono hb.size); clear hbx
      refine wl_mv rfl rfl ?_
      refine wl_call ok_codec_GetOrdU (getOrdU_any o9.rd rfl o9.cap (by omega) (by omega)) ⟨rfl, rfl, trivial⟩ rfl ?_; rintro _ _ ⟨rfl, hbx⟩; replace r2 := RdB.below r2 hbx; replace hb := hb.trans (hbx.mono hb.size); clear hbx
      refine wl_mv rfl rfl ?_; apply wl_val; apply opv_extract; exact rfl; exact rfl; exact rfl; apply wl_val; apply opv_extract; exact rfl; exact rfl; exact rfl; apply wl_val; apply opv_extract; exact rfl; exact rfl; exact rfl; refine wl_as rfl rfl ?_; refine wl_as rfl rfl ?_; refine wl_as rfl rfl ?_; refine wl_ns ?_; refine wc_sr ?_; refine wl_mv rfl rfl ?_; refine wl_mv rfl rfl ?_
      refine wl_call ok_caissonref01_GetOrdU (refGetOrdU_any r2 rfl (by omega) (by omega)) ⟨rfl, rfl, trivial⟩ rfl ?_; rintro _ _ ⟨rfl, hbx⟩; replace r2 := RdB.below r2 hbx; replace hb := hb.trans (hbx.mono hb.size); clear hbx
      refine wl_mv rfl rfl ?_; apply wl_val; apply opv_extract; exact rfl; exact rfl; exact rfl; apply wl_val; apply opv_extract; exact rfl; exact rfl; exact rfl; apply wl_val; apply opv_extract; exact rfl; exact rfl; exact rfl; refine wl_as rfl rfl ?_; refine wl_as rfl rfl ?_; refine wl_as rfl rfl ?_; refine wl_ns ?_; refine wc_sr ?_; refine wl_mv rfl rfl ?_
      refine wl_call ok_caissonref01_Copy (copy_any r2 rfl (by omega)) ⟨rfl, trivial⟩ rfl ?_; rintro _ _ ⟨A10, c10, rfl, o10, hbx⟩; replace r2 := RdB.below r2 hbx; replace hb := hb.trans (hbx.mono hb.size); clear hbx
      refine wl_mv rfl rfl ?_
      refine wl_call ok_codec_GetOrdI (getOrdI_any o10.rd rfl o10.cap (by omega) (by omega)) ⟨rfl, rfl, trivial⟩ rfl ?_; rintro _ _ ⟨rfl, hbx⟩; replace r2 := RdB.below r2 hbx; replace hb := hb.trans (hbx.mono hb.size); clear hbx
      clear o5 o6 o7 o8 o9 o10 o3 o4
      rcases hrg with ⟨e, he, hv⟩ | ⟨q, rfl, hq, hv⟩
      · rw [hv]
        refine wl_mv rfl rfl ?_; apply wl_val; apply opv_extract; exact rfl; exact rfl; exact rfl; apply wl_val; apply opv_extract; exact rfl; exact rfl; exact rfl; apply wl_val; apply opv_extract; exact rfl; exact rfl; exact rfl; refine wl_as rfl rfl ?_; refine wl_as rfl rfl ?_; refine wl_as rfl rfl ?_; refine wl_ns ?_; refine wc_seq ?_; refine wc_sr ?_; refine wl_mv rfl rfl ?_; refine wl_mv rfl rfl ?_; refine wl_bin rfl rfl bin_neq rfl ?_; refine wl_mv rfl rfl ?_; apply wl_take; exact rfl; exact rfl; exact rfl; exact rfl; refine wl_mv rfl rfl ?_; apply wl_take; exact rfl; exact rfl; exact rfl; exact rfl; refine wl_mv rfl rfl ?_; apply wl_take; exact rfl; exact rfl; exact rfl; exact rfl; refine wl_bin rfl rfl bin_neq rfl ?_; apply wl_val; apply opv_pickF; exact rfl; exact rfl; exact rfl; exact rfl; refine wl_mv rfl rfl ?_; apply wl_take; exact rfl; exact rfl; exact rfl; exact rfl; refine wl_mv rfl rfl ?_; apply wl_take; exact rfl; exact rfl; exact rfl; exact rfl; refine wl_mv rfl rfl ?_; apply wl_take; exact rfl; exact rfl; exact rfl; exact rfl; refine wl_bin rfl rfl bin_neq rfl ?_; apply wl_val; apply opv_pickF; exact rfl; exact rfl; exact rfl; exact rfl; refine wl_mv rfl rfl ?_; apply wl_take; exact rfl; exact rfl; exact rfl; exact rfl; refine wl_mv rfl rfl ?_; apply wl_take; exact rfl; exact rfl; exact rfl; exact rfl; refine wl_mv rfl rfl ?_; apply wl_take; exact rfl; exact rfl; exact rfl; exact rfl; refine wl_bin rfl rfl bin_neq rfl ?_; apply wl_val; apply opv_pickF; exact rfl; exact rfl; exact rfl; exact rfl; refine wl_mv rfl rfl ?_; apply wl_take; exact rfl; exact rfl; exact rfl; exact decide_eq_false (by omega); refine wl_mv rfl rfl ?_; apply wl_take; exact rfl; exact rfl; exact rfl; exact decide_eq_false (by omega); refine wl_mv rfl rfl ?_; apply wl_take; exact rfl; exact rfl; exact rfl; exact decide_eq_false (by omega); refine wl_bin rfl rfl bin_neq rfl ?_; apply wl_val; apply opv_pickF; exact rfl; exact decide_eq_false (by omega); exact rfl; exact rfl; refine wl_ns ?_
        refine wc_condF (by exact congrArg (fun b => some (Value.bool b)) (by simp)) ?_
        refine wc_skip ?_; refine we_seq ?_; refine wc_seq ?_; refine wc_sr ?_; refine wl_mv rfl rfl ?_; refine wl_bin rfl rfl bin_neq rfl ?_; refine wl_ns ?_
        refine wc_cond rfl (fun _ => ?_) (fun h => absurd (fun h' => he (by exact_mod_cast h')) h)
        refine wc_sr ?_; refine wl_mv rfl rfl ?_; refine wl_bin rfl rfl bin_eql rfl ?_; refine wl_as rfl rfl ?_; refine wl_ns ?_; refine wc_ret ?_; refine we_seq_ret ?_
        exact we_ret1 rfl rfl ⟨_, rfl, by simp [he], hb⟩
      · rw [hv]
        have hlen : ((ys.drop q).take 8).length = 8 := by simp; omega
        have el : (ys.take (q + 8)).drop q = (ys.drop q).take 8 := by rw [List.drop_take]; congr 1; omega
        have hcut := rd_cut r2 (show q ≤ q + 8 by omega) hq hd
        rw [el] at hcut
        have hon := ordU_numB hlen
        have hlt : numB ((ys.drop q).take 8) < 2 ^ 64 := by
          have := numB_lt ((ys.drop q).take 8)
          rw [hlen] at this; exact this
        obtain ⟨v, hvv⟩ : ∃ v, numB ((ys.drop q).take 8) = v := ⟨_, rfl⟩
        rw [hvv] at hlt hon ⊢
        have hlf : lift ((v : Int) - 9223372036854775808) = v := by unfold lift; omega
        refine wl_mv rfl rfl ?_; apply wl_val; apply opv_extract; exact rfl; exact rfl; exact rfl; apply wl_val; apply opv_extract; exact rfl; exact rfl; exact rfl; apply wl_val; apply opv_extract; exact rfl; exact rfl; exact rfl; refine wl_as rfl rfl ?_; refine wl_as rfl rfl ?_; refine wl_as rfl rfl ?_; refine wl_ns ?_; refine wc_seq ?_; refine wc_sr ?_; refine wl_mv rfl rfl ?_; refine wl_mv rfl rfl ?_; refine wl_bin rfl rfl bin_neq rfl ?_; refine wl_mv rfl rfl ?_; apply wl_take; exact rfl; exact rfl; exact rfl; exact decide_eq_false (by omega); refine wl_mv rfl rfl ?_; apply wl_take; exact rfl; exact rfl; exact rfl; exact decide_eq_false (by omega); refine wl_mv rfl rfl ?_; apply wl_take; exact rfl; exact rfl; exact rfl; exact decide_eq_false (by omega); refine wl_bin rfl rfl bin_neq rfl ?_; apply wl_val; apply opv_pickF; exact rfl; exact decide_eq_false (by omega); exact rfl; exact rfl; refine wl_mv rfl rfl ?_; apply wl_take; exact rfl; exact rfl; exact rfl; exact decide_eq_false (by omega); refine wl_mv rfl rfl ?_; apply wl_take; exact rfl; exact rfl; exact rfl; exact decide_eq_false (by omega); refine wl_mv rfl rfl ?_; apply wl_take; exact rfl; exact rfl; exact rfl; exact decide_eq_false (by omega); refine wl_bin rfl rfl bin_neq rfl ?_; apply wl_val; apply opv_pickF; exact rfl; exact decide_eq_false (by omega); exact rfl; exact rfl; refine wl_mv rfl rfl ?_; apply wl_take; exact rfl; exact rfl; exact rfl; exact decide_eq_false (by omega); refine wl_mv rfl rfl ?_; apply wl_take; exact rfl; exact rfl; exact rfl; exact decide_eq_false (by omega); refine wl_mv rfl rfl ?_; apply wl_take; exact rfl; exact rfl; exact rfl; exact decide_eq_false (by omega); refine wl_bin rfl rfl bin_neq rfl ?_; apply wl_val; apply opv_pickF; exact rfl; exact decide_eq_false (by omega); exact rfl; exact rfl; refine wl_mv rfl rfl ?_; apply wl_take; exact rfl; exact rfl; exact rfl; exact rfl; refine wl_mv rfl rfl ?_; apply wl_take; exact rfl; exact rfl; exact rfl; exact rfl; refine wl_mv rfl rfl ?_; apply wl_take; exact rfl; exact rfl; exact rfl; exact rfl; refine wl_bin rfl rfl bin_neq rfl ?_; apply wl_val; apply opv_pickF; exact rfl; exact rfl; exact rfl; exact rfl; refine wl_ns ?_
        refine wc_condF (by exact congrArg (fun b => some (Value.bool b)) (by simp)) ?_
        refine wc_skip ?_; refine we_seq ?_; refine wc_seq ?_; refine wc_sr ?_; refine wl_mv rfl rfl ?_; refine wl_bin rfl rfl bin_neq rfl ?_; refine wl_ns ?_
        refine wc_cond rfl (fun h => absurd rfl h) (fun _ => ?_)
        refine wc_skip ?_; refine we_seq ?_; refine wc_seq ?_
        refine wc_heldB mixed fun w9 hS => ?_
        apply wh_take 0; exact rfl; kernel_rfl; kernel_rfl; kernel_rfl; exact hS; intro _ _; apply opv_move; exact rfl; exact rfl; apply wh_take 2; exact rfl; kernel_rfl; kernel_rfl; kernel_rfl; exact hS; intro _ _; apply opv_move; exact rfl; exact rfl; apply wh_take 3; exact rfl; kernel_rfl; kernel_rfl; kernel_rfl; exact hS; intro _ _; apply opv_move; exact rfl; exact rfl; apply wh_take 4; exact rfl; kernel_rfl; kernel_rfl; kernel_rfl; exact hS; intro _ _; apply opv_move; exact rfl; exact rfl
        refine wh_take 5 rfl (by kernel_rfl) (by kernel_rfl) (by kernel_rfl) hS (fun _ _ => opv_slice (l := q) (h := q + 8) tyB rfl ⟨_, rfl⟩ ⟨_, by simp only [Int.natCast_add]; rfl⟩ (by omega) (by omega)) rfl ?_
        refine wh_one 1 (o := ⟨_, _, _, _, _, _⟩) (by kernel_rfl) rfl ?_
        refine wl_call ok_codec_OrdI (ordI_any ((v : Int) - 9223372036854775808) (by omega) w9) ⟨rfl, trivial⟩ rfl ?_
        rintro _ w10 ⟨A11, c11, rfl, o11, hbx⟩
        have hS10 := hS.trans (hbx.mono hS.size)
        have hcut10 := RdB.below hcut hS10
        rw [hlf, hon] at o11 ⊢
        refine wl_nil ?_
        refine we_held hS10 ?_
        refine wh_one 6 (o := ⟨_, _, _, _, _, _⟩) (by kernel_rfl) rfl ?_
        refine wl_call ok_caissonref01_Equal (equal_yes rfl o11.rd hcut10 rfl (by rw [hlen]; omega) (by rw [hlen]; decide)) ⟨rfl, rfl, trivial⟩ rfl ?_
        rintro _ w11 ⟨rfl, hb11⟩
        have hS11 := hS10.trans (hb11.mono hS10.size)
        refine wl_nil ?_
        refine we_held hS11 ?_
        apply wh_take 7; exact rfl; kernel_rfl; kernel_rfl; kernel_rfl; exact hS11; intro _ _; apply opv_assign; exact rfl; exact rfl
        refine wh_done (by kernel_rfl) ?_
        refine we_seq ?_; refine wc_ret ?_
        exact we_ret1 rfl rfl ⟨_, rfl, rfl, hb.trans (hS11.mono hb.size)⟩
end Go.Proofs.Ytdppekhnahnjjaa
