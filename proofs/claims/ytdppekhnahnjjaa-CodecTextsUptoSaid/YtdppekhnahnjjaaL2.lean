/-
  The walk over the law CodecTexts.
-/
import Derived.Test.YtdppekhnahnjjaaWd
import Derived.Test.YtdppekhnahnjjaaWe
namespace Go.Proofs.Ytdppekhnahnjjaa
open Go.RowKit

theorem texts_walk {A B : Option Addr} {n m c d : Nat} {xs ys : List UInt8} {p : Int} {w : World} (r1 : RdB w A xs) (hn : xs.length = n) (_hc : xs.length ≤ c) (hl : xs.length ≤ 1048576) (r2 : RdB w B ys) (hm : ys.length = m) (_hd : ys.length ≤ d) (hl2 : ys.length ≤ 1048576)
    (_hp : -9223372036854775808 ≤ p ∧ p ≤ 9223372036854775807) :
    CallsV Try.prog 7 #[.slice A n c, .slice B m d, .int .i64 p] w (RetTrue w) := by
  subst hn hm
  have hel : (ordText xs).length ≤ 2 * xs.length + 2 := by have := esc_length xs; simp [ordText]; omega
  have hmx : (ordText xs).length ≤ maxLen := by simp only [maxLen]; omega
  have hb := Below.refl w.heap.size w
  refine calls_in (N := _) Try.func7 rfl Try.ntmps7 rfl ?_; show WC _ _ _ _ _ _
  refine wc_sr ?_; refine wl_as rfl rfl ?_; refine wl_ns ?_; refine wc_seq ?_; refine wc_sr ?_
  refine wl_call ok_caissonlaw01_awake (awake_any _) trivial rfl ?_; rintro _ _ ⟨rfl, hbx⟩; replace r1 := RdB.below r1 hbx; replace r2 := RdB.below r2 hbx; replace hb := hb.trans (hbx.mono hb.size); clear hbx
  apply wl_val; apply opv_not; exact rfl; exact rfl; refine wl_ns ?_
  refine wc_condF rfl ?_
  refine wc_skip ?_; refine we_seq ?_; refine wc_sr ?_; refine wl_mv rfl rfl ?_
  refine wl_call ok_caissonref01_Copy (copy_any r1 rfl (by omega)) ⟨rfl, trivial⟩ rfl ?_; rintro _ _ ⟨A3, c3, rfl, o3, hbx⟩; replace r1 := RdB.below r1 hbx; replace r2 := RdB.below r2 hbx; replace hb := hb.trans (hbx.mono hb.size); clear hbx
  skip
  refine wl_call ok_codec_OrdText (ordText_any o3.rd rfl (by omega)) ⟨rfl, trivial⟩ rfl ?_; rintro _ _ ⟨A4, c4, rfl, o4, hbx⟩; replace r1 := RdB.below r1 hbx; replace r2 := RdB.below r2 hbx; replace hb := hb.trans (hbx.mono hb.size); clear hbx
  refine wl_as rfl rfl ?_; refine wl_ns ?_; refine wc_sr ?_; refine wl_mv rfl rfl ?_
  refine wl_call ok_codec_GetOrdText (getOrd_at (getOrd_ordText xs) o4.rd rfl (by omega)) ⟨rfl, rfl, trivial⟩ rfl ?_; rintro _ _ ⟨A5, c5, rfl, o5, hbx⟩; replace r1 := RdB.below r1 hbx; replace r2 := RdB.below r2 hbx; replace o4 := OwB.below o4 hbx; replace hb := hb.trans (hbx.mono hb.size); clear hbx
  refine wl_mv rfl rfl ?_; apply wl_val; apply opv_extract; exact rfl; exact rfl; exact rfl; apply wl_val; apply opv_extract; exact rfl; exact rfl; exact rfl; apply wl_val; apply opv_extract; exact rfl; exact rfl; exact rfl; refine wl_as rfl rfl ?_; refine wl_as rfl rfl ?_; refine wl_as rfl rfl ?_; refine wl_ns ?_; refine wc_seq ?_; refine wc_sr ?_; refine wl_mv rfl rfl ?_; refine wl_mv rfl rfl ?_
  refine wl_call ok_caissonref01_OrdText (refOrdText_any r1 rfl (by omega)) ⟨rfl, trivial⟩ rfl ?_; rintro _ _ ⟨A6, c6, rfl, o6, hbx⟩; replace r1 := RdB.below r1 hbx; replace r2 := RdB.below r2 hbx; replace o4 := OwB.below o4 hbx; replace o5 := OwB.below o5 hbx; replace hb := hb.trans (hbx.mono hb.size); clear hbx
  refine wl_call ok_caissonref01_Equal (equal_yes rfl o4.rd o6.rd rfl rfl hmx) ⟨rfl, rfl, trivial⟩ rfl ?_; rintro _ _ ⟨rfl, hbx⟩; replace r1 := RdB.below r1 hbx; replace r2 := RdB.below r2 hbx; replace o4 := OwB.below o4 hbx; replace o5 := OwB.below o5 hbx; replace hb := hb.trans (hbx.mono hb.size); clear hbx
  apply wl_val; apply opv_not; exact rfl; exact rfl; refine wl_mv rfl rfl ?_; apply wl_take; exact rfl; exact rfl; exact rfl; exact rfl; refine wl_mv rfl rfl ?_; apply wl_take; exact rfl; exact rfl; exact rfl; exact rfl; refine wl_mv rfl rfl ?_; apply wl_take; exact rfl; exact rfl; exact rfl; exact rfl
  refine wl_call ok_caissonref01_Equal (equal_yes rfl o5.rd r1 rfl rfl (by simp only [maxLen]; omega)) ⟨rfl, rfl, trivial⟩ rfl ?_; rintro _ _ ⟨rfl, hbx⟩; replace r1 := RdB.below r1 hbx; replace r2 := RdB.below r2 hbx; replace hb := hb.trans (hbx.mono hb.size); clear hbx
  apply wl_take; exact rfl; exact rfl; exact rfl; exact rfl; apply wl_val; apply opv_not; exact rfl; exact rfl; apply wl_val; apply opv_pickF; exact rfl; exact rfl; exact rfl; exact rfl; refine wl_mv rfl rfl ?_; apply wl_take; exact rfl; exact rfl; exact rfl; exact rfl; refine wl_mv rfl rfl ?_; apply wl_take; exact rfl; exact rfl; exact rfl; exact rfl; refine wl_mv rfl rfl ?_; apply wl_take; exact rfl; exact rfl; exact rfl; exact rfl; apply wl_val; apply opv_len; exact rfl; exact tyB.sl; exact rfl; apply wl_take; exact rfl; exact rfl; exact rfl; exact rfl; refine wl_bin rfl rfl bin_neq rfl ?_; apply wl_val; apply opv_pickF; exact rfl; exact rfl; exact rfl; exact rfl; refine wl_mv rfl rfl ?_; apply wl_take; exact rfl; exact rfl; exact rfl; exact decide_eq_false (by omega); refine wl_mv rfl rfl ?_; apply wl_take; exact rfl; exact rfl; exact rfl; exact decide_eq_false (by omega); refine wl_bin rfl rfl bin_neq rfl ?_; apply wl_val; apply opv_pickF; exact rfl; exact decide_eq_false (by omega); exact rfl; exact rfl; refine wl_ns ?_
  refine wc_cond rfl (fun h => absurd rfl h) (fun _ => ?_)
  obtain ⟨zs, x, e, hv⟩ : ∃ zs x e, getOrd ys p = (zs, x, e) := ⟨_, _, _, rfl⟩
  have hzl := getOrd_length hv
  refine wc_skip ?_; refine we_seq ?_; refine wc_sr ?_; refine wl_mv rfl rfl ?_
  refine wl_call ok_caissonref01_Copy (copy_any r2 rfl (by omega)) ⟨rfl, trivial⟩ rfl ?_; rintro _ _ ⟨A7, c7, rfl, o7, hbx⟩; replace r2 := RdB.below r2 hbx; replace hb := hb.trans (hbx.mono hb.size); clear hbx
  refine wl_mv rfl rfl ?_
  refine wl_call ok_codec_GetOrdText (getOrd_at hv o7.rd rfl (by omega)) ⟨rfl, rfl, trivial⟩ rfl ?_; rintro _ _ ⟨A8, c8, rfl, o8, hbx⟩; replace r2 := RdB.below r2 hbx; replace hb := hb.trans (hbx.mono hb.size); clear hbx
  refine wl_mv rfl rfl ?_; apply wl_val; apply opv_extract; exact rfl; exact rfl; exact rfl; apply wl_val; apply opv_extract; exact rfl; exact rfl; exact rfl; apply wl_val; apply opv_extract; exact rfl; exact rfl; exact rfl; refine wl_as rfl rfl ?_; refine wl_as rfl rfl ?_; refine wl_as rfl rfl ?_; refine wl_ns ?_; refine wc_sr ?_; refine wl_mv rfl rfl ?_; refine wl_mv rfl rfl ?_
  refine wl_call ok_caissonref01_GetOrdText (refGetOrd_at hv r2 rfl (by omega)) ⟨rfl, rfl, trivial⟩ rfl ?_; rintro _ _ ⟨A9, c9, rfl, o9, hbx⟩; replace o8 := OwB.below o8 hbx; replace hb := hb.trans (hbx.mono hb.size); clear hbx
  refine wl_mv rfl rfl ?_; apply wl_val; apply opv_extract; exact rfl; exact rfl; exact rfl; apply wl_val; apply opv_extract; exact rfl; exact rfl; exact rfl; apply wl_val; apply opv_extract; exact rfl; exact rfl; exact rfl; refine wl_as rfl rfl ?_; refine wl_as rfl rfl ?_; refine wl_as rfl rfl ?_; refine wl_ns ?_; refine wc_sr ?_; refine wl_mv rfl rfl ?_; refine wl_mv rfl rfl ?_
  refine wl_call ok_caissonref01_Equal (equal_yes rfl o8.rd o9.rd rfl rfl (by simp only [maxLen]; omega)) ⟨rfl, rfl, trivial⟩ rfl ?_; rintro _ _ ⟨rfl, hbx⟩; replace hb := hb.trans (hbx.mono hb.size); clear hbx
  refine wl_mv rfl rfl ?_; apply wl_take; exact rfl; exact rfl; exact rfl; exact rfl; refine wl_mv rfl rfl ?_; apply wl_take; exact rfl; exact rfl; exact rfl; exact rfl; refine wl_mv rfl rfl ?_; apply wl_take; exact rfl; exact rfl; exact rfl; exact rfl; refine wl_bin rfl rfl bin_eql rfl ?_; apply wl_val; apply opv_pickT; exact rfl; exact rfl; exact rfl; exact rfl; refine wl_mv rfl rfl ?_; apply wl_take; exact rfl; exact rfl; exact rfl; exact decide_eq_true (by omega); refine wl_mv rfl rfl ?_; apply wl_take; exact rfl; exact rfl; exact rfl; exact decide_eq_true (by omega); refine wl_mv rfl rfl ?_; apply wl_take; exact rfl; exact rfl; exact rfl; exact decide_eq_true (by omega); refine wl_bin rfl rfl bin_eql rfl ?_; apply wl_val; apply opv_pickT; exact rfl; exact decide_eq_true (by omega); exact rfl; exact rfl; refine wl_as rfl rfl ?_; refine wl_ns ?_; refine wc_ret ?_
  exact we_ret1 rfl rfl ⟨_, rfl, by simp, hb⟩
end Go.Proofs.Ytdppekhnahnjjaa
