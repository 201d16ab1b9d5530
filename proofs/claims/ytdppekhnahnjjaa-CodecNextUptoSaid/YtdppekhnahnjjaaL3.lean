/-
  The walk over the law CodecNext.
-/
import Derived.Test.YtdppekhnahnjjaaWd
import Derived.Test.YtdppekhnahnjjaaWf
import Derived.Test.YtdppekhnahnjjaaWg
namespace Go.Proofs.Ytdppekhnahnjjaa
open Go.RowKit

theorem nextw_walk {A B C : Option Addr} {n m l c d e : Nat} {xs ys zs : List UInt8} {w : World} (r1 : RdB w A xs) (hn : xs.length = n) (hc : xs.length ≤ c) (hl : xs.length ≤ 1048576) (r2 : RdB w B ys) (hm : ys.length = m) (_hd : ys.length ≤ d) (hl2 : ys.length ≤ 1048576)
    (r3 : RdB w C zs) (hz : zs.length = l) (he : zs.length ≤ e) (hl3 : zs.length ≤ 1048576) :
    CallsV Try.prog 6 #[.slice A n c, .slice B m d, .slice C l e] w (RetTrue w) := by
  subst hn hm hz
  have hnl : (nextB xs).length ≤ xs.length := by
    rcases next_form xs with ⟨_, h⟩ | ⟨t, x, r, rfl, _, _, h⟩
    · rw [h]; simp
    · rw [h]; simp
  have hb := Below.refl w.heap.size w
  refine calls_in (N := _) Try.func6 rfl Try.ntmps6 rfl ?_; show WC _ _ _ _ _ _
  refine wc_sr ?_; refine wl_as rfl rfl ?_; refine wl_ns ?_; refine wc_seq ?_; refine wc_sr ?_
  refine wl_call ok_caissonlaw01_awake (awake_any _) trivial rfl ?_; rintro _ _ ⟨rfl, hbx⟩; replace r1 := RdB.below r1 hbx; replace r2 := RdB.below r2 hbx; replace r3 := RdB.below r3 hbx; replace hb := hb.trans (hbx.mono hb.size); clear hbx
  apply wl_val; apply opv_not; exact rfl; exact rfl; refine wl_mv rfl rfl ?_; apply wl_take; exact rfl; exact rfl; exact rfl; exact rfl
  refine wl_bs (vs := [_, _]) tyB ⟨rfl, rfl, rfl, rfl, rfl, rfl, trivial⟩ rfl (by decide) rfl fun A5 _ o5 hbx _ => ?_; replace r1 := RdB.below r1 hbx; replace r2 := RdB.below r2 hbx; replace r3 := RdB.below r3 hbx; replace hb := hb.trans (hbx.mono hb.size); clear hbx
  apply wl_take; exact rfl; exact rfl; exact rfl; exact rfl
  refine wl_call ok_codec_Next (next_any (xs := [1, 255]) o5.rd rfl (by decide) (by decide)) ⟨rfl, trivial⟩ rfl ?_; rintro _ _ ⟨A6, c6, rfl, o6, hbx⟩; replace r1 := RdB.below r1 hbx; replace r2 := RdB.below r2 hbx; replace r3 := RdB.below r3 hbx; replace hb := hb.trans (hbx.mono hb.size); clear hbx
  apply wl_take; exact rfl; exact rfl; exact rfl; exact rfl
  refine wl_bs (vs := [_]) tyB ⟨rfl, rfl, rfl, trivial⟩ rfl (by decide) rfl fun A7 _ o7 hbx _ => ?_; replace r1 := RdB.below r1 hbx; replace r2 := RdB.below r2 hbx; replace r3 := RdB.below r3 hbx; replace o6 := OwB.below o6 hbx; replace hb := hb.trans (hbx.mono hb.size); clear hbx
  apply wl_take; exact rfl; exact rfl; exact rfl; exact rfl
  refine wl_call ok_caissonref01_Equal (equal_yes (by decide) o6.rd (ys := [2]) o7.rd rfl rfl (by simp only [maxLen]; decide)) ⟨rfl, rfl, trivial⟩ rfl ?_; rintro _ _ ⟨rfl, hbx⟩; replace r1 := RdB.below r1 hbx; replace r2 := RdB.below r2 hbx; replace r3 := RdB.below r3 hbx; replace hb := hb.trans (hbx.mono hb.size); clear hbx
  apply wl_take; exact rfl; exact rfl; exact rfl; exact rfl; apply wl_val; apply opv_not; exact rfl; exact rfl; apply wl_val; apply opv_pickF; exact rfl; exact rfl; exact rfl; exact rfl; refine wl_ns ?_
  refine wc_condF rfl ?_
  refine wc_skip ?_; refine we_seq ?_; refine wc_sr ?_; refine wl_mv rfl rfl ?_
  refine wl_call ok_caissonref01_Copy (copy_any r1 rfl (by omega)) ⟨rfl, trivial⟩ rfl ?_; rintro _ _ ⟨A8, c8, rfl, o8, hbx⟩; replace r1 := RdB.below r1 hbx; replace r2 := RdB.below r2 hbx; replace r3 := RdB.below r3 hbx; replace hb := hb.trans (hbx.mono hb.size); clear hbx
  refine wl_call ok_codec_Next (next_any o8.rd rfl o8.cap (by omega)) ⟨rfl, trivial⟩ rfl ?_; rintro _ _ ⟨A9, c9, rfl, o9, hbx⟩; replace r1 := RdB.below r1 hbx; replace r2 := RdB.below r2 hbx; replace r3 := RdB.below r3 hbx; replace hb := hb.trans (hbx.mono hb.size); clear hbx
  refine wl_as rfl rfl ?_; refine wl_ns ?_; refine wc_seq ?_; refine wc_sr ?_; refine wl_mv rfl rfl ?_; refine wl_mv rfl rfl ?_
  refine wl_call ok_caissonref01_Next (refNext_any r1 rfl hc (by omega)) ⟨rfl, trivial⟩ rfl ?_; rintro _ _ ⟨A10, c10, rfl, o10, hbx⟩; replace r1 := RdB.below r1 hbx; replace r2 := RdB.below r2 hbx; replace r3 := RdB.below r3 hbx; replace o9 := OwB.below o9 hbx; replace hb := hb.trans (hbx.mono hb.size); clear hbx
  refine wl_call ok_caissonref01_Equal (equal_yes rfl o9.rd o10.rd rfl rfl (by simp only [maxLen]; omega)) ⟨rfl, rfl, trivial⟩ rfl ?_; rintro _ _ ⟨rfl, hbx⟩; replace r1 := RdB.below r1 hbx; replace r2 := RdB.below r2 hbx; replace r3 := RdB.below r3 hbx; replace o9 := OwB.below o9 hbx; replace hb := hb.trans (hbx.mono hb.size); clear hbx
  apply wl_val; apply opv_not; exact rfl; exact rfl; refine wl_ns ?_
  refine wc_condF rfl ?_
  refine wc_skip ?_; refine we_seq ?_; refine wc_sr ?_; refine wl_mv rfl rfl ?_
  refine wl_call ok_caissonref01_Copy (copy_any r1 rfl (by omega)) ⟨rfl, trivial⟩ rfl ?_
  rintro _ w11 ⟨A11, c11, rfl, o11, h11⟩
  refine wl_mv rfl rfl ?_
  refine wl_app tyB rfl o11 rfl (RdB.below r2 h11) (bvs_one _) (by omega) (by simp only [maxLen]; omega) h11.size rfl fun A12 c12 w12 o12' g12 _ => ?_
  have hbx := g12.below h11 o11 (Nat.le_refl _) h11.size
  replace r1 := RdB.below r1 hbx
  replace r3 := RdB.below r3 hbx
  replace o9 := OwB.below o9 hbx
  replace hb := hb.trans (hbx.mono hb.size)
  have o12 := OwB.app o12'
  clear hbx g12 o12' o11
  refine wl_as rfl rfl ?_; refine wl_ns ?_; refine wc_seq ?_; refine wc_sr ?_; refine wl_mv rfl rfl ?_; apply wl_val; apply opv_len; exact rfl; exact tyB.sl; exact rfl; refine wl_bin rfl rfl bin_eql rfl ?_; refine wl_ns ?_
  by_cases hnil : nextB xs = []
  · rw [hnil]
    refine wc_cond rfl (fun _ => ?_) (fun h => absurd rfl h)
    refine wc_sr ?_; refine wl_as rfl rfl ?_; refine wl_ns ?_; refine wc_ret ?_; refine we_seq_ret ?_
    exact we_ret1 rfl rfl ⟨_, rfl, rfl, hb⟩
  have hpos : 0 < (nextB xs).length := List.length_pos_iff.2 hnil
  have hc1 : cmpB (xs ++ ys) (nextB xs) < 0 := by rw [cmp_next hnil]; decide
  have hc2 : cmpB xs (nextB xs) < 0 := by
    have := cmp_next (tail := []) hnil
    rw [List.append_nil] at this; rw [this]; decide
  refine wc_cond rfl (fun h => absurd h (by omega)) (fun _ => ?_)
  refine wc_skip ?_; refine we_seq ?_; refine wc_sr ?_; refine wl_mv rfl rfl ?_; apply wl_val; apply opv_len; exact rfl; exact tyB.sl; exact rfl; refine wl_mv rfl rfl ?_; apply wl_val; apply opv_len; exact rfl; exact tyB.sl; exact rfl; refine wl_bin rfl rfl bin_geq rfl ?_; refine wl_mv rfl rfl ?_
  have r9 := o9.rd
  have r12 := o12.rd
  refine wl_cutE (fun L' w' => L' = [(0, .slice A xs.length c), (2, .slice C zs.length e), (7, .slice A9 (nextB xs).length c9), (8, .slice A12 (xs.length + ys.length) c12), (9, .bool (decide (xs.length ≤ zs.length ∧ zs.take xs.length = xs)))] ∧ Below w12.heap.size w12 w') ?_ ?_
  · by_cases hge : xs.length ≤ zs.length
    · apply wl_take; exact rfl; exact rfl; exact rfl; exact decide_eq_true (by omega); refine wl_mv rfl rfl ?_; apply wl_take; exact rfl; exact rfl; exact rfl; exact decide_eq_true (by omega); refine wl_mv rfl rfl ?_; apply wl_take; exact rfl; exact rfl; exact rfl; exact decide_eq_true (by omega); apply wl_val; apply opv_len; exact rfl; exact tyB.sl; exact rfl; apply wl_take; exact rfl; exact rfl; exact rfl; exact decide_eq_true (by omega)
      refine wl_sl (l := 0) (h := xs.length) tyB rfl rfl ⟨_, rfl⟩ (by omega) (by omega) rfl ?_
      apply wl_take; exact rfl; exact rfl; exact rfl; exact decide_eq_true (by omega); refine wl_mv rfl rfl ?_; apply wl_take; exact rfl; exact rfl; exact rfl; exact decide_eq_true (by omega)
      refine wl_call ok_caissonref01_Equal (equal_any (rd_pre r3 hge he) r1 (by simp; omega) rfl (by simp only [maxLen, List.length_take]; omega)) ⟨rfl, rfl, trivial⟩ rfl ?_
      rintro _ w13 ⟨rfl, h13⟩
      apply wl_val; apply opv_pickT; exact rfl; exact decide_eq_true (by omega); exact rfl; exact rfl; refine wl_as rfl rfl ?_; refine wl_nil ?_
      refine we_cut _ ⟨rfl, h13⟩ ⟨rfl, rfl, rfl, rfl, ?_, trivial⟩
      exact congrArg (fun b => some (Value.bool b)) (by simp [hge])
    · apply wl_skip; exact rfl; exact rfl; exact rfl; exact decide_eq_false (by omega); exact rfl; apply wl_skip; exact rfl; exact rfl; exact rfl; exact decide_eq_false (by omega); exact rfl; apply wl_skip; exact rfl; exact rfl; exact rfl; exact decide_eq_false (by omega); exact rfl; apply wl_skip; exact rfl; exact rfl; exact rfl; exact decide_eq_false (by omega); exact rfl; apply wl_skip; exact rfl; exact rfl; exact rfl; exact decide_eq_false (by omega); exact rfl; apply wl_skip; exact rfl; exact rfl; exact rfl; exact decide_eq_false (by omega); exact rfl; apply wl_val; apply opv_pickF; exact rfl; exact decide_eq_false (by omega); exact rfl; exact rfl; refine wl_as rfl rfl ?_; refine wl_nil ?_
      refine we_cut _ ⟨rfl, Below.refl _ _⟩ ⟨rfl, rfl, rfl, rfl, ?_, trivial⟩
      exact congrArg (fun b => some (Value.bool b)) (by simp [hge])
  · rintro _ w13 ⟨rfl, h13⟩
    replace r1 := RdB.below r1 h13
    replace r3 := RdB.below r3 h13
    replace r9 := RdB.below r9 h13
    replace r12 := RdB.below r12 h13
    replace hb := hb.trans (h13.mono hb.size)
    refine we_seq ?_; refine wc_sr ?_; refine wl_mv rfl rfl ?_; refine wl_mv rfl rfl ?_
    refine wl_call ok_codec_Cmp (cmp_any r12 r9 (by simp) rfl) ⟨rfl, rfl, trivial⟩ rfl ?_
    rintro _ _ ⟨rfl, rfl⟩
    refine wl_bin rfl rfl bin_lss rfl ?_; refine wl_mv rfl rfl ?_; apply wl_take; exact rfl; exact rfl; exact rfl; exact decide_eq_true (by assumption); refine wl_mv rfl rfl ?_; apply wl_take; exact rfl; exact rfl; exact rfl; exact decide_eq_true (by assumption); refine wl_mv rfl rfl ?_; apply wl_take; exact rfl; exact rfl; exact rfl; exact decide_eq_true (by assumption)
    refine wl_call ok_codec_Cmp (cmp_any r1 r9 rfl rfl) ⟨rfl, rfl, trivial⟩ rfl ?_
    rintro _ _ ⟨rfl, rfl⟩
    apply wl_take; exact rfl; exact rfl; exact rfl; exact decide_eq_true (by assumption); refine wl_bin rfl rfl bin_lss rfl ?_; apply wl_val; apply opv_pickT; exact rfl; exact decide_eq_true (by assumption); exact rfl; exact rfl; refine wl_mv rfl rfl ?_; apply wl_take; exact rfl; exact rfl; exact rfl; exact decide_eq_true (by assumption); refine wl_mv rfl rfl ?_; apply wl_take; exact rfl; exact rfl; exact rfl; exact decide_eq_true (by assumption); refine wl_mv rfl rfl ?_; apply wl_take; exact rfl; exact rfl; exact rfl; exact decide_eq_true (by assumption)
    refine wl_call ok_codec_Cmp (cmp_any r3 r1 rfl rfl) ⟨rfl, rfl, trivial⟩ rfl ?_
    rintro _ _ ⟨rfl, rfl⟩
    by_cases h1 : cmpB zs xs < 0
    · apply wl_take; exact rfl; exact rfl; exact rfl; exact decide_eq_true (by assumption); refine wl_bin rfl rfl bin_lss rfl ?_; apply wl_take; exact rfl; exact rfl; exact rfl; exact decide_eq_true (by assumption); refine wl_mv rfl rfl ?_; apply wl_skip; exact rfl; exact rfl; exact rfl; exact decide_eq_true (by assumption); exact rfl; apply wl_take; exact rfl; exact rfl; exact rfl; exact decide_eq_true (by assumption); apply wl_val; apply opv_pickT; exact rfl; exact decide_eq_true (by assumption); exact rfl; exact rfl; apply wl_take; exact rfl; exact rfl; exact rfl; exact decide_eq_true (by assumption); refine wl_mv rfl rfl ?_; apply wl_skip; exact rfl; exact rfl; exact rfl; exact rfl; exact rfl; apply wl_skip; exact rfl; exact rfl; exact rfl; exact rfl; exact rfl; apply wl_skip; exact rfl; exact rfl; exact rfl; exact rfl; exact rfl; apply wl_skip; exact rfl; exact rfl; exact rfl; exact rfl; exact rfl; apply wl_take; exact rfl; exact rfl; exact rfl; exact decide_eq_true (by assumption); apply wl_val; apply opv_pickT; exact rfl; exact rfl; exact rfl; exact rfl; apply wl_val; apply opv_pickT; exact rfl; exact decide_eq_true (by assumption); exact rfl; exact rfl; refine wl_as rfl rfl ?_; refine wl_ns ?_; refine wc_ret ?_
      exact we_ret1 rfl rfl ⟨_, rfl, by simp, hb⟩
    · by_cases h2 : xs.length ≤ zs.length ∧ zs.take xs.length = xs
      · apply wl_take; exact rfl; exact rfl; exact rfl; exact decide_eq_true (by assumption); refine wl_bin rfl rfl bin_lss rfl ?_; apply wl_take; exact rfl; exact rfl; exact rfl; exact decide_eq_true (by assumption); refine wl_mv rfl rfl ?_; apply wl_take; exact rfl; exact rfl; exact rfl; exact decide_eq_false (by assumption); refine wl_mv rfl rfl ?_; apply wl_take; exact rfl; exact rfl; exact rfl; exact decide_eq_true (by assumption); apply wl_val; apply opv_pickF; exact rfl; exact decide_eq_false (by assumption); exact rfl; exact rfl; apply wl_take; exact rfl; exact rfl; exact rfl; exact decide_eq_true (by assumption); refine wl_mv rfl rfl ?_; apply wl_skip; exact rfl; exact rfl; exact rfl; exact decide_eq_true (by assumption); exact rfl; apply wl_skip; exact rfl; exact rfl; exact rfl; exact decide_eq_true (by assumption); exact rfl; apply wl_skip; exact rfl; exact rfl; exact rfl; exact decide_eq_true (by assumption); exact rfl; apply wl_skip; exact rfl; exact rfl; exact rfl; exact decide_eq_true (by assumption); exact rfl; apply wl_take; exact rfl; exact rfl; exact rfl; exact decide_eq_true (by assumption); apply wl_val; apply opv_pickT; exact rfl; exact decide_eq_true (by assumption); exact rfl; exact rfl; apply wl_val; apply opv_pickT; exact rfl; exact decide_eq_true (by assumption); exact rfl; exact rfl; refine wl_as rfl rfl ?_; refine wl_ns ?_; refine wc_ret ?_
        exact we_ret1 rfl rfl ⟨_, rfl, by simp [h2], hb⟩
      · have h3 : 0 ≤ cmpB zs (nextB xs) := by
          rcases next_form xs with ⟨_, h⟩ | ⟨t, x, r, rfl, hx, hr, h⟩
          · exact absurd h hnil
          · rw [h]; exact cmp_between t zs r x hx hr (by omega) (fun hh => h2 ⟨hh.2, hh.1⟩)
        apply wl_take; exact rfl; exact rfl; exact rfl; exact decide_eq_true (by assumption); refine wl_bin rfl rfl bin_lss rfl ?_; apply wl_take; exact rfl; exact rfl; exact rfl; exact decide_eq_true (by assumption); refine wl_mv rfl rfl ?_; apply wl_take; exact rfl; exact rfl; exact rfl; exact decide_eq_false (by assumption); refine wl_mv rfl rfl ?_; apply wl_take; exact rfl; exact rfl; exact rfl; exact decide_eq_true (by assumption); apply wl_val; apply opv_pickF; exact rfl; exact decide_eq_false (by assumption); exact rfl; exact rfl; apply wl_take; exact rfl; exact rfl; exact rfl; exact decide_eq_true (by assumption); refine wl_mv rfl rfl ?_; apply wl_take; exact rfl; exact rfl; exact rfl; exact decide_eq_false (by assumption); refine wl_mv rfl rfl ?_; apply wl_take; exact rfl; exact rfl; exact rfl; exact decide_eq_false (by assumption); refine wl_mv rfl rfl ?_; apply wl_take; exact rfl; exact rfl; exact rfl; exact decide_eq_false (by assumption)
        refine wl_call ok_codec_Cmp (cmp_any r3 r9 rfl rfl) ⟨rfl, rfl, trivial⟩ rfl ?_
        rintro _ _ ⟨rfl, rfl⟩
        apply wl_take; exact rfl; exact rfl; exact rfl; exact decide_eq_false (by assumption); refine wl_bin rfl rfl bin_geq rfl ?_; apply wl_take; exact rfl; exact rfl; exact rfl; exact decide_eq_true (by assumption); apply wl_val; apply opv_pickF; exact rfl; exact decide_eq_false (by assumption); exact rfl; exact rfl; apply wl_val; apply opv_pickT; exact rfl; exact decide_eq_true (by assumption); exact rfl; exact rfl; refine wl_as rfl rfl ?_; refine wl_ns ?_; refine wc_ret ?_
        exact we_ret1 rfl rfl ⟨_, rfl, by simp [h3], hb⟩
end Go.Proofs.Ytdppekhnahnjjaa
