/-
  The walk over the law CodecNumbers.
-/
import Derived.Test.YtdppekhnahnjjaaWd
namespace Go.Proofs.Ytdppekhnahnjjaa
open Go.RowKit

theorem numbers_walk {n : Nat} (hn : n < 18446744073709551616) {A : Option Addr} {m c : Nat} {xs : List UInt8} {p : Int} {w : World} (hr : RdB w A xs) (hm : xs.length = m) (hc : xs.length ≤ c) (hl : xs.length ≤ 140737488355328)
    (hp : -9223372036854775808 ≤ p ∧ p ≤ 9223372036854775807) :
    CallsV Try.prog 5 #[.int .u64 n, .slice A m c, .int .i64 p] w (RetTrue w) := by
  subst hm
  have hn64 : n < 2 ^ 64 := hn
  have hg := getU_putU hn64
  have hlp : (putU n).length ≤ maxLen := by have := putU_le hn64; simp only [maxLen]; omega
  refine calls_in (N := _) Try.func5 rfl Try.ntmps5 rfl ?_; show WC _ _ _ _ _ _
  refine wc_sr ?_; refine wl_as rfl rfl ?_; refine wl_ns ?_; refine wc_seq ?_; refine wc_sr ?_
  refine wl_call ok_caissonlaw01_awake (awake_any w) trivial rfl ?_
  rintro _ w1 ⟨rfl, hb1⟩
  apply wl_val; apply opv_not; exact rfl; exact rfl; refine wl_ns ?_
  refine wc_condF rfl ?_
  refine wc_skip ?_; refine we_seq ?_; refine wc_sr ?_; refine wl_mv rfl rfl ?_
  refine wl_call ok_codec_PutU (putU_any n hn64 w1) ⟨rfl, trivial⟩ rfl ?_
  rintro _ w2 ⟨A2, c2, rfl, ho2, hb2⟩
  refine wl_as rfl rfl ?_; refine wl_ns ?_; refine wc_sr ?_; refine wl_mv rfl rfl ?_
  refine wl_call ok_codec_GetU (getU_at (p := 0) hg ho2.rd rfl hlp (by decide)) ⟨rfl, rfl, trivial⟩ rfl ?_
  rintro _ w3 ⟨rfl, hb3⟩
  have ho3 := ho2.below hb3
  refine wl_mv rfl rfl ?_; apply wl_val; apply opv_extract; exact rfl; exact rfl; exact rfl; apply wl_val; apply opv_extract; exact rfl; exact rfl; exact rfl; apply wl_val; apply opv_extract; exact rfl; exact rfl; exact rfl; refine wl_as rfl rfl ?_; refine wl_as rfl rfl ?_; refine wl_as rfl rfl ?_; refine wl_ns ?_; refine wc_seq ?_; refine wc_sr ?_; refine wl_mv rfl rfl ?_; refine wl_mv rfl rfl ?_
  refine wl_call ok_caissonref01_PutU (refPutU_any n hn64 w3) ⟨rfl, trivial⟩ rfl ?_
  rintro _ w4 ⟨A4, c4, rfl, ho4, hb4⟩
  refine wl_call ok_caissonref01_Equal (equal_yes rfl (ho3.below hb4).rd ho4.rd rfl rfl hlp) ⟨rfl, rfl, trivial⟩ rfl ?_
  rintro _ w5 ⟨rfl, hb5⟩
  apply wl_val; apply opv_not; exact rfl; exact rfl; refine wl_mv rfl rfl ?_; apply wl_take; exact rfl; exact rfl; exact rfl; exact rfl; refine wl_mv rfl rfl ?_; apply wl_take; exact rfl; exact rfl; exact rfl; exact rfl; refine wl_mv rfl rfl ?_; apply wl_take; exact rfl; exact rfl; exact rfl; exact rfl; refine wl_bin rfl rfl bin_neq rfl ?_; apply wl_val; apply opv_pickF; exact rfl; exact rfl; exact rfl; exact rfl; refine wl_mv rfl rfl ?_; apply wl_take; exact rfl; exact rfl; exact rfl; exact decide_eq_false (by omega); refine wl_mv rfl rfl ?_; apply wl_take; exact rfl; exact rfl; exact rfl; exact decide_eq_false (by omega); refine wl_mv rfl rfl ?_; apply wl_take; exact rfl; exact rfl; exact rfl; exact decide_eq_false (by omega); apply wl_val; apply opv_len; exact rfl; exact tyB.sl; exact rfl; apply wl_take; exact rfl; exact rfl; exact rfl; exact decide_eq_false (by omega); refine wl_bin rfl rfl bin_neq rfl ?_; apply wl_val; apply opv_pickF; exact rfl; exact decide_eq_false (by omega); exact rfl; exact rfl; refine wl_mv rfl rfl ?_; apply wl_take; exact rfl; exact rfl; exact rfl; exact decide_eq_false (by omega); refine wl_mv rfl rfl ?_; apply wl_take; exact rfl; exact rfl; exact rfl; exact decide_eq_false (by omega); refine wl_bin rfl rfl bin_neq rfl ?_; apply wl_val; apply opv_pickF; exact rfl; exact decide_eq_false (by omega); exact rfl; exact rfl; refine wl_ns ?_
  refine wc_cond rfl (fun h => absurd rfl h) (fun _ => ?_)
  have hb15 : Below w.heap.size w w5 := hb1.trans ((hb2.trans ((hb3.trans ((hb4.trans (hb5.mono hb4.size)).mono hb3.size)).mono hb2.size)).mono hb1.size)
  have hr5 := RdB.below hr hb15
  refine wc_skip ?_; refine we_seq ?_; refine wc_sr ?_; refine wl_mv rfl rfl ?_
  refine wl_call ok_caissonref01_Copy (copy_any hr5 rfl hl) ⟨rfl, trivial⟩ rfl ?_
  rintro _ w6 ⟨A6, c6, rfl, ho6, hb6⟩
  obtain ⟨v, x, e, hv⟩ : ∃ v x e, getU xs p = (v, x, e) := ⟨_, _, _, rfl⟩
  have hlx : xs.length ≤ maxLen := by simp only [maxLen]; omega
  refine wl_mv rfl rfl ?_
  refine wl_call ok_codec_GetU (getU_at hv ho6.rd rfl hlx hp) ⟨rfl, rfl, trivial⟩ rfl ?_
  rintro _ w7 ⟨rfl, hb7⟩
  have hb57 := hb6.trans (hb7.mono hb6.size)
  have hr7 := RdB.below hr5 hb57
  refine wl_mv rfl rfl ?_; apply wl_val; apply opv_extract; exact rfl; exact rfl; exact rfl; apply wl_val; apply opv_extract; exact rfl; exact rfl; exact rfl; apply wl_val; apply opv_extract; exact rfl; exact rfl; exact rfl; refine wl_as rfl rfl ?_; refine wl_as rfl rfl ?_; refine wl_as rfl rfl ?_; refine wl_ns ?_; refine wc_sr ?_; refine wl_mv rfl rfl ?_; refine wl_mv rfl rfl ?_
  refine wl_call ok_caissonref01_GetU (refGetU_at hv hr7 rfl hlx hp) ⟨rfl, rfl, trivial⟩ rfl ?_
  rintro _ w8 ⟨rfl, hb8⟩
  have hr8 := RdB.below hr7 hb8
  refine wl_mv rfl rfl ?_; apply wl_val; apply opv_extract; exact rfl; exact rfl; exact rfl; apply wl_val; apply opv_extract; exact rfl; exact rfl; exact rfl; apply wl_val; apply opv_extract; exact rfl; exact rfl; exact rfl; refine wl_as rfl rfl ?_; refine wl_as rfl rfl ?_; refine wl_as rfl rfl ?_; refine wl_ns ?_; refine wc_seq ?_
  have hb18 := hb15.trans ((hb57.trans (hb8.mono hb57.size)).mono hb15.size)
  refine wc_sub [(1, .slice A xs.length c), (2, .int .i64 p), (8, .int .u64 (v : Int)), (9, .int .i64 x), (10, .int .i64 (e : Int)), (11, .int .u64 (v : Int)), (12, .int .i64 x), (13, .int .i64 (e : Int))] ⟨rfl, rfl, rfl, rfl, rfl, rfl, rfl, rfl, trivial⟩ ?_
  refine wc_heldB mixed fun w9 hS => ?_
  have hb19 := hb18.trans (hS.mono hb18.size)
  by_cases he : e = 0
  · subst he
    obtain ⟨q, k, rfl, rfl, hqk, hkl, hpu, hvlt⟩ := getU_inv hv
    apply wh_take 0; exact rfl; kernel_rfl; kernel_rfl; kernel_rfl; exact hS; intro _ _; apply opv_move; exact rfl; exact rfl; apply wh_take 1; exact rfl; kernel_rfl; kernel_rfl; kernel_rfl; exact hS; intro _ _; apply opv_move; exact rfl; exact rfl; apply wh_take 2; exact rfl; kernel_rfl; kernel_rfl; kernel_rfl; exact hS; intro _ _; apply opv_bin; exact rfl; exact rfl; exact bin_eql; exact rfl; apply wh_take 3; exact rfl; kernel_rfl; kernel_rfl; kernel_rfl; exact hS; intro _ _; apply opv_move; exact rfl; exact rfl; apply wh_takeG 4; exact rfl; kernel_rfl; kernel_rfl; kernel_rfl; exact hS; exact rfl; exact rfl; exact rfl; exact decide_eq_true (by omega); intro _ _; apply opv_move; exact rfl; exact rfl; apply wh_takeG 5; exact rfl; kernel_rfl; kernel_rfl; kernel_rfl; exact hS; exact rfl; exact rfl; exact rfl; exact decide_eq_true (by omega); intro _ _; apply opv_move; exact rfl; exact rfl; apply wh_takeG 6; exact rfl; kernel_rfl; kernel_rfl; kernel_rfl; exact hS; exact rfl; exact rfl; exact rfl; exact decide_eq_true (by omega); intro _ _; apply opv_bin; exact rfl; exact rfl; exact bin_eql; exact rfl; apply wh_take 7; exact rfl; kernel_rfl; kernel_rfl; kernel_rfl; exact hS; intro _ _; apply opv_pickT; exact rfl; exact decide_eq_true (by omega); exact rfl; exact rfl; apply wh_take 8; exact rfl; kernel_rfl; kernel_rfl; kernel_rfl; exact hS; intro _ _; apply opv_move; exact rfl; exact rfl; apply wh_takeG 9; exact rfl; kernel_rfl; kernel_rfl; kernel_rfl; exact hS; exact rfl; exact rfl; exact rfl; exact decide_eq_true (by omega); intro _ _; apply opv_move; exact rfl; exact rfl; apply wh_takeG 10; exact rfl; kernel_rfl; kernel_rfl; kernel_rfl; exact hS; exact rfl; exact rfl; exact rfl; exact decide_eq_true (by omega); intro _ _; apply opv_move; exact rfl; exact rfl; apply wh_takeG 11; exact rfl; kernel_rfl; kernel_rfl; kernel_rfl; exact hS; exact rfl; exact rfl; exact rfl; exact decide_eq_true (by omega); intro _ _; apply opv_bin; exact rfl; exact rfl; exact bin_eql; exact rfl; apply wh_take 12; exact rfl; kernel_rfl; kernel_rfl; kernel_rfl; exact hS; intro _ _; apply opv_pickT; exact rfl; exact decide_eq_true (by omega); exact rfl; exact rfl; apply wh_take 13; exact rfl; kernel_rfl; kernel_rfl; kernel_rfl; exact hS; intro _ _; apply opv_move; exact rfl; exact rfl; apply wh_takeG 14; exact rfl; kernel_rfl; kernel_rfl; kernel_rfl; exact hS; exact rfl; exact rfl; exact rfl; exact rfl; intro _ _; apply opv_move; exact rfl; exact rfl; apply wh_takeG 15; exact rfl; kernel_rfl; kernel_rfl; kernel_rfl; exact hS; exact rfl; exact rfl; exact rfl; exact rfl; intro _ _; apply opv_bin; exact rfl; exact rfl; exact bin_neq; exact rfl; apply wh_takeG 16; exact rfl; kernel_rfl; kernel_rfl; kernel_rfl; exact hS; exact rfl; exact rfl; exact rfl; exact rfl; intro _ _; apply opv_move; exact rfl; exact rfl; apply wh_takeG 17; exact rfl; kernel_rfl; kernel_rfl; kernel_rfl; exact hS; exact rfl; exact rfl; exact rfl; exact rfl; intro _ _; apply opv_move; exact rfl; exact rfl; apply wh_takeG 19; exact rfl; kernel_rfl; kernel_rfl; kernel_rfl; exact hS; exact rfl; exact rfl; exact rfl; exact rfl; intro _ _; apply opv_move; exact rfl; exact rfl; apply wh_takeG 20; exact rfl; kernel_rfl; kernel_rfl; kernel_rfl; exact hS; exact rfl; exact rfl; exact rfl; exact rfl; intro _ _; apply opv_move; exact rfl; exact rfl; apply wh_takeG 21; exact rfl; kernel_rfl; kernel_rfl; kernel_rfl; exact hS; exact rfl; exact rfl; exact rfl; exact rfl; intro _ _; apply opv_move; exact rfl; exact rfl
    refine wh_takeG 22 rfl (by kernel_rfl) (by kernel_rfl) (by kernel_rfl) hS rfl rfl rfl (by exact decide_eq_false (by omega)) (fun _ _ => opv_slice tyB rfl ⟨_, rfl⟩ ⟨_, rfl⟩ hqk (by omega)) rfl ?_
    refine wh_one 18 (o := ⟨_, _, _, _, _, _⟩) (by kernel_rfl) rfl ?_
    apply wl_take; exact rfl; exact rfl; exact rfl; exact rfl
    refine wl_call ok_codec_PutU (putU_any v hvlt w9) ⟨rfl, trivial⟩ rfl ?_
    rintro _ w10 ⟨A10, c10, rfl, ho10, hb10⟩
    have hS10 := hS.trans (hb10.mono hS.size)
    have hcut : RdB w10 (cutA A c q) ((xs.take k).drop q) := by
      have h1 := Rd.cut (c := c) (RdB.below (RdB.below hr8 hS) hb10) hqk hkl hc
      rw [bvs_cut] at h1
      have h2 : ((xs.take k).drop q).length = k - q := by simp; omega
      unfold RdB; rw [h2]; exact h1
    refine wl_nil ?_
    refine we_held hS10 ?_
    refine wh_one 23 (o := ⟨_, _, _, _, _, _⟩) (by kernel_rfl) rfl ?_
    apply wl_take; exact rfl; exact rfl; exact rfl; exact rfl
    refine wl_call ok_caissonref01_Equal (equal_yes hpu ho10.rd hcut rfl (by simp; omega) (by have := putU_le (n := v) hvlt; simp only [maxLen]; omega)) ⟨rfl, rfl, trivial⟩ rfl ?_
    rintro _ w11 ⟨rfl, hb11⟩
    have hS11 := hS10.trans (hb11.mono hS10.size)
    refine wl_nil ?_
    refine we_held hS11 ?_
    apply wh_takeG 24; exact rfl; kernel_rfl; kernel_rfl; kernel_rfl; exact hS11; exact rfl; exact rfl; exact rfl; exact rfl; intro _ _; apply opv_pickF; exact rfl; exact rfl; exact rfl; exact rfl; apply wh_take 25; exact rfl; kernel_rfl; kernel_rfl; kernel_rfl; exact hS11; intro _ _; apply opv_pickT; exact rfl; exact rfl; exact rfl; exact rfl; apply wh_take 26; exact rfl; kernel_rfl; kernel_rfl; kernel_rfl; exact hS11; intro _ _; apply opv_assign; exact rfl; exact rfl
    refine wh_done (by kernel_rfl) ?_
    refine we_seq ?_; refine wc_ret ?_
    exact we_ret1 rfl rfl ⟨_, rfl, rfl, hb18.trans (hS11.mono hb18.size)⟩
  · apply wh_take 0; exact rfl; kernel_rfl; kernel_rfl; kernel_rfl; exact hS; intro _ _; apply opv_move; exact rfl; exact rfl; apply wh_take 1; exact rfl; kernel_rfl; kernel_rfl; kernel_rfl; exact hS; intro _ _; apply opv_move; exact rfl; exact rfl; apply wh_take 2; exact rfl; kernel_rfl; kernel_rfl; kernel_rfl; exact hS; intro _ _; apply opv_bin; exact rfl; exact rfl; exact bin_eql; exact rfl; apply wh_take 3; exact rfl; kernel_rfl; kernel_rfl; kernel_rfl; exact hS; intro _ _; apply opv_move; exact rfl; exact rfl; apply wh_takeG 4; exact rfl; kernel_rfl; kernel_rfl; kernel_rfl; exact hS; exact rfl; exact rfl; exact rfl; exact decide_eq_true (by omega); intro _ _; apply opv_move; exact rfl; exact rfl; apply wh_takeG 5; exact rfl; kernel_rfl; kernel_rfl; kernel_rfl; exact hS; exact rfl; exact rfl; exact rfl; exact decide_eq_true (by omega); intro _ _; apply opv_move; exact rfl; exact rfl; apply wh_takeG 6; exact rfl; kernel_rfl; kernel_rfl; kernel_rfl; exact hS; exact rfl; exact rfl; exact rfl; exact decide_eq_true (by omega); intro _ _; apply opv_bin; exact rfl; exact rfl; exact bin_eql; exact rfl; apply wh_take 7; exact rfl; kernel_rfl; kernel_rfl; kernel_rfl; exact hS; intro _ _; apply opv_pickT; exact rfl; exact decide_eq_true (by omega); exact rfl; exact rfl; apply wh_take 8; exact rfl; kernel_rfl; kernel_rfl; kernel_rfl; exact hS; intro _ _; apply opv_move; exact rfl; exact rfl; apply wh_takeG 9; exact rfl; kernel_rfl; kernel_rfl; kernel_rfl; exact hS; exact rfl; exact rfl; exact rfl; exact decide_eq_true (by omega); intro _ _; apply opv_move; exact rfl; exact rfl; apply wh_takeG 10; exact rfl; kernel_rfl; kernel_rfl; kernel_rfl; exact hS; exact rfl; exact rfl; exact rfl; exact decide_eq_true (by omega); intro _ _; apply opv_move; exact rfl; exact rfl; apply wh_takeG 11; exact rfl; kernel_rfl; kernel_rfl; kernel_rfl; exact hS; exact rfl; exact rfl; exact rfl; exact decide_eq_true (by omega); intro _ _; apply opv_bin; exact rfl; exact rfl; exact bin_eql; exact rfl; apply wh_take 12; exact rfl; kernel_rfl; kernel_rfl; kernel_rfl; exact hS; intro _ _; apply opv_pickT; exact rfl; exact decide_eq_true (by omega); exact rfl; exact rfl; apply wh_take 13; exact rfl; kernel_rfl; kernel_rfl; kernel_rfl; exact hS; intro _ _; apply opv_move; exact rfl; exact rfl; apply wh_takeG 14; exact rfl; kernel_rfl; kernel_rfl; kernel_rfl; exact hS; exact rfl; exact rfl; exact rfl; exact decide_eq_true (by omega); intro _ _; apply opv_move; exact rfl; exact rfl; apply wh_takeG 15; exact rfl; kernel_rfl; kernel_rfl; kernel_rfl; exact hS; exact rfl; exact rfl; exact rfl; exact decide_eq_true (by omega); intro _ _; apply opv_bin; exact rfl; exact rfl; exact bin_neq; exact rfl; apply wh_takeG 16; exact rfl; kernel_rfl; kernel_rfl; kernel_rfl; exact hS; exact rfl; exact rfl; exact rfl; exact decide_eq_true (by omega); intro _ _; apply opv_move; exact rfl; exact rfl; apply wh_skipG 17; exact rfl; kernel_rfl; kernel_rfl; kernel_rfl; exact hS; exact rfl; exact rfl; exact rfl; exact decide_eq_true (by omega); exact rfl; apply wh_skipG 18; exact rfl; kernel_rfl; kernel_rfl; kernel_rfl; exact hS; exact rfl; exact rfl; exact rfl; exact decide_eq_true (by omega); exact rfl; apply wh_skipG 19; exact rfl; kernel_rfl; kernel_rfl; kernel_rfl; exact hS; exact rfl; exact rfl; exact rfl; exact decide_eq_true (by omega); exact rfl; apply wh_skipG 20; exact rfl; kernel_rfl; kernel_rfl; kernel_rfl; exact hS; exact rfl; exact rfl; exact rfl; exact decide_eq_true (by omega); exact rfl; apply wh_skipG 21; exact rfl; kernel_rfl; kernel_rfl; kernel_rfl; exact hS; exact rfl; exact rfl; exact rfl; exact decide_eq_true (by omega); exact rfl; apply wh_skipG 22; exact rfl; kernel_rfl; kernel_rfl; kernel_rfl; exact hS; exact rfl; exact rfl; exact rfl; exact decide_eq_true (by omega); exact rfl; apply wh_skipG 23; exact rfl; kernel_rfl; kernel_rfl; kernel_rfl; exact hS; exact rfl; exact rfl; exact rfl; exact decide_eq_true (by omega); exact rfl; apply wh_takeG 24; exact rfl; kernel_rfl; kernel_rfl; kernel_rfl; exact hS; exact rfl; exact rfl; exact rfl; exact decide_eq_true (by omega); intro _ _; apply opv_pickT; exact rfl; exact decide_eq_true (by omega); exact rfl; exact rfl; apply wh_take 25; exact rfl; kernel_rfl; kernel_rfl; kernel_rfl; exact hS; intro _ _; apply opv_pickT; exact rfl; exact decide_eq_true (by omega); exact rfl; exact rfl; apply wh_take 26; exact rfl; kernel_rfl; kernel_rfl; kernel_rfl; exact hS; intro _ _; apply opv_assign; exact rfl; exact rfl
    refine wh_done (by kernel_rfl) ?_
    refine we_seq ?_; refine wc_ret ?_
    exact we_ret1 rfl rfl ⟨_, rfl, rfl, hb19⟩
end Go.Proofs.Ytdppekhnahnjjaa
