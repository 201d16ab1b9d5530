/-
  The walk over the law CrcSeals.
-/
import Derived.Test.YtdppekhnahnjjaaVe
import Derived.Test.YtdppekhnahnjjaaVg
namespace Go.Proofs.Ytdppekhnahnjjaa
open Go.RowKit

theorem open_at' {A : Option Addr} {n c : Nat} {xs : List UInt8} {p : Int} {w : World} {x : List UInt8 × Nat × Nat} (h : openB xs p = x) (hr : RdB w A xs) (hn : xs.length = n) (hc : xs.length ≤ c) (hl : xs.length ≤ 140737488355328) :
    CallsV Try.prog 53 #[.slice A n c, .int .i64 p] w (RetO w x) := h ▸ open_any hr hn hc hl
theorem seals_walk {A B : Option Addr} {n m c d : Nat} {rows : List (List UInt8)} {xs : List UInt8} {p : Int} {w : World} (R1 : RdBB w A rows) (hn : rows.length = n) (_hc : rows.length ≤ c) (hl : rows.flatten.length + rows.length ≤ 1048576) (r2 : RdB w B xs) (hm : xs.length = m) (hd : xs.length ≤ d) (hl2 : xs.length ≤ 1048576) (hp : -9223372036854775808 ≤ p ∧ p ≤ 9223372036854775807) :
    CallsV Try.prog 11 #[.slice A n c, .slice B m d, .int .i64 p] w (RetTrue w) := by
  subst hn hm
  have hb := Below.refl w.heap.size w
  obtain ⟨ys, hys⟩ : ∃ ys, rows.flatten = ys := ⟨_, rfl⟩
  have hyl : ys.length ≤ 1048576 := by rw [← hys]; omega
  obtain ⟨z, q, e, hv⟩ : ∃ z q e, openB xs p = (z, q, e) := ⟨_, _, _, rfl⟩
  have hzl : z.length ≤ 1048576 := by
    by_cases he : e = 0
    · subst he
      by_cases hpq : 0 ≤ p ∧ p ≤ xs.length
      · obtain ⟨k, rfl⟩ := Int.eq_ofNat_of_zero_le hpq.1
        exact (openB_inv (by omega) hv).2.2
      · rw [openB_arg hpq] at hv; simp at hv
    · rw [(openB_err' hv he).1]; simp
  refine calls_in (N := _) Try.func11 rfl Try.ntmps11 rfl ?_; show WC _ _ _ _ _ _
  refine wc_sr ?_; refine wl_as rfl rfl ?_; refine wl_ns ?_; refine wc_seq ?_; refine wc_sr ?_
  refine wl_call ok_caissonlaw03_awake (awake3_any _) trivial rfl ?_; rintro _ _ ⟨rfl, hbx⟩; replace R1 := RdBB.below R1 hbx; replace r2 := RdB.below r2 hbx; replace hb := hb.trans (hbx.mono hb.size); clear hbx
  apply wl_val; apply opv_not; exact rfl; exact rfl; refine wl_ns ?_
  refine wc_condF rfl ?_
  refine wc_skip ?_; refine we_seq ?_; refine wc_sr ?_; refine wl_mv rfl rfl ?_
  refine wl_call ok_caissonref01_Copies (copies_any R1 rfl (by omega) (by omega)) ⟨rfl, trivial⟩ rfl ?_; rintro _ _ ⟨A3, c3, rfl, O3, hbx⟩; replace R1 := RdBB.below R1 hbx; replace r2 := RdB.below r2 hbx; replace hb := hb.trans (hbx.mono hb.size); clear hbx
  have hc3 := O3.cap
  refine wl_call ok_crc_Seal (seal_any O3.rd rfl hc3 (by omega) (by simp only [maxLen]; omega)) ⟨rfl, trivial⟩ rfl ?_; rintro _ _ ⟨A4, c4, rfl, n4, hbx⟩; replace R1 := RdBB.below R1 hbx; replace r2 := RdB.below r2 hbx; replace hb := hb.trans (hbx.mono hb.size); clear hbx
  rw [hys, sealB_ok hyl] at n4 ⊢
  dsimp only at n4 ⊢
  have r4 := n4.rd
  have hc4 := n4.cap
  clear O3 n4
  have hrl := crcRec_length ys
  refine wl_mv rfl rfl ?_; apply wl_val; apply opv_extract; exact rfl; exact rfl; exact rfl; apply wl_val; apply opv_extract; exact rfl; exact rfl; exact rfl; refine wl_as rfl rfl ?_; refine wl_as rfl rfl ?_; refine wl_ns ?_; refine wc_sr ?_; refine wl_mv rfl rfl ?_
  refine wl_call ok_caissonlaw03_join (join_any R1 rfl (by omega) (by simp only [maxLen]; omega)) ⟨rfl, trivial⟩ rfl ?_; rintro _ _ ⟨A5, c5, rfl, o5, hbx⟩; replace R1 := RdBB.below R1 hbx; replace r2 := RdB.below r2 hbx; replace r4 := RdB.below r4 hbx; replace hb := hb.trans (hbx.mono hb.size); clear hbx
  rw [hys] at o5 ⊢
  refine wl_call ok_caissonref03_Seal (refSeal_ok hyl o5.rd rfl) ⟨rfl, trivial⟩ rfl ?_; rintro _ _ ⟨A6, c6, rfl, o6, hbx⟩; replace R1 := RdBB.below R1 hbx; replace r2 := RdB.below r2 hbx; replace r4 := RdB.below r4 hbx; replace hb := hb.trans (hbx.mono hb.size); clear hbx
  dsimp only at o6 ⊢
  refine wl_mv rfl rfl ?_; apply wl_val; apply opv_extract; exact rfl; exact rfl; exact rfl; apply wl_val; apply opv_extract; exact rfl; exact rfl; exact rfl; refine wl_as rfl rfl ?_; refine wl_as rfl rfl ?_; refine wl_ns ?_; refine wc_seq ?_; refine wc_sr ?_; refine wl_mv rfl rfl ?_; refine wl_mv rfl rfl ?_
  refine wl_call ok_caissonref01_Equal (equal_yes rfl r4 o6.rd rfl rfl (by simp only [maxLen]; omega)) ⟨rfl, rfl, trivial⟩ rfl ?_; rintro _ _ ⟨rfl, hbx⟩; replace R1 := RdBB.below R1 hbx; replace r2 := RdB.below r2 hbx; replace r4 := RdB.below r4 hbx; replace hb := hb.trans (hbx.mono hb.size); clear hbx
  apply wl_val; apply opv_not; exact rfl; exact rfl; refine wl_mv rfl rfl ?_; apply wl_take; exact rfl; exact rfl; exact rfl; exact rfl; refine wl_mv rfl rfl ?_; apply wl_take; exact rfl; exact rfl; exact rfl; exact rfl; refine wl_mv rfl rfl ?_; apply wl_take; exact rfl; exact rfl; exact rfl; exact rfl; refine wl_bin rfl rfl bin_neq rfl ?_; apply wl_val; apply opv_pickF; exact rfl; exact rfl; exact rfl; exact rfl; refine wl_ns ?_
  refine wc_condF rfl ?_
  refine wc_skip ?_; refine we_seq ?_; refine wc_seq ?_; refine wc_sr ?_; refine wl_mv rfl rfl ?_; refine wl_bin rfl rfl bin_eql rfl ?_; refine wl_ns ?_
  refine wc_cond rfl (fun _ => ?_) (fun h => absurd rfl h)
  refine wc_sr ?_; refine wl_mv rfl rfl ?_
  refine wl_call ok_crc_Open (open_at' (openB_rec hyl) r4 rfl hc4 (by omega)) ⟨rfl, rfl, trivial⟩ rfl ?_; rintro _ _ ⟨A7, c7, rfl, o7, hbx⟩; replace R1 := RdBB.below R1 hbx; replace r2 := RdB.below r2 hbx; replace hb := hb.trans (hbx.mono hb.size); clear hbx
  dsimp only at o7 ⊢
  refine wl_mv rfl rfl ?_; apply wl_val; apply opv_extract; exact rfl; exact rfl; exact rfl; apply wl_val; apply opv_extract; exact rfl; exact rfl; exact rfl; apply wl_val; apply opv_extract; exact rfl; exact rfl; exact rfl; refine wl_as rfl rfl ?_; refine wl_as rfl rfl ?_; refine wl_as rfl rfl ?_; refine wl_ns ?_; refine wc_sr ?_; refine wl_mv rfl rfl ?_; refine wl_bin rfl rfl bin_neq rfl ?_; refine wl_mv rfl rfl ?_; apply wl_take; exact rfl; exact rfl; exact rfl; exact rfl; refine wl_mv rfl rfl ?_; apply wl_take; exact rfl; exact rfl; exact rfl; exact rfl; refine wl_mv rfl rfl ?_; apply wl_take; exact rfl; exact rfl; exact rfl; exact rfl; apply wl_val; apply opv_len; exact rfl; exact tyB.sl; exact rfl; apply wl_take; exact rfl; exact rfl; exact rfl; exact rfl; refine wl_bin rfl rfl bin_neq rfl ?_; apply wl_val; apply opv_pickF; exact rfl; exact rfl; exact rfl; exact rfl; refine wl_mv rfl rfl ?_; apply wl_take; exact rfl; exact rfl; exact rfl; exact decide_eq_false (by omega); refine wl_mv rfl rfl ?_; apply wl_take; exact rfl; exact rfl; exact rfl; exact decide_eq_false (by omega); refine wl_mv rfl rfl ?_; apply wl_take; exact rfl; exact rfl; exact rfl; exact decide_eq_false (by omega)
  refine wl_call ok_caissonlaw03_join (join_any R1 rfl (by omega) (by simp only [maxLen]; omega)) ⟨rfl, trivial⟩ rfl ?_; rintro _ _ ⟨A8, c8, rfl, o8, hbx⟩; replace r2 := RdB.below r2 hbx; replace o7 := OwB.below o7 hbx; replace hb := hb.trans (hbx.mono hb.size); clear hbx
  rw [hys] at o8 ⊢
  apply wl_take; exact rfl; exact rfl; exact rfl; exact decide_eq_false (by omega)
  refine wl_call ok_caissonref01_Equal (equal_yes rfl o7.rd o8.rd rfl rfl (by simp only [maxLen]; omega)) ⟨rfl, rfl, trivial⟩ rfl ?_; rintro _ _ ⟨rfl, hbx⟩; replace r2 := RdB.below r2 hbx; replace hb := hb.trans (hbx.mono hb.size); clear hbx
  apply wl_take; exact rfl; exact rfl; exact rfl; exact decide_eq_false (by omega); apply wl_val; apply opv_not; exact rfl; exact rfl; apply wl_val; apply opv_pickF; exact rfl; exact decide_eq_false (by omega); exact rfl; exact rfl; refine wl_ns ?_
  refine wc_condF rfl ?_
  refine wc_skip ?_; refine we_seq ?_; refine wc_sr ?_; refine wl_mv rfl rfl ?_
  refine wl_call ok_caissonref01_Copy (copy_any r2 rfl (by omega)) ⟨rfl, trivial⟩ rfl ?_; rintro _ _ ⟨A9, c9, rfl, o9, hbx⟩; replace r2 := RdB.below r2 hbx; replace hb := hb.trans (hbx.mono hb.size); clear hbx
  refine wl_mv rfl rfl ?_
  refine wl_call ok_crc_Open (open_at' hv o9.rd rfl o9.cap (by omega)) ⟨rfl, rfl, trivial⟩ rfl ?_; rintro _ _ ⟨A10, c10, rfl, o10, hbx⟩; replace r2 := RdB.below r2 hbx; replace hb := hb.trans (hbx.mono hb.size); clear hbx
  dsimp only at o10 ⊢
  refine wl_mv rfl rfl ?_; apply wl_val; apply opv_extract; exact rfl; exact rfl; exact rfl; apply wl_val; apply opv_extract; exact rfl; exact rfl; exact rfl; apply wl_val; apply opv_extract; exact rfl; exact rfl; exact rfl; refine wl_as rfl rfl ?_; refine wl_as rfl rfl ?_; refine wl_as rfl rfl ?_; refine wl_ns ?_; refine wc_sr ?_; refine wl_mv rfl rfl ?_; refine wl_mv rfl rfl ?_
  refine wl_call ok_caissonref03_Open (refOpen_at hv r2 rfl hd (by omega) hp) ⟨rfl, rfl, trivial⟩ rfl ?_; rintro _ _ ⟨A11, c11, rfl, o11, hbx⟩; replace o10 := OwB.below o10 hbx; replace hb := hb.trans (hbx.mono hb.size); clear hbx
  dsimp only at o11 ⊢
  refine wl_mv rfl rfl ?_; apply wl_val; apply opv_extract; exact rfl; exact rfl; exact rfl; apply wl_val; apply opv_extract; exact rfl; exact rfl; exact rfl; apply wl_val; apply opv_extract; exact rfl; exact rfl; exact rfl; refine wl_as rfl rfl ?_; refine wl_as rfl rfl ?_; refine wl_as rfl rfl ?_; refine wl_ns ?_; refine wc_sr ?_; refine wl_mv rfl rfl ?_; refine wl_mv rfl rfl ?_
  refine wl_call ok_caissonref01_Equal (equal_yes rfl o10.rd o11.rd rfl rfl (by simp only [maxLen]; omega)) ⟨rfl, rfl, trivial⟩ rfl ?_; rintro _ _ ⟨rfl, hbx⟩; replace hb := hb.trans (hbx.mono hb.size); clear hbx
  refine wl_mv rfl rfl ?_; apply wl_take; exact rfl; exact rfl; exact rfl; exact rfl; refine wl_mv rfl rfl ?_; apply wl_take; exact rfl; exact rfl; exact rfl; exact rfl; refine wl_mv rfl rfl ?_; apply wl_take; exact rfl; exact rfl; exact rfl; exact rfl; refine wl_bin rfl rfl bin_eql rfl ?_; apply wl_val; apply opv_pickT; exact rfl; exact rfl; exact rfl; exact rfl; refine wl_mv rfl rfl ?_; apply wl_take; exact rfl; exact rfl; exact rfl; exact decide_eq_true (by omega); refine wl_mv rfl rfl ?_; apply wl_take; exact rfl; exact rfl; exact rfl; exact decide_eq_true (by omega); refine wl_mv rfl rfl ?_; apply wl_take; exact rfl; exact rfl; exact rfl; exact decide_eq_true (by omega); refine wl_bin rfl rfl bin_eql rfl ?_; apply wl_val; apply opv_pickT; exact rfl; exact decide_eq_true (by omega); exact rfl; exact rfl; refine wl_as rfl rfl ?_; refine wl_ns ?_; refine wc_ret ?_
  exact we_ret1 rfl rfl ⟨_, rfl, by simp, hb⟩
end Go.Proofs.Ytdppekhnahnjjaa
