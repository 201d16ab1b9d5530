/-
  The walk over the law CrcSums.
-/
import Derived.Test.YtdppekhnahnjjaaVc
namespace Go.Proofs.Ytdppekhnahnjjaa
open Go.RowKit

theorem sums_walk {A : Option Addr} {n c m : Nat} {rows : List (List UInt8)} {w : World} (R1 : RdBB w A rows) (hn : rows.length = n) (_hc : rows.length ≤ c) (hl : rows.flatten.length + rows.length ≤ 1048576) (hm : m < 256) :
    CallsV Try.prog 4 #[.slice A n c, .int .u8 m] w (RetTrue w) := by
  subst hn
  obtain ⟨b, hbm⟩ : ∃ b : UInt8, b.toNat = m := ⟨UInt8.ofNat m, by rw [UInt8.toNat_ofNat']; exact Nat.mod_eq_of_lt hm⟩
  subst hbm
  have hb := Below.refl w.heap.size w
  have R0 := R1
  refine calls_in (N := _) Try.func4 rfl Try.ntmps4 rfl ?_; show WC _ _ _ _ _ _
  refine wc_sr ?_; refine wl_as rfl rfl ?_; refine wl_ns ?_; refine wc_seq ?_; refine wc_sr ?_
  refine wl_call ok_caissonlaw03_awake (awake3_any _) trivial rfl ?_; rintro _ _ ⟨rfl, hbx⟩; replace R1 := RdBB.below R1 hbx; replace hb := hb.trans (hbx.mono hb.size); clear hbx
  apply wl_val; apply opv_not; exact rfl; exact rfl; refine wl_ns ?_
  refine wc_condF rfl ?_
  refine wc_skip ?_; refine we_seq ?_; refine wc_sr ?_
  refine wl_call ok_crc_Table (table_any _) trivial rfl ?_; rintro _ _ ⟨rfl, hbx⟩; replace R1 := RdBB.below R1 hbx; replace hb := hb.trans (hbx.mono hb.size); clear hbx
  rename_i w1
  refine wl_alloc tyA_zero rfl fun w2 a2 hb2 hs2 => ?_
  replace R1 := RdBB.below R1 hb2
  obtain ⟨g, hg⟩ : ∃ g, w1.heap.size = g := ⟨_, rfl⟩
  have hge : w.heap.size ≤ g := by have := hb.size; omega
  replace hb := hb.trans (hb2.mono hb.size)
  replace a2 : Ar w2 w1.heap.size 29 (List.replicate 256 (Value.int .u32 0)) := a2
  rw [hg] at a2 ⊢
  refine wl_unitN (opu_storeW (by rw [List.length_replicate]; exact tyA_size) (by rw [tabC_length, List.length_replicate]) rfl rfl a2 tabC_one) ?_
  have a3 := a2.setRow (cs' := tabC)
  have hb3 := below_setRow (cs' := tabC.toArray) hb hge
  have R3 := RdBB.below R0 hb3
  clear R1 a2 hb2 hb
  obtain ⟨w3, hw3⟩ : ∃ w3, w2.setRow g tabC.toArray = w3 := ⟨_, rfl⟩
  rw [hw3] at a3 hb3 R3 ⊢
  refine wl_ns ?_; refine wc_seq ?_
  refine wc_heldB mixed fun w4 hS => ?_
  apply wh_take 0; exact rfl; kernel_rfl; kernel_rfl; kernel_rfl; exact hS; intro _ _; apply opv_move; exact rfl; exact rfl; apply wh_take 3; exact rfl; kernel_rfl; kernel_rfl; kernel_rfl; exact hS; intro _ _; apply opv_move; exact rfl; exact rfl
  refine wh_one 1 (o := ⟨_, _, _, _, _, _⟩) (by kernel_rfl) rfl ?_
  refine wl_call ok_caissonref01_Copies (copies_any (RdBB.below R3 hS) rfl (by omega) (by omega)) ⟨rfl, trivial⟩ rfl ?_
  rintro _ w5 ⟨A5, c5, rfl, O5, h5⟩
  have hS5 := hS.trans (h5.mono hS.size)
  refine wl_nil ?_
  refine we_held hS5 ?_
  refine wh_one 2 (o := ⟨_, _, _, _, _, _⟩) (by kernel_rfl) rfl ?_
  refine wl_call ok_crc_Sum (sum_any O5.rd rfl (by simp only [maxLen]; omega) (by simp only [maxLen]; omega)) ⟨rfl, trivial⟩ rfl ?_
  rintro _ w6 ⟨rfl, h6⟩
  have hS6 := hS5.trans (h6.mono hS5.size)
  refine wl_nil ?_
  refine we_held hS6 ?_
  refine wh_one 4 (o := ⟨_, _, _, _, _, _⟩) (by kernel_rfl) rfl ?_
  refine wl_call ok_caissonlaw03_join (join_any (RdBB.below R3 hS6) rfl (by omega) (by simp only [maxLen]; omega)) ⟨rfl, trivial⟩ rfl ?_
  rintro _ w7 ⟨A7, c7, rfl, o7, h7⟩
  have hS7 := hS6.trans (h7.mono hS6.size)
  refine wl_nil ?_
  refine we_held hS7 ?_
  refine wh_one 5 (o := ⟨_, _, _, _, _, _⟩) (by kernel_rfl) rfl ?_
  refine wl_call ok_caissonref03_Sum (refSum_any o7.rd rfl (by simp only [maxLen]; omega)) ⟨rfl, trivial⟩ rfl ?_
  rintro _ _ ⟨rfl, rfl⟩
  refine wl_nil ?_
  refine we_held hS7 ?_
  apply wh_take 6; exact rfl; kernel_rfl; kernel_rfl; kernel_rfl; exact hS7; intro _ _; apply opv_bin; exact rfl; exact rfl; exact bin_eql; exact rfl; apply wh_take 7; exact rfl; kernel_rfl; kernel_rfl; kernel_rfl; exact hS7; intro _ _; apply opv_move; exact rfl; exact rfl; apply wh_takeG 8; exact rfl; kernel_rfl; kernel_rfl; kernel_rfl; exact hS7; exact rfl; exact rfl; exact rfl; exact decide_eq_true (by omega); intro _ _; apply opv_move; exact rfl; exact rfl
  refine wh_takeG 9 rfl (by kernel_rfl) (by kernel_rfl) (by kernel_rfl) hS7 rfl rfl rfl (by exact decide_eq_true rfl) (fun _ _ => opv_idxA (kk := b.toNat) Try.underlying29 tyU rfl rfl rfl hm) rfl ?_
  refine wh_takeG 10 rfl (by kernel_rfl) (by kernel_rfl) (by kernel_rfl) hS7 rfl rfl rfl (by exact decide_eq_true rfl) (fun _ hw => opv_loadC tyU rfl (((a3.bel hw).cell _).trans (tabC_get hm))) rfl ?_
  apply wh_takeG 11; exact rfl; kernel_rfl; kernel_rfl; kernel_rfl; exact hS7; exact rfl; exact rfl; exact rfl; exact decide_eq_true (by omega); intro _ _; apply opv_move; exact rfl; exact rfl
  refine wh_one 12 (o := ⟨_, _, _, _, _, _⟩) (by kernel_rfl) rfl ?_
  apply wl_take; exact rfl; exact rfl; exact rfl; exact decide_eq_true (by omega)
  refine wl_call ok_caissonref03_One (one_any b w7) ⟨rfl, trivial⟩ rfl ?_
  rintro _ _ ⟨rfl, rfl⟩
  refine wl_nil ?_
  refine we_held hS7 ?_
  apply wh_takeG 13; exact rfl; kernel_rfl; kernel_rfl; kernel_rfl; exact hS7; exact rfl; exact rfl; exact rfl; exact decide_eq_true (by omega); intro _ _; apply opv_bin; exact rfl; exact rfl; exact bin_eql; exact rfl; apply wh_take 14; exact rfl; kernel_rfl; kernel_rfl; kernel_rfl; exact hS7; intro _ _; apply opv_pickT; exact rfl; exact decide_eq_true (by omega); exact rfl; exact rfl; apply wh_take 15; exact rfl; kernel_rfl; kernel_rfl; kernel_rfl; exact hS7; intro _ _; apply opv_assign; exact rfl; exact rfl
  refine wh_done (by kernel_rfl) ?_
  refine we_seq ?_; refine wc_ret ?_
  exact we_ret1 rfl rfl ⟨_, rfl, by simp, hb3.trans (hS7.mono hb3.size)⟩
end Go.Proofs.Ytdppekhnahnjjaa
