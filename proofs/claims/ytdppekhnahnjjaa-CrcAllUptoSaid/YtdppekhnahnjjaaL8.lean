/-
  The walk over the law CrcAll.
-/
import Derived.Test.YtdppekhnahnjjaaVe
namespace Go.Proofs.Ytdppekhnahnjjaa
open Go.RowKit

theorem openAll_at {A : Option Addr} {n c : Nat} {xs : List UInt8} {w : World} {x : List (List UInt8) × Nat} (h : openAll xs = x) (hr : RdB w A xs) (hn : xs.length = n) (hc : xs.length ≤ c) (hl : xs.length ≤ 1099511627776) :
    CallsV Try.prog 49 #[.slice A n c] w (RetOA w x) := h ▸ openAll_any hr hn hc hl
theorem refOpenAll_at {A : Option Addr} {n c : Nat} {xs : List UInt8} {w : World} {x : List (List UInt8) × Nat} (h : openAll xs = x) (hr : RdB w A xs) (hn : xs.length = n) (hc : xs.length ≤ c) (hl : xs.length ≤ 1099511627776) :
    CallsV Try.prog 50 #[.slice A n c] w (RetOA w x) := h ▸ refOpenAll_any hr hn hc hl
theorem all_walk {A : Option Addr} {n c : Nat} {xs : List UInt8} {w : World} (r1 : RdB w A xs) (hn : xs.length = n) (hc : xs.length ≤ c) (hl : xs.length ≤ 1048576) :
    CallsV Try.prog 10 #[.slice A n c] w (RetTrue w) := by
  subst hn
  have hb := Below.refl w.heap.size w
  obtain ⟨l, q, hv⟩ : ∃ l q, openAll xs = (l, q) := ⟨_, _, rfl⟩
  have hsz := openAllF_size xs.length xs 0 [] (by omega) (by simp)
  rw [show openAllF xs.length xs 0 [] = (l, q) from hv] at hsz
  dsimp only at hsz
  refine calls_in (N := _) Try.func10 rfl Try.ntmps10 rfl ?_; show WC _ _ _ _ _ _
  refine wc_sr ?_; refine wl_as rfl rfl ?_; refine wl_ns ?_; refine wc_seq ?_; refine wc_sr ?_
  refine wl_call ok_caissonlaw03_awake (awake3_any _) trivial rfl ?_; rintro _ _ ⟨rfl, hbx⟩; replace r1 := RdB.below r1 hbx; replace hb := hb.trans (hbx.mono hb.size); clear hbx
  apply wl_val; apply opv_not; exact rfl; exact rfl; refine wl_ns ?_
  refine wc_condF rfl ?_
  refine wc_skip ?_; refine we_seq ?_; refine wc_sr ?_; refine wl_mv rfl rfl ?_
  refine wl_call ok_caissonref01_Copy (copy_any r1 rfl (by omega)) ⟨rfl, trivial⟩ rfl ?_; rintro _ _ ⟨A3, c3, rfl, o3, hbx⟩; replace r1 := RdB.below r1 hbx; replace hb := hb.trans (hbx.mono hb.size); clear hbx
  refine wl_call ok_crc_OpenAll (openAll_at hv o3.rd rfl o3.cap (by omega)) ⟨rfl, trivial⟩ rfl ?_; rintro _ _ ⟨A4, c4, rfl, O4, hbx⟩; replace r1 := RdB.below r1 hbx; replace hb := hb.trans (hbx.mono hb.size); clear hbx
  refine wl_mv rfl rfl ?_; apply wl_val; apply opv_extract; exact rfl; exact rfl; exact rfl; apply wl_val; apply opv_extract; exact rfl; exact rfl; exact rfl; refine wl_as rfl rfl ?_; refine wl_as rfl rfl ?_; refine wl_ns ?_; refine wc_sr ?_; refine wl_mv rfl rfl ?_
  refine wl_call ok_caissonref03_OpenAll (refOpenAll_at hv r1 rfl hc (by omega)) ⟨rfl, trivial⟩ rfl ?_; rintro _ _ ⟨A5, c5, rfl, O5, hbx⟩; replace O4 := OwBB.below O4 hbx; replace hb := hb.trans (hbx.mono hb.size); clear hbx
  refine wl_mv rfl rfl ?_; apply wl_val; apply opv_extract; exact rfl; exact rfl; exact rfl; apply wl_val; apply opv_extract; exact rfl; exact rfl; exact rfl; refine wl_as rfl rfl ?_; refine wl_as rfl rfl ?_; refine wl_ns ?_; refine wc_sr ?_; refine wl_mv rfl rfl ?_; refine wl_mv rfl rfl ?_
  refine wl_call ok_caissonref01_Equals (equals_yes rfl O4.rd O5.rd rfl rfl (by simp only [maxLen]; omega) (by simp only [maxLen]; omega)) ⟨rfl, rfl, trivial⟩ rfl ?_; rintro _ _ ⟨rfl, hbx⟩; replace hb := hb.trans (hbx.mono hb.size); clear hbx
  refine wl_mv rfl rfl ?_; apply wl_take; exact rfl; exact rfl; exact rfl; exact rfl; refine wl_mv rfl rfl ?_; apply wl_take; exact rfl; exact rfl; exact rfl; exact rfl; refine wl_mv rfl rfl ?_; apply wl_take; exact rfl; exact rfl; exact rfl; exact rfl; refine wl_bin rfl rfl bin_eql rfl ?_; apply wl_val; apply opv_pickT; exact rfl; exact rfl; exact rfl; exact rfl; refine wl_as rfl rfl ?_; refine wl_ns ?_; refine wc_ret ?_
  exact we_ret1 rfl rfl ⟨_, rfl, by simp, hb⟩
end Go.Proofs.Ytdppekhnahnjjaa
