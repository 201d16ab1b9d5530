/-
  The walk over the law CodecFrames.
-/
import Derived.Test.YtdppekhnahnjjaaWd
import Derived.Test.YtdppekhnahnjjaaWj
namespace Go.Proofs.Ytdppekhnahnjjaa
open Go.RowKit

theorem parts_at {A : Option Addr} {n c : Nat} {xs : List UInt8} {w : World} {l : List (List UInt8)} {e : Nat} (h : parts xs = (l, e)) (hr : RdB w A xs) (hn : xs.length = n) (hc : xs.length ≤ c) (hl : xs.length ≤ 1099511627776) : CallsV Try.prog 45 #[.slice A n c] w (RetP w (l, e)) := by
  have := parts_any hr hn hc hl
  rwa [h] at this
theorem refParts_at {A : Option Addr} {n c : Nat} {xs : List UInt8} {w : World} {l : List (List UInt8)} {e : Nat} (h : parts xs = (l, e)) (hr : RdB w A xs) (hn : xs.length = n) (hc : xs.length ≤ c) (hl : xs.length ≤ 1099511627776) : CallsV Try.prog 48 #[.slice A n c] w (RetP w (l, e)) := by
  have := refParts_any hr hn hc hl
  rwa [h] at this

theorem frames_walk {A B : Option Addr} {n m c d : Nat} {xs : List (List UInt8)} {ys : List UInt8} {w : World} (R1 : RdBB w A xs) (hn : xs.length = n) (_hc : xs.length ≤ c) (hl : xs.flatten.length + xs.length ≤ 1048576) (r2 : RdB w B ys) (hm : ys.length = m) (hd : ys.length ≤ d) (hl2 : ys.length ≤ 1048576) :
    CallsV Try.prog 9 #[.slice A n c, .slice B m d] w (RetTrue w) := by
  subst hn hm
  have hfit : ∀ r ∈ xs, r.length < 2 ^ 64 := fun r h => by have := mem_flat h; omega
  have hfl := framed_length xs hfit
  have hb := Below.refl w.heap.size w
  refine calls_in (N := _) Try.func9 rfl Try.ntmps9 rfl ?_; show WC _ _ _ _ _ _
  refine wc_sr ?_; refine wl_as rfl rfl ?_; refine wl_ns ?_; refine wc_seq ?_; refine wc_sr ?_
  refine wl_call ok_caissonlaw01_awake (awake_any _) trivial rfl ?_; rintro _ _ ⟨rfl, hbx⟩; replace R1 := RdBB.below R1 hbx; replace r2 := RdB.below r2 hbx; replace hb := hb.trans (hbx.mono hb.size); clear hbx
  apply wl_val; apply opv_not; exact rfl; exact rfl; refine wl_ns ?_
  refine wc_condF rfl ?_
  refine wc_skip ?_; refine we_seq ?_; refine wc_sr ?_; refine wl_mv rfl rfl ?_
  refine wl_call ok_caissonref01_Copies (copies_any R1 rfl (by omega) (by omega)) ⟨rfl, trivial⟩ rfl ?_; rintro _ _ ⟨A3, c3, rfl, O3, hbx⟩; replace R1 := RdBB.below R1 hbx; replace r2 := RdB.below r2 hbx; replace hb := hb.trans (hbx.mono hb.size); clear hbx
  refine wl_call ok_codec_Frame (frame_any O3.rd rfl (by omega)) ⟨rfl, trivial⟩ rfl ?_; rintro _ _ ⟨A4, c4, rfl, o4, hbx⟩; replace R1 := RdBB.below R1 hbx; replace r2 := RdB.below r2 hbx; replace hb := hb.trans (hbx.mono hb.size); clear hbx
  refine wl_as rfl rfl ?_; refine wl_ns ?_; refine wc_sr ?_; refine wl_mv rfl rfl ?_
  refine wl_call ok_codec_Parts (parts_at (parts_framed hfit) o4.rd rfl o4.cap (by omega)) ⟨rfl, trivial⟩ rfl ?_; rintro _ _ ⟨A5, c5, rfl, O5, hbx⟩; replace R1 := RdBB.below R1 hbx; replace r2 := RdB.below r2 hbx; replace o4 := OwB.below o4 hbx; replace hb := hb.trans (hbx.mono hb.size); clear hbx
  refine wl_mv rfl rfl ?_; apply wl_val; apply opv_extract; exact rfl; exact rfl; exact rfl; apply wl_val; apply opv_extract; exact rfl; exact rfl; exact rfl; refine wl_as rfl rfl ?_; refine wl_as rfl rfl ?_; refine wl_ns ?_; refine wc_seq ?_; refine wc_sr ?_; refine wl_mv rfl rfl ?_; refine wl_mv rfl rfl ?_
  refine wl_call ok_caissonref01_Frame (refFrame_any R1 rfl (by omega)) ⟨rfl, trivial⟩ rfl ?_; rintro _ _ ⟨A6, c6, rfl, o6, hbx⟩; replace R1 := RdBB.below R1 hbx; replace r2 := RdB.below r2 hbx; replace o4 := OwB.below o4 hbx; replace O5 := OwBB.below O5 hbx; replace hb := hb.trans (hbx.mono hb.size); clear hbx
  refine wl_call ok_caissonref01_Equal (equal_yes rfl o4.rd o6.rd rfl rfl (by simp only [maxLen]; omega)) ⟨rfl, rfl, trivial⟩ rfl ?_; rintro _ _ ⟨rfl, hbx⟩; replace R1 := RdBB.below R1 hbx; replace r2 := RdB.below r2 hbx; replace O5 := OwBB.below O5 hbx; replace hb := hb.trans (hbx.mono hb.size); clear hbx
  apply wl_val; apply opv_not; exact rfl; exact rfl; refine wl_mv rfl rfl ?_; apply wl_take; exact rfl; exact rfl; exact rfl; exact rfl; refine wl_mv rfl rfl ?_; apply wl_take; exact rfl; exact rfl; exact rfl; exact rfl; refine wl_bin rfl rfl bin_neq rfl ?_; apply wl_val; apply opv_pickF; exact rfl; exact rfl; exact rfl; exact rfl; refine wl_mv rfl rfl ?_; apply wl_take; exact rfl; exact rfl; exact rfl; exact rfl; refine wl_mv rfl rfl ?_; apply wl_take; exact rfl; exact rfl; exact rfl; exact rfl; refine wl_mv rfl rfl ?_; apply wl_take; exact rfl; exact rfl; exact rfl; exact rfl
  refine wl_call ok_caissonref01_Equals (equals_yes rfl O5.rd R1 rfl rfl (by simp only [maxLen]; omega) (by simp only [maxLen]; omega)) ⟨rfl, rfl, trivial⟩ rfl ?_; rintro _ _ ⟨rfl, hbx⟩; replace r2 := RdB.below r2 hbx; replace hb := hb.trans (hbx.mono hb.size); clear hbx
  apply wl_take; exact rfl; exact rfl; exact rfl; exact rfl; apply wl_val; apply opv_not; exact rfl; exact rfl; apply wl_val; apply opv_pickF; exact rfl; exact rfl; exact rfl; exact rfl; refine wl_ns ?_
  refine wc_condF rfl ?_
  have hps := partsF_size ys.length ys 0 [] (by omega) (by simp)
  obtain ⟨l, e, hv⟩ : ∃ l e, parts ys = (l, e) := ⟨_, _, rfl⟩
  have hv' : partsF ys.length ys 0 [] = (l, e) := hv
  rw [hv'] at hps
  dsimp only at hps
  refine wc_skip ?_; refine we_seq ?_; refine wc_sr ?_; refine wl_mv rfl rfl ?_
  refine wl_call ok_caissonref01_Copy (copy_any r2 rfl (by omega)) ⟨rfl, trivial⟩ rfl ?_; rintro _ _ ⟨A7, c7, rfl, o7, hbx⟩; replace r2 := RdB.below r2 hbx; replace hb := hb.trans (hbx.mono hb.size); clear hbx
  refine wl_call ok_codec_Parts (parts_at hv o7.rd rfl o7.cap (by omega)) ⟨rfl, trivial⟩ rfl ?_; rintro _ _ ⟨A8, c8, rfl, O8, hbx⟩; replace r2 := RdB.below r2 hbx; replace hb := hb.trans (hbx.mono hb.size); clear hbx
  refine wl_mv rfl rfl ?_; apply wl_val; apply opv_extract; exact rfl; exact rfl; exact rfl; apply wl_val; apply opv_extract; exact rfl; exact rfl; exact rfl; refine wl_as rfl rfl ?_; refine wl_as rfl rfl ?_; refine wl_ns ?_; refine wc_sr ?_; refine wl_mv rfl rfl ?_
  refine wl_call ok_caissonref01_Parts (refParts_at hv r2 rfl hd (by omega)) ⟨rfl, trivial⟩ rfl ?_; rintro _ _ ⟨A9, c9, rfl, O9, hbx⟩; replace O8 := OwBB.below O8 hbx; replace hb := hb.trans (hbx.mono hb.size); clear hbx
  refine wl_mv rfl rfl ?_; apply wl_val; apply opv_extract; exact rfl; exact rfl; exact rfl; apply wl_val; apply opv_extract; exact rfl; exact rfl; exact rfl; refine wl_as rfl rfl ?_; refine wl_as rfl rfl ?_; refine wl_ns ?_; refine wc_sr ?_; refine wl_mv rfl rfl ?_; refine wl_mv rfl rfl ?_
  refine wl_call ok_caissonref01_Equals (equals_yes rfl O8.rd O9.rd rfl rfl (by simp only [maxLen]; omega) (by simp only [maxLen]; omega)) ⟨rfl, rfl, trivial⟩ rfl ?_; rintro _ _ ⟨rfl, hbx⟩; replace hb := hb.trans (hbx.mono hb.size); clear hbx
  refine wl_mv rfl rfl ?_; apply wl_take; exact rfl; exact rfl; exact rfl; exact rfl; refine wl_mv rfl rfl ?_; apply wl_take; exact rfl; exact rfl; exact rfl; exact rfl; refine wl_mv rfl rfl ?_; apply wl_take; exact rfl; exact rfl; exact rfl; exact rfl; refine wl_bin rfl rfl bin_eql rfl ?_; apply wl_val; apply opv_pickT; exact rfl; exact rfl; exact rfl; exact rfl; refine wl_as rfl rfl ?_; refine wl_ns ?_; refine wc_ret ?_
  exact we_ret1 rfl rfl ⟨_, rfl, by simp, hb⟩
end Go.Proofs.Ytdppekhnahnjjaa
