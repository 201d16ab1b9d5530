/-
  Walks over the fixed fact of layer 1's statements, and over the law CodecNumbers.
-/
import Derived.Test.YtdppekhnahnjjaaWa
import Derived.Test.YtdppekhnahnjjaaWb
import Derived.Test.YtdppekhnahnjjaaWc
import Derived.Test.YtdppekhnahnjjaaHeld
namespace Go.Proofs.Ytdppekhnahnjjaa
open Go.RowKit

/-- A call that answers true and changes nothing that was there. -/
def RetTrue (w : World) (v : Value) (w' : World) : Prop := v = .bool true ∧ Below w.heap.size w w'

theorem putU_300 : putU 300 = [172, 2] := by simp [putU]
theorem awake_any (w : World) : CallsV Try.prog 15 #[] w (RetTrue w) := by
  refine calls_in (N := _) Try.func15 rfl Try.ntmps15 rfl ?_; show WC _ _ _ _ _ _
  refine wc_sr ?_; refine wl_as rfl rfl ?_; refine wl_ns ?_; refine wc_sr ?_
  refine wl_call ok_codec_PutU (putU_any 300 (by decide) w) ⟨rfl, trivial⟩ rfl ?_
  rintro _ w1 ⟨A1, c1, rfl, ho1, hb1⟩
  refine wl_bs (vs := [_, _]) tyB ⟨rfl, rfl, rfl, rfl, rfl, rfl, trivial⟩ rfl (by decide) rfl fun A2 w2 ho2 hb2 _ => ?_
  have hb12 := hb1.trans (hb2.mono hb1.size)
  refine wl_call ok_caissonref01_Equal (equal_yes putU_300 (ho1.below hb2).rd (ys := [172, 2]) ho2.rd rfl rfl (by simp [putU, maxLen])) ⟨rfl, rfl, trivial⟩ rfl ?_
  rintro _ w3 ⟨rfl, hb3⟩
  have hb13 := hb12.trans (hb3.mono hb12.size)
  refine wl_mv rfl rfl ?_; apply wl_take; exact rfl; exact rfl; exact rfl; exact rfl
  refine wl_bs (vs := [_, _]) tyB ⟨rfl, rfl, rfl, rfl, rfl, rfl, trivial⟩ rfl (by decide) rfl fun A4 w4 ho4 hb4 _ => ?_
  have hb14 := hb13.trans (hb4.mono hb13.size)
  apply wl_take; exact rfl; exact rfl; exact rfl; exact rfl
  refine wl_call ok_codec_OrdText (ordText_any (xs := [0, 7]) ho4.rd rfl (by decide)) ⟨rfl, trivial⟩ rfl ?_
  rintro _ w5 ⟨A5, c5, rfl, ho5, hb5⟩
  have hb15 := hb14.trans (hb5.mono hb14.size)
  apply wl_take; exact rfl; exact rfl; exact rfl; exact rfl
  refine wl_bs (vs := [_, _, _, _, _]) tyB ⟨rfl, rfl, rfl, rfl, rfl, rfl, rfl, rfl, rfl, rfl, rfl, rfl, rfl, rfl, rfl, trivial⟩ rfl (by decide) rfl fun A6 w6 ho6 hb6 _ => ?_
  have hb16 := hb15.trans (hb6.mono hb15.size)
  apply wl_take; exact rfl; exact rfl; exact rfl; exact rfl
  refine wl_call ok_caissonref01_Equal (equal_yes (by decide) (ho5.below hb6).rd (ys := [0, 255, 7, 0, 1]) ho6.rd rfl rfl (by simp only [maxLen]; decide)) ⟨rfl, rfl, trivial⟩ rfl ?_
  rintro _ w7 ⟨rfl, hb7⟩
  apply wl_val; apply opv_pickT; exact rfl; exact rfl; exact rfl; exact rfl; refine wl_as rfl rfl ?_; refine wl_ns ?_; refine wc_ret ?_
  exact we_ret1 rfl rfl ⟨_, rfl, rfl, hb16.trans (hb7.mono hb16.size)⟩
end Go.Proofs.Ytdppekhnahnjjaa
