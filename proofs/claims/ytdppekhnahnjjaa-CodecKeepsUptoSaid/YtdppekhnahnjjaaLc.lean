/-
  The walk over the law CodecKeeps.
-/
import Derived.Test.YtdppekhnahnjjaaLb
import Derived.Test.YtdppekhnahnjjaaWm
import Derived.Test.YtdppekhnahnjjaaWj
import Derived.Test.YtdppekhnahnjjaaWe
import Derived.Test.YtdppekhnahnjjaaWg
import Derived.Test.YtdppekhnahnjjaaWi
import Derived.Test.YtdppekhnahnjjaaWd
import Derived.Test.YtdppekhnahnjjaaWc
namespace Go.Proofs.Ytdppekhnahnjjaa
open Go.RowKit

theorem parts_at' {A : Option Addr} {n c : Nat} {xs : List UInt8} {w : World} {x : List (List UInt8) × Nat} (h : parts xs = x) (hr : RdB w A xs) (hn : xs.length = n) (hc : xs.length ≤ c) (hl : xs.length ≤ 1099511627776) :
    CallsV Try.prog 45 #[.slice A n c] w (RetP w x) := h ▸ parts_any hr hn hc hl
theorem nextB_len (l : List UInt8) : (nextB l).length ≤ l.length := by
  rcases next_form l with ⟨_, h⟩ | ⟨t, x, r, e, _, _, h⟩
  · rw [h]; simp
  · rw [h, e]; simp
theorem ordText_len (l : List UInt8) : (ordText l).length ≤ 2 * l.length + 2 := by
  have := esc_length l
  simp [ordText]; omega
theorem framed_len {l : List (List UInt8)} (h : l.flatten.length ≤ 1099511627776) : (framed l).length ≤ l.flatten.length + 10 * l.length :=
  framed_length l fun r hr => by have := mem_flat hr; omega

theorem codecKeeps_walk {A B : Option Addr} {n m c d : Nat} {xs ys : List UInt8} {w : World} (r1 : RdB w A xs) (hn : xs.length = n) (_hc : xs.length ≤ c) (hl : xs.length ≤ 1048576) (r2 : RdB w B ys) (hm : ys.length = m) (_hd : ys.length ≤ d) (hl2 : ys.length ≤ 1048576) :
    CallsV Try.prog 13 #[.slice A n c, .slice B m d] w (RetTrue w) := by
  subst hn hm
  have hb := Below.refl w.heap.size w
  have u1 : Own1 w w.heap.size [] := Own1.nil
  refine calls_in (N := _) Try.func13 rfl Try.ntmps13 rfl ?_; show WC _ _ _ _ _ _
  refine wc_sr ?_; refine wl_as rfl rfl ?_; refine wl_ns ?_; refine wc_seq ?_; refine wc_sr ?_
  refine wl_call ok_caissonlaw01_awake (awake_any _) trivial rfl ?_; rintro _ _ ⟨rfl, hbx⟩; (try replace r1 := RdB.below r1 hbx); (try replace r2 := RdB.below r2 hbx); (try replace u1 := Own1.bel u1 hbx); replace hb := hb.trans (hbx.mono hb.size); clear hbx
  apply wl_val; apply opv_not; exact rfl; exact rfl; refine wl_ns ?_
  refine wc_condF rfl ?_
  refine wc_skip ?_; refine we_seq ?_; refine wc_sr ?_; refine wl_mv rfl rfl ?_
  refine wl_call ok_caissonref01_Spare (spare_any r1 rfl (by omega)) ⟨rfl, trivial⟩ rfl ?_
  rintro _ w1 ⟨g1, rfl, hg1, a1, hbx⟩
  replace u1 : Own1 w1 w.heap.size [_] := u1.add 0 hbx (ar_hd (n := xs.length + 40) (c := xs.length + 40) a1 hg1 (Nat.le_refl _) (by rw [spareL_length]; omega)) (by omega) hb.size
  have hw1 : w.heap.size ≤ g1 := Nat.le_trans hb.size hg1
  (try replace r1 := RdB.below r1 hbx); (try replace r2 := RdB.below r2 hbx); (try replace u1 := Own1.bel u1 hbx); (try replace a1 := Ar.bel a1 hbx)
  replace hb := hb.trans (hbx.mono hb.size)
  clear hbx
  refine wl_mv rfl rfl ?_; apply wl_val; apply opv_extract; exact rfl; exact rfl; exact rfl; apply wl_val; apply opv_extract; exact rfl; exact rfl; exact rfl; refine wl_as rfl rfl ?_; refine wl_as rfl rfl ?_; refine wl_ns ?_; refine wc_sr ?_; refine wl_mv rfl rfl ?_
  refine wl_call ok_caissonref01_Spare (spare_any r2 rfl (by omega)) ⟨rfl, trivial⟩ rfl ?_
  rintro _ w2 ⟨g2, rfl, hg2, a2, hbx⟩
  replace u1 : Own1 w2 w.heap.size [_, _] := u1.add 1 hbx (ar_hd (n := ys.length + 40) (c := ys.length + 40) a2 hg2 (Nat.le_refl _) (by rw [spareL_length]; omega)) (by omega) hb.size
  have hw2 : w.heap.size ≤ g2 := Nat.le_trans hb.size hg2
  have h12 : g1 < g2 := Nat.lt_of_lt_of_le a1.lt hg2
  (try replace r1 := RdB.below r1 hbx); (try replace r2 := RdB.below r2 hbx); (try replace u1 := Own1.bel u1 hbx); (try replace a1 := Ar.bel a1 hbx); (try replace a2 := Ar.bel a2 hbx)
  replace hb := hb.trans (hbx.mono hb.size)
  clear hbx
  refine wl_mv rfl rfl ?_; apply wl_val; apply opv_extract; exact rfl; exact rfl; exact rfl; apply wl_val; apply opv_extract; exact rfl; exact rfl; exact rfl; refine wl_as rfl rfl ?_; refine wl_as rfl rfl ?_; refine wl_ns ?_; refine wc_sr ?_; refine wl_mv rfl rfl ?_
  obtain ⟨t, tx, te, ht⟩ : ∃ t x e, getOrd xs 0 = (t, x, e) := ⟨_, _, _, rfl⟩
  have htl := getOrd_length ht
  refine wl_call ok_codec_GetOrdText (getOrd_at ht (ar_head a1) rfl (by omega)) ⟨rfl, rfl, trivial⟩ rfl ?_
  rintro _ w3 ⟨A3, c3, rfl, o3, hbx⟩
  replace u1 : Own1 w3 w.heap.size [_, _, _] := u1.add 0 hbx o3.nw.hd (by omega) hb.size
  have k3 := o3.cap
  have r3 := o3.rd
  clear o3
  (try replace r1 := RdB.below r1 hbx); (try replace r2 := RdB.below r2 hbx); (try replace u1 := Own1.bel u1 hbx); (try replace a1 := Ar.bel a1 hbx); (try replace a2 := Ar.bel a2 hbx); (try replace o3 := OwB.below o3 hbx); (try replace r3 := RdB.below r3 hbx)
  replace hb := hb.trans (hbx.mono hb.size)
  clear hbx
  refine wl_mv rfl rfl ?_; apply wl_val; apply opv_extract; exact rfl; exact rfl; exact rfl; apply wl_val; apply opv_extract; exact rfl; exact rfl; exact rfl; apply wl_val; apply opv_extract; exact rfl; exact rfl; exact rfl; refine wl_as rfl rfl ?_; refine wl_as rfl rfl ?_; refine wl_as rfl rfl ?_; refine wl_ns ?_; refine wc_sr ?_; refine wl_mv rfl rfl ?_
  obtain ⟨l, q4, hv⟩ : ∃ l q, parts xs = (l, q) := ⟨_, _, rfl⟩
  have hsz := partsF_size xs.length xs 0 [] (by omega) (by simp)
  rw [show partsF xs.length xs 0 [] = (l, q4) from hv] at hsz
  dsimp only at hsz
  refine wl_call ok_codec_Parts (parts_at' hv (ar_head a1) rfl (by omega) (by omega)) ⟨rfl, trivial⟩ rfl ?_
  rintro _ w4 ⟨A4, c4, rfl, O4, hbx⟩
  dsimp only at O4 ⊢
  obtain ⟨vs, o4, V4, i4⟩ := O4.own (by omega)
  clear O4
  have u2 := u1.ins (l1 := [_]) (l2 := [_, _]) hbx i4 hb.size
  have s4 := i4.slices
  clear i4 u1
  (try replace r1 := RdB.below r1 hbx); (try replace r2 := RdB.below r2 hbx); (try replace u1 := Own1.bel u1 hbx); (try replace a1 := Ar.bel a1 hbx); (try replace a2 := Ar.bel a2 hbx); (try replace o3 := OwB.below o3 hbx); (try replace r3 := RdB.below r3 hbx); (try replace O4 := OwBB.below O4 hbx); (try replace o4 := OwB.below o4 hbx); (try replace V4 := RdV.bel V4 hbx); (try replace u2 := Own1.bel u2 hbx)
  replace hb := hb.trans (hbx.mono hb.size)
  have q4s := hbx.size
  clear hbx
  refine wl_mv rfl rfl ?_; apply wl_val; apply opv_extract; exact rfl; exact rfl; exact rfl; apply wl_val; apply opv_extract; exact rfl; exact rfl; exact rfl; refine wl_as rfl rfl ?_; refine wl_as rfl rfl ?_; refine wl_ns ?_; refine wc_sr ?_; refine wl_mv rfl rfl ?_
  refine wl_call ok_codec_OrdText (ordText_any (ar_head a1) rfl (by omega)) ⟨rfl, trivial⟩ rfl ?_
  rintro _ w5 ⟨A5, c5, rfl, o5, hbx⟩
  replace u2 : Own1 w5 w.heap.size ([_, _] ++ (_ ++ [_, _])) := u2.add 0 hbx o5.nw.hd (by have := ordText_len xs; omega) hb.size
  replace o4 := Ow.below o4 hbx (Nat.le_refl _)
  have k5 := o5.cap
  have r5 := o5.rd
  clear o5
  (try replace r1 := RdB.below r1 hbx); (try replace r2 := RdB.below r2 hbx); (try replace u1 := Own1.bel u1 hbx); (try replace a1 := Ar.bel a1 hbx); (try replace a2 := Ar.bel a2 hbx); (try replace o3 := OwB.below o3 hbx); (try replace r3 := RdB.below r3 hbx); (try replace O4 := OwBB.below O4 hbx); (try replace o4 := OwB.below o4 hbx); (try replace V4 := RdV.bel V4 hbx); (try replace u2 := Own1.bel u2 hbx); (try replace o5 := OwB.below o5 hbx); (try replace r5 := RdB.below r5 hbx)
  replace hb := hb.trans (hbx.mono hb.size)
  clear hbx
  refine wl_mv rfl rfl ?_; refine wl_mv rfl rfl ?_
  refine wl_bs (vs := [_, _]) tyBB ⟨rfl, rfl, rfl, rfl, rfl, rfl, trivial⟩ rfl (by decide) rfl fun A6 w6 m6 hbx _ => ?_
  replace o4 := Ow.below o4 hbx (Nat.le_refl _)
  replace u2 := u2.bel hbx
  (try replace r1 := RdB.below r1 hbx); (try replace r2 := RdB.below r2 hbx); (try replace u1 := Own1.bel u1 hbx); (try replace a1 := Ar.bel a1 hbx); (try replace a2 := Ar.bel a2 hbx); (try replace o3 := OwB.below o3 hbx); (try replace r3 := RdB.below r3 hbx); (try replace O4 := OwBB.below O4 hbx); (try replace o4 := OwB.below o4 hbx); (try replace V4 := RdV.bel V4 hbx); (try replace u2 := Own1.bel u2 hbx); (try replace o5 := OwB.below o5 hbx); (try replace r5 := RdB.below r5 hbx)
  replace hb := hb.trans (hbx.mono hb.size)
  clear hbx
  have fl6 := framed_len (l := [xs, ys]) (by simp; omega)
  simp only [List.flatten_cons, List.flatten_nil, List.append_nil, List.length_append, List.length_cons, List.length_nil] at fl6
  refine wl_call ok_codec_Frame (frame_any (RdBB.two' m6.rd (ar_head a1) rfl (by omega) (ar_head a2) rfl (by omega)) rfl (by simp; omega)) ⟨rfl, trivial⟩ rfl ?_
  rintro _ w7 ⟨A7, c7, rfl, o7, hbx⟩
  replace u2 : Own1 w7 w.heap.size ([_, _, _] ++ (_ ++ [_, _])) := u2.add 1 hbx o7.nw.hd (by omega) hb.size
  replace o4 := Ow.below o4 hbx (Nat.le_refl _)
  have k7 := o7.cap
  have r7 := o7.rd
  clear o7
  (try replace r1 := RdB.below r1 hbx); (try replace r2 := RdB.below r2 hbx); (try replace u1 := Own1.bel u1 hbx); (try replace a1 := Ar.bel a1 hbx); (try replace a2 := Ar.bel a2 hbx); (try replace o3 := OwB.below o3 hbx); (try replace r3 := RdB.below r3 hbx); (try replace O4 := OwBB.below O4 hbx); (try replace o4 := OwB.below o4 hbx); (try replace V4 := RdV.bel V4 hbx); (try replace u2 := Own1.bel u2 hbx); (try replace o5 := OwB.below o5 hbx); (try replace r5 := RdB.below r5 hbx); (try replace o7 := OwB.below o7 hbx); (try replace r7 := RdB.below r7 hbx)
  replace hb := hb.trans (hbx.mono hb.size)
  clear hbx
  refine wl_mv rfl rfl ?_
  clear m6
  refine wl_bs (vs := [_]) tyBB ⟨rfl, rfl, rfl, trivial⟩ rfl (by decide) rfl fun A8 w8 m8 hbx _ => ?_
  replace o4 := Ow.below o4 hbx (Nat.le_refl _)
  replace u2 := u2.bel hbx
  (try replace r1 := RdB.below r1 hbx); (try replace r2 := RdB.below r2 hbx); (try replace u1 := Own1.bel u1 hbx); (try replace a1 := Ar.bel a1 hbx); (try replace a2 := Ar.bel a2 hbx); (try replace o3 := OwB.below o3 hbx); (try replace r3 := RdB.below r3 hbx); (try replace O4 := OwBB.below O4 hbx); (try replace o4 := OwB.below o4 hbx); (try replace V4 := RdV.bel V4 hbx); (try replace u2 := Own1.bel u2 hbx); (try replace o5 := OwB.below o5 hbx); (try replace r5 := RdB.below r5 hbx); (try replace o7 := OwB.below o7 hbx); (try replace r7 := RdB.below r7 hbx)
  replace hb := hb.trans (hbx.mono hb.size)
  clear hbx
  have fl8 := framed_len (l := [xs]) (by simp; omega)
  simp only [List.flatten_cons, List.flatten_nil, List.append_nil, List.length_append, List.length_cons, List.length_nil] at fl8
  refine wl_call ok_codec_Frame (frame_any (RdBB.only m8.rd (ar_head a1) rfl (by omega)) rfl (by simp; omega)) ⟨rfl, trivial⟩ rfl ?_
  rintro _ w9 ⟨A9, c9, rfl, o9, hbx⟩
  replace u2 : Own1 w9 w.heap.size ([_, _, _, _] ++ (_ ++ [_, _])) := u2.add 2 hbx o9.nw.hd (by omega) hb.size
  replace o4 := Ow.below o4 hbx (Nat.le_refl _)
  have k9 := o9.cap
  have r9 := o9.rd
  clear o9
  (try replace r1 := RdB.below r1 hbx); (try replace r2 := RdB.below r2 hbx); (try replace u1 := Own1.bel u1 hbx); (try replace a1 := Ar.bel a1 hbx); (try replace a2 := Ar.bel a2 hbx); (try replace o3 := OwB.below o3 hbx); (try replace r3 := RdB.below r3 hbx); (try replace O4 := OwBB.below O4 hbx); (try replace o4 := OwB.below o4 hbx); (try replace V4 := RdV.bel V4 hbx); (try replace u2 := Own1.bel u2 hbx); (try replace o5 := OwB.below o5 hbx); (try replace r5 := RdB.below r5 hbx); (try replace o7 := OwB.below o7 hbx); (try replace r7 := RdB.below r7 hbx); (try replace o9 := OwB.below o9 hbx); (try replace r9 := RdB.below r9 hbx)
  replace hb := hb.trans (hbx.mono hb.size)
  clear hbx
  refine wl_mv rfl rfl ?_
  clear m8
  have nx := nextB_len xs
  have ny := nextB_len ys
  refine wl_call ok_codec_Next (next_any (ar_head a1) rfl (by omega) (by omega)) ⟨rfl, trivial⟩ rfl ?_
  rintro _ w10 ⟨A10, c10, rfl, o10, hbx⟩
  replace u2 : Own1 w10 w.heap.size ([_, _, _, _, _] ++ (_ ++ [_, _])) := u2.add 3 hbx o10.nw.hd (by omega) hb.size
  replace o4 := Ow.below o4 hbx (Nat.le_refl _)
  have k10 := o10.cap
  have r10 := o10.rd
  clear o10
  (try replace r1 := RdB.below r1 hbx); (try replace r2 := RdB.below r2 hbx); (try replace u1 := Own1.bel u1 hbx); (try replace a1 := Ar.bel a1 hbx); (try replace a2 := Ar.bel a2 hbx); (try replace o3 := OwB.below o3 hbx); (try replace r3 := RdB.below r3 hbx); (try replace O4 := OwBB.below O4 hbx); (try replace o4 := OwB.below o4 hbx); (try replace V4 := RdV.bel V4 hbx); (try replace u2 := Own1.bel u2 hbx); (try replace o5 := OwB.below o5 hbx); (try replace r5 := RdB.below r5 hbx); (try replace o7 := OwB.below o7 hbx); (try replace r7 := RdB.below r7 hbx); (try replace o9 := OwB.below o9 hbx); (try replace r9 := RdB.below r9 hbx); (try replace o10 := OwB.below o10 hbx); (try replace r10 := RdB.below r10 hbx)
  replace hb := hb.trans (hbx.mono hb.size)
  clear hbx
  refine wl_mv rfl rfl ?_
  refine wl_call ok_codec_Next (next_any (ar_head a2) rfl (by omega) (by omega)) ⟨rfl, trivial⟩ rfl ?_
  rintro _ w11 ⟨A11, c11, rfl, o11, hbx⟩
  replace u2 : Own1 w11 w.heap.size ([_, _, _, _, _, _] ++ (_ ++ [_, _])) := u2.add 4 hbx o11.nw.hd (by omega) hb.size
  replace o4 := Ow.below o4 hbx (Nat.le_refl _)
  have k11 := o11.cap
  have r11 := o11.rd
  clear o11
  (try replace r1 := RdB.below r1 hbx); (try replace r2 := RdB.below r2 hbx); (try replace u1 := Own1.bel u1 hbx); (try replace a1 := Ar.bel a1 hbx); (try replace a2 := Ar.bel a2 hbx); (try replace o3 := OwB.below o3 hbx); (try replace r3 := RdB.below r3 hbx); (try replace O4 := OwBB.below O4 hbx); (try replace o4 := OwB.below o4 hbx); (try replace V4 := RdV.bel V4 hbx); (try replace u2 := Own1.bel u2 hbx); (try replace o5 := OwB.below o5 hbx); (try replace r5 := RdB.below r5 hbx); (try replace o7 := OwB.below o7 hbx); (try replace r7 := RdB.below r7 hbx); (try replace o9 := OwB.below o9 hbx); (try replace r9 := RdB.below r9 hbx); (try replace o10 := OwB.below o10 hbx); (try replace r10 := RdB.below r10 hbx); (try replace o11 := OwB.below o11 hbx); (try replace r11 := RdB.below r11 hbx)
  replace hb := hb.trans (hbx.mono hb.size)
  clear hbx
  refine wl_mv rfl rfl ?_
  have pl := putU_le (n := 9) (by decide)
  refine wl_call ok_codec_PutU (putU_any 9 (by decide) _) ⟨rfl, trivial⟩ rfl ?_
  rintro _ w12 ⟨A12, c12, rfl, o12, hbx⟩
  replace u2 : Own1 w12 w.heap.size ([_, _, _, _, _, _, _] ++ (_ ++ [_, _])) := u2.add 6 hbx o12.nw.hd (by omega) hb.size
  replace o4 := Ow.below o4 hbx (Nat.le_refl _)
  have k12 := o12.cap
  have r12 := o12.rd
  clear o12
  (try replace r1 := RdB.below r1 hbx); (try replace r2 := RdB.below r2 hbx); (try replace u1 := Own1.bel u1 hbx); (try replace a1 := Ar.bel a1 hbx); (try replace a2 := Ar.bel a2 hbx); (try replace o3 := OwB.below o3 hbx); (try replace r3 := RdB.below r3 hbx); (try replace O4 := OwBB.below O4 hbx); (try replace o4 := OwB.below o4 hbx); (try replace V4 := RdV.bel V4 hbx); (try replace u2 := Own1.bel u2 hbx); (try replace o5 := OwB.below o5 hbx); (try replace r5 := RdB.below r5 hbx); (try replace o7 := OwB.below o7 hbx); (try replace r7 := RdB.below r7 hbx); (try replace o9 := OwB.below o9 hbx); (try replace r9 := RdB.below r9 hbx); (try replace o10 := OwB.below o10 hbx); (try replace r10 := RdB.below r10 hbx); (try replace o11 := OwB.below o11 hbx); (try replace r11 := RdB.below r11 hbx); (try replace o12 := OwB.below o12 hbx); (try replace r12 := RdB.below r12 hbx)
  replace hb := hb.trans (hbx.mono hb.size)
  clear hbx
  skip
  have ol := ordU_length 7
  refine wl_call ok_codec_OrdU (ordU_any 7 (by decide) _) ⟨rfl, trivial⟩ rfl ?_
  rintro _ w13 ⟨A13, c13, rfl, o13, hbx⟩
  replace u2 : Own1 w13 w.heap.size ([_, _, _, _, _, _, _, _] ++ (_ ++ [_, _])) := u2.add 7 hbx o13.nw.hd (by omega) hb.size
  replace o4 := Ow.below o4 hbx (Nat.le_refl _)
  have k13 := o13.cap
  have r13 := o13.rd
  clear o13
  (try replace r1 := RdB.below r1 hbx); (try replace r2 := RdB.below r2 hbx); (try replace u1 := Own1.bel u1 hbx); (try replace a1 := Ar.bel a1 hbx); (try replace a2 := Ar.bel a2 hbx); (try replace o3 := OwB.below o3 hbx); (try replace r3 := RdB.below r3 hbx); (try replace O4 := OwBB.below O4 hbx); (try replace o4 := OwB.below o4 hbx); (try replace V4 := RdV.bel V4 hbx); (try replace u2 := Own1.bel u2 hbx); (try replace o5 := OwB.below o5 hbx); (try replace r5 := RdB.below r5 hbx); (try replace o7 := OwB.below o7 hbx); (try replace r7 := RdB.below r7 hbx); (try replace o9 := OwB.below o9 hbx); (try replace r9 := RdB.below r9 hbx); (try replace o10 := OwB.below o10 hbx); (try replace r10 := RdB.below r10 hbx); (try replace o11 := OwB.below o11 hbx); (try replace r11 := RdB.below r11 hbx); (try replace o12 := OwB.below o12 hbx); (try replace r12 := RdB.below r12 hbx); (try replace o13 := OwB.below o13 hbx); (try replace r13 := RdB.below r13 hbx)
  replace hb := hb.trans (hbx.mono hb.size)
  clear hbx
  skip
  have l1 := a1.lt
  have l2 := a2.lt
  refine wl_bs (vs := [_, _, _, _, _, _, _, _]) tyBB ⟨rfl, rfl, rfl, rfl, rfl, rfl, rfl, rfl, rfl, rfl, rfl, rfl, rfl, rfl, rfl, rfl, rfl, rfl, rfl, rfl, rfl, rfl, rfl, rfl, trivial⟩ rfl (by decide) rfl fun A14 w14 o14 hb14 _ => ?_
  refine wl_as rfl rfl ?_; refine wl_ns ?_; refine wc_sr ?_; refine wl_mv rfl rfl ?_; refine wl_mv rfl rfl ?_
  refine wl_app (n := 8) tyBB rfl o14 rfl (Ow.below o4 hb14 (Nat.le_refl _)).rd s4 (by omega) (by simp only [maxLen]; omega) (by have := hb14.size; omega) rfl fun A15 c15 w15 o15 g15 _ => ?_
  have hb15 := g15.below hb14 o14 (Nat.le_refl _) hb14.size
  have q15 := hb15.size
  have q13 := hb.size
  (try replace r1 := RdB.below r1 hb15); (try replace r2 := RdB.below r2 hb15); (try replace u1 := Own1.bel u1 hb15); (try replace a1 := Ar.bel a1 hb15); (try replace a2 := Ar.bel a2 hb15); (try replace o3 := OwB.below o3 hb15); (try replace r3 := RdB.below r3 hb15); (try replace O4 := OwBB.below O4 hb15); (try replace o4 := OwB.below o4 hb15); (try replace V4 := RdV.bel V4 hb15); (try replace u2 := Own1.bel u2 hb15); (try replace o5 := OwB.below o5 hb15); (try replace r5 := RdB.below r5 hb15); (try replace o7 := OwB.below o7 hb15); (try replace r7 := RdB.below r7 hb15); (try replace o9 := OwB.below o9 hb15); (try replace r9 := RdB.below r9 hb15); (try replace o10 := OwB.below o10 hb15); (try replace r10 := RdB.below r10 hb15); (try replace o11 := OwB.below o11 hb15); (try replace r11 := RdB.below r11 hb15); (try replace o12 := OwB.below o12 hb15); (try replace r12 := RdB.below r12 hb15); (try replace o13 := OwB.below o13 hb15); (try replace r13 := RdB.below r13 hb15); (try replace o14 := OwB.below o14 hb15); (try replace o15 := OwB.below o15 hb15)
  replace hb := hb.trans (hb15.mono hb.size)
  clear o4 hb15 hb14 g15 o14
  have V := RdV.cons (RdV.cons (RdV.cons (RdV.cons (RdV.cons (RdV.cons (RdV.cons (RdV.cons V4 r13 rfl k13) r12 rfl k12) r3 rfl k3) r11 rfl k11) r10 rfl k10) r9 rfl k9) r7 rfl k7) r5 rfl k5
  have hol := ordText_len xs
  have hfl : (ordText xs :: framed [xs, ys] :: framed [xs] :: nextB xs :: nextB ys :: t :: putU 9 :: ordU 7 :: l).flatten.length ≤ 16777216 := by simp only [List.flatten_cons, List.length_append]; omega
  have hrl : (ordText xs :: framed [xs, ys] :: framed [xs] :: nextB xs :: nextB ys :: t :: putU 9 :: ordU 7 :: l).length = 8 + l.length := by simp only [List.length_cons]; omega
  generalize ordText xs :: framed [xs, ys] :: framed [xs] :: nextB xs :: nextB ys :: t :: putU 9 :: ordU 7 :: l = rows at V hfl hrl
  rw [← List.append_assoc] at u2
  replace V : RdV w15 ([.slice A5 (ordText xs).length c5, .slice A7 (framed [xs, ys]).length c7, .slice A9 (framed [xs]).length c9, .slice A10 (nextB xs).length c10, .slice A11 (nextB ys).length c11, .slice A3 t.length c3, .slice A12 (putU 9).length c12, .slice A13 (ordU 7).length c13] ++ vs) rows := V
  generalize [Value.slice A5 (ordText xs).length c5, .slice A7 (framed [xs, ys]).length c7, .slice A9 (framed [xs]).length c9, .slice A10 (nextB xs).length c10, .slice A11 (nextB ys).length c11, .slice A3 t.length c3, .slice A12 (putU 9).length c12, .slice A13 (ordU 7).length c13] ++ vs = us at V o15 u2
  rw [← hrl] at o15 ⊢
  clear r5 r7 r9 r10 r11 r12 r13 r3 V4
  refine wl_as rfl rfl ?_; refine wl_ns ?_; refine wc_sr ?_; refine wl_mv rfl rfl ?_
  refine wl_call ok_caissonref01_Copies (copies_any (V.rd o15.rd rfl) rfl (by omega) (by omega)) ⟨rfl, trivial⟩ rfl ?_
  rintro _ w16 ⟨A16, c16, rfl, O16, hbx⟩
  have F1 : Fin w16 w.heap.size us _ rows _ _ _ _ _ _ _ := ⟨u2.bel hbx, V.bel hbx, Ow.below o15 hbx (Nat.le_refl _), O16⟩
  have q16 := hbx.size
  clear u2 V o15 O16
  replace r1 := RdB.below r1 hbx
  replace r2 := RdB.below r2 hbx
  replace a1 := a1.bel hbx
  replace a2 := a2.bel hbx
  replace hb := hb.trans (hbx.mono hb.size)
  clear hbx
  refine wl_as rfl rfl ?_; refine wl_ns ?_; refine wc_seq ?_; refine wc_sr ?_; refine wl_mv rfl rfl ?_; refine wl_mv rfl rfl ?_
  refine wl_call ok_caissonref01_Kept (kept_yes (ar_full a1) r1 rfl rfl (by omega)) ⟨rfl, rfl, trivial⟩ rfl ?_
  rintro _ w17 ⟨rfl, hb17⟩
  replace F1 := Fin.bel F1 hb17; replace a1 := Ar.bel a1 hb17; replace a2 := Ar.bel a2 hb17; replace r1 := RdB.below r1 hb17; replace r2 := RdB.below r2 hb17
  replace hb := hb.trans (hb17.mono hb.size)
  apply wl_val; apply opv_not; exact rfl; exact rfl; refine wl_mv rfl rfl ?_; apply wl_take; exact rfl; exact rfl; exact rfl; exact rfl; refine wl_mv rfl rfl ?_; apply wl_take; exact rfl; exact rfl; exact rfl; exact rfl; refine wl_mv rfl rfl ?_; apply wl_take; exact rfl; exact rfl; exact rfl; exact rfl
  refine wl_call ok_caissonref01_Kept (kept_yes (ar_full a2) r2 rfl rfl (by omega)) ⟨rfl, rfl, trivial⟩ rfl ?_
  rintro _ w18 ⟨rfl, hb18⟩
  replace F1 := Fin.bel F1 hb18; replace a1 := Ar.bel a1 hb18; replace a2 := Ar.bel a2 hb18; replace r1 := RdB.below r1 hb18; replace r2 := RdB.below r2 hb18
  replace hb := hb.trans (hb18.mono hb.size)
  have q18 : w13.heap.size ≤ w18.heap.size := by have := hb17.size; have := hb18.size; omega
  clear hb17 hb18 r1 r2
  apply wl_take; exact rfl; exact rfl; exact rfl; exact rfl; apply wl_val; apply opv_not; exact rfl; exact rfl; apply wl_val; apply opv_pickF; exact rfl; exact rfl; exact rfl; exact rfl; refine wl_ns ?_
  refine wc_condF rfl ?_
  refine wc_skip ?_; refine we_seq ?_; refine wc_sr ?_; refine wl_mv rfl rfl ?_
  refine wl_call ok_caissonref01_Over (over_any a1 (by rw [spareL_length]; omega) (by rw [spareL_length]; omega)) ⟨rfl, trivial⟩ rfl ?_
  rintro _ w19 ⟨x1, hx1, b1, g19⟩
  rw [spareL_length] at hx1
  replace F1 := F1.over (v := .slice (some ⟨g1, 0, none⟩) (xs.length + 40) (xs.length + 40)) g19 a1 b1 (by rw [bvs_length, bvs_length, spareL_length, hx1]) (by simp) rfl l1 (by omega)
  replace a2 := a2.gr g19 (by omega)
  replace hb := g19.belowA hb hw1 hb.size
  refine wl_ns ?_; refine wc_sr ?_; refine wl_mv rfl rfl ?_
  refine wl_call ok_caissonref01_Over (over_any a2 (by rw [spareL_length]; omega) (by rw [spareL_length]; omega)) ⟨rfl, trivial⟩ rfl ?_
  rintro _ w20 ⟨x2, hx2, b2, g20⟩
  rw [spareL_length] at hx2
  replace F1 := F1.over (v := .slice (some ⟨g2, 0, none⟩) (ys.length + 40) (ys.length + 40)) g20 a2 b2 (by rw [bvs_length, bvs_length, spareL_length, hx2]) (by simp) rfl l2 (by omega)
  replace hb := g20.belowA hb hw2 hb.size
  clear a1 a2 b1 b2
  refine wl_ns ?_; refine wc_sr ?_; refine wl_mv rfl rfl ?_; refine wl_mv rfl rfl ?_
  refine wl_call ok_caissonref01_Equals (equals_yes rfl (F1.2.1.rd F1.2.2.1.rd rfl) F1.2.2.2.rd rfl rfl (by simp only [maxLen]; omega) (by simp only [maxLen]; omega)) ⟨rfl, rfl, trivial⟩ rfl ?_
  rintro _ w21 ⟨rfl, hb21⟩
  replace F1 := Fin.bel F1 hb21
  replace hb := hb.trans (hb21.mono hb.size)
  refine wl_mv rfl rfl ?_; apply wl_take; exact rfl; exact rfl; exact rfl; exact rfl; refine wl_mv rfl rfl ?_; apply wl_take; exact rfl; exact rfl; exact rfl; exact rfl; refine wl_mv rfl rfl ?_; apply wl_take; exact rfl; exact rfl; exact rfl; exact rfl; refine wl_mv rfl rfl ?_; apply wl_take; exact rfl; exact rfl; exact rfl; exact rfl
  have q22 : w13.heap.size ≤ w21.heap.size := by have := hb21.size; have := g20.size; have := g19.size; omega
  refine wl_bs (vs := [_, _]) tyBB ⟨rfl, rfl, rfl, rfl, rfl, rfl, trivial⟩ rfl (by decide) rfl fun A21 w22' o21 hb22' _ => ?_
  have q22' := hb22'.size
  apply wl_take; exact rfl; exact rfl; exact rfl; exact rfl
  refine wl_app (n := rows.length) tyBB rfl (Ow.below F1.2.2.1 hb22' (Nat.le_refl _)) rfl o21.rd (by simp [Value.oneCell']) (by omega) (by simp only [maxLen]; omega) (by omega) rfl fun A22 c22 w22 o22 g22' _ => ?_
  have g22 := (Gr.of_below A15 hb22' (Nat.le_refl _)).trans g22'
  have u22 := F1.1.row F1.2.2.1 g22
  have hb22 := g22.below hb F1.2.2.1 (by omega) hb.size
  apply wl_take; exact rfl; exact rfl; exact rfl; exact rfl
  refine wl_call ok_caissonref01_Apart (apart_any o22.rd (u22.row_ne o22) u22 hb22.size (by omega)) ⟨rfl, trivial⟩ rfl ?_
  rintro _ w23 ⟨rfl, hb23⟩
  apply wl_val; apply opv_pickT; exact rfl; exact rfl; exact rfl; exact rfl; refine wl_as rfl rfl ?_; refine wl_ns ?_; refine wc_ret ?_
  exact we_ret1 rfl rfl ⟨_, rfl, rfl, hb22.trans hb23⟩
end Go.Proofs.Ytdppekhnahnjjaa
