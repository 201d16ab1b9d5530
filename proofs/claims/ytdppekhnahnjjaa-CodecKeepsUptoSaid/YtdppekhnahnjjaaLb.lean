/-
  The walk over the law CrcKeeps.
-/
import Derived.Test.YtdppekhnahnjjaaKe
import Derived.Test.YtdppekhnahnjjaaL9
namespace Go.Proofs.Ytdppekhnahnjjaa
open Go.RowKit

theorem RdBB.only {w : World} {A A1 : Option Addr} {n1 c1 : Nat} {r : List UInt8} (h : Rd w A 1 [.slice A1 n1 c1]) (h1 : RdB w A1 r) (e1 : r.length = n1) (hc : r.length ≤ c1) : RdBB w A [r] := by subst e1; exact RdBB.one h h1 hc
theorem openAll_at' {A : Option Addr} {n c : Nat} {xs : List UInt8} {w : World} {x : List (List UInt8) × Nat} (h : openAll xs = x) (hr : RdB w A xs) (hn : xs.length = n) (hc : xs.length ≤ c) (hl : xs.length ≤ 1099511627776) :
    CallsV Try.prog 49 #[.slice A n c] w (RetOA w x) := h ▸ openAll_any hr hn hc hl
theorem sealB_len (l : List UInt8) : (sealB l).1.length ≤ 1048584 := by
  unfold sealB
  split
  · simp
  · rw [crcRec_length]; omega
theorem ar_head {w : World} {g : Nat} {b : List UInt8} (h : Ar w g 5 (bvs (spareL b))) : RdB w (some ⟨g, 0, none⟩) b := by
  have := h.rd (n := b.length) (by rw [bvs_length, spareL_length]; omega)
  rw [bvs, ← List.map_take, spareL_take] at this
  exact this
theorem ar_full {w : World} {g : Nat} {b : List UInt8} (h : Ar w g 5 (bvs b)) : RdB w (some ⟨g, 0, none⟩) b := by
  have := h.rd (n := b.length) (by rw [bvs_length]; omega)
  rw [List.take_of_length_le (by rw [bvs_length]; omega)] at this
  exact this
theorem ar_hd {w : World} {base g n c : Nat} {l : List UInt8} (h : Ar w g 5 (bvs l)) (hb : base ≤ g) (h1 : n ≤ c) (h2 : c ≤ l.length) : Hd w base (some ⟨g, 0, none⟩) n c :=
  .inr ⟨g, _, rfl, hb, h, h1, by rw [bvs_length]; exact h2⟩

theorem crcKeeps_walk {A B : Option Addr} {n m c d : Nat} {xs ys : List UInt8} {w : World} (r1 : RdB w A xs) (hn : xs.length = n) (_hc : xs.length ≤ c) (hl : xs.length ≤ 1048576) (r2 : RdB w B ys) (hm : ys.length = m) (_hd : ys.length ≤ d) (hl2 : ys.length ≤ 1048576) :
    CallsV Try.prog 14 #[.slice A n c, .slice B m d] w (RetTrue w) := by
  subst hn hm
  have hb := Below.refl w.heap.size w
  have u0 : Own1 w w.heap.size [] := Own1.nil
  refine calls_in (N := _) Try.func14 rfl Try.ntmps14 rfl ?_; show WC _ _ _ _ _ _
  refine wc_sr ?_; refine wl_as rfl rfl ?_; refine wl_ns ?_; refine wc_seq ?_; refine wc_sr ?_
  refine wl_call ok_caissonlaw03_awake (awake3_any _) trivial rfl ?_; rintro _ _ ⟨rfl, hbx⟩; replace r1 := RdB.below r1 hbx; replace r2 := RdB.below r2 hbx; replace u0 := Own1.bel u0 hbx; replace hb := hb.trans (hbx.mono hb.size); clear hbx
  apply wl_val; apply opv_not; exact rfl; exact rfl; refine wl_ns ?_
  refine wc_condF rfl ?_
  refine wc_skip ?_; refine we_seq ?_; refine wc_sr ?_; refine wl_mv rfl rfl ?_
  refine wl_call ok_caissonref01_Spare (spare_any r1 rfl (by omega)) ⟨rfl, trivial⟩ rfl ?_
  rintro _ w1 ⟨g1, rfl, hg1, a1, hb1⟩
  have u1 := u0.ins (l1 := []) (l2 := []) hb1 (Own1.one (ar_hd (n := xs.length + 40) (c := xs.length + 40) a1 hg1 (Nat.le_refl _) (by rw [spareL_length]; omega)) (by omega)) hb.size
  replace r1 := RdB.below r1 hb1
  replace r2 := RdB.below r2 hb1
  have hw1 : w.heap.size ≤ g1 := Nat.le_trans hb.size hg1
  replace hb := hb.trans (hb1.mono hb.size)
  clear hb1 u0
  refine wl_mv rfl rfl ?_; apply wl_val; apply opv_extract; exact rfl; exact rfl; exact rfl; apply wl_val; apply opv_extract; exact rfl; exact rfl; exact rfl; refine wl_as rfl rfl ?_; refine wl_as rfl rfl ?_; refine wl_ns ?_; refine wc_sr ?_; refine wl_mv rfl rfl ?_
  refine wl_call ok_caissonref01_Spare (spare_any r2 rfl (by omega)) ⟨rfl, trivial⟩ rfl ?_
  rintro _ w2 ⟨g2, rfl, hg2, a2, hb2⟩
  have hw2 : w.heap.size ≤ g2 := Nat.le_trans hb.size hg2
  have u2 := u1.ins (l1 := [.slice (some ⟨g1, 0, none⟩) (xs.length + 40) (xs.length + 40)]) (l2 := []) hb2 (Own1.one (ar_hd (n := ys.length + 40) (c := ys.length + 40) a2 hg2 (Nat.le_refl _) (by rw [spareL_length]; omega)) (by omega)) hb.size
  have h12 : g1 < g2 := Nat.lt_of_lt_of_le a1.lt hg2
  replace a1 := a1.bel hb2
  replace r1 := RdB.below r1 hb2
  replace r2 := RdB.below r2 hb2
  replace hb := hb.trans (hb2.mono hb.size)
  clear hb2 u1
  simp only [List.nil_append, List.cons_append, List.append_nil] at u2
  refine wl_mv rfl rfl ?_; apply wl_val; apply opv_extract; exact rfl; exact rfl; exact rfl; apply wl_val; apply opv_extract; exact rfl; exact rfl; exact rfl; refine wl_as rfl rfl ?_; refine wl_as rfl rfl ?_; refine wl_ns ?_; refine wc_sr ?_; refine wl_mv rfl rfl ?_; refine wl_mv rfl rfl ?_
  refine wl_bs (vs := [_, _]) tyBB ⟨rfl, rfl, rfl, rfl, rfl, rfl, trivial⟩ rfl (by decide) rfl fun A3 w3 o3 hb3 _ => ?_
  replace a1 := a1.bel hb3
  replace a2 := a2.bel hb3
  replace u2 := u2.bel hb3
  replace r1 := RdB.below r1 hb3
  replace r2 := RdB.below r2 hb3
  replace hb := hb.trans (hb3.mono hb.size)
  obtain ⟨s1, e1, he1⟩ : ∃ s e, sealB ([xs, ys].flatten) = (s, e) := ⟨_, _, rfl⟩
  have hs1 : s1.length ≤ 1048584 := by have := sealB_len [xs, ys].flatten; rw [he1] at this; exact this
  refine wl_call ok_crc_Seal (seal_any (RdBB.two' o3.rd (ar_head a1) rfl (by omega) (ar_head a2) rfl (by omega)) rfl (by simp) (by simp; omega) (by simp only [maxLen]; simp)) ⟨rfl, trivial⟩ rfl ?_
  rw [he1]
  rintro _ w4 ⟨A4, c4, rfl, n4, hb4⟩
  dsimp only at n4 ⊢
  have u4 := u2.ins (l1 := []) hb4 (Own1.one n4.hd (by omega)) hb.size
  replace a1 := a1.bel hb4
  replace a2 := a2.bel hb4
  replace r1 := RdB.below r1 hb4
  replace r2 := RdB.below r2 hb4
  replace hb := hb.trans (hb4.mono hb.size)
  have k4 := n4.cap
  have r4 := n4.rd
  clear n4 hb4 hb3 u2 o3
  simp only [List.nil_append, List.cons_append] at u4
  refine wl_mv rfl rfl ?_; apply wl_val; apply opv_extract; exact rfl; exact rfl; exact rfl; apply wl_val; apply opv_extract; exact rfl; exact rfl; exact rfl; refine wl_as rfl rfl ?_; refine wl_as rfl rfl ?_; refine wl_ns ?_; refine wc_sr ?_; refine wl_mv rfl rfl ?_
  refine wl_bs (vs := [_]) tyBB ⟨rfl, rfl, rfl, trivial⟩ rfl (by decide) rfl fun A5 w5 o5 hb5 _ => ?_
  (try replace r1 := RdB.below r1 hb5); (try replace r2 := RdB.below r2 hb5); (try replace u0 := Own1.bel u0 hb5); (try replace a1 := Ar.bel a1 hb5); (try replace u1 := Own1.bel u1 hb5); (try replace a2 := Ar.bel a2 hb5); (try replace u2 := Own1.bel u2 hb5); (try replace o3 := OwB.below o3 hb5); (try replace n4 := NwB.below n4 hb5); (try replace u4 := Own1.bel u4 hb5); (try replace r4 := RdB.below r4 hb5); (try replace o5 := OwB.below o5 hb5)
  replace hb := hb.trans (hb5.mono hb.size)
  obtain ⟨s2, e2, he2⟩ : ∃ s e, sealB ([xs].flatten) = (s, e) := ⟨_, _, rfl⟩
  have hs2 : s2.length ≤ 1048584 := by have := sealB_len [xs].flatten; rw [he2] at this; exact this
  refine wl_call ok_crc_Seal (seal_any (RdBB.only o5.rd (ar_head a1) rfl (by omega)) rfl (by simp) (by simp; omega) (by simp only [maxLen]; simp)) ⟨rfl, trivial⟩ rfl ?_
  rw [he2]
  rintro _ w6 ⟨A6, c6, rfl, n6, hb6⟩
  dsimp only at n6 ⊢
  have u6 : Own1 w6 w.heap.size [_, _, _, _] := u4.add 1 hb6 n6.hd (by omega) hb.size
  (try replace r1 := RdB.below r1 hb6); (try replace r2 := RdB.below r2 hb6); (try replace u0 := Own1.bel u0 hb6); (try replace a1 := Ar.bel a1 hb6); (try replace u1 := Own1.bel u1 hb6); (try replace a2 := Ar.bel a2 hb6); (try replace u2 := Own1.bel u2 hb6); (try replace o3 := OwB.below o3 hb6); (try replace n4 := NwB.below n4 hb6); (try replace u4 := Own1.bel u4 hb6); (try replace r4 := RdB.below r4 hb6); (try replace o5 := OwB.below o5 hb6); (try replace n6 := NwB.below n6 hb6); (try replace u6 := Own1.bel u6 hb6)
  replace hb := hb.trans (hb6.mono hb.size)
  have k6 := n6.cap
  have r6 := n6.rd
  clear n6 hb6 hb5 u4 o5
  refine wl_mv rfl rfl ?_; apply wl_val; apply opv_extract; exact rfl; exact rfl; exact rfl; apply wl_val; apply opv_extract; exact rfl; exact rfl; exact rfl; refine wl_as rfl rfl ?_; refine wl_as rfl rfl ?_; refine wl_ns ?_; refine wc_sr ?_; refine wl_mv rfl rfl ?_
  refine wl_call ok_caissonref01_Spare (spare_any r4 rfl (by omega)) ⟨rfl, trivial⟩ rfl ?_
  rintro _ w7 ⟨g7, rfl, hg7, a7, hb7⟩
  have hw7 : w.heap.size ≤ g7 := Nat.le_trans hb.size hg7
  have h17 : g1 < g7 := Nat.lt_of_lt_of_le a1.lt hg7
  have h27 : g2 < g7 := Nat.lt_of_lt_of_le a2.lt hg7
  have u7 : Own1 w7 w.heap.size [_, _, _, _, _] := u6.add 4 hb7 (ar_hd (n := s1.length + 40) (c := s1.length + 40) a7 hg7 (Nat.le_refl _) (by rw [spareL_length]; omega)) (by omega) hb.size
  (try replace r1 := RdB.below r1 hb7); (try replace r2 := RdB.below r2 hb7); (try replace u0 := Own1.bel u0 hb7); (try replace a1 := Ar.bel a1 hb7); (try replace u1 := Own1.bel u1 hb7); (try replace a2 := Ar.bel a2 hb7); (try replace u2 := Own1.bel u2 hb7); (try replace o3 := OwB.below o3 hb7); (try replace n4 := NwB.below n4 hb7); (try replace u4 := Own1.bel u4 hb7); (try replace r4 := RdB.below r4 hb7); (try replace o5 := OwB.below o5 hb7); (try replace n6 := NwB.below n6 hb7); (try replace u6 := Own1.bel u6 hb7); (try replace r6 := RdB.below r6 hb7); (try replace a7 := Ar.bel a7 hb7); (try replace u7 := Own1.bel u7 hb7)
  replace hb := hb.trans (hb7.mono hb.size)
  clear hb7 u6
  refine wl_mv rfl rfl ?_; apply wl_val; apply opv_extract; exact rfl; exact rfl; exact rfl; apply wl_val; apply opv_extract; exact rfl; exact rfl; exact rfl; refine wl_as rfl rfl ?_; refine wl_as rfl rfl ?_; refine wl_ns ?_; refine wc_sr ?_; refine wl_mv rfl rfl ?_
  obtain ⟨z, q, e, hz⟩ : ∃ z q e, openB s1 0 = (z, q, e) := ⟨_, _, _, rfl⟩
  have hzl : z.length ≤ 1048576 := by
    by_cases he : e = 0
    · subst he; exact (openB_inv (q := 0) (by omega) hz).2.2
    · rw [(openB_err' hz he).1]; simp
  have a7' := ar_head a7
  refine wl_call ok_crc_Open (open_at' hz a7' rfl (by omega) (by omega)) ⟨rfl, rfl, trivial⟩ rfl ?_
  rintro _ w8 ⟨A8, c8, rfl, o8, hb8⟩
  dsimp only at o8 ⊢
  have u8 : Own1 w8 w.heap.size [_, _, _, _, _, _] := u7.add 2 hb8 o8.nw.hd (by omega) hb.size
  clear a7'
  (try replace r1 := RdB.below r1 hb8); (try replace r2 := RdB.below r2 hb8); (try replace u0 := Own1.bel u0 hb8); (try replace a1 := Ar.bel a1 hb8); (try replace u1 := Own1.bel u1 hb8); (try replace a2 := Ar.bel a2 hb8); (try replace u2 := Own1.bel u2 hb8); (try replace o3 := OwB.below o3 hb8); (try replace n4 := NwB.below n4 hb8); (try replace u4 := Own1.bel u4 hb8); (try replace r4 := RdB.below r4 hb8); (try replace o5 := OwB.below o5 hb8); (try replace n6 := NwB.below n6 hb8); (try replace u6 := Own1.bel u6 hb8); (try replace r6 := RdB.below r6 hb8); (try replace a7 := Ar.bel a7 hb8); (try replace u7 := Own1.bel u7 hb8); (try replace o8 := OwB.below o8 hb8); (try replace u8 := Own1.bel u8 hb8)
  replace hb := hb.trans (hb8.mono hb.size)
  have r8 := o8.rd
  have k8 := o8.cap
  clear hb8 u7 o8
  refine wl_mv rfl rfl ?_; apply wl_val; apply opv_extract; exact rfl; exact rfl; exact rfl; apply wl_val; apply opv_extract; exact rfl; exact rfl; exact rfl; apply wl_val; apply opv_extract; exact rfl; exact rfl; exact rfl; refine wl_as rfl rfl ?_; refine wl_as rfl rfl ?_; refine wl_as rfl rfl ?_; refine wl_ns ?_; refine wc_sr ?_; refine wl_mv rfl rfl ?_
  obtain ⟨l, q9, hv⟩ : ∃ l q, openAll s1 = (l, q) := ⟨_, _, rfl⟩
  have hsz := openAllF_size s1.length s1 0 [] (by omega) (by simp)
  rw [show openAllF s1.length s1 0 [] = (l, q9) from hv] at hsz
  dsimp only at hsz
  refine wl_call ok_crc_OpenAll (openAll_at' hv (ar_head a7) rfl (by omega) (by omega)) ⟨rfl, trivial⟩ rfl ?_
  rintro _ w9 ⟨A9, c9, rfl, O9, hb9⟩
  dsimp only at O9 ⊢
  obtain ⟨vs, o9, v9, q9⟩ := O9.own (by omega)
  have u9 := u8.ins (l1 := [_, _, _]) (l2 := [_, _, _]) hb9 q9 hb.size
  (try replace r1 := RdB.below r1 hb9); (try replace r2 := RdB.below r2 hb9); (try replace u0 := Own1.bel u0 hb9); (try replace a1 := Ar.bel a1 hb9); (try replace u1 := Own1.bel u1 hb9); (try replace a2 := Ar.bel a2 hb9); (try replace u2 := Own1.bel u2 hb9); (try replace o3 := OwB.below o3 hb9); (try replace n4 := NwB.below n4 hb9); (try replace u4 := Own1.bel u4 hb9); (try replace r4 := RdB.below r4 hb9); (try replace o5 := OwB.below o5 hb9); (try replace n6 := NwB.below n6 hb9); (try replace u6 := Own1.bel u6 hb9); (try replace r6 := RdB.below r6 hb9); (try replace a7 := Ar.bel a7 hb9); (try replace u7 := Own1.bel u7 hb9); (try replace o8 := OwB.below o8 hb9); (try replace u8 := Own1.bel u8 hb9); (try replace r8 := RdB.below r8 hb9); (try replace O9 := OwBB.below O9 hb9); (try replace o9 := OwB.below o9 hb9); (try replace u9 := Own1.bel u9 hb9)
  replace hb := hb.trans (hb9.mono hb.size)
  clear hb9 u8
  refine wl_mv rfl rfl ?_; apply wl_val; apply opv_extract; exact rfl; exact rfl; exact rfl; apply wl_val; apply opv_extract; exact rfl; exact rfl; exact rfl; refine wl_as rfl rfl ?_; refine wl_as rfl rfl ?_; refine wl_ns ?_; refine wc_sr ?_; refine wl_mv rfl rfl ?_; refine wl_mv rfl rfl ?_
  refine wl_bs (vs := [_, _]) tyBB ⟨rfl, rfl, rfl, rfl, rfl, rfl, trivial⟩ rfl (by decide) rfl fun A10 w10 o10 hb10 _ => ?_
  replace v9 := v9.bel hb10
  replace o9 := Ow.below o9 hb10 (Nat.le_refl _)
  (try replace r1 := RdB.below r1 hb10); (try replace r2 := RdB.below r2 hb10); (try replace u0 := Own1.bel u0 hb10); (try replace a1 := Ar.bel a1 hb10); (try replace u1 := Own1.bel u1 hb10); (try replace a2 := Ar.bel a2 hb10); (try replace u2 := Own1.bel u2 hb10); (try replace o3 := OwB.below o3 hb10); (try replace n4 := NwB.below n4 hb10); (try replace u4 := Own1.bel u4 hb10); (try replace r4 := RdB.below r4 hb10); (try replace o5 := OwB.below o5 hb10); (try replace n6 := NwB.below n6 hb10); (try replace u6 := Own1.bel u6 hb10); (try replace r6 := RdB.below r6 hb10); (try replace a7 := Ar.bel a7 hb10); (try replace u7 := Own1.bel u7 hb10); (try replace o8 := OwB.below o8 hb10); (try replace u8 := Own1.bel u8 hb10); (try replace r8 := RdB.below r8 hb10); (try replace O9 := OwBB.below O9 hb10); (try replace o9 := OwB.below o9 hb10); (try replace u9 := Own1.bel u9 hb10); (try replace o10 := OwB.below o10 hb10)
  replace hb := hb.trans (hb10.mono hb.size)
  refine wl_call ok_crc_Sum (sum_any (RdBB.two' o10.rd (ar_head a1) rfl (by omega) (ar_head a2) rfl (by omega)) rfl (by simp [maxLen]; omega) (by simp [maxLen])) ⟨rfl, trivial⟩ rfl ?_
  rintro _ w11 ⟨rfl, hb11⟩
  replace v9 := v9.bel hb11
  replace o9 := Ow.below o9 hb11 (Nat.le_refl _)
  (try replace r1 := RdB.below r1 hb11); (try replace r2 := RdB.below r2 hb11); (try replace u0 := Own1.bel u0 hb11); (try replace a1 := Ar.bel a1 hb11); (try replace u1 := Own1.bel u1 hb11); (try replace a2 := Ar.bel a2 hb11); (try replace u2 := Own1.bel u2 hb11); (try replace o3 := OwB.below o3 hb11); (try replace n4 := NwB.below n4 hb11); (try replace u4 := Own1.bel u4 hb11); (try replace r4 := RdB.below r4 hb11); (try replace o5 := OwB.below o5 hb11); (try replace n6 := NwB.below n6 hb11); (try replace u6 := Own1.bel u6 hb11); (try replace r6 := RdB.below r6 hb11); (try replace a7 := Ar.bel a7 hb11); (try replace u7 := Own1.bel u7 hb11); (try replace o8 := OwB.below o8 hb11); (try replace u8 := Own1.bel u8 hb11); (try replace r8 := RdB.below r8 hb11); (try replace O9 := OwBB.below O9 hb11); (try replace o9 := OwB.below o9 hb11); (try replace u9 := Own1.bel u9 hb11); (try replace o10 := OwB.below o10 hb11)
  have m1 := a1.lt
  have m2 := a2.lt
  have m7 := a7.lt
  replace hb := hb.trans (hb11.mono hb.size)
  clear hb10 hb11 o10
  refine wl_ns ?_; refine wc_sr ?_; refine wl_mv rfl rfl ?_; refine wl_mv rfl rfl ?_; refine wl_mv rfl rfl ?_
  refine wl_bs (vs := [_, _, _]) tyBB ⟨rfl, rfl, rfl, rfl, rfl, rfl, rfl, rfl, rfl, trivial⟩ rfl (by decide) rfl fun A12 w12 o12 hb12 _ => ?_
  have hll : l.length ≤ 1048584 := by omega
  refine wl_mv rfl rfl ?_
  refine wl_app (n := 3) tyBB rfl o12 rfl (Ow.below o9 hb12 (Nat.le_refl _)).rd q9.slices (by omega) (by simp only [maxLen]; omega) (by have := hb12.size; omega) rfl fun A13 c13 w13 o13 g13 _ => ?_
  have hb13 := g13.below hb12 o12 (Nat.le_refl _) hb12.size
  have q13 := hb13.size
  replace v9 := v9.bel hb13
  (try replace r1 := RdB.below r1 hb13); (try replace r2 := RdB.below r2 hb13); (try replace u0 := Own1.bel u0 hb13); (try replace a1 := Ar.bel a1 hb13); (try replace u1 := Own1.bel u1 hb13); (try replace a2 := Ar.bel a2 hb13); (try replace u2 := Own1.bel u2 hb13); (try replace o3 := OwB.below o3 hb13); (try replace n4 := NwB.below n4 hb13); (try replace u4 := Own1.bel u4 hb13); (try replace r4 := RdB.below r4 hb13); (try replace o5 := OwB.below o5 hb13); (try replace n6 := NwB.below n6 hb13); (try replace u6 := Own1.bel u6 hb13); (try replace r6 := RdB.below r6 hb13); (try replace a7 := Ar.bel a7 hb13); (try replace u7 := Own1.bel u7 hb13); (try replace o8 := OwB.below o8 hb13); (try replace u8 := Own1.bel u8 hb13); (try replace r8 := RdB.below r8 hb13); (try replace O9 := OwBB.below O9 hb13); (try replace o9 := OwB.below o9 hb13); (try replace u9 := Own1.bel u9 hb13); (try replace o10 := OwB.below o10 hb13); (try replace o12 := OwB.below o12 hb13); (try replace o13 := OwB.below o13 hb13)
  replace hb := hb.trans (hb13.mono hb.size)
  clear o9 O9 q9 hb13 hb12 g13 o12
  have V := RdV.cons (RdV.cons (RdV.cons v9 r8 rfl k8) r6 rfl k6) r4 rfl k4
  have hfl : (s1 :: s2 :: z :: l).flatten.length ≤ 8388608 := by simp only [List.flatten_cons, List.length_append]; omega
  have hrl : (s1 :: s2 :: z :: l).length = 3 + l.length := by simp only [List.length_cons]; omega
  obtain ⟨rows, hrows⟩ : ∃ rows, s1 :: s2 :: z :: l = rows := ⟨_, rfl⟩
  rw [hrows] at V hfl hrl
  clear v9 hrows r8 r6
  rw [← List.append_assoc] at u9
  replace V : RdV w13 ([.slice A4 s1.length c4, .slice A6 s2.length c6, .slice A8 z.length c8] ++ vs) rows := V
  generalize [Value.slice A4 s1.length c4, .slice A6 s2.length c6, .slice A8 z.length c8] ++ vs = us at V o13 u9
  rw [← hrl] at o13 ⊢
  refine wl_as rfl rfl ?_; refine wl_ns ?_; refine wc_sr ?_; refine wl_mv rfl rfl ?_
  refine wl_call ok_caissonref01_Copies (copies_any (V.rd o13.rd rfl) rfl (by omega) (by omega)) ⟨rfl, trivial⟩ rfl ?_
  rintro _ w14 ⟨A14, c14, rfl, O14, hb14⟩
  have F1 : Fin w14 w.heap.size us _ rows _ _ _ _ _ _ _ := ⟨u9.bel hb14, V.bel hb14, Ow.below o13 hb14 (Nat.le_refl _), O14⟩
  have q14 := hb14.size
  (try replace r1 := RdB.below r1 hb14); (try replace r2 := RdB.below r2 hb14); (try replace u0 := Own1.bel u0 hb14); (try replace a1 := Ar.bel a1 hb14); (try replace u1 := Own1.bel u1 hb14); (try replace a2 := Ar.bel a2 hb14); (try replace u2 := Own1.bel u2 hb14); (try replace o3 := OwB.below o3 hb14); (try replace n4 := NwB.below n4 hb14); (try replace u4 := Own1.bel u4 hb14); (try replace r4 := RdB.below r4 hb14); (try replace o5 := OwB.below o5 hb14); (try replace n6 := NwB.below n6 hb14); (try replace u6 := Own1.bel u6 hb14); (try replace r6 := RdB.below r6 hb14); (try replace a7 := Ar.bel a7 hb14); (try replace u7 := Own1.bel u7 hb14); (try replace o8 := OwB.below o8 hb14); (try replace u8 := Own1.bel u8 hb14); (try replace r8 := RdB.below r8 hb14); (try replace O9 := OwBB.below O9 hb14); (try replace o9 := OwB.below o9 hb14); (try replace u9 := Own1.bel u9 hb14); (try replace o10 := OwB.below o10 hb14); (try replace o12 := OwB.below o12 hb14); (try replace o13 := OwB.below o13 hb14); (try replace O14 := OwBB.below O14 hb14); (try replace F1 := Fin.bel F1 hb14)
  replace hb := hb.trans (hb14.mono hb.size)
  clear u9 V o13 O14 hb14
  refine wl_as rfl rfl ?_; refine wl_ns ?_; refine wc_seq ?_; refine wc_sr ?_; refine wl_mv rfl rfl ?_; refine wl_mv rfl rfl ?_
  refine wl_call ok_caissonref01_Kept (kept_yes (ar_full a1) r1 rfl rfl (by omega)) ⟨rfl, rfl, trivial⟩ rfl ?_
  rintro _ w15 ⟨rfl, hb15⟩
  (try replace r1 := RdB.below r1 hb15); (try replace r2 := RdB.below r2 hb15); (try replace u0 := Own1.bel u0 hb15); (try replace a1 := Ar.bel a1 hb15); (try replace u1 := Own1.bel u1 hb15); (try replace a2 := Ar.bel a2 hb15); (try replace u2 := Own1.bel u2 hb15); (try replace o3 := OwB.below o3 hb15); (try replace n4 := NwB.below n4 hb15); (try replace u4 := Own1.bel u4 hb15); (try replace r4 := RdB.below r4 hb15); (try replace o5 := OwB.below o5 hb15); (try replace n6 := NwB.below n6 hb15); (try replace u6 := Own1.bel u6 hb15); (try replace r6 := RdB.below r6 hb15); (try replace a7 := Ar.bel a7 hb15); (try replace u7 := Own1.bel u7 hb15); (try replace o8 := OwB.below o8 hb15); (try replace u8 := Own1.bel u8 hb15); (try replace r8 := RdB.below r8 hb15); (try replace O9 := OwBB.below O9 hb15); (try replace o9 := OwB.below o9 hb15); (try replace u9 := Own1.bel u9 hb15); (try replace o10 := OwB.below o10 hb15); (try replace o12 := OwB.below o12 hb15); (try replace o13 := OwB.below o13 hb15); (try replace O14 := OwBB.below O14 hb15); (try replace F1 := Fin.bel F1 hb15)
  replace hb := hb.trans (hb15.mono hb.size)
  apply wl_val; apply opv_not; exact rfl; exact rfl; refine wl_mv rfl rfl ?_; apply wl_take; exact rfl; exact rfl; exact rfl; exact rfl; refine wl_mv rfl rfl ?_; apply wl_take; exact rfl; exact rfl; exact rfl; exact rfl; refine wl_mv rfl rfl ?_; apply wl_take; exact rfl; exact rfl; exact rfl; exact rfl
  refine wl_call ok_caissonref01_Kept (kept_yes (ar_full a2) r2 rfl rfl (by omega)) ⟨rfl, rfl, trivial⟩ rfl ?_
  rintro _ w16 ⟨rfl, hb16⟩
  (try replace r1 := RdB.below r1 hb16); (try replace r2 := RdB.below r2 hb16); (try replace u0 := Own1.bel u0 hb16); (try replace a1 := Ar.bel a1 hb16); (try replace u1 := Own1.bel u1 hb16); (try replace a2 := Ar.bel a2 hb16); (try replace u2 := Own1.bel u2 hb16); (try replace o3 := OwB.below o3 hb16); (try replace n4 := NwB.below n4 hb16); (try replace u4 := Own1.bel u4 hb16); (try replace r4 := RdB.below r4 hb16); (try replace o5 := OwB.below o5 hb16); (try replace n6 := NwB.below n6 hb16); (try replace u6 := Own1.bel u6 hb16); (try replace r6 := RdB.below r6 hb16); (try replace a7 := Ar.bel a7 hb16); (try replace u7 := Own1.bel u7 hb16); (try replace o8 := OwB.below o8 hb16); (try replace u8 := Own1.bel u8 hb16); (try replace r8 := RdB.below r8 hb16); (try replace O9 := OwBB.below O9 hb16); (try replace o9 := OwB.below o9 hb16); (try replace u9 := Own1.bel u9 hb16); (try replace o10 := OwB.below o10 hb16); (try replace o12 := OwB.below o12 hb16); (try replace o13 := OwB.below o13 hb16); (try replace O14 := OwBB.below O14 hb16); (try replace F1 := Fin.bel F1 hb16)
  replace hb := hb.trans (hb16.mono hb.size)
  apply wl_take; exact rfl; exact rfl; exact rfl; exact rfl; apply wl_val; apply opv_not; exact rfl; exact rfl; apply wl_val; apply opv_pickF; exact rfl; exact rfl; exact rfl; exact rfl; refine wl_mv rfl rfl ?_; apply wl_take; exact rfl; exact rfl; exact rfl; exact rfl; refine wl_mv rfl rfl ?_; apply wl_take; exact rfl; exact rfl; exact rfl; exact rfl; refine wl_mv rfl rfl ?_; apply wl_take; exact rfl; exact rfl; exact rfl; exact rfl
  refine wl_call ok_caissonref01_Kept (kept_yes (ar_full a7) r4 rfl rfl (by omega)) ⟨rfl, rfl, trivial⟩ rfl ?_
  rintro _ w17 ⟨rfl, hb17⟩
  (try replace r1 := RdB.below r1 hb17); (try replace r2 := RdB.below r2 hb17); (try replace u0 := Own1.bel u0 hb17); (try replace a1 := Ar.bel a1 hb17); (try replace u1 := Own1.bel u1 hb17); (try replace a2 := Ar.bel a2 hb17); (try replace u2 := Own1.bel u2 hb17); (try replace o3 := OwB.below o3 hb17); (try replace n4 := NwB.below n4 hb17); (try replace u4 := Own1.bel u4 hb17); (try replace r4 := RdB.below r4 hb17); (try replace o5 := OwB.below o5 hb17); (try replace n6 := NwB.below n6 hb17); (try replace u6 := Own1.bel u6 hb17); (try replace r6 := RdB.below r6 hb17); (try replace a7 := Ar.bel a7 hb17); (try replace u7 := Own1.bel u7 hb17); (try replace o8 := OwB.below o8 hb17); (try replace u8 := Own1.bel u8 hb17); (try replace r8 := RdB.below r8 hb17); (try replace O9 := OwBB.below O9 hb17); (try replace o9 := OwB.below o9 hb17); (try replace u9 := Own1.bel u9 hb17); (try replace o10 := OwB.below o10 hb17); (try replace o12 := OwB.below o12 hb17); (try replace o13 := OwB.below o13 hb17); (try replace O14 := OwBB.below O14 hb17); (try replace F1 := Fin.bel F1 hb17)
  replace hb := hb.trans (hb17.mono hb.size)
  have hq17 : w11.heap.size ≤ w17.heap.size := by have := hb15.size; have := hb16.size; have := hb17.size; omega
  clear hb15 hb16 hb17 r1 r2 r4
  apply wl_take; exact rfl; exact rfl; exact rfl; exact rfl; apply wl_val; apply opv_not; exact rfl; exact rfl; apply wl_val; apply opv_pickF; exact rfl; exact rfl; exact rfl; exact rfl; refine wl_ns ?_
  refine wc_condF rfl ?_
  refine wc_skip ?_; refine we_seq ?_; refine wc_sr ?_; refine wl_mv rfl rfl ?_
  refine wl_call ok_caissonref01_Over (over_any a1 (by rw [spareL_length]; omega) (by rw [spareL_length]; omega)) ⟨rfl, trivial⟩ rfl ?_
  rintro _ w18 ⟨x1, hx1, b1, g18⟩
  rw [spareL_length] at hx1
  replace F1 := F1.over (v := .slice (some ⟨g1, 0, none⟩) (xs.length + 40) (xs.length + 40)) g18 a1 b1 (by rw [bvs_length, bvs_length, spareL_length, hx1]) (by simp) rfl m1 (by omega)
  replace a2 := a2.gr g18 (by omega)
  replace a7 := a7.gr g18 (by omega)
  replace hb := g18.belowA hb hw1 hb.size
  refine wl_ns ?_; refine wc_sr ?_; refine wl_mv rfl rfl ?_
  refine wl_call ok_caissonref01_Over (over_any a2 (by rw [spareL_length]; omega) (by rw [spareL_length]; omega)) ⟨rfl, trivial⟩ rfl ?_
  rintro _ w19 ⟨x2, hx2, b2, g19⟩
  rw [spareL_length] at hx2
  replace F1 := F1.over (v := .slice (some ⟨g2, 0, none⟩) (ys.length + 40) (ys.length + 40)) g19 a2 b2 (by rw [bvs_length, bvs_length, spareL_length, hx2]) (by simp) rfl m2 (by omega)
  replace a7 := a7.gr g19 (by omega)
  replace hb := g19.belowA hb hw2 hb.size
  refine wl_ns ?_; refine wc_sr ?_; refine wl_mv rfl rfl ?_
  refine wl_call ok_caissonref01_Over (over_any a7 (by rw [spareL_length]; omega) (by rw [spareL_length]; omega)) ⟨rfl, trivial⟩ rfl ?_
  rintro _ w20 ⟨x7, hx7, b7, g20⟩
  rw [spareL_length] at hx7
  replace F1 := F1.over (v := .slice (some ⟨g7, 0, none⟩) (s1.length + 40) (s1.length + 40)) g20 a7 b7 (by rw [bvs_length, bvs_length, spareL_length, hx7]) (by simp) rfl m7 (by omega)
  replace hb := g20.belowA hb hw7 hb.size
  clear a1 a2 a7 b1 b2 b7
  refine wl_ns ?_; refine wc_sr ?_; refine wl_mv rfl rfl ?_; refine wl_mv rfl rfl ?_
  refine wl_call ok_caissonref01_Equals (equals_yes rfl (F1.2.1.rd F1.2.2.1.rd rfl) F1.2.2.2.rd rfl rfl (by simp only [maxLen]; omega) (by simp only [maxLen]; omega)) ⟨rfl, rfl, trivial⟩ rfl ?_
  rintro _ w21 ⟨rfl, hb21⟩
  (try replace r1 := RdB.below r1 hb21); (try replace r2 := RdB.below r2 hb21); (try replace u0 := Own1.bel u0 hb21); (try replace a1 := Ar.bel a1 hb21); (try replace u1 := Own1.bel u1 hb21); (try replace a2 := Ar.bel a2 hb21); (try replace u2 := Own1.bel u2 hb21); (try replace o3 := OwB.below o3 hb21); (try replace n4 := NwB.below n4 hb21); (try replace u4 := Own1.bel u4 hb21); (try replace r4 := RdB.below r4 hb21); (try replace o5 := OwB.below o5 hb21); (try replace n6 := NwB.below n6 hb21); (try replace u6 := Own1.bel u6 hb21); (try replace r6 := RdB.below r6 hb21); (try replace a7 := Ar.bel a7 hb21); (try replace u7 := Own1.bel u7 hb21); (try replace o8 := OwB.below o8 hb21); (try replace u8 := Own1.bel u8 hb21); (try replace r8 := RdB.below r8 hb21); (try replace O9 := OwBB.below O9 hb21); (try replace o9 := OwB.below o9 hb21); (try replace u9 := Own1.bel u9 hb21); (try replace o10 := OwB.below o10 hb21); (try replace o12 := OwB.below o12 hb21); (try replace o13 := OwB.below o13 hb21); (try replace O14 := OwBB.below O14 hb21); (try replace F1 := Fin.bel F1 hb21)
  replace hb := hb.trans (hb21.mono hb.size)
  refine wl_mv rfl rfl ?_; apply wl_take; exact rfl; exact rfl; exact rfl; exact rfl; refine wl_mv rfl rfl ?_; apply wl_take; exact rfl; exact rfl; exact rfl; exact rfl; refine wl_mv rfl rfl ?_; apply wl_take; exact rfl; exact rfl; exact rfl; exact rfl; refine wl_mv rfl rfl ?_; apply wl_take; exact rfl; exact rfl; exact rfl; exact rfl; refine wl_mv rfl rfl ?_; apply wl_take; exact rfl; exact rfl; exact rfl; exact rfl
  have q22 : w11.heap.size ≤ w21.heap.size := by have := (Ow.lt F1.2.2.1); have := hb21.size; have := g20.size; have := g19.size; have := g18.size; have := hq17; omega
  refine wl_bs (vs := [_, _, _]) tyBB ⟨rfl, rfl, rfl, rfl, rfl, rfl, rfl, rfl, rfl, trivial⟩ rfl (by decide) rfl fun A21 w22' o21 hb22' _ => ?_
  have q22' := hb22'.size
  apply wl_take; exact rfl; exact rfl; exact rfl; exact rfl
  refine wl_app (n := rows.length) tyBB rfl (Ow.below F1.2.2.1 hb22' (Nat.le_refl _)) rfl o21.rd (by simp [Value.oneCell']) (by omega) (by simp only [maxLen]; omega) (by omega) rfl fun A22 c22 w22 o22 g22' _ => ?_
  have g22 := (Gr.of_below A13 hb22' (Nat.le_refl _)).trans g22'
  have u22 := F1.1.row F1.2.2.1 g22
  have hb22 := g22.below hb F1.2.2.1 (by omega) hb.size
  apply wl_take; exact rfl; exact rfl; exact rfl; exact rfl
  refine wl_call ok_caissonref01_Apart (apart_any o22.rd (u22.row_ne o22) u22 hb22.size (by omega)) ⟨rfl, trivial⟩ rfl ?_
  rintro _ w23 ⟨rfl, hb23⟩
  apply wl_val; apply opv_pickT; exact rfl; exact rfl; exact rfl; exact rfl; refine wl_as rfl rfl ?_; refine wl_ns ?_; refine wc_ret ?_
  exact we_ret1 rfl rfl ⟨_, rfl, rfl, hb22.trans hb23⟩
end Go.Proofs.Ytdppekhnahnjjaa
