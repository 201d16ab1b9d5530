
/-
  Walks over the keys of texts, and the law TextKeys.
-/
import Derived.Test.YtcjiecclmepboaaFq
import Derived.Test.YtcjiecclmepboaaPc
import Derived.Test.YtcjiecclmepboaaWc
import Derived.Test.YtcjiecclmepboaaWe
import Derived.Test.YtcjiecclmepboaaWf
import Derived.Test.YtcjiecclmepboaaWa
namespace Go.Proofs.Ytcjiecclmepboaa
open Go.RowKit

/-- The key of a text. -/
def keyB (l : List UInt8) : List UInt8 := ordText (foldB l) ++ ordText l
theorem ordText_length (l : List UInt8) : (ordText l).length ≤ 2 * l.length + 2 := by
  have := esc_length l
  simp [ordText]; omega
theorem keyB_length (l : List UInt8) : (keyB l).length ≤ 10 * l.length + 4 := by
  have h1 := ordText_length (foldB l)
  have h2 := ordText_length l
  have h3 := foldB_length l
  rw [keyB, List.length_append]; omega
theorem key_any {l : List UInt8} (hl : l.length ≤ 68719476736) (w : World) : CallsV Try.prog 19 #[str l] w (RetB w (keyB l)) := by
  have hf := foldB_length l
  have h1 := ordText_length (foldB l)
  have h2 := ordText_length l
  have hb := Below.refl w.heap.size w
  refine calls_in (N := _) Try.func19 rfl Try.ntmps19 rfl ?_; show WC _ _ _ _ _ _
  refine wc_sr ?_; refine wl_as rfl rfl ?_; refine wl_ns ?_; refine wc_sr ?_; refine wl_mv rfl rfl ?_
  refine wl_call ok_text_Fold (fold_any (l := l) (by omega) w) ⟨rfl, trivial⟩ rfl ?_
  rintro _ w1 ⟨rfl, hbx⟩

  replace hb := hb.trans (hbx.mono hb.size)
  refine wl_toBytes tyStr Try.underlying30 Try.underlying5 rfl rfl fun A2 c2 w2 r2 hc2 hb2 => ?_
  replace hb := hb.trans (hb2.mono hb.size)
  refine wl_call ok_codec_OrdText (ordText_any r2 rfl (by omega)) ⟨rfl, trivial⟩ rfl ?_
  rintro _ w3 ⟨A3, c3, rfl, o3, hb3⟩
  have hs3 : w.heap.size ≤ w2.heap.size := hb.size
  replace hb := hb.trans (hb3.mono hb.size)
  refine wl_mv rfl rfl ?_
  refine wl_toBytes tyStr Try.underlying30 Try.underlying5 rfl rfl fun A4 c4 w4 r4 hc4 hb4 => ?_
  replace o3 := OwB.below o3 hb4
  replace hb := hb.trans (hb4.mono hb.size)
  refine wl_call ok_codec_OrdText (ordText_any r4 rfl (by omega)) ⟨rfl, trivial⟩ rfl ?_
  rintro _ w5 ⟨A5, c5, rfl, o5, hb5⟩
  replace o3 := OwB.below o3 hb5
  replace hb := hb.trans (hb5.mono hb.size)
  have hs5 : w2.heap.size ≤ w5.heap.size := by have := hb3.size; have := hb4.size; have := hb5.size; omega
  refine wl_app tyB rfl o3 rfl o5.rd (bvs_one _) (by omega) (by simp only [maxLen]; omega) hs5 rfl fun A6 c6 w6 o6 g6 _ => ?_
  have hb6 := g6.below hb o3 hs3 hb.size
  refine wl_as rfl rfl ?_; refine wl_ns ?_; refine wc_ret ?_
  refine we_ret1 rfl rfl ⟨_, rfl, A6, c6, ?_, Ow.mono (OwB.app o6) hs3, hb6⟩
  rw [← List.length_append]; rfl
theorem refKey_any {l : List UInt8} (hl : l.length ≤ 68719476736) (w : World) : CallsV Try.prog 22 #[str l] w (RetB w (keyB l)) := by
  have hf := foldB_length l
  have h1 := ordText_length (foldB l)
  have h2 := ordText_length l
  have hb := Below.refl w.heap.size w
  refine calls_in (N := _) Try.func22 rfl Try.ntmps22 rfl ?_; show WC _ _ _ _ _ _
  refine wc_sr ?_; refine wl_as rfl rfl ?_; refine wl_ns ?_; refine wc_sr ?_; refine wl_mv rfl rfl ?_
  refine wl_call ok_caissonref02_Fold (refFold_any (l := l) (by omega) w) ⟨rfl, trivial⟩ rfl ?_
  rintro _ w1 ⟨rfl, hbx⟩
  replace hb := hb.trans (hbx.mono hb.size)
  refine wl_toBytes tyStr Try.underlying30 Try.underlying5 rfl rfl fun A2 c2 w2 r2 hc2 hb2 => ?_
  replace hb := hb.trans (hb2.mono hb.size)
  refine wl_call ok_caissonref01_OrdText (refOrdText_any r2 rfl (by omega)) ⟨rfl, trivial⟩ rfl ?_
  rintro _ w3 ⟨A3, c3, rfl, o3, hb3⟩
  have hs3 : w.heap.size ≤ w2.heap.size := hb.size
  replace hb := hb.trans (hb3.mono hb.size)
  refine wl_mv rfl rfl ?_
  refine wl_toBytes tyStr Try.underlying30 Try.underlying5 rfl rfl fun A4 c4 w4 r4 hc4 hb4 => ?_
  replace o3 := OwB.below o3 hb4
  replace hb := hb.trans (hb4.mono hb.size)
  refine wl_call ok_caissonref01_OrdText (refOrdText_any r4 rfl (by omega)) ⟨rfl, trivial⟩ rfl ?_
  rintro _ w5 ⟨A5, c5, rfl, o5, hb5⟩
  replace o3 := OwB.below o3 hb5
  replace hb := hb.trans (hb5.mono hb.size)
  have hs5 : w2.heap.size ≤ w5.heap.size := by have := hb3.size; have := hb4.size; have := hb5.size; omega
  refine wl_app tyB rfl o3 rfl o5.rd (bvs_one _) (by omega) (by simp only [maxLen]; omega) hs5 rfl fun A6 c6 w6 o6 g6 _ => ?_
  have hb6 := g6.below hb o3 hs3 hb.size
  refine wl_as rfl rfl ?_; refine wl_ns ?_; refine wc_ret ?_
  refine we_ret1 rfl rfl ⟨_, rfl, A6, c6, ?_, Ow.mono (OwB.app o6) hs3, hb6⟩
  rw [← List.length_append]; rfl

/-- The text whose key begins at a place. -/
def fromKey (b : List UInt8) (p : Int) : List UInt8 × Int × Nat :=
  if (getOrd b p).2.2 = 0 then
    if (getOrd b (getOrd b p).2.1).2.2 = 0 then
      if foldB (getOrd b (getOrd b p).2.1).1 = (getOrd b p).1 then ((getOrd b (getOrd b p).2.1).1, (getOrd b (getOrd b p).2.1).2.1, 0) else ([], 0, 3)
    else ([], 0, (getOrd b (getOrd b p).2.1).2.2)
  else ([], 0, (getOrd b p).2.2)
theorem fromKey_1 {b x : List UInt8} {p n : Int} {e : Nat} (h : getOrd b p = (x, n, e)) (he : ¬ e = 0) : fromKey b p = ([], 0, e) := by simp [fromKey, h, he]
theorem fromKey_2 {b x y : List UInt8} {p n n2 : Int} {e : Nat} (h : getOrd b p = (x, n, 0)) (h2 : getOrd b n = (y, n2, e)) (he : ¬ e = 0) : fromKey b p = ([], 0, e) := by simp [fromKey, h, h2, he]
theorem fromKey_3 {b x y : List UInt8} {p n n2 : Int} (h : getOrd b p = (x, n, 0)) (h2 : getOrd b n = (y, n2, 0)) (he : ¬ foldB y = x) : fromKey b p = ([], 0, 3) := by simp [fromKey, h, h2, he]
theorem fromKey_4 {b x y : List UInt8} {p n n2 : Int} (h : getOrd b p = (x, n, 0)) (h2 : getOrd b n = (y, n2, 0)) (he : foldB y = x) : fromKey b p = (y, n2, 0) := by simp [fromKey, h, h2, he]
def RetK (w : World) (x : List UInt8 × Int × Nat) (v : Value) (w' : World) : Prop := v = .tuple #[str x.1, .int .i64 x.2.1, .int .i64 (x.2.2 : Int)] ∧ Below w.heap.size w w'
theorem fromKey_any {A : Option Addr} {n c : Nat} {xs : List UInt8} {p : Int} {w : World} (r1 : RdB w A xs) (hn : xs.length = n) (hl : xs.length ≤ 1099511627776) :
    CallsV Try.prog 20 #[.slice A n c, .int .i64 p] w (RetK w (fromKey xs p)) := by
  subst hn
  have hb := Below.refl w.heap.size w
  obtain ⟨x, n1, e1, h1⟩ : ∃ x n e, getOrd xs p = (x, n, e) := ⟨_, _, _, rfl⟩
  obtain ⟨y, n2, e2, h2⟩ : ∃ x n e, getOrd xs n1 = (x, n, e) := ⟨_, _, _, rfl⟩
  have hxl := getOrd_length h1
  have hyl := getOrd_length h2
  refine calls_in (N := _) Try.func20 rfl Try.ntmps20 rfl ?_; show WC _ _ _ _ _ _
  refine wc_sr ?_; refine wl_as rfl rfl ?_; refine wl_as rfl rfl ?_; refine wl_as rfl rfl ?_; refine wl_ns ?_; refine wc_sr ?_; refine wl_mv rfl rfl ?_; refine wl_mv rfl rfl ?_
  refine wl_call ok_codec_GetOrdText (getOrd_at h1 r1 rfl (by omega)) ⟨rfl, rfl, trivial⟩ rfl ?_
  rintro _ w1 ⟨A1, c1, rfl, o1, hbx⟩
  replace r1 := RdB.below r1 hbx
  replace hb := hb.trans (hbx.mono hb.size)
  refine wl_mv rfl rfl ?_; apply wl_val; apply opv_extract; exact rfl; exact rfl; exact rfl; apply wl_val; apply opv_extract; exact rfl; exact rfl; exact rfl; apply wl_val; apply opv_extract; exact rfl; exact rfl; exact rfl; refine wl_as rfl rfl ?_; refine wl_as rfl rfl ?_; refine wl_as rfl rfl ?_; refine wl_ns ?_; refine wc_seq ?_; refine wc_sr ?_; refine wl_mv rfl rfl ?_; refine wl_bin rfl rfl bin_neq rfl ?_; refine wl_ns ?_
  refine wc_cond rfl (fun he => ?_) (fun he => ?_)
  · refine wc_sr ?_; refine wl_mv rfl rfl ?_; refine wl_as rfl rfl ?_; refine wl_as rfl rfl ?_; refine wl_as rfl rfl ?_; refine wl_ns ?_; refine wc_ret ?_; refine we_seq_ret ?_
    exact we_ret3 rfl rfl rfl rfl ⟨_, rfl, by rw [fromKey_1 h1 (by omega)], hb⟩
  obtain rfl : e1 = 0 := by omega
  refine wc_skip ?_; refine we_seq ?_; refine wc_sr ?_; refine wl_mv rfl rfl ?_; refine wl_mv rfl rfl ?_
  refine wl_call ok_codec_GetOrdText (getOrd_at h2 r1 rfl (by omega)) ⟨rfl, rfl, trivial⟩ rfl ?_
  rintro _ w2 ⟨A2, c2, rfl, o2, hbx2⟩
  replace o1 := OwB.below o1 hbx2
  replace hb := hb.trans (hbx2.mono hb.size)
  refine wl_mv rfl rfl ?_; apply wl_val; apply opv_extract; exact rfl; exact rfl; exact rfl; apply wl_val; apply opv_extract; exact rfl; exact rfl; exact rfl; apply wl_val; apply opv_extract; exact rfl; exact rfl; exact rfl; refine wl_as rfl rfl ?_; refine wl_as rfl rfl ?_; refine wl_as rfl rfl ?_; refine wl_ns ?_; refine wc_seq ?_; refine wc_seq ?_
  by_cases he2 : e2 = 0
  · subst he2
    refine wc_heldB mixed fun w3 hS => ?_
    apply wh_take 0; exact rfl; kernel_rfl; kernel_rfl; kernel_rfl; exact hS; intro _ _; apply opv_move; exact rfl; exact rfl; apply wh_take 1; exact rfl; kernel_rfl; kernel_rfl; kernel_rfl; exact hS; intro _ _; apply opv_bin; exact rfl; exact rfl; exact bin_eql; exact rfl; apply wh_take 2; exact rfl; kernel_rfl; kernel_rfl; kernel_rfl; exact hS; intro _ _; apply opv_move; exact rfl; exact rfl; apply wh_takeG 3; exact rfl; kernel_rfl; kernel_rfl; kernel_rfl; exact hS; exact rfl; exact rfl; exact rfl; refine bT ?_; omega; intro _ _; apply opv_move; exact rfl; exact rfl; apply wh_takeG 6; exact rfl; kernel_rfl; kernel_rfl; kernel_rfl; exact hS; exact rfl; exact rfl; exact rfl; refine bT ?_; omega; intro _ _; apply opv_move; exact rfl; exact rfl
    refine wh_takeG 4 rfl (by kernel_rfl) (by kernel_rfl) (by kernel_rfl) hS rfl rfl rfl (bT rfl) (fun _ hw => opv_ofBytes Try.underlying30 Try.underlying5 tyStr rfl (o2.rd.below hw)) rfl ?_
    refine wh_takeG 7 rfl (by kernel_rfl) (by kernel_rfl) (by kernel_rfl) hS rfl rfl rfl (bT rfl) (fun _ hw => opv_ofBytes Try.underlying30 Try.underlying5 tyStr rfl (o1.rd.below hw)) rfl ?_
    refine wh_one 5 (o := ⟨_, _, _, _, _, _⟩) (by kernel_rfl) rfl ?_
    apply wl_take; exact rfl; exact rfl; exact rfl; refine bT ?_; omega
    refine wl_call ok_text_Fold (fold_any (l := y) (by omega) _) ⟨rfl, trivial⟩ rfl ?_
    rintro _ w4 ⟨rfl, hb4⟩
    have hS4 := hS.trans (hb4.mono hS.size)
    have o4 := OwB.below o2 hS4
    refine wl_nil ?_
    refine we_held hS4 ?_
    apply wh_takeG 8; exact rfl; kernel_rfl; kernel_rfl; kernel_rfl; exact hS4; exact rfl; exact rfl; exact rfl; refine bT ?_; omega; intro _ _; apply opv_bin; exact rfl; exact rfl; exact bin_neqS; exact rfl; apply wh_take 9; exact rfl; kernel_rfl; kernel_rfl; kernel_rfl; exact hS4; intro _ _; apply opv_pickT; exact rfl; refine bT ?_; omega; exact rfl; exact rfl
    refine wh_done (by kernel_rfl) ?_
    have hb5 := hb.trans (hS4.mono hb.size)
    by_cases hf : foldB y ≠ x
    · refine we_seq ?_; apply wc_decT; exact rfl; (with_reducible assumption); refine wc_region ?_; refine wl_as rfl rfl ?_; refine wl_ns ?_; refine wc_seq ?_; refine wc_sr ?_; refine wl_mv rfl rfl ?_; refine wl_bin rfl rfl bin_neq rfl ?_; refine wl_ns ?_; apply wc_decT; exact rfl; omega; refine wc_sr ?_; refine wl_mv rfl rfl ?_; refine wl_as rfl rfl ?_; refine wl_as rfl rfl ?_; refine wl_as rfl rfl ?_; refine wl_ns ?_; refine wc_ret ?_; refine we_seq_ret ?_
      exact we_ret3 rfl rfl rfl rfl ⟨_, rfl, by rw [fromKey_3 h1 h2 hf]; rfl, hb5⟩
    · refine we_seq ?_; apply wc_decF; exact rfl; (with_reducible assumption); refine wc_skip ?_; refine we_seq ?_; refine wc_seq ?_; refine wc_sr ?_; refine wl_mv rfl rfl ?_; refine wl_bin rfl rfl bin_neq rfl ?_; refine wl_ns ?_; apply wc_decF; exact rfl; (with_reducible assumption); refine wc_skip ?_; refine we_seq ?_; refine wc_sr ?_; refine wl_mv rfl rfl ?_
      refine wl_val (opv_ofBytes Try.underlying30 Try.underlying5 tyStr rfl (o4.rd)) rfl ?_
      refine wl_mv rfl rfl ?_; refine wl_mv rfl rfl ?_; refine wl_as rfl rfl ?_; refine wl_as rfl rfl ?_; refine wl_as rfl rfl ?_; refine wl_ns ?_; refine wc_ret ?_
      exact we_ret3 rfl rfl rfl rfl ⟨_, rfl, by rw [fromKey_4 h1 h2 (Decidable.not_not.1 hf)], hb5⟩
  · refine wc_heldB mixed fun w3 hS => ?_
    apply wh_take 0; exact rfl; kernel_rfl; kernel_rfl; kernel_rfl; exact hS; intro _ _; apply opv_move; exact rfl; exact rfl; apply wh_take 1; exact rfl; kernel_rfl; kernel_rfl; kernel_rfl; exact hS; intro _ _; apply opv_bin; exact rfl; exact rfl; exact bin_eql; exact rfl; apply wh_take 2; exact rfl; kernel_rfl; kernel_rfl; kernel_rfl; exact hS; intro _ _; apply opv_move; exact rfl; exact rfl; apply wh_skipG 3; exact rfl; kernel_rfl; kernel_rfl; kernel_rfl; exact hS; exact rfl; exact rfl; exact rfl; refine bFn ?_; omega; exact rfl; apply wh_skipG 4; exact rfl; kernel_rfl; kernel_rfl; kernel_rfl; exact hS; exact rfl; exact rfl; exact rfl; refine bFn ?_; omega; exact rfl; apply wh_skipG 5; exact rfl; kernel_rfl; kernel_rfl; kernel_rfl; exact hS; exact rfl; exact rfl; exact rfl; refine bFn ?_; omega; exact rfl; apply wh_skipG 6; exact rfl; kernel_rfl; kernel_rfl; kernel_rfl; exact hS; exact rfl; exact rfl; exact rfl; refine bFn ?_; omega; exact rfl; apply wh_skipG 7; exact rfl; kernel_rfl; kernel_rfl; kernel_rfl; exact hS; exact rfl; exact rfl; exact rfl; refine bFn ?_; omega; exact rfl; apply wh_skipG 8; exact rfl; kernel_rfl; kernel_rfl; kernel_rfl; exact hS; exact rfl; exact rfl; exact rfl; refine bFn ?_; omega; exact rfl; apply wh_take 9; exact rfl; kernel_rfl; kernel_rfl; kernel_rfl; exact hS; intro _ _; apply opv_pickF; exact rfl; refine bF ?_; omega; exact rfl; exact rfl
    refine wh_done (by kernel_rfl) ?_
    refine we_seq ?_; apply wc_condFb; exact rfl; exact rfl; refine wc_skip ?_; refine we_seq ?_; refine wc_seq ?_; refine wc_sr ?_; refine wl_mv rfl rfl ?_; refine wl_bin rfl rfl bin_neq rfl ?_; refine wl_ns ?_; apply wc_decT; exact rfl; omega; refine wc_sr ?_; refine wl_mv rfl rfl ?_; refine wl_as rfl rfl ?_; refine wl_as rfl rfl ?_; refine wl_as rfl rfl ?_; refine wl_ns ?_; refine wc_ret ?_; refine we_seq_ret ?_
    exact we_ret3 rfl rfl rfl rfl ⟨_, rfl, by rw [fromKey_2 h1 h2 he2], hb.trans (hS.mono hb.size)⟩
theorem refFromKey_any {A : Option Addr} {n c : Nat} {xs : List UInt8} {p : Int} {w : World} (r1 : RdB w A xs) (hn : xs.length = n) (hl : xs.length ≤ 1099511627776) :
    CallsV Try.prog 26 #[.slice A n c, .int .i64 p] w (RetK w (fromKey xs p)) := by
  subst hn
  have hb := Below.refl w.heap.size w
  obtain ⟨x, n1, e1, h1⟩ : ∃ x n e, getOrd xs p = (x, n, e) := ⟨_, _, _, rfl⟩
  obtain ⟨y, n2, e2, h2⟩ : ∃ x n e, getOrd xs n1 = (x, n, e) := ⟨_, _, _, rfl⟩
  have hxl := getOrd_length h1
  have hyl := getOrd_length h2
  refine calls_in (N := _) Try.func26 rfl Try.ntmps26 rfl ?_; show WC _ _ _ _ _ _
  refine wc_sr ?_; refine wl_as rfl rfl ?_; refine wl_as rfl rfl ?_; refine wl_as rfl rfl ?_; refine wl_ns ?_; refine wc_sr ?_; refine wl_mv rfl rfl ?_; refine wl_mv rfl rfl ?_
  refine wl_call ok_caissonref01_GetOrdText (refGetOrd_at h1 r1 rfl (by omega)) ⟨rfl, rfl, trivial⟩ rfl ?_
  rintro _ w1 ⟨A1, c1, rfl, o1, hbx⟩
  replace r1 := RdB.below r1 hbx
  replace hb := hb.trans (hbx.mono hb.size)
  refine wl_mv rfl rfl ?_; apply wl_val; apply opv_extract; exact rfl; exact rfl; exact rfl; apply wl_val; apply opv_extract; exact rfl; exact rfl; exact rfl; apply wl_val; apply opv_extract; exact rfl; exact rfl; exact rfl; refine wl_as rfl rfl ?_; refine wl_as rfl rfl ?_; refine wl_as rfl rfl ?_; refine wl_ns ?_; refine wc_seq ?_; refine wc_sr ?_; refine wl_mv rfl rfl ?_; refine wl_bin rfl rfl bin_neq rfl ?_; refine wl_ns ?_
  refine wc_cond rfl (fun he => ?_) (fun he => ?_)
  · refine wc_sr ?_; refine wl_mv rfl rfl ?_; refine wl_as rfl rfl ?_; refine wl_as rfl rfl ?_; refine wl_as rfl rfl ?_; refine wl_ns ?_; refine wc_ret ?_; refine we_seq_ret ?_
    exact we_ret3 rfl rfl rfl rfl ⟨_, rfl, by rw [fromKey_1 h1 (by omega)], hb⟩
  obtain rfl : e1 = 0 := by omega
  refine wc_skip ?_; refine we_seq ?_; refine wc_sr ?_; refine wl_mv rfl rfl ?_; refine wl_mv rfl rfl ?_
  refine wl_call ok_caissonref01_GetOrdText (refGetOrd_at h2 r1 rfl (by omega)) ⟨rfl, rfl, trivial⟩ rfl ?_
  rintro _ w2 ⟨A2, c2, rfl, o2, hbx2⟩
  replace o1 := OwB.below o1 hbx2
  replace hb := hb.trans (hbx2.mono hb.size)
  refine wl_mv rfl rfl ?_; apply wl_val; apply opv_extract; exact rfl; exact rfl; exact rfl; apply wl_val; apply opv_extract; exact rfl; exact rfl; exact rfl; apply wl_val; apply opv_extract; exact rfl; exact rfl; exact rfl; refine wl_as rfl rfl ?_; refine wl_as rfl rfl ?_; refine wl_as rfl rfl ?_; refine wl_ns ?_; refine wc_seq ?_; refine wc_sr ?_; refine wl_mv rfl rfl ?_; refine wl_bin rfl rfl bin_neq rfl ?_; refine wl_ns ?_
  refine wc_cond rfl (fun he2 => ?_) (fun he2 => ?_)
  · refine wc_sr ?_; refine wl_mv rfl rfl ?_; refine wl_as rfl rfl ?_; refine wl_as rfl rfl ?_; refine wl_as rfl rfl ?_; refine wl_ns ?_; refine wc_ret ?_; refine we_seq_ret ?_
    exact we_ret3 rfl rfl rfl rfl ⟨_, rfl, by rw [fromKey_2 h1 h2 (by omega)], hb⟩
  obtain rfl : e2 = 0 := by omega
  refine wc_skip ?_; refine we_seq ?_; refine wc_seq ?_; refine wc_seq ?_
  refine wc_heldB mixed fun w3 hS => ?_
  apply wh_take 0; exact rfl; kernel_rfl; kernel_rfl; kernel_rfl; exact hS; intro _ _; apply opv_move; exact rfl; exact rfl; apply wh_take 3; exact rfl; kernel_rfl; kernel_rfl; kernel_rfl; exact hS; intro _ _; apply opv_move; exact rfl; exact rfl
  refine wh_take 1 rfl (by kernel_rfl) (by kernel_rfl) (by kernel_rfl) hS (fun _ hw => opv_ofBytes Try.underlying30 Try.underlying5 tyStr rfl (o2.rd.below hw)) rfl ?_
  refine wh_take 4 rfl (by kernel_rfl) (by kernel_rfl) (by kernel_rfl) hS (fun _ hw => opv_ofBytes Try.underlying30 Try.underlying5 tyStr rfl (o1.rd.below hw)) rfl ?_
  refine wh_one 2 (o := ⟨_, _, _, _, _, _⟩) (by kernel_rfl) rfl ?_
  skip
  refine wl_call ok_caissonref02_Fold (refFold_any (l := y) (by omega) _) ⟨rfl, trivial⟩ rfl ?_
  rintro _ w4 ⟨rfl, hb4⟩
  have hS4 := hS.trans (hb4.mono hS.size)
  have o4 := OwB.below o2 hS4
  refine wl_nil ?_
  refine we_held hS4 ?_
  apply wh_take 5; exact rfl; kernel_rfl; kernel_rfl; kernel_rfl; exact hS4; intro _ _; apply opv_bin; exact rfl; exact rfl; exact bin_neqS; exact rfl
  refine wh_done (by kernel_rfl) ?_
  have hb5 := hb.trans (hS4.mono hb.size)
  by_cases hf : foldB y ≠ x
  · refine we_seq ?_; apply wc_decT; exact rfl; (with_reducible assumption); refine wc_sr ?_; refine wl_as rfl rfl ?_; refine wl_as rfl rfl ?_; refine wl_as rfl rfl ?_; refine wl_ns ?_; refine wc_ret ?_; refine we_seq_ret ?_
    exact we_ret3 rfl rfl rfl rfl ⟨_, rfl, by rw [fromKey_3 h1 h2 hf]; rfl, hb5⟩
  · refine we_seq ?_; apply wc_decF; exact rfl; (with_reducible assumption); refine wc_skip ?_; refine we_seq ?_; refine wc_sr ?_; refine wl_mv rfl rfl ?_
    refine wl_val (opv_ofBytes Try.underlying30 Try.underlying5 tyStr rfl (o4.rd)) rfl ?_
    refine wl_mv rfl rfl ?_; refine wl_as rfl rfl ?_; refine wl_as rfl rfl ?_; refine wl_as rfl rfl ?_; refine wl_ns ?_; refine wc_ret ?_
    exact we_ret3 rfl rfl rfl rfl ⟨_, rfl, by rw [fromKey_4 h1 h2 (Decidable.not_not.1 hf)]; rfl, hb5⟩

theorem gotOrd_at (pre xs r : List UInt8) : getOrd (pre ++ (ordText xs ++ r)) (pre.length : Int) = (xs, ((pre.length + (ordText xs).length : Nat) : Int), 0) := by
  have h := got_ord r xs [] 0
  have e : (pre ++ (ordText xs ++ r)).drop pre.length = esc xs ++ (0 :: 1 :: r) := by
    rw [List.drop_left]; simp [ordText]
  rw [getOrd_ok (q := pre.length) (by simp) (by rw [e]; exact h)]
  simp [ordText]
theorem fromKey_key (l : List UInt8) : fromKey (keyB l) 0 = (l, ((keyB l).length : Int), 0) := by
  have h1 := gotOrd_at [] (foldB l) (ordText l)
  have h2 := gotOrd_at (ordText (foldB l)) l []
  simp only [List.append_nil, List.nil_append, List.length_nil, Nat.zero_add] at h1 h2
  refine (fromKey_4 (b := keyB l) (p := ((0 : Nat) : Int)) (n := ((ordText (foldB l)).length : Int)) h1 h2 rfl).trans ?_
  simp [keyB]
theorem cmp_key (a b : List UInt8) : cmpB (keyB a) (keyB b) = if cmpB (foldB a) (foldB b) = 0 then cmpB a b else cmpB (foldB a) (foldB b) := by
  have h := cmp_ords [foldB a, a] [foldB b, b]
  have e : ∀ l : List UInt8, ords [foldB l, l] = keyB l := fun l => by simp [ords, keyB]
  rw [e, e] at h
  rw [h]
  by_cases h1 : cmpB (foldB a) (foldB b) = 0 <;> by_cases h2 : cmpB a b = 0 <;> simp [cmpT, h1, h2]
theorem fromKey_len {b y : List UInt8} {p n : Int} {e : Nat} (h : fromKey b p = (y, n, e)) : True := trivial
theorem textKeys_walk {A : Option Addr} {n c : Nat} {s t xs : List UInt8} {w : World} (hs : s.length ≤ 1048576) (ht : t.length ≤ 1048576) (r1 : RdB w A xs) (hn : xs.length = n) (_hc : xs.length ≤ c) (hl : xs.length ≤ 1048576) :
    CallsV Try.prog 5 #[str s, str t, .slice A n c] w (RetTr w) := by
  subst hn
  have hb := Below.refl w.heap.size w
  have hks := keyB_length s
  have hkt := keyB_length t
  have hfs := foldB_length s
  have hft := foldB_length t
  refine calls_in (N := _) Try.func5 rfl Try.ntmps5 rfl ?_; show WC _ _ _ _ _ _
  refine wc_sr ?_; refine wl_as rfl rfl ?_; refine wl_ns ?_; refine wc_sr ?_; refine wl_as rfl rfl ?_; refine wl_ns ?_; refine wc_seq ?_; refine wc_sr ?_; refine wl_mv rfl rfl ?_; apply wl_val; apply opv_len; exact rfl; exact tyB.sl; exact rfl; refine wl_bin rfl rfl bin_gtr rfl ?_; refine wl_ns ?_
  refine wc_cutE (fun L' w' => ∃ p : Int, -1 ≤ p ∧ p ≤ 3 ∧ L' = [(0, str s), (1, str t), (2, .slice A xs.length c), (7, .int .i64 p)] ∧ w = w') ?_ ?_
  · refine wc_cond rfl (fun h => ?_) (fun h => ?_)
    · obtain ⟨x, hx⟩ : ∃ x, xs[0]? = some x := ⟨_, List.getElem?_eq_getElem (by omega)⟩
      have hx256 := x.toNat_lt
      refine wc_region ?_; refine wl_mv rfl rfl ?_; apply wl_byK (T := tyB) (hr := r1) (hb := hx); exact rfl; exact rfl; exact rfl; exact rfl; exact rfl; intro _; apply wl_val; apply opv_convR; exact rfl; exact Try.underlying5; exact Try.underlying3; exact IntWalk.i64_in _ (by omega); exact rfl; apply wl_val; apply opv_bin; exact rfl; exact rfl; exact bin_rem (b := 5) (by decide); exact rfl; apply wl_val; apply opv_bin; exact rfl; exact rfl; exact bin_sub64 (by omega); exact rfl; refine wl_as rfl rfl ?_; refine wl_nil ?_
      exact we_cut _ ⟨((x.toNat % 5 : Nat) : Int) - 1, by omega, by omega, rfl, rfl⟩ ⟨rfl, rfl, rfl, rfl, trivial⟩
    · refine wc_skip ?_
      exact we_cut _ ⟨0, by omega, by omega, rfl, rfl⟩ ⟨rfl, rfl, rfl, rfl, trivial⟩
  rintro _ _ ⟨p, hp1, hp2, rfl, rfl⟩
  refine we_seq ?_; refine wc_seq ?_; refine wc_sr ?_
  refine wl_call ok_caissonlaw02_awake (awake2_any _) trivial rfl ?_; rintro _ _ ⟨rfl, hbx⟩; (try replace r1 := RdB.below r1 hbx); replace hb := hb.trans (hbx.mono hb.size); clear hbx
  apply wl_val; apply opv_not; exact rfl; exact rfl; refine wl_ns ?_; apply wc_condFb; exact rfl; exact Bool.not_true; refine wc_skip ?_; refine we_seq ?_; refine wc_sr ?_; refine wl_mv rfl rfl ?_
  refine wl_call ok_text_Key (key_any (l := s) (by omega) _) ⟨rfl, trivial⟩ rfl ?_; rintro _ _ ⟨A2, c2, rfl, o2, hbx⟩; (try replace r1 := RdB.below r1 hbx); replace hb := hb.trans (hbx.mono hb.size); clear hbx
  refine wl_mv rfl rfl ?_
  refine wl_call ok_text_Key (key_any (l := t) (by omega) _) ⟨rfl, trivial⟩ rfl ?_; rintro _ _ ⟨A3, c3, rfl, o3, hbx⟩; (try replace r1 := RdB.below r1 hbx); (try replace o2 := OwB.below o2 hbx); replace hb := hb.trans (hbx.mono hb.size); clear hbx
  refine wl_as rfl rfl ?_; refine wl_as rfl rfl ?_; refine wl_ns ?_; refine wc_sr ?_; refine wl_mv rfl rfl ?_
  refine wl_call ok_text_FromKey (fromKey_any (p := 0) o2.rd rfl (by omega)) ⟨rfl, rfl, trivial⟩ rfl ?_; rintro _ _ ⟨rfl, hbx⟩; (try replace r1 := RdB.below r1 hbx); (try replace o2 := OwB.below o2 hbx); (try replace o3 := OwB.below o3 hbx); replace hb := hb.trans (hbx.mono hb.size); clear hbx
  rw [fromKey_key]
  dsimp only
  refine wl_mv rfl rfl ?_; apply wl_val; apply opv_extract; exact rfl; exact rfl; exact rfl; apply wl_val; apply opv_extract; exact rfl; exact rfl; exact rfl; apply wl_val; apply opv_extract; exact rfl; exact rfl; exact rfl; refine wl_as rfl rfl ?_; refine wl_as rfl rfl ?_; refine wl_as rfl rfl ?_; refine wl_ns ?_; refine wc_seq ?_; refine wc_sr ?_; refine wl_mv rfl rfl ?_; refine wl_mv rfl rfl ?_
  refine wl_call ok_caissonref02_Key (refKey_any (l := s) (by omega) _) ⟨rfl, trivial⟩ rfl ?_; rintro _ _ ⟨A4, c4, rfl, o4, hbx⟩; (try replace r1 := RdB.below r1 hbx); (try replace o2 := OwB.below o2 hbx); (try replace o3 := OwB.below o3 hbx); replace hb := hb.trans (hbx.mono hb.size); clear hbx
  skip
  refine wl_call ok_caissonref01_Equal (equal_yes rfl o2.rd o4.rd rfl rfl (by simp only [maxLen]; omega)) ⟨rfl, rfl, trivial⟩ rfl ?_; rintro _ _ ⟨rfl, hbx⟩; (try replace r1 := RdB.below r1 hbx); (try replace o2 := OwB.below o2 hbx); (try replace o3 := OwB.below o3 hbx); (try replace o4 := OwB.below o4 hbx); replace hb := hb.trans (hbx.mono hb.size); clear hbx
  apply wl_val; apply opv_not; exact rfl; exact rfl; refine wl_mv rfl rfl ?_; apply wl_take; exact rfl; exact rfl; exact rfl; exact Bool.not_true; refine wl_mv rfl rfl ?_; apply wl_take; exact rfl; exact rfl; exact rfl; exact Bool.not_true; refine wl_mv rfl rfl ?_; apply wl_take; exact rfl; exact rfl; exact rfl; exact Bool.not_true; refine wl_bin rfl rfl bin_neqS rfl ?_; apply wl_val; apply opv_pickF; exact rfl; exact Bool.not_true; exact rfl; exact rfl; refine wl_mv rfl rfl ?_; apply wl_take; exact rfl; exact rfl; exact rfl; refine bF ?_; (with_reducible exact nne); refine wl_mv rfl rfl ?_; apply wl_take; exact rfl; exact rfl; exact rfl; refine bF ?_; (with_reducible exact nne); refine wl_mv rfl rfl ?_; apply wl_take; exact rfl; exact rfl; exact rfl; refine bF ?_; (with_reducible exact nne); apply wl_val; apply opv_len; exact rfl; exact tyB.sl; exact rfl; apply wl_take; exact rfl; exact rfl; exact rfl; refine bF ?_; (with_reducible exact nne); refine wl_bin rfl rfl bin_neq rfl ?_; apply wl_val; apply opv_pickF; exact rfl; refine bF ?_; (with_reducible exact nne); exact rfl; exact rfl; refine wl_mv rfl rfl ?_; apply wl_take; exact rfl; exact rfl; exact rfl; refine bF ?_; (with_reducible exact nne); refine wl_mv rfl rfl ?_; apply wl_take; exact rfl; exact rfl; exact rfl; refine bF ?_; (with_reducible exact nne); refine wl_bin rfl rfl bin_neq rfl ?_; apply wl_val; apply opv_pickF; exact rfl; refine bF ?_; (with_reducible exact nne); exact rfl; exact rfl; refine wl_ns ?_; apply wc_decF; exact rfl; omega; refine wc_skip ?_; refine we_seq ?_; refine wc_sr ?_; refine wl_mv rfl rfl ?_
  refine wl_call ok_caissonref02_Fold (refFold_any (l := s) (by omega) _) ⟨rfl, trivial⟩ rfl ?_; rintro _ _ ⟨rfl, hbx⟩; (try replace r1 := RdB.below r1 hbx); (try replace o2 := OwB.below o2 hbx); (try replace o3 := OwB.below o3 hbx); (try replace o4 := OwB.below o4 hbx); replace hb := hb.trans (hbx.mono hb.size); clear hbx
  refine wl_toBytes tyStr Try.underlying30 Try.underlying5 rfl rfl fun A5 c5 w5 r5 hc5 hbx => ?_
  (try replace r1 := RdB.below r1 hbx); (try replace o2 := OwB.below o2 hbx); (try replace o3 := OwB.below o3 hbx); (try replace o4 := OwB.below o4 hbx); (try replace r5 := RdB.below r5 hbx)
  replace hb := hb.trans (hbx.mono hb.size)
  refine wl_mv rfl rfl ?_
  refine wl_call ok_caissonref02_Fold (refFold_any (l := t) (by omega) _) ⟨rfl, trivial⟩ rfl ?_; rintro _ _ ⟨rfl, hbx⟩; (try replace r1 := RdB.below r1 hbx); (try replace o2 := OwB.below o2 hbx); (try replace o3 := OwB.below o3 hbx); (try replace o4 := OwB.below o4 hbx); (try replace r5 := RdB.below r5 hbx); replace hb := hb.trans (hbx.mono hb.size); clear hbx
  refine wl_toBytes tyStr Try.underlying30 Try.underlying5 rfl rfl fun A6 c6 w6 r6 hc6 hbx => ?_
  (try replace r1 := RdB.below r1 hbx); (try replace o2 := OwB.below o2 hbx); (try replace o3 := OwB.below o3 hbx); (try replace o4 := OwB.below o4 hbx); (try replace r5 := RdB.below r5 hbx); (try replace r6 := RdB.below r6 hbx)
  replace hb := hb.trans (hbx.mono hb.size)
  refine wl_call ok_caissonref01_Cmp (refCmp_any r5 r6 rfl rfl (by simp only [maxLen]; omega) (by simp only [maxLen]; omega)) ⟨rfl, rfl, trivial⟩ rfl ?_; rintro _ _ ⟨rfl, hbx⟩; (try replace r1 := RdB.below r1 hbx); (try replace o2 := OwB.below o2 hbx); (try replace o3 := OwB.below o3 hbx); (try replace o4 := OwB.below o4 hbx); (try replace r5 := RdB.below r5 hbx); (try replace r6 := RdB.below r6 hbx); replace hb := hb.trans (hbx.mono hb.size); clear hbx
  refine wl_as rfl rfl ?_; refine wl_ns ?_; refine wc_seq ?_; refine wc_sr ?_; refine wl_mv rfl rfl ?_; refine wl_bin rfl rfl bin_eql rfl ?_; refine wl_ns ?_
  refine wc_cutE (fun L' w' => L' = [(0, str s), (1, str t), (2, .slice A xs.length c), (7, .int .i64 p), (8, .slice A2 (keyB s).length c2), (9, .slice A3 (keyB t).length c3), (13, .int .i64 (cmpB (keyB s) (keyB t)))] ∧ Below w.heap.size w w' ∧ RdB w' A xs ∧ RdB w' A2 (keyB s) ∧ RdB w' A3 (keyB t)) ?_ ?_
  · refine wc_cond rfl (fun h => ?_) (fun h => ?_)
    · refine wc_region ?_; refine wl_mv rfl rfl ?_
      refine wl_toBytes tyStr Try.underlying30 Try.underlying5 rfl rfl fun A7 c7 w7 r7 hc7 hbx => ?_
      (try replace r1 := RdB.below r1 hbx); (try replace o2 := OwB.below o2 hbx); (try replace o3 := OwB.below o3 hbx); (try replace o4 := OwB.below o4 hbx); (try replace r5 := RdB.below r5 hbx); (try replace r6 := RdB.below r6 hbx); (try replace r7 := RdB.below r7 hbx)
      replace hb := hb.trans (hbx.mono hb.size)
      refine wl_mv rfl rfl ?_
      refine wl_toBytes tyStr Try.underlying30 Try.underlying5 rfl rfl fun A8 c8 w8 r8 hc8 hbx => ?_
      (try replace r1 := RdB.below r1 hbx); (try replace o2 := OwB.below o2 hbx); (try replace o3 := OwB.below o3 hbx); (try replace o4 := OwB.below o4 hbx); (try replace r5 := RdB.below r5 hbx); (try replace r6 := RdB.below r6 hbx); (try replace r7 := RdB.below r7 hbx); (try replace r8 := RdB.below r8 hbx)
      replace hb := hb.trans (hbx.mono hb.size)
      refine wl_call ok_caissonref01_Cmp (refCmp_any r7 r8 rfl rfl (by simp only [maxLen]; omega) (by simp only [maxLen]; omega)) ⟨rfl, rfl, trivial⟩ rfl ?_; rintro _ _ ⟨rfl, hbx⟩; (try replace r1 := RdB.below r1 hbx); (try replace o2 := OwB.below o2 hbx); (try replace o3 := OwB.below o3 hbx); (try replace o4 := OwB.below o4 hbx); (try replace r5 := RdB.below r5 hbx); (try replace r6 := RdB.below r6 hbx); (try replace r7 := RdB.below r7 hbx); (try replace r8 := RdB.below r8 hbx); replace hb := hb.trans (hbx.mono hb.size); clear hbx
      refine wl_as rfl rfl ?_; refine wl_nil ?_
      exact we_cut _ ⟨rfl, hb, r1, o2.rd, o3.rd⟩ ⟨rfl, rfl, rfl, rfl, rfl, rfl, by rw [cmp_key, if_pos h]; rfl, trivial⟩
    · refine wc_skip ?_
      exact we_cut _ ⟨rfl, hb, r1, o2.rd, o3.rd⟩ ⟨rfl, rfl, rfl, rfl, rfl, rfl, by rw [cmp_key, if_neg h]; rfl, trivial⟩
  clear r1 o2 o3 o4 r5 r6 hb
  rintro _ w9 ⟨rfl, hb, r1, r2, r3⟩
  refine we_seq ?_; refine wc_sr ?_; refine wl_mv rfl rfl ?_
  refine wl_call ok_caissonref01_Copy (copy_any r1 rfl (by omega)) ⟨rfl, trivial⟩ rfl ?_; rintro _ _ ⟨A10, c10, rfl, o10, hbx⟩; (try replace r1 := RdB.below r1 hbx); (try replace o2 := OwB.below o2 hbx); (try replace o3 := OwB.below o3 hbx); (try replace o4 := OwB.below o4 hbx); (try replace r5 := RdB.below r5 hbx); (try replace r6 := RdB.below r6 hbx); (try replace r7 := RdB.below r7 hbx); (try replace r8 := RdB.below r8 hbx); (try replace r2 := RdB.below r2 hbx); (try replace r3 := RdB.below r3 hbx); replace hb := hb.trans (hbx.mono hb.size); clear hbx
  refine wl_mv rfl rfl ?_
  obtain ⟨z, q, e, hz⟩ : ∃ z q e, fromKey xs p = (z, q, e) := ⟨_, _, _, rfl⟩
  refine wl_call ok_text_FromKey (fromKey_any (p := p) o10.rd rfl (by omega)) ⟨rfl, rfl, trivial⟩ rfl ?_; rintro _ _ ⟨rfl, hbx⟩; (try replace r1 := RdB.below r1 hbx); (try replace o2 := OwB.below o2 hbx); (try replace o3 := OwB.below o3 hbx); (try replace o4 := OwB.below o4 hbx); (try replace r5 := RdB.below r5 hbx); (try replace r6 := RdB.below r6 hbx); (try replace r7 := RdB.below r7 hbx); (try replace r8 := RdB.below r8 hbx); (try replace r2 := RdB.below r2 hbx); (try replace r3 := RdB.below r3 hbx); (try replace o10 := OwB.below o10 hbx); replace hb := hb.trans (hbx.mono hb.size); clear hbx
  rw [hz]
  dsimp only
  refine wl_mv rfl rfl ?_; apply wl_val; apply opv_extract; exact rfl; exact rfl; exact rfl; apply wl_val; apply opv_extract; exact rfl; exact rfl; exact rfl; apply wl_val; apply opv_extract; exact rfl; exact rfl; exact rfl; refine wl_as rfl rfl ?_; refine wl_as rfl rfl ?_; refine wl_as rfl rfl ?_; refine wl_ns ?_; refine wc_sr ?_; refine wl_mv rfl rfl ?_; refine wl_mv rfl rfl ?_
  refine wl_call ok_caissonref02_FromKey (refFromKey_any (p := p) r1 rfl (by omega)) ⟨rfl, rfl, trivial⟩ rfl ?_; rintro _ _ ⟨rfl, hbx⟩; (try replace r1 := RdB.below r1 hbx); (try replace o2 := OwB.below o2 hbx); (try replace o3 := OwB.below o3 hbx); (try replace o4 := OwB.below o4 hbx); (try replace r5 := RdB.below r5 hbx); (try replace r6 := RdB.below r6 hbx); (try replace r7 := RdB.below r7 hbx); (try replace r8 := RdB.below r8 hbx); (try replace r2 := RdB.below r2 hbx); (try replace r3 := RdB.below r3 hbx); (try replace o10 := OwB.below o10 hbx); replace hb := hb.trans (hbx.mono hb.size); clear hbx
  rw [hz]
  dsimp only
  refine wl_mv rfl rfl ?_; apply wl_val; apply opv_extract; exact rfl; exact rfl; exact rfl; apply wl_val; apply opv_extract; exact rfl; exact rfl; exact rfl; apply wl_val; apply opv_extract; exact rfl; exact rfl; exact rfl; refine wl_as rfl rfl ?_; refine wl_as rfl rfl ?_; refine wl_as rfl rfl ?_; refine wl_ns ?_; refine wc_sr ?_; refine wl_mv rfl rfl ?_; refine wl_mv rfl rfl ?_
  refine wl_call ok_codec_Cmp (cmp_any r2 r3 rfl rfl) ⟨rfl, rfl, trivial⟩ rfl ?_
  rintro _ _ ⟨rfl, rfl⟩
  refine wl_mv rfl rfl ?_; refine wl_bin rfl rfl bin_eql rfl ?_; refine wl_mv rfl rfl ?_; apply wl_take; exact rfl; exact rfl; exact rfl; refine bT ?_; (with_reducible rfl); refine wl_mv rfl rfl ?_; apply wl_take; exact rfl; exact rfl; exact rfl; refine bT ?_; (with_reducible rfl); refine wl_mv rfl rfl ?_; apply wl_take; exact rfl; exact rfl; exact rfl; refine bT ?_; (with_reducible rfl); refine wl_bin rfl rfl bin_eqlS rfl ?_; apply wl_val; apply opv_pickT; exact rfl; refine bT ?_; (with_reducible rfl); exact rfl; exact rfl; refine wl_mv rfl rfl ?_; apply wl_take; exact rfl; exact rfl; exact rfl; refine bT ?_; (with_reducible rfl); refine wl_mv rfl rfl ?_; apply wl_take; exact rfl; exact rfl; exact rfl; refine bT ?_; (with_reducible rfl); refine wl_mv rfl rfl ?_; apply wl_take; exact rfl; exact rfl; exact rfl; refine bT ?_; (with_reducible rfl); refine wl_bin rfl rfl bin_eql rfl ?_; apply wl_val; apply opv_pickT; exact rfl; refine bT ?_; (with_reducible rfl); exact rfl; exact rfl; refine wl_mv rfl rfl ?_; apply wl_take; exact rfl; exact rfl; exact rfl; refine bT ?_; (with_reducible rfl); refine wl_mv rfl rfl ?_; apply wl_take; exact rfl; exact rfl; exact rfl; refine bT ?_; (with_reducible rfl); refine wl_mv rfl rfl ?_; apply wl_take; exact rfl; exact rfl; exact rfl; refine bT ?_; (with_reducible rfl); refine wl_bin rfl rfl bin_eql rfl ?_; apply wl_val; apply opv_pickT; exact rfl; refine bT ?_; (with_reducible rfl); exact rfl; exact rfl; refine wl_as rfl rfl ?_; refine wl_ns ?_; refine wc_ret ?_
  exact we_ret1 rfl rfl ⟨_, rfl, by simp, hb⟩
end Go.Proofs.Ytcjiecclmepboaa
