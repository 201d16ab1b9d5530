
/-
  The walk over Fold, and the fixed fact of the laws of texts.
-/
import Derived.Test.YtcjiecclmepboaaFo
import Derived.Test.YtcjiecclmepboaaShelf
namespace Go.Proofs.Ytcjiecclmepboaa
open Go.RowKit

section
variable {w w' : World} {B b c : Nat} {p : Value} {A X : Option Addr} {bs : List UInt8}
theorem Bd.gr (h : Bd w B b p A c bs) (g : Gr w w' X) (h1 : ∀ a, X = some a → a.block ≠ b) (h2 : ∀ a x, A = some a → X = some x → a.block ≠ x.block) : Bd w' B b p A c bs :=
  ⟨h.1, h.2.1.grA g h1, Ow.gr (base' := 0) (e' := 0) h.2.2.1 g h2, h.2.2.2.1, h.2.2.2.2⟩
theorem Bd.is (h : Bd w B b p A c bs) : Lib.IsBuilder 101 5 B b (Lib.byteCells bs) w := by
  obtain ⟨hB, ha, ho, hne, hp⟩ := h
  have hat : Lib.BuilderAt 101 5 B b p (Lib.byteCells bs) w := by
    refine ⟨hB, .slice A bs.length c, ha, ?_, ?_⟩
    · have : (Lib.byteCells bs).length = bs.length := by simp [Lib.byteCells]
      rw [this]; exact ho
    · rw [ownBlock_slice]
      cases A with
      | none => simp
      | some a => have := hne a rfl; simpa using this
  rcases hp with rfl | rfl
  · exact .inl hat
  · exact .inr hat
end
theorem bString_any {w : World} {B b c : Nat} {p : Value} {A : Option Addr} {bs : List UInt8} (h : Bd w B b p A c bs) :
    CallsV Try.prog 68 #[.pointer (some ⟨b, 0, none⟩)] w fun v w' => v = str bs ∧ Below B w w' :=
  (Try.Builder_String_any B b bs w h.is (Nat.le_trans h.1 (Nat.le_of_lt h.2.1.lt))).mono fun _ _ ⟨h1, h2⟩ => ⟨_, h1, rfl, h2⟩
theorem fold_any {l : List UInt8} (hl : l.length ≤ 1099511627776) (w : World) : CallsV Try.prog 18 #[str l] w fun v w' => v = str (foldB l) ∧ Below w.heap.size w w' := by
  refine calls_in (N := _) Try.func18 rfl Try.ntmps18 rfl ?_; show WC _ _ _ _ _ _
  refine wc_sr ?_; refine wl_as rfl rfl ?_; refine wl_ns ?_; refine wc_sr ?_
  refine wl_alloc (z := .agg #[.pointer none, .slice none 0 0]) (by kernel_rfl) rfl fun w1 a1 hb1 hs1 => ?_
  have d1 : Bd w1 w.heap.size w.heap.size (.pointer none) none 0 [] := ⟨Nat.le_refl _, a1, Ow.nil _ _ _, by simp, .inl rfl⟩
  refine wl_ns ?_; refine wc_seq ?_; refine wc_sr ?_; refine wl_mv rfl rfl ?_
  refine wl_range tyStr rfl rfl fun k w2 hk i2 hb2 => ?_
  have d2 : Bd w2 w.heap.size w.heap.size (.pointer none) none 0 [] := ⟨Nat.le_refl _, d1.2.1.bel hb2, Ow.nil _ _ _, by simp, .inl rfl⟩
  have hwk : w.heap.size < k := by omega
  obtain ⟨b, hb0⟩ : ∃ b, w.heap.size = b := ⟨_, rfl⟩
  have hbb := hb1.trans (hb2.mono hb1.size)
  refine wl_ns ?_; refine wc_block ?_
  refine wc_loop (fun L wr m => ∃ (q : Nat) (done : List Nat) (p : Value) (A : Option Addr) (c : Nat), L = [(3, .pointer (some ⟨w.heap.size, 0, none⟩)), (7, .pointer (some ⟨k, 0, none⟩))] ∧ Bd wr w.heap.size w.heap.size p A c (encs (done.map lowN)) ∧ It wr k l q ∧ Below w.heap.size w wr ∧ q ≤ l.length ∧ done.length ≤ q ∧ done ++ rs (l.drop q) = rs l ∧ m = l.length - q)
    [(3, .pointer (some ⟨w.heap.size, 0, none⟩)), (7, .pointer (some ⟨k, 0, none⟩))] l.length ⟨0, [], .pointer none, none, 0, rfl, d2, i2, hbb, by omega, by simp, rfl, rfl⟩ ⟨rfl, rfl, trivial⟩ ?_
  rintro _ w3 m ⟨q, done, p, A, c, rfl, d3, i3, hb3, hq, hn, he, rfl⟩
  have hel := encs_length (done.map lowN)
  rw [List.length_map] at hel
  refine wc_sr ?_
  by_cases hlt : q < l.length
  · have hd := dec_at hlt
    have hlv := lowN_val (dec_val (l.drop q))
    rw [rs_step hlt] at he
    refine wl_next rfl i3 hlt rfl fun w4 i4 g4 hs4 => ?_
    have d4 := d3.gr g4 (fun a ha => by cases ha; exact (show k ≠ w.heap.size by omega)) (fun a x ha hx => by cases hx; exact i3.ne_own d3.2.2.1 a ha)
    have hb4 := g4.belowI hb3 (by omega) hb3.size
    apply wl_val; apply opv_extract; exact rfl; exact rfl; exact rfl; refine wl_ns ?_; refine wc_seq ?_; apply wc_condTb; exact rfl; exact rfl; refine wc_skip ?_; refine we_seq ?_; refine wc_block ?_; refine wc_sr ?_; apply wl_val; apply opv_extract; exact rfl; exact rfl; exact rfl; refine wl_as rfl rfl ?_; refine wl_ns ?_; refine wc_region ?_; refine wl_mv rfl rfl ?_; apply wl_callX (vs := [_]) ok_text_low; exact ⟨rfl, trivial⟩; exact rfl; exact low_any _ (dec_le _) _; rintro _ _ ⟨rfl, rfl⟩
    refine wl_call ok_strings_Builder_WriteRune (writeRune_any d4 (by omega) hlv) ⟨rfl, rfl, trivial⟩ rfl ?_
    rintro _ w7 ⟨A7, c7, w5, w6, d7, g5, g6, g7⟩
    have i5 := i4.gr' g5 fun a ha => by cases ha; exact (show w.heap.size ≠ k by omega)
    have i6 := i5.gr' g6 fun a ha => i4.ne_own d4.2.2.1 a ha
    have i7 := i6.gr' g7 fun a ha => by cases ha; exact (show w.heap.size ≠ k by omega)
    have hb5 := g5.belowI hb4 (Nat.le_refl _) hb4.size
    have hb6 := g6.below hb5 (Ow.gr (base' := 0) (e' := 0) d4.2.2.1 g5 fun a x ha hx => by cases hx; exact d4.2.2.2.1 a ha) (Nat.le_refl _) hb5.size
    have hb7 := g7.belowI hb6 (Nat.le_refl _) hb6.size
    have e7 : encs (done.map lowN) ++ enc (lowN (dec (l.drop q)).1) = encs ((done ++ [(dec (l.drop q)).1]).map lowN) := by
      rw [List.map_append, encs_append]; simp [encs]
    rw [e7] at d7
    refine wl_nil ?_; refine we_block_norm ?_
    refine we_loop [(3, .pointer (some ⟨w.heap.size, 0, none⟩)), (7, .pointer (some ⟨k, 0, none⟩))] (l.length - (q + (dec (l.drop q)).2)) ⟨_, _, _, A7, c7, rfl, d7, i7, hb7, hd.2.1, by simp; omega, by rw [List.append_assoc]; exact he, rfl⟩ (by omega) ⟨rfl, rfl, trivial⟩
  · refine wl_nextE rfl i3 hlt rfl ?_
    rw [rs_end hlt, List.append_nil] at he
    subst he
    apply wl_val; apply opv_extract; exact rfl; exact rfl; exact rfl; refine wl_ns ?_; refine wc_seq ?_; apply wc_condFb; exact rfl; exact rfl; refine wc_exit ?_; refine we_seq_exit ?_; refine we_loop_exit ?_; refine we_block_exit ?_; refine we_seq ?_; refine wc_sr ?_
    refine wl_call ok_strings_Builder_String (bString_any d3) ⟨rfl, trivial⟩ rfl ?_
    rintro _ w4 ⟨rfl, hb4⟩
    refine wl_as rfl rfl ?_; refine wl_ns ?_; refine wc_ret ?_
    exact we_ret1 rfl rfl ⟨_, rfl, rfl, hb3.trans hb4⟩
end Go.Proofs.Ytcjiecclmepboaa
