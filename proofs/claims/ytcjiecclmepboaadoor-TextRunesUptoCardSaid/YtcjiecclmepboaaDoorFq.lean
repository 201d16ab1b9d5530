
/-
  The fixed fact of the laws of texts.
-/
import Derived.Test.YtcjiecclmepboaaDoorFp
import Derived.Test.YtcjiecclmepboaaDoorHeld
namespace Go.Proofs.YtcjiecclmepboaaDoor
open Go.RowKit
/-- True is handed back, and nothing that stood has changed. -/
abbrev RetTr (w : World) (v : Value) (w' : World) : Prop := v = .bool true ∧ Below w.heap.size w w'
theorem rs_fact : (rs [97, 195, 169]).length = 2 := by decide +kernel
theorem fold_fact : foldB [195, 132, 114, 103, 101, 114] = [195, 164, 114, 103, 101, 114] := by decide +kernel
theorem awake2_any (w : World) : CallsV Tryd.prog 5 #[] w (RetTr w) := by
  refine calls_in (N := _) Tryd.func5 rfl Tryd.ntmps5 rfl ?_; show WC _ _ _ _ _ _
  refine wc_sr ?_; refine wl_as rfl rfl ?_; refine wl_ns ?_; refine wc_sr ?_
  refine wl_call ok_text_Len (len_any (l := [97, 195, 169]) (by decide) w) ⟨rfl, trivial⟩ rfl ?_
  rintro _ w1 ⟨rfl, hb1⟩
  rw [rs_fact]
  refine wl_bin rfl rfl bin_eql rfl ?_; refine wl_mv rfl rfl ?_; apply wl_take; exact rfl; exact rfl; exact rfl; refine bT ?_; omega
  refine wl_call ok_text_Fold (fold_any (l := [195, 132, 114, 103, 101, 114]) (by decide) w1) ⟨rfl, trivial⟩ rfl ?_
  rintro _ w2 ⟨rfl, hb2⟩
  rw [fold_fact]
  apply wl_take; exact rfl; exact rfl; exact rfl; refine bT ?_; omega; refine wl_bin rfl rfl bin_eqlS rfl ?_; apply wl_val; apply opv_pickT; exact rfl; refine bT ?_; omega; exact rfl; exact rfl; refine wl_as rfl rfl ?_; refine wl_ns ?_; refine wc_ret ?_
  exact we_ret1 rfl rfl ⟨_, rfl, by simp, hb1.trans (hb2.mono hb1.size)⟩

/-- The places at which the runes begin, and the end. -/
def pl (l : List UInt8) : List Nat := places l ++ [l.length]
theorem pl_length (l : List UInt8) : (pl l).length = (rs l).length + 1 := by simp [pl, places_length]
theorem starts_le : ∀ (n : Nat) (l : List UInt8) (p : Nat), l.length ≤ n → ∀ x ∈ starts p (rw l), x ≤ p + l.length
  | 0, l, p, h => by have : l = [] := List.eq_nil_of_length_eq_zero (by omega); subst this; simp [rw_nil, starts]
  | n + 1, l, p, h => by
    by_cases h0 : l = []
    · subst h0; simp [rw_nil, starts]
    · rw [rw_cons h0, starts]
      have hw := dec_width h0
      intro x hx
      rcases List.mem_cons.1 hx with rfl | hx
      · omega
      · have := starts_le n (l.drop (dec l).2) (p + (dec l).2) (by simp; omega) x hx
        simp at this; omega
theorem pl_le {l : List UInt8} {k x : Nat} (h : (pl l)[k]? = some x) : x ≤ l.length := by
  have hm := List.mem_of_getElem? h
  rw [pl, List.mem_append] at hm
  rcases hm with hm | hm
  · have := starts_le _ l 0 (Nat.le_refl _) x hm; omega
  · simp at hm; omega
theorem clipB_at {l : List UInt8} {n : Int} {k x : Nat} (hk : k = min n.toNat (rs l).length) (h : (pl l)[k]? = some x) : clipB l n = l.take x := by
  have hpl := places_length l
  unfold clipB
  by_cases hn : n.toNat < (rs l).length
  · have : k = n.toNat := by omega
    subst this
    rw [pl, List.getElem?_append_left (by omega)] at h
    rw [h]
  · have : k = (rs l).length := by omega
    subst this
    rw [pl, List.getElem?_append_right (by omega), hpl, Nat.sub_self] at h
    simp at h
    subst h
    rw [List.getElem?_eq_none (by omega)]
    simp
end Go.Proofs.YtcjiecclmepboaaDoor
