
/-
  Plain laws of lists: tuples of written lists, frames, numbers of eight bytes. No program in sight.
-/
import Derived.Test.YtcjiecclmepboaaPb
namespace Go.Proofs.Ytcjiecclmepboaa

/-! ### Tuples -/
/-- Lists of lists are compared list by list, then by how many they are. -/
def cmpT : List (List UInt8) → List (List UInt8) → Int
  | [], [] => 0
  | [], _ :: _ => -1
  | _ :: _, [] => 1
  | x :: a, y :: b => if cmpB x y = 0 then cmpT a b else cmpB x y
def ords (l : List (List UInt8)) : List UInt8 := l.flatMap ordText

theorem cmp_refl : ∀ (a : List UInt8), cmpB a a = 0
  | [] => by simp [cmpB]
  | x :: r => by rw [cmp_same]; exact cmp_refl r
theorem cmp_zero : ∀ {a b : List UInt8}, cmpB a b = 0 → a = b
  | [], [], _ => rfl
  | [], _ :: _, h => by simp [cmpB] at h
  | _ :: _, [], h => by simp [cmpB] at h
  | x :: a, y :: b, h => by
    by_cases h1 : x < y
    · rw [cmp_lt h1] at h; omega
    · by_cases h2 : y < x
      · rw [cmp_gt h2] at h; omega
      · have e : x = y := UInt8.le_antisymm (UInt8.not_lt.1 h2) (UInt8.not_lt.1 h1)
        subst e
        rw [cmp_same] at h
        rw [cmp_zero h]
theorem cmp_neg : ∀ (a b : List UInt8), cmpB b a = - cmpB a b
  | [], [] => by simp [cmpB]
  | [], _ :: _ => by simp [cmpB]
  | _ :: _, [] => by simp [cmpB]
  | x :: a, y :: b => by
    by_cases h1 : x < y
    · rw [cmp_lt h1, cmp_gt h1]; rfl
    · by_cases h2 : y < x
      · rw [cmp_gt h2, cmp_lt h2]
      · have e : x = y := UInt8.le_antisymm (UInt8.not_lt.1 h2) (UInt8.not_lt.1 h1)
        subst e
        rw [cmp_same, cmp_same]; exact cmp_neg a b
theorem cmp_range (a b : List UInt8) : cmpB a b = -1 ∨ cmpB a b = 0 ∨ cmpB a b = 1 := by
  induction a generalizing b with
  | nil => cases b <;> simp [cmpB]
  | cons x a ih =>
    cases b with
    | nil => simp [cmpB]
    | cons y b =>
      by_cases h1 : x < y
      · rw [cmp_lt h1]; simp
      · by_cases h2 : y < x
        · rw [cmp_gt h2]; simp
        · have e : x = y := UInt8.le_antisymm (UInt8.not_lt.1 h2) (UInt8.not_lt.1 h1)
          subst e
          rw [cmp_same]; exact ih b
theorem ne_zero_pos {x : UInt8} (h : ¬ x = 0) : (0 : UInt8) < x := by
  rw [UInt8.lt_iff_toNat_lt]
  have : x.toNat ≠ 0 := fun e => h (UInt8.toNat_inj.1 (by simpa using e))
  simp; omega
theorem ordText_cons (x : UInt8) (r : List UInt8) : ordText (x :: r) = (if x = 0 then [0, 255] else [x]) ++ ordText r := by simp [ordText, esc_cons]
/-- Written lists, and whatever stands behind them, stand in the lists' order. -/
theorem cmp_ord (s t : List UInt8) : ∀ (a b : List UInt8), ¬ cmpB a b = 0 → cmpB (ordText a ++ s) (ordText b ++ t) = cmpB a b
  | [], [], h => absurd (by simp [cmpB]) h
  | [], y :: b, _ => by
    by_cases h : y = 0
    · subst h
      simp only [ordText_cons, if_true]
      have e : cmpB ([] : List UInt8) (0 :: b) = -1 := by simp [cmpB]
      rw [e]
      simp only [ordText, esc, List.flatMap_nil, List.nil_append, List.cons_append]
      rw [cmp_same, cmp_lt (by decide)]
    · have e : cmpB ([] : List UInt8) (y :: b) = -1 := by simp [cmpB]
      rw [e]
      simp only [ordText_cons, if_neg h]
      simp only [ordText, esc, List.flatMap_nil, List.nil_append, List.cons_append]
      rw [cmp_lt (ne_zero_pos h)]
  | x :: a, [], _ => by
    by_cases h : x = 0
    · subst h
      simp only [ordText_cons, if_true]
      have e : cmpB (0 :: a) ([] : List UInt8) = 1 := by simp [cmpB]
      rw [e]
      simp only [ordText, esc, List.flatMap_nil, List.nil_append, List.cons_append]
      rw [cmp_same, cmp_gt (by decide)]
    · have e : cmpB (x :: a) ([] : List UInt8) = 1 := by simp [cmpB]
      rw [e]
      simp only [ordText_cons, if_neg h]
      simp only [ordText, esc, List.flatMap_nil, List.nil_append, List.cons_append]
      rw [cmp_gt (ne_zero_pos h)]
  | x :: a, y :: b, h => by
    by_cases hxy : x = y
    · subst hxy
      rw [cmp_same] at h ⊢
      have ih := cmp_ord s t a b h
      by_cases h0 : x = 0
      · simp only [ordText_cons, if_pos h0, List.cons_append, List.nil_append]
        rw [cmp_same, cmp_same, ih]
      · simp only [ordText_cons, if_neg h0, List.cons_append, List.nil_append]
        rw [cmp_same, ih]
    · by_cases h1 : x < y
      · rw [cmp_lt h1]
        by_cases h0 : x = 0
        · have hy : ¬ y = 0 := fun e => hxy (by rw [h0, e])
          simp only [ordText_cons, if_pos h0, if_neg hy, List.cons_append, List.nil_append]
          rw [cmp_lt (ne_zero_pos hy)]
        · have hy : ¬ y = 0 := by
            rintro rfl
            rw [UInt8.lt_iff_toNat_lt] at h1; simp at h1
          simp only [ordText_cons, if_neg h0, if_neg hy, List.cons_append, List.nil_append]
          rw [cmp_lt h1]
      · have h2 : y < x := by
          rcases UInt8.lt_or_lt_of_ne hxy with h | h
          · exact absurd h h1
          · exact h
        rw [cmp_gt h2]
        by_cases h0 : y = 0
        · have hx : ¬ x = 0 := fun e => hxy (by rw [h0, e])
          simp only [ordText_cons, if_pos h0, if_neg hx, List.cons_append, List.nil_append]
          rw [cmp_gt (ne_zero_pos hx)]
        · have hx : ¬ x = 0 := by
            rintro rfl
            rw [UInt8.lt_iff_toNat_lt] at h2; simp at h2
          simp only [ordText_cons, if_neg h0, if_neg hx, List.cons_append, List.nil_append]
          rw [cmp_gt h2]
theorem ordText_pos (x : List UInt8) : 0 < (ordText x).length := by simp [ordText]
theorem cmp_ords : ∀ (a b : List (List UInt8)), cmpB (ords a) (ords b) = cmpT a b
  | [], [] => by simp [ords, cmpB, cmpT]
  | [], y :: b => by
    have := ordText_pos y
    simp only [cmpT]
    exact cmp_short (by simp [ords]) (by simp [ords]; omega)
  | x :: a, [] => by
    have := ordText_pos x
    simp only [cmpT]
    exact cmp_long (by simp [ords]; omega) (by simp [ords])
  | x :: a, y :: b => by
    simp only [cmpT, ords, List.flatMap_cons]
    by_cases h : cmpB x y = 0
    · rw [if_pos h, cmp_zero h, cmp_pre]; exact cmp_ords a b
    · rw [if_neg h, cmp_ord _ _ x y h]
/-- What a loop over both has found so far. -/
theorem cmpT_drop {a b : List (List UInt8)} {k : Nat} {x y : List UInt8} (hx : a[k]? = some x) (hy : b[k]? = some y) : cmpT (a.drop k) (b.drop k) = if cmpB x y = 0 then cmpT (a.drop (k + 1)) (b.drop (k + 1)) else cmpB x y := by
  obtain ⟨h1, e1⟩ := List.getElem?_eq_some_iff.1 hx
  obtain ⟨h2, e2⟩ := List.getElem?_eq_some_iff.1 hy
  rw [List.drop_eq_getElem_cons h1, List.drop_eq_getElem_cons h2, e1, e2]
  rfl
theorem cmpT_end {a b : List (List UInt8)} {k : Nat} (h : ¬ (k < a.length ∧ k < b.length)) : k ≤ a.length → k ≤ b.length → cmpT (a.drop k) (b.drop k) = if a.length < b.length then -1 else if b.length < a.length then 1 else 0 := by
  intro h1 h2
  rcases Nat.lt_trichotomy a.length b.length with hl | hl | hl
  · rw [if_pos hl]
    have : k = a.length := by omega
    subst this
    rw [List.drop_length, List.drop_eq_getElem_cons hl]; rfl
  · have : k = a.length := by omega
    subst this
    rw [List.drop_length, hl, List.drop_length]; simp [cmpT]
  · rw [if_neg (by omega), if_pos hl]
    have : k = b.length := by omega
    subst this
    rw [List.drop_length, List.drop_eq_getElem_cons hl]; rfl
theorem take_getR {α : Type} {l : List α} {k : Nat} {b : α} (h : l[k]? = some b) : l.take (k + 1) = l.take k ++ [b] := by
  rw [List.take_add_one, h]; rfl
theorem ords_take {l : List (List UInt8)} {k : Nat} {x : List UInt8} (h : l[k]? = some x) : ords (l.take (k + 1)) = ords (l.take k) ++ ordText x := by
  rw [take_getR h]; simp [ords]
theorem ords_length : ∀ (l : List (List UInt8)), (ords l).length ≤ 2 * l.flatten.length + 2 * l.length
  | [] => by simp [ords]
  | x :: l => by
    have h1 := ords_length l
    have h2 := esc_length x
    simp only [ords, List.flatMap_cons, List.length_append, List.flatten_cons, List.length_cons, ordText, List.length_nil] at h1 ⊢
    omega
theorem ords_take_le (l : List (List UInt8)) (k : Nat) : (ords (l.take k)).length ≤ (ords l).length := by
  have : ords l = ords (l.take k) ++ ords (l.drop k) := by
    rw [ords, ords, ords, ← List.flatMap_append, List.take_append_drop]
  rw [this, List.length_append]; omega
theorem flat_mem : ∀ {l : List (List UInt8)} {k : Nat} {x : List UInt8}, l[k]? = some x → x.length ≤ l.flatten.length
  | [], _, _, h => by simp at h
  | y :: l, 0, x, h => by
    simp only [List.getElem?_cons_zero, Option.some.injEq] at h
    subst h
    rw [List.flatten_cons, List.length_append]; omega
  | y :: l, k + 1, x, h => by
    simp only [List.getElem?_cons_succ] at h
    have := flat_mem h
    rw [List.flatten_cons, List.length_append]; omega
end Go.Proofs.Ytcjiecclmepboaa
