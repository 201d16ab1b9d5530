
/-
  Plain functions on lists of bytes, for layer 1 (codec): bytes with an end are read back; numbers of eight bytes; frames; what stands next. Nothing here names the program or the model.
-/
import Derived.Test.YtcjiecclmepboaaPa
namespace Go.Proofs.Ytcjiecclmepboaa

/-- The bytes at the head of a list: acc is what has been read, n how many bytes that took; bytes, count, error. -/
def gotAux : List UInt8 → Nat → List UInt8 → List UInt8 × Nat × Nat
  | _, _, [] => ([], 0, 5)
  | _, _, [_] => ([], 0, 5)
  | acc, n, x :: y :: r =>
    if x = 0 then (if y = 1 then (acc, n + 2, 0) else if y = 255 then gotAux (acc ++ [0]) (n + 2) r else ([], 0, 3))
    else gotAux (acc ++ [x]) (n + 1) (y :: r)
def getOrd (b : List UInt8) (p : Int) : List UInt8 × Int × Nat :=
  if p < 0 ∨ (b.length : Int) < p then ([], 0, 1) else
  match gotAux [] 0 (b.drop p.toNat) with
  | (xs, k, 0) => (xs, p + k, 0)
  | (_, _, e) => ([], 0, e)

theorem got_nil {acc : List UInt8} {n : Nat} : gotAux acc n [] = ([], 0, 5) := by simp [gotAux]
theorem got_plain {acc : List UInt8} {n : Nat} {x : UInt8} {r : List UInt8} (h : ¬ x = 0) : gotAux acc n (x :: r) = gotAux (acc ++ [x]) (n + 1) r := by
  cases r with
  | nil => simp [gotAux]
  | cons y r => rw [gotAux, if_neg h]
theorem got_end {acc : List UInt8} {n : Nat} {x : UInt8} : gotAux acc n [x] = ([], 0, 5) := by simp [gotAux]
theorem got_fin {acc : List UInt8} {n : Nat} {r : List UInt8} : gotAux acc n (0 :: 1 :: r) = (acc, n + 2, 0) := by simp [gotAux]
theorem got_esc {acc : List UInt8} {n : Nat} {r : List UInt8} : gotAux acc n (0 :: 255 :: r) = gotAux (acc ++ [0]) (n + 2) r := by simp [gotAux]
theorem got_bad {acc : List UInt8} {n : Nat} {y : UInt8} {r : List UInt8} (h1 : ¬ y = 1) (h2 : ¬ y = 255) : gotAux acc n (0 :: y :: r) = ([], 0, 3) := by simp [gotAux, h1, h2]
theorem getOrd_arg {b : List UInt8} {p : Int} (h : ¬ (0 ≤ p ∧ p ≤ b.length)) : getOrd b p = ([], 0, 1) := by
  rw [getOrd, if_pos (by omega)]
theorem getOrd_ok {b xs : List UInt8} {q k : Nat} (hq : q ≤ b.length) (h : gotAux [] 0 (b.drop q) = (xs, k, 0)) : getOrd b q = (xs, (q : Int) + k, 0) := by
  rw [getOrd, if_neg (by omega)]
  simp [h]
theorem getOrd_bad {b : List UInt8} {q e : Nat} (hq : q ≤ b.length) (h : gotAux [] 0 (b.drop q) = ([], 0, e + 1)) : getOrd b q = ([], 0, e + 1) := by
  rw [getOrd, if_neg (by omega)]
  simp [h]
theorem esc_cons (x : UInt8) (r : List UInt8) : esc (x :: r) = (if x = 0 then [0, 255] else [x]) ++ esc r := by simp [esc]
theorem got_ord (t : List UInt8) : ∀ (xs acc : List UInt8) (n : Nat), gotAux acc n (esc xs ++ (0 :: 1 :: t)) = (acc ++ xs, n + (esc xs).length + 2, 0)
  | [], acc, n => by simp [esc, gotAux]
  | x :: xs, acc, n => by
    rw [esc_cons]
    by_cases h : x = 0
    · subst h
      simp only [if_true, List.cons_append, List.nil_append]
      rw [got_esc, got_ord t xs]
      simp; omega
    · simp only [if_neg h, List.cons_append, List.nil_append]
      rw [got_plain h, got_ord t xs]
      simp; omega
theorem getOrd_ordText (xs : List UInt8) : getOrd (ordText xs) 0 = (xs, ((ordText xs).length : Int), 0) := by
  have h := got_ord [] xs [] 0
  have e : gotAux [] 0 ((ordText xs).drop 0) = (xs, (ordText xs).length, 0) := by
    rw [List.drop_zero]; unfold ordText; rw [h]; simp
  have := getOrd_ok (b := ordText xs) (q := 0) (by omega) e
  simpa using this
theorem got_length : ∀ (f : Nat) (l acc : List UInt8) (n : Nat) (xs : List UInt8) (k e : Nat), l.length ≤ f → gotAux acc n l = (xs, k, e) → xs.length ≤ acc.length + l.length
  | f, [], acc, n, xs, k, e, _, h => by rw [got_nil] at h; injection h with h _; subst h; simp
  | 0, _ :: _, _, _, _, _, _, hf, _ => by simp at hf
  | f + 1, [x], acc, n, xs, k, e, _, h => by rw [got_end] at h; injection h with h _; subst h; simp
  | f + 1, x :: y :: r, acc, n, xs, k, e, hf, h => by
    simp only [List.length_cons] at hf
    by_cases h0 : x = 0
    · subst h0
      by_cases h1 : y = 1
      · subst h1; rw [got_fin] at h; injection h with h _; subst h; simp
      · by_cases h2 : y = 255
        · subst h2; rw [got_esc] at h
          have := got_length f r _ _ _ _ _ (by omega) h
          simp at this ⊢; omega
        · rw [got_bad h1 h2] at h; injection h with h _; subst h; simp
    · rw [got_plain h0] at h
      have := got_length f (y :: r) _ _ _ _ _ (by simp; omega) h
      simp at this ⊢; omega
theorem getOrd_length {b xs : List UInt8} {p x : Int} {e : Nat} (h : getOrd b p = (xs, x, e)) : xs.length ≤ b.length := by
  rw [getOrd] at h
  split at h
  · injection h with h _; subst h; simp
  · cases hg : gotAux [] 0 (b.drop p.toNat) with
    | mk ys ke =>
      obtain ⟨k, e'⟩ := ke
      rw [hg] at h
      have := got_length _ _ _ _ _ _ _ (Nat.le_refl _) hg
      rw [List.length_drop] at this
      cases e' with
      | zero => simp only [Prod.mk.injEq] at h; obtain ⟨rfl, _⟩ := h; simp at this; omega
      | succ _ => simp only [Prod.mk.injEq] at h; obtain ⟨rfl, _⟩ := h; simp

/-! ### What stands next -/
def nextB (p : List UInt8) : List UInt8 :=
  match p.reverse.dropWhile (· == 255) with
  | [] => []
  | x :: r => r.reverse ++ [x + 1]
theorem dropWhile_all : ∀ (l r : List UInt8), (∀ y ∈ l, y = 255) → (l ++ r).dropWhile (· == 255) = r.dropWhile (· == 255)
  | [], r, _ => rfl
  | x :: l, r, h => by
    have hx := h x (List.mem_cons_self ..)
    subst hx
    rw [List.cons_append, List.dropWhile_cons_of_pos (by rfl)]
    exact dropWhile_all l r fun y hy => h y (List.mem_cons_of_mem _ hy)
theorem next_none {p : List UInt8} (h : ∀ y ∈ p, y = 255) : nextB p = [] := by
  have := dropWhile_all p.reverse [] (fun y hy => h y (List.mem_reverse.1 hy))
  rw [List.append_nil] at this
  unfold nextB; rw [this]; rfl
theorem next_some {p : List UInt8} {k : Nat} {x : UInt8} (hx : p[k]? = some x) (hne : ¬ x = 255) (h : ∀ y ∈ p.drop (k + 1), y = 255) : nextB p = p.take k ++ [x + 1] := by
  have e : p = p.take k ++ x :: p.drop (k + 1) := by rw [← drop_get hx, List.take_append_drop]
  have e2 : p.reverse = (p.drop (k + 1)).reverse ++ (x :: (p.take k).reverse) := by
    rw [show p.reverse = (p.take k ++ x :: p.drop (k + 1)).reverse by rw [← e]]; simp
  have e3 := dropWhile_all (p.drop (k + 1)).reverse (x :: (p.take k).reverse) (fun y hy => h y (List.mem_reverse.1 hy))
  rw [List.dropWhile_cons_of_neg (by simpa using hne)] at e3
  unfold nextB; rw [e2, e3]; simp
/-- Its form: what stands ahead of the last byte that isn't 255, and that byte raised. -/
theorem next_form (p : List UInt8) : (∀ y ∈ p, y = 255) ∧ nextB p = [] ∨ ∃ t x r, p = t ++ x :: r ∧ ¬ x = 255 ∧ (∀ y ∈ r, y = 255) ∧ nextB p = t ++ [x + 1] := by
  induction p with
  | nil => exact .inl ⟨by simp, rfl⟩
  | cons a p ih =>
    rcases ih with ⟨h, _⟩ | ⟨t, x, r, rfl, hx, hr, _⟩
    · by_cases ha : a = 255
      · have hall : ∀ y ∈ a :: p, y = 255 := by
          intro y hy
          rcases List.mem_cons.1 hy with rfl | hy
          · exact ha
          · exact h y hy
        exact .inl ⟨hall, next_none hall⟩
      · exact .inr ⟨[], a, p, rfl, ha, h, next_some (k := 0) rfl ha (by simpa using h)⟩
    · refine .inr ⟨a :: t, x, r, rfl, hx, hr, ?_⟩
      have := next_some (p := a :: (t ++ x :: r)) (k := t.length + 1) (x := x) (by simp) hx (by simpa using hr)
      rw [this]; simp
theorem lt_succ {x : UInt8} (h : ¬ x = 255) : x < x + 1 := by
  have h1 : x.toNat ≠ 255 := fun e => h (UInt8.toNat_inj.1 e)
  have h2 := x.toNat_lt
  rw [UInt8.lt_iff_toNat_lt, UInt8.toNat_add]
  simp; omega
theorem cmp_pre : ∀ (t a b : List UInt8), cmpB (t ++ a) (t ++ b) = cmpB a b
  | [], _, _ => rfl
  | x :: t, a, b => by rw [List.cons_append, List.cons_append, cmp_same, cmp_pre t]
theorem cmp_next {p tail : List UInt8} (h : nextB p ≠ []) : cmpB (p ++ tail) (nextB p) = -1 := by
  rcases next_form p with ⟨_, h'⟩ | ⟨t, x, r, rfl, hx, hr, hn⟩
  · exact absurd h' h
  · rw [hn, List.append_assoc, cmp_pre, List.cons_append, cmp_lt (lt_succ hx)]
theorem begins_of : ∀ (r o : List UInt8), (∀ y ∈ r, y = 255) → 0 ≤ cmpB o r → o.take r.length = r ∧ r.length ≤ o.length
  | [], o, _, _ => by simp
  | x :: r, [], _, h => by simp [cmpB] at h
  | x :: r, z :: o, hr, h => by
    have hx := hr x (List.mem_cons_self ..)
    subst hx
    by_cases hz : z = 255
    · subst hz
      rw [cmp_same] at h
      have := begins_of r o (fun y hy => hr y (List.mem_cons_of_mem _ hy)) h
      simp [this.1, this.2]
    · have : z < 255 := by
        have h1 : z.toNat ≠ 255 := fun e => hz (UInt8.toNat_inj.1 e)
        have h2 := z.toNat_lt
        rw [UInt8.lt_iff_toNat_lt]; simp; omega
      rw [cmp_lt this] at h; omega
theorem cmp_between : ∀ (t o r : List UInt8) (x : UInt8), ¬ x = 255 → (∀ y ∈ r, y = 255) → 0 ≤ cmpB o (t ++ x :: r) → ¬ (o.take (t ++ x :: r).length = t ++ x :: r ∧ (t ++ x :: r).length ≤ o.length) → 0 ≤ cmpB o (t ++ [x + 1])
  | t, [], r, x, _, _, h, _ => by cases t <;> simp [cmpB] at h
  | [], z :: o, r, x, hx, hr, h, hb => by
    simp only [List.nil_append] at h hb ⊢
    by_cases h1 : z < x
    · rw [cmp_lt h1] at h; omega
    · by_cases h2 : x < z
      · by_cases h3 : x + 1 < z
        · rw [cmp_gt h3]; omega
        · have : z = x + 1 := by
            have h4 : x.toNat ≠ 255 := fun e => hx (UInt8.toNat_inj.1 e)
            have h5 := x.toNat_lt
            have e : (x + 1).toNat = x.toNat + 1 := by rw [UInt8.toNat_add]; simp; omega
            rw [UInt8.lt_iff_toNat_lt] at h2 h3
            exact UInt8.toNat_inj.1 (by omega)
          subst this
          rw [cmp_same]
          cases o <;> simp [cmpB]
      · obtain rfl : z = x := by
          rw [UInt8.lt_iff_toNat_lt] at h1 h2
          exact UInt8.toNat_inj.1 (by omega)
        rw [cmp_same] at h
        have := begins_of r o hr h
        exact absurd (by simp [this.1, this.2]) hb
  | c :: t, z :: o, r, x, hx, hr, h, hb => by
    simp only [List.cons_append] at h hb ⊢
    by_cases h1 : z < c
    · rw [cmp_lt h1] at h; omega
    · by_cases h2 : c < z
      · rw [cmp_gt h2]; omega
      · obtain rfl : z = c := by
          rw [UInt8.lt_iff_toNat_lt] at h1 h2
          exact UInt8.toNat_inj.1 (by omega)
        rw [cmp_same] at h ⊢
        exact cmp_between t o r x hx hr h (fun hh => hb (by simpa using hh))
end Go.Proofs.Ytcjiecclmepboaa
