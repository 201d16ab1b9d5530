/-
  The texts of this proof, joined: Pk, Pl, Sq, Ss, Su, Sv, Sw, Sx, Sy, Pm, Sz.
-/
import Derived.Test.YtcjiecclmepboaaKeeM4

/-
  Plain laws of the keys of values: how they are read back, and their order. No program in sight.
-/
namespace Go.Proofs.Ytcjiecclmepboaa

/-- The number that stands in the place of an unsigned one. -/
def drop63 (n : Nat) : Int := (n : Int) - 9223372036854775808
theorem drop_lift {i : Int} (h : -9223372036854775808 ≤ i ∧ i ≤ 9223372036854775807) : drop63 (lift i) = i := by unfold drop63 lift; omega
/-- The value whose key begins at a place, the place behind it, the error. -/
def oneV (b : List UInt8) (q : Nat) : Va × Nat × Nat :=
  match b[q]? with
  | none => (.nil, 0, 3)
  | some k =>
    if k = 0 then (.nil, q + 1, 0)
    else if k = 1 then
      match b[q + 1]? with
      | none => (.nil, 0, 5)
      | some t => if 1 < t.toNat then (.nil, 0, 3) else (.bool (decide (t = 1)), q + 2, 0)
    else if k = 2 then
      if (getOrdU b ((q + 1 : Nat) : Int)).2.2 = 0 then (.int (drop63 (getOrdU b ((q + 1 : Nat) : Int)).1), (getOrdU b ((q + 1 : Nat) : Int)).2.1.toNat, 0) else (.nil, 0, (getOrdU b ((q + 1 : Nat) : Int)).2.2)
    else if k = 3 then
      if (fromKey b ((q + 1 : Nat) : Int)).2.2 = 0 then (.text (fromKey b ((q + 1 : Nat) : Int)).1, (fromKey b ((q + 1 : Nat) : Int)).2.1.toNat, 0) else (.nil, 0, (fromKey b ((q + 1 : Nat) : Int)).2.2)
    else if k = 4 then
      if (getOrd b ((q + 1 : Nat) : Int)).2.2 = 0 then (.bytes (getOrd b ((q + 1 : Nat) : Int)).1, (getOrd b ((q + 1 : Nat) : Int)).2.1.toNat, 0) else (.nil, 0, (getOrd b ((q + 1 : Nat) : Int)).2.2)
    else (.nil, 0, 3)
def fromF : Nat → List UInt8 → Nat → List Va → List Va × Nat
  | 0, _, _, out => (out, 0)
  | f + 1, b, q, out => if b.length ≤ q then (out, 0) else if (oneV b q).2.2 = 0 then fromF f b (oneV b q).2.1 (out ++ [(oneV b q).1]) else ([], (oneV b q).2.2)
def fromV (b : List UInt8) : List Va × Nat := fromF b.length b 0 []
theorem got_le : ∀ (f : Nat) (l acc : List UInt8) (n : Nat) (xs : List UInt8) (k : Nat), l.length ≤ f → gotAux acc n l = (xs, k, 0) → n + 2 ≤ k ∧ k ≤ n + l.length ∧ xs.length + 2 + n ≤ acc.length + k
  | 0, l, acc, n, xs, k, hl, h => by have : l = [] := List.eq_nil_of_length_eq_zero (by omega); subst this; simp [gotAux] at h
  | f + 1, l, acc, n, xs, k, hl, h => by
    match l, hl, h with
    | [], _, h => simp [gotAux] at h
    | [_], _, h => simp [gotAux] at h
    | x :: y :: r, hl, h =>
      simp only [List.length_cons] at hl
      rw [gotAux] at h
      by_cases hx : x = 0
      · rw [if_pos hx] at h
        by_cases hy : y = 1
        · rw [if_pos hy] at h
          simp only [Prod.mk.injEq, and_true] at h
          obtain ⟨rfl, rfl⟩ := h
          simp only [List.length_cons]; omega
        · rw [if_neg hy] at h
          by_cases hz : y = 255
          · rw [if_pos hz] at h
            have := got_le f r (acc ++ [0]) (n + 2) xs k (by omega) h
            simp only [List.length_cons, List.length_append, List.length_nil] at this ⊢
            omega
          · rw [if_neg hz] at h; simp at h
      · rw [if_neg hx] at h
        have := got_le f (y :: r) (acc ++ [x]) (n + 1) xs k (by simp only [List.length_cons]; omega) h
        simp only [List.length_cons, List.length_append, List.length_nil] at this ⊢
        omega
theorem getOrd_le {b xs : List UInt8} {q : Nat} {x : Int} (h : getOrd b q = (xs, x, 0)) : ∃ k : Nat, x = k ∧ q + 2 + xs.length ≤ k ∧ k ≤ b.length := by
  unfold getOrd at h
  by_cases hq : (q : Int) < 0 ∨ (b.length : Int) < q
  · rw [if_pos hq] at h; simp at h
  · rw [if_neg hq] at h
    rw [Int.toNat_natCast] at h
    rcases hg : gotAux [] 0 (b.drop q) with ⟨ys, k, e⟩
    rw [hg] at h
    cases e with
    | zero =>
      simp only [Prod.mk.injEq, and_true] at h
      obtain ⟨rfl, rfl⟩ := h
      have := got_le _ _ _ _ _ _ (Nat.le_refl _) hg
      simp only [List.length_drop, List.length_nil] at this
      exact ⟨q + k, by omega, by omega, by omega⟩
    | succ e => simp at h
theorem getOrdU_le {b : List UInt8} {q : Nat} (h : (getOrdU b q).2.2 = 0) : q + 8 ≤ b.length ∧ getOrdU b q = (numB ((b.drop q).take 8), (q : Int) + 8, 0) := by
  rcases getOrdU_cases b q with ⟨e, he, h1⟩ | ⟨q', hq, h1, h2⟩
  · rw [h1] at h; exact absurd h he
  · obtain rfl : q = q' := by omega
    exact ⟨h1, h2⟩
theorem fromKey_le {b : List UInt8} {q : Nat} (h : (fromKey b q).2.2 = 0) : ∃ k : Nat, (fromKey b q).2.1 = k ∧ q + 2 + (fromKey b q).1.length ≤ k ∧ k ≤ b.length := by
  unfold fromKey at h ⊢
  by_cases h1 : (getOrd b q).2.2 = 0
  · rw [if_pos h1] at h ⊢
    obtain ⟨k1, e1, e2, e3⟩ := getOrd_le (show getOrd b q = ((getOrd b q).1, (getOrd b q).2.1, 0) by rw [← h1])
    rw [e1] at h ⊢
    by_cases h2 : (getOrd b (k1 : Int)).2.2 = 0
    · rw [if_pos h2] at h ⊢
      obtain ⟨k2, f1, f2, f3⟩ := getOrd_le (show getOrd b (k1 : Int) = ((getOrd b (k1 : Int)).1, (getOrd b (k1 : Int)).2.1, 0) by rw [← h2])
      by_cases h3 : foldB (getOrd b (k1 : Int)).1 = (getOrd b q).1
      · rw [if_pos h3]; exact ⟨k2, f1, (show q + 2 + (getOrd b (k1 : Int)).1.length ≤ k2 by omega), f3⟩
      · rw [if_neg h3] at h; simp at h
    · rw [if_neg h2] at h; exact absurd h h2
  · rw [if_neg h1] at h; exact absurd h h1
theorem oneV_le {b : List UInt8} {q : Nat} (h : (oneV b q).2.2 = 0) : q < (oneV b q).2.1 ∧ q + 1 + (vaC (oneV b q).1).text.length + (vaC (oneV b q).1).data.length ≤ (oneV b q).2.1 ∧ (oneV b q).2.1 ≤ b.length := by
  unfold oneV at h ⊢
  cases hb : b[q]? with
  | none => rw [hb] at h; simp at h
  | some k =>
    have hq := (List.getElem?_eq_some_iff.1 hb).1
    rw [hb] at h
    simp only at h ⊢
    by_cases h0 : k = 0
    · simp only [if_pos h0] at h ⊢; simp [vaC]; omega
    simp only [if_neg h0] at h ⊢
    by_cases h1 : k = 1
    · simp only [if_pos h1] at h ⊢
      cases ht : b[q + 1]? with
      | none => rw [ht] at h; simp at h
      | some t =>
        have hq1 := (List.getElem?_eq_some_iff.1 ht).1
        rw [ht] at h
        simp only at h ⊢
        by_cases h2 : 1 < t.toNat
        · simp only [if_pos h2] at h; simp at h
        · simp only [if_neg h2]; simp [vaC]; omega
    simp only [if_neg h1] at h ⊢
    by_cases h2 : k = 2
    · simp only [if_pos h2] at h ⊢
      by_cases h3 : (getOrdU b ((q + 1 : Nat) : Int)).2.2 = 0
      · obtain ⟨h4, h5⟩ := getOrdU_le h3
        simp only [if_pos h3, h5]; simp [vaC]; omega
      · simp only [if_neg h3] at h; exact absurd h h3
    simp only [if_neg h2] at h ⊢
    by_cases h3 : k = 3
    · simp only [if_pos h3] at h ⊢
      by_cases h4 : (fromKey b ((q + 1 : Nat) : Int)).2.2 = 0
      · obtain ⟨k', h5, h6, h7⟩ := fromKey_le h4
        simp only [if_pos h4, h5]; simp only [vaC, Int.toNat_natCast, List.length_nil]; omega
      · simp only [if_neg h4] at h; exact absurd h h4
    simp only [if_neg h3] at h ⊢
    by_cases h4 : k = 4
    · simp only [if_pos h4] at h ⊢
      by_cases h5 : (getOrd b ((q + 1 : Nat) : Int)).2.2 = 0
      · obtain ⟨k', h6, h7, h8⟩ := getOrd_le (show getOrd b ((q + 1 : Nat) : Int) = ((getOrd b ((q + 1 : Nat) : Int)).1, (getOrd b ((q + 1 : Nat) : Int)).2.1, 0) by rw [← h5])
        simp only [if_pos h5, h6]; simp only [vaC, Int.toNat_natCast, List.length_nil]; omega
      · simp only [if_neg h5] at h; exact absurd h h5
    · simp only [if_neg h4] at h; simp at h
theorem get_mid {pre r : List UInt8} {x : UInt8} : (pre ++ (x :: r))[pre.length]? = some x := by simp
theorem get_mid1 {pre r : List UInt8} {x y : UInt8} : (pre ++ (x :: y :: r))[pre.length + 1]? = some y := by simp
theorem split1 (pre r : List UInt8) (x : UInt8) : pre ++ (x :: r) = (pre ++ [x]) ++ r := by simp
theorem oneV_key (pre r : List UInt8) {u : Va} (h : VaOk u) : oneV (pre ++ (key1 u ++ r)) pre.length = (u, pre.length + (key1 u).length, 0) := by
  cases u with
  | nil => simp [oneV, key1]
  | bool b =>
    have e : (pre ++ (key1 (.bool b) ++ r))[pre.length + 1]? = some (if b then 1 else 0) := by simp [key1]
    unfold oneV
    rw [show (pre ++ (key1 (.bool b) ++ r))[pre.length]? = some 1 by simp [key1]]
    simp only [e]
    cases b <;> simp [key1]
  | int n =>
    have hn : -9223372036854775808 ≤ n ∧ n ≤ 9223372036854775807 := h.num
    have hd : ((pre ++ (key1 (.int n) ++ r)).drop (pre.length + 1)).take 8 = ordU (lift n) := by
      rw [key1, List.cons_append, split1, show pre.length + 1 = (pre ++ [(2 : UInt8)]).length by simp, List.drop_left, List.take_left' (ordU_length _)]
    have hg := getOrdU_ok (b := pre ++ (key1 (.int n) ++ r)) (q := pre.length + 1) (by simp [key1, ordU_length]; omega)
    rw [hd, numB_ordU (lift_lt hn)] at hg
    unfold oneV
    rw [show (pre ++ (key1 (.int n) ++ r))[pre.length]? = some 2 by simp [key1]]
    simp only [hg]
    simp [drop_lift hn, key1, ordU_length]
    omega
  | text s =>
    have e : pre ++ (key1 (.text s) ++ r) = (pre ++ [3]) ++ (keyB s ++ r) := by simp [key1]
    have h1 := gotOrd_at (pre ++ [3]) (foldB s) (ordText s ++ r)
    have h2 := gotOrd_at (pre ++ [3] ++ ordText (foldB s)) s r
    have e1 : (pre ++ [3]) ++ (ordText (foldB s) ++ (ordText s ++ r)) = pre ++ (key1 (.text s) ++ r) := by rw [e, keyB]; simp
    have e2 : (pre ++ [3] ++ ordText (foldB s)) ++ (ordText s ++ r) = pre ++ (key1 (.text s) ++ r) := by rw [e, keyB]; simp
    rw [e1] at h1
    rw [e2] at h2
    rw [List.length_append, List.length_singleton] at h1
    rw [show (pre ++ [(3 : UInt8)] ++ ordText (foldB s)).length = pre.length + 1 + (ordText (foldB s)).length by simp; omega] at h2
    have hg := fromKey_4 (p := ((pre.length + 1 : Nat) : Int)) h1 h2 rfl
    unfold oneV
    rw [show (pre ++ (key1 (.text s) ++ r))[pre.length]? = some 3 by simp [key1]]
    simp only [hg]
    simp [key1, keyB]
    omega
  | bytes d =>
    have hg := gotOrd_at (pre ++ [4]) d r
    have e : (pre ++ [4]) ++ (ordText d ++ r) = pre ++ (key1 (.bytes d) ++ r) := by simp [key1]
    rw [e, List.length_append, List.length_singleton] at hg
    unfold oneV
    rw [show (pre ++ (key1 (.bytes d) ++ r))[pre.length]? = some 4 by simp [key1]]
    simp only [hg]
    simp [key1]
    omega
theorem key1_pos (u : Va) : 0 < (key1 u).length := by cases u <;> simp [key1]
theorem fromF_keys : ∀ (us : List Va) (f : Nat) (pre : List UInt8) (out : List Va), (∀ u ∈ us, VaOk u) → (keysB us).length ≤ f → fromF f (pre ++ keysB us) pre.length out = (out ++ us, 0)
  | [], f, pre, out, _, _ => by cases f <;> simp [fromF, keysB]
  | u :: us, f, pre, out, h, hf => by
    have hu := oneV_key pre (keysB us) (h u (by simp))
    have e : keysB (u :: us) = key1 u ++ keysB us := by simp [keysB]
    have hp := key1_pos u
    rw [e, List.length_append] at hf
    rw [e]
    cases f with
    | zero => omega
    | succ f =>
      rw [fromF, if_neg (by simp; omega), hu]
      simp only [if_true]
      have ih := fromF_keys us f (pre ++ key1 u) (out ++ [u]) (fun v hv => h v (by simp [hv])) (by omega)
      rw [List.length_append, List.append_assoc] at ih
      rw [ih]; simp
theorem fromV_keys {us : List Va} (h : ∀ u ∈ us, VaOk u) : fromV (keysB us) = (us, 0) := by
  have := fromF_keys us (keysB us).length [] [] h (Nat.le_refl _)
  simpa [fromV] using this
end Go.Proofs.Ytcjiecclmepboaa


/-
  Plain laws of the order of values and of their keys. No program in sight.
-/
namespace Go.Proofs.Ytcjiecclmepboaa

def cmpI (a b : Int) : Int := if a < b then -1 else if b < a then 1 else 0
/-- How two cells in form compare. -/
def cmpC (x y : Ce) : Int :=
  if x.kind = y.kind then
    if x.kind = 1 then cmpI (if x.tr then 1 else 0) (if y.tr then 1 else 0)
    else if x.kind = 2 then cmpI x.num y.num
    else if x.kind = 3 then cmpB (keyB x.text) (keyB y.text)
    else cmpB x.data y.data
  else cmpI x.kind y.kind
def cmpV (u v : Va) : Int := cmpC (vaC u) (vaC v)
def cmpVs : List Va → List Va → Int
  | [], [] => 0
  | [], _ :: _ => -1
  | _ :: _, [] => 1
  | u :: us, v :: vs => if cmpV u v = 0 then cmpVs us vs else cmpV u v
theorem cmpI_neg (a b : Int) : cmpI b a = - cmpI a b := by unfold cmpI; split <;> split <;> first | omega | rfl
theorem cmpC_neg (x y : Ce) : cmpC y x = - cmpC x y := by
  unfold cmpC
  by_cases h : x.kind = y.kind
  · rw [if_pos h, if_pos h.symm, ← h]
    by_cases h1 : x.kind = 1
    · rw [if_pos h1, if_pos h1]; exact cmpI_neg _ _
    rw [if_neg h1, if_neg h1]
    by_cases h2 : x.kind = 2
    · rw [if_pos h2, if_pos h2]; exact cmpI_neg _ _
    rw [if_neg h2, if_neg h2]
    by_cases h3 : x.kind = 3
    · rw [if_pos h3, if_pos h3]; exact cmp_neg _ _
    rw [if_neg h3, if_neg h3]; exact cmp_neg _ _
  · rw [if_neg h, if_neg (Ne.symm h)]; exact cmpI_neg _ _
theorem lt_tri (x y : UInt8) : x < y ∨ x = y ∨ y < x := by
  rcases Nat.lt_trichotomy x.toNat y.toNat with h | h | h
  · exact .inl (UInt8.lt_iff_toNat_lt.2 h)
  · exact .inr (.inl (UInt8.toNat_inj.1 h))
  · exact .inr (.inr (UInt8.lt_iff_toNat_lt.2 h))
theorem cmp_same_len : ∀ (a b s t : List UInt8), a.length = b.length → cmpB (a ++ s) (b ++ t) = if cmpB a b = 0 then cmpB s t else cmpB a b
  | [], [], s, t, _ => by simp [cmp_refl]
  | [], _ :: _, _, _, h => by simp at h
  | _ :: _, [], _, _, h => by simp at h
  | x :: a, y :: b, s, t, h => by
    have ih := cmp_same_len a b s t (by simpa using h)
    rcases lt_tri x y with h1 | h1 | h1
    · rw [List.cons_append, List.cons_append, cmp_lt h1, cmp_lt h1]; simp
    · subst h1; rw [List.cons_append, List.cons_append, cmp_same, cmp_same]; exact ih
    · rw [List.cons_append, List.cons_append, cmp_gt h1, cmp_gt h1]; simp
theorem cmp_ord_eq (a b s t : List UInt8) : cmpB (ordText a ++ s) (ordText b ++ t) = if cmpB a b = 0 then cmpB s t else cmpB a b := by
  by_cases h : cmpB a b = 0
  · rw [if_pos h, cmp_zero h, cmp_pre]
  · rw [if_neg h, cmp_ord s t a b h]
theorem cmp_num_ord {n m : Int} (hn : -9223372036854775808 ≤ n ∧ n ≤ 9223372036854775807) (hm : -9223372036854775808 ≤ m ∧ m ≤ 9223372036854775807) : cmpB (ordU (lift n)) (ordU (lift m)) = cmpI n m := by
  have h1 := cmp_ordU (lift_lt hn) (lift_lt hm)
  have h2 := cmp_ordU (lift_lt hm) (lift_lt hn)
  have h3 := cmp_neg (ordU (lift n)) (ordU (lift m))
  have h4 := cmp_range (ordU (lift n)) (ordU (lift m))
  have e1 : lift n < lift m ↔ n < m := by unfold lift; omega
  have e2 : lift m < lift n ↔ m < n := by unfold lift; omega
  rw [h3] at h2
  unfold cmpI
  by_cases a : n < m
  · rw [if_pos a]
    have : cmpB (ordU (lift n)) (ordU (lift m)) < 0 := by rw [h1]; exact e1.2 a
    omega
  · rw [if_neg a]
    by_cases b : m < n
    · rw [if_pos b]
      have : - cmpB (ordU (lift n)) (ordU (lift m)) < 0 := by rw [h2]; exact e2.2 b
      omega
    · rw [if_neg b]
      have g1 : ¬ cmpB (ordU (lift n)) (ordU (lift m)) < 0 := by rw [h1]; exact fun h => a (e1.1 h)
      have g2 : ¬ - cmpB (ordU (lift n)) (ordU (lift m)) < 0 := by rw [h2]; exact fun h => b (e2.1 h)
      omega
theorem key_cmp {u v : Va} (hu : VaOk u) (hv : VaOk v) (s t : List UInt8) : cmpB (key1 u ++ s) (key1 v ++ t) = if cmpV u v = 0 then cmpB s t else cmpV u v := by
  have lt : ∀ (x y : UInt8) (a b : List UInt8), x < y → cmpB (x :: a) (y :: b) = -1 := fun x y a b h => cmp_lt h
  have gt : ∀ (x y : UInt8) (a b : List UInt8), y < x → cmpB (x :: a) (y :: b) = 1 := fun x y a b h => cmp_gt h
  cases u <;> cases v <;> simp only [key1, List.cons_append, List.nil_append]
  case nil.nil => simp [cmp_same, cmpV, cmpC, vaC, cmp_refl]
  case bool.bool b c =>
    rw [cmp_same]
    cases b <;> cases c <;> simp [cmp_same, cmpV, cmpC, vaC, cmpI, lt 0 1 _ _ (by decide), gt 1 0 _ _ (by decide)]
  case int.int n m =>
    rw [cmp_same, cmp_same_len _ _ _ _ (by simp [ordU_length]), cmp_num_ord (n := n) (m := m) hu.num hv.num]
    simp [cmpV, cmpC, vaC]
  case text.text a b =>
    rw [cmp_same, keyB, keyB, List.append_assoc, List.append_assoc, cmp_ord_eq, cmp_ord_eq]
    have : cmpV (.text a) (.text b) = if cmpB (foldB a) (foldB b) = 0 then cmpB a b else cmpB (foldB a) (foldB b) := by
      rw [← cmp_key]; simp [cmpV, cmpC, vaC]
    rw [this]
    by_cases h1 : cmpB (foldB a) (foldB b) = 0
    · simp [h1]
    · simp [h1]
  case bytes.bytes a b =>
    rw [cmp_same, cmp_ord_eq]
    simp [cmpV, cmpC, vaC]
  all_goals first
    | (rw [lt _ _ _ _ (by decide)]; simp [cmpV, cmpC, vaC, cmpI])
    | (rw [gt _ _ _ _ (by decide)]; simp [cmpV, cmpC, vaC, cmpI])
theorem cmp_keys : ∀ {us vs : List Va}, (∀ u ∈ us, VaOk u) → (∀ v ∈ vs, VaOk v) → cmpB (keysB us) (keysB vs) = cmpVs us vs
  | [], [], _, _ => rfl
  | [], v :: vs, _, _ => by
    have := key1_pos v
    exact cmp_short rfl (by simp [keysB]; omega)
  | u :: us, [], _, _ => by
    have := key1_pos u
    exact cmp_long (by simp [keysB]; omega) rfl
  | u :: us, v :: vs, hu, hv => by
    have e : ∀ (u : Va) (us : List Va), keysB (u :: us) = key1 u ++ keysB us := fun u us => by simp [keysB]
    rw [e, e, key_cmp (hu u (by simp)) (hv v (by simp)), cmp_keys (fun x hx => hu x (by simp [hx])) (fun x hx => hv x (by simp [hx]))]
    rfl
theorem cmpVs_step {us vs : List Va} {k : Nat} {u v : Va} (hu : us[k]? = some u) (hv : vs[k]? = some v) : cmpVs (us.drop k) (vs.drop k) = if cmpV u v = 0 then cmpVs (us.drop (k + 1)) (vs.drop (k + 1)) else cmpV u v := by
  rw [show us.drop k = u :: us.drop (k + 1) from (List.drop_eq_getElem_cons (List.getElem?_eq_some_iff.1 hu).1).trans (by rw [(List.getElem?_eq_some_iff.1 hu).2]),
    show vs.drop k = v :: vs.drop (k + 1) from (List.drop_eq_getElem_cons (List.getElem?_eq_some_iff.1 hv).1).trans (by rw [(List.getElem?_eq_some_iff.1 hv).2])]
  rfl
theorem cmpVs_end {us vs : List Va} {k : Nat} (h : ¬ (k < us.length ∧ k < vs.length)) (h1 : k ≤ us.length) (h2 : k ≤ vs.length) : cmpVs (us.drop k) (vs.drop k) = if us.length = vs.length then 0 else if vs.length < us.length then 1 else -1 := by
  by_cases a : k = us.length
  · subst a
    rw [List.drop_length]
    by_cases b : us.length = vs.length
    · rw [if_pos b, b, List.drop_length]; rfl
    · rw [if_neg b, if_neg (by omega)]
      obtain ⟨x, r, hx⟩ : ∃ x r, vs.drop us.length = x :: r := by
        cases hd : vs.drop us.length with
        | nil => have := congrArg List.length hd; simp at this; omega
        | cons x r => exact ⟨x, r, rfl⟩
      rw [hx]; rfl
  · obtain rfl : k = vs.length := by omega
    rw [List.drop_length]
    rw [if_neg (by omega), if_pos (by omega)]
    obtain ⟨x, r, hx⟩ : ∃ x r, us.drop vs.length = x :: r := by
      cases hd : us.drop vs.length with
      | nil => have := congrArg List.length hd; simp at this; omega
      | cons x r => exact ⟨x, r, rfl⟩
    rw [hx]; rfl
theorem cmpI_range (a b : Int) : cmpI a b = -1 ∨ cmpI a b = 0 ∨ cmpI a b = 1 := by unfold cmpI; split <;> (try split) <;> simp
theorem cmpC_range (x y : Ce) : cmpC x y = -1 ∨ cmpC x y = 0 ∨ cmpC x y = 1 := by
  unfold cmpC
  split
  · split
    · exact cmpI_range _ _
    split
    · exact cmpI_range _ _
    split
    · exact cmp_range _ _
    exact cmp_range _ _
  · exact cmpI_range _ _
end Go.Proofs.Ytcjiecclmepboaa


/-
  Walks over the comparison of values and of cells, and of lists of cells.
-/
namespace Go.Proofs.Ytcjiecclmepboaa
open Go.RowKit

theorem isNaN_int (x : Int) (w : World) : CallsV Try.prog 100 #[.int .i64 x] w fun v w' => v = .bool false ∧ w = w' := by
  refine calls_in (N := _) Try.func100 rfl Try.ntmps100 rfl ?_; show WC _ _ _ _ _ _
  refine wc_sr ?_; refine wl_as rfl rfl ?_; refine wl_ns ?_; refine wc_sr ?_; refine wl_mv rfl rfl ?_; refine wl_mv rfl rfl ?_; refine wl_bin rfl rfl bin_neq rfl ?_; refine wl_as rfl rfl ?_; refine wl_ns ?_; refine wc_ret ?_
  exact we_ret1 rfl rfl ⟨_, rfl, by simp, rfl⟩
theorem isNaN_i64 (x : Int) (w : World) : CallsV Try.prog 101 #[.int .i64 x] w fun v w' => v = .bool false ∧ w = w' := by
  refine calls_in (N := _) Try.func101 rfl Try.ntmps101 rfl ?_; show WC _ _ _ _ _ _
  refine wc_sr ?_; refine wl_as rfl rfl ?_; refine wl_ns ?_; refine wc_sr ?_; refine wl_mv rfl rfl ?_; refine wl_mv rfl rfl ?_; refine wl_bin rfl rfl bin_neq rfl ?_; refine wl_as rfl rfl ?_; refine wl_ns ?_; refine wc_ret ?_
  exact we_ret1 rfl rfl ⟨_, rfl, by simp, rfl⟩
theorem cmpInt_any (x y : Int) (w : World) : CallsV Try.prog 80 #[.int .i64 x, .int .i64 y] w fun v w' => v = .int .i64 (cmpI x y) ∧ w = w' := by
  refine calls_in (N := _) Try.func80 rfl Try.ntmps80 rfl ?_; show WC _ _ _ _ _ _
  refine wc_sr ?_; refine wl_as rfl rfl ?_; refine wl_ns ?_; refine wc_sr ?_; refine wl_mv rfl rfl ?_
  refine wl_call ok_cmp_isNaN_int (isNaN_int x w) ⟨rfl, trivial⟩ rfl ?_
  rintro _ _ ⟨rfl, rfl⟩
  refine wl_as rfl rfl ?_; refine wl_ns ?_; refine wc_sr ?_; refine wl_mv rfl rfl ?_
  refine wl_call ok_cmp_isNaN_int (isNaN_int y w) ⟨rfl, trivial⟩ rfl ?_
  rintro _ _ ⟨rfl, rfl⟩
  refine wl_as rfl rfl ?_; refine wl_ns ?_; refine wc_seq ?_; refine wc_sr ?_; refine wl_mv rfl rfl ?_; refine wl_ns ?_; apply wc_condFb; exact rfl; exact rfl; refine wc_skip ?_; refine we_seq ?_; refine wc_seq ?_; refine wc_sr ?_; refine wl_mv rfl rfl ?_; refine wl_ns ?_; apply wc_condFb; exact rfl; exact rfl; refine wc_skip ?_; refine we_seq ?_; refine wc_seq ?_; refine wc_sr ?_; refine wl_mv rfl rfl ?_; refine wl_mv rfl rfl ?_; refine wl_bin rfl rfl bin_lss rfl ?_; refine wl_ns ?_
  refine wc_cond rfl (fun h1 => ?_) (fun h1 => ?_)
  · refine wc_sr ?_; refine wl_as rfl rfl ?_; refine wl_ns ?_; refine wc_ret ?_; refine we_seq_ret ?_
    exact we_ret1 rfl rfl ⟨_, rfl, by rw [cmpI, if_pos h1], rfl⟩
  · refine wc_skip ?_; refine we_seq ?_; refine wc_seq ?_; refine wc_sr ?_; refine wl_mv rfl rfl ?_; refine wl_mv rfl rfl ?_; refine wl_bin rfl rfl bin_gtr rfl ?_; refine wl_ns ?_
    refine wc_cond rfl (fun h2 => ?_) (fun h2 => ?_)
    · refine wc_sr ?_; refine wl_as rfl rfl ?_; refine wl_ns ?_; refine wc_ret ?_; refine we_seq_ret ?_
      exact we_ret1 rfl rfl ⟨_, rfl, by rw [cmpI, if_neg h1, if_pos h2], rfl⟩
    · refine wc_skip ?_; refine we_seq ?_; refine wc_sr ?_; refine wl_as rfl rfl ?_; refine wl_ns ?_; refine wc_ret ?_
      exact we_ret1 rfl rfl ⟨_, rfl, by rw [cmpI, if_neg h1, if_neg h2], rfl⟩
theorem cmpI64_any (x y : Int) (w : World) : CallsV Try.prog 82 #[.int .i64 x, .int .i64 y] w fun v w' => v = .int .i64 (cmpI x y) ∧ w = w' := by
  refine calls_in (N := _) Try.func82 rfl Try.ntmps82 rfl ?_; show WC _ _ _ _ _ _
  refine wc_sr ?_; refine wl_as rfl rfl ?_; refine wl_ns ?_; refine wc_sr ?_; refine wl_mv rfl rfl ?_
  refine wl_call ok_cmp_isNaN_int64 (isNaN_i64 x w) ⟨rfl, trivial⟩ rfl ?_
  rintro _ _ ⟨rfl, rfl⟩
  refine wl_as rfl rfl ?_; refine wl_ns ?_; refine wc_sr ?_; refine wl_mv rfl rfl ?_
  refine wl_call ok_cmp_isNaN_int64 (isNaN_i64 y w) ⟨rfl, trivial⟩ rfl ?_
  rintro _ _ ⟨rfl, rfl⟩
  refine wl_as rfl rfl ?_; refine wl_ns ?_; refine wc_seq ?_; refine wc_sr ?_; refine wl_mv rfl rfl ?_; refine wl_ns ?_; apply wc_condFb; exact rfl; exact rfl; refine wc_skip ?_; refine we_seq ?_; refine wc_seq ?_; refine wc_sr ?_; refine wl_mv rfl rfl ?_; refine wl_ns ?_; apply wc_condFb; exact rfl; exact rfl; refine wc_skip ?_; refine we_seq ?_; refine wc_seq ?_; refine wc_sr ?_; refine wl_mv rfl rfl ?_; refine wl_mv rfl rfl ?_; refine wl_bin rfl rfl bin_lss rfl ?_; refine wl_ns ?_
  refine wc_cond rfl (fun h1 => ?_) (fun h1 => ?_)
  · refine wc_sr ?_; refine wl_as rfl rfl ?_; refine wl_ns ?_; refine wc_ret ?_; refine we_seq_ret ?_
    exact we_ret1 rfl rfl ⟨_, rfl, by rw [cmpI, if_pos h1], rfl⟩
  · refine wc_skip ?_; refine we_seq ?_; refine wc_seq ?_; refine wc_sr ?_; refine wl_mv rfl rfl ?_; refine wl_mv rfl rfl ?_; refine wl_bin rfl rfl bin_gtr rfl ?_; refine wl_ns ?_
    refine wc_cond rfl (fun h2 => ?_) (fun h2 => ?_)
    · refine wc_sr ?_; refine wl_as rfl rfl ?_; refine wl_ns ?_; refine wc_ret ?_; refine we_seq_ret ?_
      exact we_ret1 rfl rfl ⟨_, rfl, by rw [cmpI, if_neg h1, if_pos h2], rfl⟩
    · refine wc_skip ?_; refine we_seq ?_; refine wc_sr ?_; refine wl_as rfl rfl ?_; refine wl_ns ?_; refine wc_ret ?_
      exact we_ret1 rfl rfl ⟨_, rfl, by rw [cmpI, if_neg h1, if_neg h2], rfl⟩
theorem less6_any (a b : Bool) (w : World) : CallsV Try.prog 83 #[.bool a, .bool b] w fun v w' => v = .int .i64 (if a then -1 else if b then 1 else 0) ∧ w = w' := by
  refine calls_in (N := _) Try.func83 rfl Try.ntmps83 rfl ?_; show WC _ _ _ _ _ _
  refine wc_sr ?_; refine wl_as rfl rfl ?_; refine wl_ns ?_; refine wc_seq ?_; refine wc_sr ?_; refine wl_mv rfl rfl ?_; refine wl_ns ?_
  cases a with
  | true => (apply wc_condTb; exact rfl; exact rfl; refine wc_sr ?_; refine wl_as rfl rfl ?_; refine wl_ns ?_; refine wc_ret ?_; refine we_seq_ret ?_; exact we_ret1 rfl rfl ⟨_, rfl, rfl, rfl⟩)
  | false =>
    apply wc_condFb; exact rfl; exact rfl; refine wc_skip ?_; refine we_seq ?_; refine wc_seq ?_; refine wc_sr ?_; refine wl_mv rfl rfl ?_; refine wl_ns ?_
    cases b with
    | true => (apply wc_condTb; exact rfl; exact rfl; refine wc_sr ?_; refine wl_as rfl rfl ?_; refine wl_ns ?_; refine wc_ret ?_; refine we_seq_ret ?_; exact we_ret1 rfl rfl ⟨_, rfl, rfl, rfl⟩)
    | false => (apply wc_condFb; exact rfl; exact rfl; refine wc_skip ?_; refine we_seq ?_; refine wc_sr ?_; refine wl_as rfl rfl ?_; refine wl_ns ?_; refine wc_ret ?_; exact we_ret1 rfl rfl ⟨_, rfl, rfl, rfl⟩)
theorem cmpI_of (a b : Int) : (if decide (a < b) then (-1 : Int) else if decide (b < a) then 1 else 0) = cmpI a b := by unfold cmpI; simp
theorem sameList_any {A B : Option Addr} {n m c d : Nat} {xs ys : List Ce} {w : World} (hx : RdR 5 w All A (xs.map ceEl)) (hy : RdR 5 w All B (ys.map ceEl)) (hn : xs.length = n) (hm : ys.length = m) (hok : ∀ x ∈ xs, x.data.length ≤ 68719476736) (hl : xs.length ≤ 4294967296) (hl2 : ys.length ≤ 4294967296) :
    CallsV Try.prog 52 #[.slice A n c, .slice B m d] w fun v w' => (∃ b, v = .bool b ∧ (b = true ↔ xs = ys)) ∧ Below w.heap.size w w' := by
  subst hn hm
  have hb := Below.refl w.heap.size w
  refine calls_in (N := _) Try.func52 rfl Try.ntmps52 rfl ?_; show WC _ _ _ _ _ _
  refine wc_sr ?_; refine wl_as rfl rfl ?_; refine wl_ns ?_; refine wc_seq ?_; refine wc_sr ?_; refine wl_mv rfl rfl ?_; apply wl_val; apply opv_len; exact rfl; exact tkC.sl; exact rfl; refine wl_mv rfl rfl ?_; apply wl_val; apply opv_len; exact rfl; exact tkC.sl; exact rfl; refine wl_bin rfl rfl bin_neq rfl ?_; refine wl_ns ?_
  refine wc_cond rfl (fun h1 => ?_) (fun h1 => ?_)
  · refine wc_sr ?_; refine wl_as rfl rfl ?_; refine wl_ns ?_; refine wc_ret ?_; refine we_seq_ret ?_
    exact we_ret1 rfl rfl ⟨_, rfl, ⟨false, rfl, by simp; rintro rfl; exact h1 rfl⟩, hb⟩
  have hlen : xs.length = ys.length := by omega
  refine wc_skip ?_; refine we_seq ?_; refine wc_seq ?_; refine wc_sr ?_; refine wl_as rfl rfl ?_; refine wl_ns ?_; refine wc_block ?_
  refine wc_loop (fun L wr m => ∃ k : Nat, L = [(0, .slice A xs.length c), (1, .slice B ys.length d), (5, .int .i64 (k : Int))] ∧ k ≤ xs.length ∧ xs.take k = ys.take k ∧ Below w.heap.size w wr ∧ m = xs.length - k)
    [(0, .slice A xs.length c), (1, .slice B ys.length d), (5, .int .i64 (0 : Nat))] xs.length ⟨0, rfl, by omega, by simp, hb, rfl⟩ ⟨rfl, rfl, rfl, trivial⟩ ?_
  clear hb
  rintro _ w1 m ⟨k, rfl, hk, he, hb, rfl⟩
  refine wc_seq ?_; refine wc_sr ?_; refine wl_mv rfl rfl ?_; refine wl_mv rfl rfl ?_; apply wl_val; apply opv_len; exact rfl; exact tkC.sl; exact rfl; refine wl_bin rfl rfl bin_lss rfl ?_; refine wl_ns ?_
  refine wc_cond rfl (fun h1 => ?_) (fun h1 => ?_)
  · obtain ⟨x, hxk⟩ : ∃ x, xs[k]? = some x := ⟨_, List.getElem?_eq_getElem (by omega)⟩
    obtain ⟨y, hyk⟩ : ∃ y, ys[k]? = some y := ⟨_, List.getElem?_eq_getElem (by omega)⟩
    obtain ⟨b, o, cs, rfl, _, _, hp, i1⟩ := RdR.at (k := 5) (by decide) hx (E := ceEl x) (i := k) (by rw [List.getElem?_map, hxk]; rfl)
    obtain ⟨X, cx, rfl, rx, _⟩ := ceEl.rd hp
    obtain ⟨b2, o2, cs2, rfl, _, _, hp2, i2⟩ := RdR.at (k := 5) (by decide) hy (E := ceEl y) (i := k) (by rw [List.getElem?_map, hyk]; rfl)
    obtain ⟨Y, cy, rfl, ry, _⟩ := ceEl.rd hp2
    replace i1 := i1.below hb
    replace i2 := i2.below hb
    replace rx := rx.below hb
    replace ry := ry.below hb
    have hox := hok x (List.mem_of_getElem? hxk)
    obtain ⟨q, hxy⟩ : ∃ q, sameC x y = q := ⟨_, rfl⟩
    refine wc_skip ?_; refine we_seq ?_; refine wc_seq ?_; refine wc_block ?_; refine wc_seq ?_
    refine wc_drawB mixed (by kernel_rfl) ?_
    apply wq_val; intro _ hw_; apply opv_move; exact rfl; exact rfl; apply wq_val; intro _ hw_; apply opv_move; exact rfl; exact rfl; apply wq_val; intro _ hw_; apply opv_idxG tkC; exact rfl; exact rfl; exact rfl; omega; exact rfl; apply wq_val; intro _ hw_; apply opv_ldG; exact rfl; exact Wi.below (by assumption) hw_; exact sC; exact rfl; apply wq_val; intro _ hw_; apply opv_move; exact rfl; exact rfl; apply wq_val; intro _ hw_; apply opv_move; exact rfl; exact rfl; apply wq_val; intro _ hw_; apply opv_idxG tkC; exact rfl; exact rfl; exact rfl; omega; exact rfl; apply wq_val; intro _ hw_; apply opv_ldG; exact rfl; exact Wi.below (by assumption) hw_; exact sC; exact rfl
    refine wq_call (v := .bool q) ok_caissonref06_Same (fun w' hw => (same_any (rx.below hw) (ry.below hw) (by omega)).mono (fun v w2 h => ⟨h.1.trans (by rw [hxy]), hw.trans (h.2.mono hw.size)⟩)) ⟨rfl, rfl, trivial⟩ rfl ?_
    apply wq_val; intro _ hw_; apply opv_not; exact rfl; exact rfl; refine wq_nil fun w1 hw1 => ?_
    replace hb := hb.trans (hw1.mono hb.size)
    have hs : sameC x y = true ↔ x = y := by obtain ⟨k, b, n, s, d⟩ := x; obtain ⟨k', b', n', s', d'⟩ := y; simp [sameC]
    refine we_seq ?_
    cases q with
    | false =>
      apply wc_condTb; exact rfl; exact Bool.not_false; refine wc_sr ?_; refine wl_as rfl rfl ?_; refine wl_ns ?_; refine wc_ret ?_; refine we_block_ret ?_; refine we_seq_ret ?_; refine we_loop_ret ?_; refine we_block_ret ?_; refine we_seq_ret ?_
      exact we_ret1 rfl rfl ⟨_, rfl, ⟨false, rfl, by
        simp only [Bool.false_eq_true, false_iff]
        rintro rfl
        rw [hxk] at hyk; cases hyk
        rw [hs.2 rfl] at hxy; cases hxy⟩, hb⟩
    | true =>
      obtain rfl := hs.1 hxy
      apply wc_condFb; exact rfl; exact Bool.not_true; refine wc_skip ?_; refine we_block_norm ?_; refine we_seq ?_; refine wc_region ?_; refine wl_mv rfl rfl ?_; apply wl_val; apply opv_bin; exact rfl; exact rfl; exact bin_add64 (by omega); exact rfl; refine wl_as rfl rfl ?_; refine wl_nil ?_
      refine we_loop _ (xs.length - (k + 1)) ⟨k + 1, rfl, by omega, by rw [take_getR hxk, take_getR hyk, he], hb, rfl⟩ (by omega) ⟨rfl, rfl, by simp [lookT], trivial⟩
  · obtain rfl : k = xs.length := by omega
    refine wc_exit ?_; refine we_seq_exit ?_; refine we_loop_exit ?_; refine we_block_exit ?_; refine we_seq ?_; refine wc_sr ?_; refine wl_as rfl rfl ?_; refine wl_ns ?_; refine wc_ret ?_
    exact we_ret1 rfl rfl ⟨_, rfl, ⟨true, rfl, by rw [List.take_length, hlen, List.take_length] at he; simp [he]⟩, hb⟩
end Go.Proofs.Ytcjiecclmepboaa


/-
  Walks over the program's and the reference's Compare.
-/
namespace Go.Proofs.Ytcjiecclmepboaa
open Go.RowKit

theorem b2i (b : Bool) : ((if b then 1 else 0 : Nat) : Int) = if b then 1 else 0 := by cases b <;> rfl
theorem cmpC_k {x y : Ce} (h : ¬ x.kind = y.kind) : cmpC x y = cmpI x.kind y.kind := by rw [cmpC, if_neg h]
theorem cmpC_1 {x y : Ce} (h : x.kind = y.kind) (h1 : x.kind = 1) : cmpC x y = cmpI (if x.tr then 1 else 0) (if y.tr then 1 else 0) := by rw [cmpC, if_pos h, if_pos h1]
theorem cmpC_2 {x y : Ce} (h : x.kind = y.kind) (h1 : x.kind = 2) : cmpC x y = cmpI x.num y.num := by rw [cmpC, if_pos h, if_neg (by omega), if_pos h1]
theorem cmpC_3 {x y : Ce} (h : x.kind = y.kind) (h1 : x.kind = 3) : cmpC x y = cmpB (keyB x.text) (keyB y.text) := by rw [cmpC, if_pos h, if_neg (by omega), if_neg (by omega), if_pos h1]
theorem cmpC_o {x y : Ce} (h : x.kind = y.kind) (h1 : ¬ x.kind = 1) (h2 : ¬ x.kind = 2) (h3 : ¬ x.kind = 3) : cmpC x y = cmpB x.data y.data := by rw [cmpC, if_pos h, if_neg h1, if_neg h2, if_neg h3]
set_option maxHeartbeats 1000000 in
theorem compareV_any {u v : Va} {A B : Option Addr} {c d : Nat} {w : World} (hr : RdB w A (vaC u).data) (hs : RdB w B (vaC v).data) (hu : VaOk u) (hv : VaOk v) :
    CallsV Try.prog 47 #[vaV u A c, vaV v B d] w fun r w' => r = .tuple #[.int .i64 (cmpV u v), .int .i64 0] ∧ Below w.heap.size w w' := by
  have hb := Below.refl w.heap.size w
  have hdu := hu.data
  have hdv := hv.data
  refine calls_in (N := _) Try.func47 rfl Try.ntmps47 rfl ?_; show WC _ _ _ _ _ _
  refine wc_sr ?_; refine wl_as rfl rfl ?_; refine wl_as rfl rfl ?_; refine wl_ns ?_; refine wc_sr ?_; refine wl_mv rfl rfl ?_
  refine wl_call ok_cell_Cell (cell_any hr (by omega)) ⟨rfl, trivial⟩ rfl ?_; rintro _ _ ⟨A2, c2, rfl, o1, hbx⟩; replace hb := hb.trans (hbx.mono hb.size); clear hbx
  refine wl_mv rfl rfl ?_; apply wl_val; apply opv_extract; exact rfl; exact rfl; exact rfl; apply wl_val; apply opv_extract; exact rfl; exact rfl; exact rfl
  refine wl_var (cs := ceV (vaC u) A2 c2) zeroC sC rfl (fun _ => rfl) (by first | rfl | simp [Value.oneCell'] | simp [ceV, Value.oneCell']) rfl fun g6 _ hg6 a6 hbx => ?_; replace o1 := OwB.below o1 hbx; replace hb := hb.trans (hbx.mono hb.size); clear hbx
  refine wl_as rfl rfl ?_; refine wl_ns ?_; refine wc_sr ?_; refine wl_mv rfl rfl ?_
  refine wl_call ok_cell_Cell (cell_any (hs.below hb) (by omega)) ⟨rfl, trivial⟩ rfl ?_; rintro _ _ ⟨B2, d2, rfl, o2, hbx⟩; replace o1 := OwB.below o1 hbx; replace a6 := Ar.bel a6 hbx; replace hb := hb.trans (hbx.mono hb.size); clear hbx
  refine wl_mv rfl rfl ?_; apply wl_val; apply opv_extract; exact rfl; exact rfl; exact rfl; apply wl_val; apply opv_extract; exact rfl; exact rfl; exact rfl
  refine wl_var (cs := ceV (vaC v) B2 d2) zeroC sC rfl (fun _ => rfl) (by first | rfl | simp [Value.oneCell'] | simp [ceV, Value.oneCell']) rfl fun g8 _ hg8 a8 hbx => ?_; replace o1 := OwB.below o1 hbx; replace o2 := OwB.below o2 hbx; replace a6 := Ar.bel a6 hbx; replace hb := hb.trans (hbx.mono hb.size); clear hbx
  have htu := hu.text
  have htv := hv.text
  unfold cmpV
  obtain ⟨x, hx⟩ : ∃ x, vaC u = x := ⟨_, rfl⟩
  obtain ⟨y, hy⟩ : ∃ y, vaC v = y := ⟨_, rfl⟩
  rw [hx] at htu hdu a6 o1
  rw [hy] at htv hdv a8 o2
  rw [hx, hy]
  unfold ceV at a6 a8
  by_cases hk : x.kind = y.kind
  case neg =>
    refine wl_as rfl rfl ?_; refine wl_ns ?_; refine wc_seq ?_; refine wc_sr ?_; refine wl_mv rfl rfl ?_; refine wl_bin rfl rfl bin_neq rfl ?_; refine wl_mv rfl rfl ?_; apply wl_take; exact rfl; exact rfl; exact rfl; refine bF ?_; (with_reducible exact nne); refine wl_mv rfl rfl ?_; apply wl_take; exact rfl; exact rfl; exact rfl; refine bF ?_; (with_reducible exact nne); refine wl_bin rfl rfl bin_neq rfl ?_; apply wl_val; apply opv_pickF; exact rfl; refine bF ?_; (with_reducible exact nne); exact rfl; exact rfl; refine wl_ns ?_; apply wc_condFb; exact rfl; exact rfl; refine wc_skip ?_; refine we_seq ?_; refine wc_seq ?_; refine wc_sr ?_; apply wl_val; apply opv_fa; exact fa_sC (by decide); exact rfl; exact rfl; apply wl_val; apply opv_ldX; exact rfl; assumption; exact c1_int; exact rfl; exact rfl; apply wl_val; apply opv_fa; exact fa_sC (by decide); exact rfl; exact rfl; apply wl_val; apply opv_ldX; exact rfl; assumption; exact c1_int; exact rfl; exact rfl; refine wl_bin rfl rfl bin_neq rfl ?_; refine wl_ns ?_; apply wc_decT; exact rfl; (with_reducible assumption); refine wc_sr ?_; apply wl_val; apply opv_fa; exact fa_sC (by decide); exact rfl; exact rfl; apply wl_val; apply opv_ldX; exact rfl; assumption; exact c1_int; exact rfl; exact rfl; apply wl_val; apply opv_fa; exact fa_sC (by decide); exact rfl; exact rfl; apply wl_val; apply opv_ldX; exact rfl; assumption; exact c1_int; exact rfl; exact rfl
    refine wl_call ok_cmp_Compare_int (cmpInt_any x.kind y.kind _) ⟨rfl, rfl, trivial⟩ rfl ?_
    rintro _ _ ⟨rfl, rfl⟩
    refine wl_as rfl rfl ?_; refine wl_as rfl rfl ?_; refine wl_ns ?_; refine wc_ret ?_; refine we_seq_ret ?_
    exact we_ret2 rfl rfl rfl ⟨_, rfl, by rw [cmpC_k hk], hb⟩
  by_cases h1 : x.kind = 1
  · refine wl_as rfl rfl ?_; refine wl_ns ?_; refine wc_seq ?_; refine wc_sr ?_; refine wl_mv rfl rfl ?_; refine wl_bin rfl rfl bin_neq rfl ?_; refine wl_mv rfl rfl ?_; apply wl_take; exact rfl; exact rfl; exact rfl; refine bF ?_; (with_reducible exact nne); refine wl_mv rfl rfl ?_; apply wl_take; exact rfl; exact rfl; exact rfl; refine bF ?_; (with_reducible exact nne); refine wl_bin rfl rfl bin_neq rfl ?_; apply wl_val; apply opv_pickF; exact rfl; refine bF ?_; (with_reducible exact nne); exact rfl; exact rfl; refine wl_ns ?_; apply wc_condFb; exact rfl; exact rfl; refine wc_skip ?_; refine we_seq ?_; refine wc_seq ?_; refine wc_sr ?_; apply wl_val; apply opv_fa; exact fa_sC (by decide); exact rfl; exact rfl; apply wl_val; apply opv_ldX; exact rfl; assumption; exact c1_int; exact rfl; exact rfl; apply wl_val; apply opv_fa; exact fa_sC (by decide); exact rfl; exact rfl; apply wl_val; apply opv_ldX; exact rfl; assumption; exact c1_int; exact rfl; exact rfl; refine wl_bin rfl rfl bin_neq rfl ?_; refine wl_ns ?_; apply wc_decF; exact rfl; omega; refine wc_skip ?_; refine we_seq ?_; refine wc_seq ?_; refine wc_sr ?_; apply wl_val; apply opv_fa; exact fa_sC (by decide); exact rfl; exact rfl; apply wl_val; apply opv_ldX; exact rfl; assumption; exact c1_int; exact rfl; exact rfl; refine wl_ns ?_; refine wc_block ?_; refine wc_sr ?_; refine wl_bin rfl rfl bin_eql rfl ?_; refine wl_as rfl rfl ?_; refine wl_ns ?_; apply wc_decT; exact rfl; (with_reducible assumption); refine wc_seq ?_
    refine wc_drawB mixed (by kernel_rfl) ?_
    apply wq_val; intro _ hw_; apply opv_fa; exact fa_sC (by decide); exact rfl; exact rfl; apply wq_val; intro _ hw_; apply opv_ldX; exact rfl; exact Ar.bel (by assumption) hw_; exact c1_bool; exact rfl; exact rfl
    refine wq_call ok_cell_truth (fun w' hw => (truth_any (b := x.tr)).mono (fun v w2 h => ⟨h.1, h.2 ▸ hw⟩)) ⟨rfl, trivial⟩ rfl ?_
    apply wq_val; intro _ hw_; apply opv_fa; exact fa_sC (by decide); exact rfl; exact rfl; apply wq_val; intro _ hw_; apply opv_ldX; exact rfl; exact Ar.bel (by assumption) hw_; exact c1_bool; exact rfl; exact rfl
    refine wq_call ok_cell_truth (fun w' hw => (truth_any (b := y.tr)).mono (fun v w2 h => ⟨h.1, h.2 ▸ hw⟩)) ⟨rfl, trivial⟩ rfl ?_
    refine wq_call ok_cmp_Compare_int (fun w' hw => (cmpInt_any _ _ _).mono (fun v w2 h => ⟨h.1, h.2 ▸ hw⟩)) ⟨rfl, rfl, trivial⟩ rfl ?_
    apply wq_val; intro _ hw_; apply opv_assign; exact rfl; exact rfl; apply wq_val; intro _ hw_; apply opv_assign; exact rfl; exact rfl; refine wq_nil fun w1 hw1 => ?_
    replace hb := hb.trans (hw1.mono hb.size)
    refine we_seq ?_; refine wc_ret ?_; refine we_block_ret ?_; refine we_seq_ret ?_
    exact we_ret2 rfl rfl rfl ⟨_, rfl, by rw [cmpC_1 hk h1, b2i, b2i], hb⟩
  by_cases h2 : x.kind = 2
  · refine wl_as rfl rfl ?_; refine wl_ns ?_; refine wc_seq ?_; refine wc_sr ?_; refine wl_mv rfl rfl ?_; refine wl_bin rfl rfl bin_neq rfl ?_; refine wl_mv rfl rfl ?_; apply wl_take; exact rfl; exact rfl; exact rfl; refine bF ?_; (with_reducible exact nne); refine wl_mv rfl rfl ?_; apply wl_take; exact rfl; exact rfl; exact rfl; refine bF ?_; (with_reducible exact nne); refine wl_bin rfl rfl bin_neq rfl ?_; apply wl_val; apply opv_pickF; exact rfl; refine bF ?_; (with_reducible exact nne); exact rfl; exact rfl; refine wl_ns ?_; apply wc_condFb; exact rfl; exact rfl; refine wc_skip ?_; refine we_seq ?_; refine wc_seq ?_; refine wc_sr ?_; apply wl_val; apply opv_fa; exact fa_sC (by decide); exact rfl; exact rfl; apply wl_val; apply opv_ldX; exact rfl; assumption; exact c1_int; exact rfl; exact rfl; apply wl_val; apply opv_fa; exact fa_sC (by decide); exact rfl; exact rfl; apply wl_val; apply opv_ldX; exact rfl; assumption; exact c1_int; exact rfl; exact rfl; refine wl_bin rfl rfl bin_neq rfl ?_; refine wl_ns ?_; apply wc_decF; exact rfl; omega; refine wc_skip ?_; refine we_seq ?_; refine wc_seq ?_; refine wc_sr ?_; apply wl_val; apply opv_fa; exact fa_sC (by decide); exact rfl; exact rfl; apply wl_val; apply opv_ldX; exact rfl; assumption; exact c1_int; exact rfl; exact rfl; refine wl_ns ?_; refine wc_block ?_; refine wc_sr ?_; refine wl_bin rfl rfl bin_eql rfl ?_; refine wl_as rfl rfl ?_; refine wl_ns ?_; apply wc_decF; exact rfl; (with_reducible assumption); refine wc_sr ?_; refine wl_bin rfl rfl bin_eql rfl ?_; refine wl_as rfl rfl ?_; refine wl_ns ?_; apply wc_decT; exact rfl; (with_reducible assumption); refine wc_sr ?_; apply wl_val; apply opv_fa; exact fa_sC (by decide); exact rfl; exact rfl; apply wl_val; apply opv_ldX; exact rfl; assumption; exact c1_i64; exact rfl; exact rfl; apply wl_val; apply opv_fa; exact fa_sC (by decide); exact rfl; exact rfl; apply wl_val; apply opv_ldX; exact rfl; assumption; exact c1_i64; exact rfl; exact rfl
    refine wl_call ok_cmp_Compare_int64 (cmpI64_any x.num y.num _) ⟨rfl, rfl, trivial⟩ rfl ?_
    rintro _ _ ⟨rfl, rfl⟩
    refine wl_as rfl rfl ?_; refine wl_as rfl rfl ?_; refine wl_ns ?_; refine wc_ret ?_; refine we_block_ret ?_; refine we_seq_ret ?_
    exact we_ret2 rfl rfl rfl ⟨_, rfl, by rw [cmpC_2 hk h2], hb⟩
  by_cases h3 : x.kind = 3
  · refine wl_as rfl rfl ?_; refine wl_ns ?_; refine wc_seq ?_; refine wc_sr ?_; refine wl_mv rfl rfl ?_; refine wl_bin rfl rfl bin_neq rfl ?_; refine wl_mv rfl rfl ?_; apply wl_take; exact rfl; exact rfl; exact rfl; refine bF ?_; (with_reducible exact nne); refine wl_mv rfl rfl ?_; apply wl_take; exact rfl; exact rfl; exact rfl; refine bF ?_; (with_reducible exact nne); refine wl_bin rfl rfl bin_neq rfl ?_; apply wl_val; apply opv_pickF; exact rfl; refine bF ?_; (with_reducible exact nne); exact rfl; exact rfl; refine wl_ns ?_; apply wc_condFb; exact rfl; exact rfl; refine wc_skip ?_; refine we_seq ?_; refine wc_seq ?_; refine wc_sr ?_; apply wl_val; apply opv_fa; exact fa_sC (by decide); exact rfl; exact rfl; apply wl_val; apply opv_ldX; exact rfl; assumption; exact c1_int; exact rfl; exact rfl; apply wl_val; apply opv_fa; exact fa_sC (by decide); exact rfl; exact rfl; apply wl_val; apply opv_ldX; exact rfl; assumption; exact c1_int; exact rfl; exact rfl; refine wl_bin rfl rfl bin_neq rfl ?_; refine wl_ns ?_; apply wc_decF; exact rfl; omega; refine wc_skip ?_; refine we_seq ?_; refine wc_seq ?_; refine wc_sr ?_; apply wl_val; apply opv_fa; exact fa_sC (by decide); exact rfl; exact rfl; apply wl_val; apply opv_ldX; exact rfl; assumption; exact c1_int; exact rfl; exact rfl; refine wl_ns ?_; refine wc_block ?_; refine wc_sr ?_; refine wl_bin rfl rfl bin_eql rfl ?_; refine wl_as rfl rfl ?_; refine wl_ns ?_; apply wc_decF; exact rfl; (with_reducible assumption); refine wc_sr ?_; refine wl_bin rfl rfl bin_eql rfl ?_; refine wl_as rfl rfl ?_; refine wl_ns ?_; apply wc_decF; exact rfl; (with_reducible assumption); refine wc_sr ?_; refine wl_bin rfl rfl bin_eql rfl ?_; refine wl_as rfl rfl ?_; refine wl_ns ?_; apply wc_decT; exact rfl; (with_reducible assumption); refine wc_seq ?_
    refine wc_heldB mixed fun w3 hS => ?_
    replace hb := hb.trans (hS.mono hb.size)
    apply wh_take 0; exact rfl; kernel_rfl; kernel_rfl; kernel_rfl; exact hS; intro _ hw_; apply opv_fa; exact fa_sC (by decide); exact rfl; exact rfl; apply wh_take 1; exact rfl; kernel_rfl; kernel_rfl; kernel_rfl; exact hS; intro _ hw_; apply opv_ldX; exact rfl; exact Ar.bel (by assumption) hw_; exact c1_str; exact rfl; exact rfl; apply wh_take 3; exact rfl; kernel_rfl; kernel_rfl; kernel_rfl; exact hS; intro _ hw_; apply opv_fa; exact fa_sC (by decide); exact rfl; exact rfl; apply wh_take 4; exact rfl; kernel_rfl; kernel_rfl; kernel_rfl; exact hS; intro _ hw_; apply opv_ldX; exact rfl; exact Ar.bel (by assumption) hw_; exact c1_str; exact rfl; exact rfl
    refine wh_one 2 (o := ⟨_, _, _, _, _, _⟩) (by kernel_rfl) rfl ?_
    refine wl_call ok_text_Key (key_any (l := x.text) htu _) ⟨rfl, trivial⟩ rfl ?_
    rintro _ w4 ⟨X, cx, rfl, o3, hbx⟩
    have hS4 := hS.trans (hbx.mono hS.size)
    replace hb := hb.trans (hbx.mono hb.size)
    clear hbx
    refine wl_nil ?_
    refine we_held hS4 ?_
    refine wh_one 5 (o := ⟨_, _, _, _, _, _⟩) (by kernel_rfl) rfl ?_
    refine wl_call ok_text_Key (key_any (l := y.text) htv _) ⟨rfl, trivial⟩ rfl ?_
    rintro _ w5 ⟨Y, cy, rfl, o4, hbx⟩
    have hS5 := hS4.trans (hbx.mono hS4.size)
    replace hb := hb.trans (hbx.mono hb.size)
    replace o3 := OwB.below o3 hbx
    clear hbx
    refine wl_nil ?_
    refine we_held hS5 ?_
    refine wh_one 6 (o := ⟨_, _, _, _, _, _⟩) (by kernel_rfl) rfl ?_
    refine wl_call ok_bytes_Compare (bytesCompare_any o3.rd o4.rd rfl rfl) ⟨rfl, rfl, trivial⟩ rfl ?_
    rintro _ _ ⟨rfl, rfl⟩
    refine wl_nil ?_
    refine we_held hS5 ?_
    apply wh_take 7; exact rfl; kernel_rfl; kernel_rfl; kernel_rfl; exact hS5; intro _ hw_; apply opv_assign; exact rfl; exact rfl; apply wh_take 8; exact rfl; kernel_rfl; kernel_rfl; kernel_rfl; exact hS5; intro _ hw_; apply opv_assign; exact rfl; exact rfl
    refine wh_done (by kernel_rfl) ?_
    refine we_seq ?_; refine wc_ret ?_; refine we_block_ret ?_; refine we_seq_ret ?_
    exact we_ret2 rfl rfl rfl ⟨_, rfl, by rw [cmpC_3 hk h3], hb⟩
  · refine wl_as rfl rfl ?_; refine wl_ns ?_; refine wc_seq ?_; refine wc_sr ?_; refine wl_mv rfl rfl ?_; refine wl_bin rfl rfl bin_neq rfl ?_; refine wl_mv rfl rfl ?_; apply wl_take; exact rfl; exact rfl; exact rfl; refine bF ?_; (with_reducible exact nne); refine wl_mv rfl rfl ?_; apply wl_take; exact rfl; exact rfl; exact rfl; refine bF ?_; (with_reducible exact nne); refine wl_bin rfl rfl bin_neq rfl ?_; apply wl_val; apply opv_pickF; exact rfl; refine bF ?_; (with_reducible exact nne); exact rfl; exact rfl; refine wl_ns ?_; apply wc_condFb; exact rfl; exact rfl; refine wc_skip ?_; refine we_seq ?_; refine wc_seq ?_; refine wc_sr ?_; apply wl_val; apply opv_fa; exact fa_sC (by decide); exact rfl; exact rfl; apply wl_val; apply opv_ldX; exact rfl; assumption; exact c1_int; exact rfl; exact rfl; apply wl_val; apply opv_fa; exact fa_sC (by decide); exact rfl; exact rfl; apply wl_val; apply opv_ldX; exact rfl; assumption; exact c1_int; exact rfl; exact rfl; refine wl_bin rfl rfl bin_neq rfl ?_; refine wl_ns ?_; apply wc_decF; exact rfl; omega; refine wc_skip ?_; refine we_seq ?_; refine wc_seq ?_; refine wc_sr ?_; apply wl_val; apply opv_fa; exact fa_sC (by decide); exact rfl; exact rfl; apply wl_val; apply opv_ldX; exact rfl; assumption; exact c1_int; exact rfl; exact rfl; refine wl_ns ?_; refine wc_block ?_; refine wc_sr ?_; refine wl_bin rfl rfl bin_eql rfl ?_; refine wl_as rfl rfl ?_; refine wl_ns ?_; apply wc_decF; exact rfl; (with_reducible assumption); refine wc_sr ?_; refine wl_bin rfl rfl bin_eql rfl ?_; refine wl_as rfl rfl ?_; refine wl_ns ?_; apply wc_decF; exact rfl; (with_reducible assumption); refine wc_sr ?_; refine wl_bin rfl rfl bin_eql rfl ?_; refine wl_as rfl rfl ?_; refine wl_ns ?_; apply wc_decF; exact rfl; (with_reducible assumption); refine wc_skip ?_; refine we_block_norm ?_; refine we_seq ?_; refine wc_sr ?_; apply wl_val; apply opv_fa; exact fa_sC (by decide); exact rfl; exact rfl; apply wl_val; apply opv_ldX; exact rfl; assumption; exact c1_by; exact rfl; exact rfl; apply wl_val; apply opv_fa; exact fa_sC (by decide); exact rfl; exact rfl; apply wl_val; apply opv_ldX; exact rfl; assumption; exact c1_by; exact rfl; exact rfl
    refine wl_call ok_bytes_Compare (bytesCompare_any o1.rd o2.rd rfl rfl) ⟨rfl, rfl, trivial⟩ rfl ?_
    rintro _ _ ⟨rfl, rfl⟩
    refine wl_as rfl rfl ?_; refine wl_as rfl rfl ?_; refine wl_ns ?_; refine wc_ret ?_
    exact we_ret2 rfl rfl rfl ⟨_, rfl, by rw [cmpC_o hk h1 h2 h3], hb⟩
end Go.Proofs.Ytcjiecclmepboaa


/-
  The walk over the reference's Compare, and over CellOrders.
-/
namespace Go.Proofs.Ytcjiecclmepboaa
open Go.RowKit

set_option maxHeartbeats 1000000 in
theorem refCompare_any {x y : Ce} {A B : Option Addr} {c d : Nat} {w : World} (hr : RdB w A x.data) (hs : RdB w B y.data) (hx : x.text.length ≤ 68719476736) (hy : y.text.length ≤ 68719476736) (hlx : x.data.length ≤ 68719476736) (hly : y.data.length ≤ 68719476736) :
    CallsV Try.prog 48 #[.agg (ceV x A c).toArray, .agg (ceV y B d).toArray] w fun r w' => r = .int .i64 (cmpC x y) ∧ Below w.heap.size w w' := by
  have hb := Below.refl w.heap.size w
  have hmax : maxLen = 9223372036854775807 := rfl
  refine calls_in (N := _) Try.func48 rfl Try.ntmps48 rfl ?_; show WC _ _ _ _ _ _
  refine wc_sr ?_
  refine wl_box (cs := ceV x A c) rfl rfl fun g2 w2 hg2 a2 hbx => ?_
  replace hb := hb.trans (hbx.mono hb.size)
  clear hbx
  refine wl_box (cs := ceV y B d) rfl rfl fun g3 w3 hg3 a3 hbx => ?_
  replace a2 := Ar.bel a2 hbx
  replace hb := hb.trans (hbx.mono hb.size)
  clear hbx
  unfold ceV at a2 a3
  by_cases hk : x.kind = y.kind
  case neg =>
    refine wl_as rfl rfl ?_; refine wl_ns ?_; refine wc_seq ?_; refine wc_sr ?_; apply wl_val; apply opv_fa; exact fa_sC (by decide); exact rfl; exact rfl; apply wl_val; apply opv_ldX; exact rfl; assumption; exact c1_int; exact rfl; exact rfl; apply wl_val; apply opv_fa; exact fa_sC (by decide); exact rfl; exact rfl; apply wl_val; apply opv_ldX; exact rfl; assumption; exact c1_int; exact rfl; exact rfl; refine wl_bin rfl rfl bin_neq rfl ?_; refine wl_ns ?_; apply wc_decT; exact rfl; (with_reducible assumption); refine wc_sr ?_; apply wl_val; apply opv_fa; exact fa_sC (by decide); exact rfl; exact rfl; apply wl_val; apply opv_ldX; exact rfl; assumption; exact c1_int; exact rfl; exact rfl; apply wl_val; apply opv_fa; exact fa_sC (by decide); exact rfl; exact rfl; apply wl_val; apply opv_ldX; exact rfl; assumption; exact c1_int; exact rfl; exact rfl; refine wl_bin rfl rfl bin_lss rfl ?_
    refine wl_call ok_caissonref06_less (less6_any _ _ _) ⟨rfl, rfl, trivial⟩ rfl ?_
    rintro _ _ ⟨rfl, rfl⟩
    refine wl_as rfl rfl ?_; refine wl_ns ?_; refine wc_ret ?_; refine we_seq_ret ?_
    refine we_ret1 rfl rfl ⟨_, rfl, ?_, hb⟩
    rw [cmpC_k hk, cmpI]
    by_cases h1 : x.kind < y.kind
    · simp [h1]
    · have h2 : y.kind < x.kind := by omega
      simp [h1, h2]
  by_cases h1 : x.kind = 1
  · obtain ⟨p, hp⟩ : ∃ p, x.tr = p := ⟨_, rfl⟩
    obtain ⟨q, hq⟩ : ∃ q, y.tr = q := ⟨_, rfl⟩
    have e := cmpC_1 hk h1
    rw [hp, hq] at e
    rw [hp] at a2
    rw [hq] at a3
    cases p with
    | true =>
      cases q with
      | true => (refine wl_as rfl rfl ?_; refine wl_ns ?_; refine wc_seq ?_; refine wc_sr ?_; apply wl_val; apply opv_fa; exact fa_sC (by decide); exact rfl; exact rfl; apply wl_val; apply opv_ldX; exact rfl; assumption; exact c1_int; exact rfl; exact rfl; apply wl_val; apply opv_fa; exact fa_sC (by decide); exact rfl; exact rfl; apply wl_val; apply opv_ldX; exact rfl; assumption; exact c1_int; exact rfl; exact rfl; refine wl_bin rfl rfl bin_neq rfl ?_; refine wl_ns ?_; apply wc_decF; exact rfl; omega; refine wc_skip ?_; refine we_seq ?_; refine wc_seq ?_; refine wc_sr ?_; apply wl_val; apply opv_fa; exact fa_sC (by decide); exact rfl; exact rfl; apply wl_val; apply opv_ldX; exact rfl; assumption; exact c1_int; exact rfl; exact rfl; refine wl_ns ?_; refine wc_block ?_; refine wc_sr ?_; refine wl_bin rfl rfl bin_eql rfl ?_; refine wl_as rfl rfl ?_; refine wl_ns ?_; apply wc_decT; exact rfl; (with_reducible assumption); refine wc_sr ?_; apply wl_val; apply opv_fa; exact fa_sC (by decide); exact rfl; exact rfl; apply wl_val; apply opv_ldX; exact rfl; assumption; exact c1_bool; exact rfl; exact rfl; apply wl_val; apply opv_not; exact rfl; exact rfl; refine wl_mv rfl rfl ?_; apply wl_skip; exact rfl; exact rfl; exact rfl; exact rfl; exact rfl; apply wl_skip; exact rfl; exact rfl; exact rfl; exact rfl; exact rfl; apply wl_val; apply opv_pickF; exact rfl; exact Bool.not_true; exact rfl; exact rfl; apply wl_val; apply opv_fa; exact fa_sC (by decide); exact rfl; exact rfl; apply wl_val; apply opv_ldX; exact rfl; assumption; exact c1_bool; exact rfl; exact rfl; refine wl_mv rfl rfl ?_; apply wl_take; exact rfl; exact rfl; exact rfl; exact rfl; apply wl_val; apply opv_fa; exact fa_sC (by decide); exact rfl; exact rfl; apply wl_take; exact rfl; exact rfl; exact rfl; exact rfl; apply wl_val; apply opv_ldX; exact rfl; assumption; exact c1_bool; exact rfl; exact rfl; apply wl_take; exact rfl; exact rfl; exact rfl; exact rfl; apply wl_val; apply opv_not; exact rfl; exact rfl; apply wl_val; apply opv_pickT; exact rfl; exact rfl; exact rfl; exact rfl; refine wl_call ok_caissonref06_less (less6_any _ _ _) ⟨rfl, rfl, trivial⟩ rfl ?_; rintro _ _ ⟨rfl, rfl⟩; refine wl_as rfl rfl ?_; refine wl_ns ?_; refine wc_ret ?_; refine we_block_ret ?_; refine we_seq_ret ?_; exact we_ret1 rfl rfl ⟨_, rfl, by rw [e]; rfl, hb⟩)
      | false => (refine wl_as rfl rfl ?_; refine wl_ns ?_; refine wc_seq ?_; refine wc_sr ?_; apply wl_val; apply opv_fa; exact fa_sC (by decide); exact rfl; exact rfl; apply wl_val; apply opv_ldX; exact rfl; assumption; exact c1_int; exact rfl; exact rfl; apply wl_val; apply opv_fa; exact fa_sC (by decide); exact rfl; exact rfl; apply wl_val; apply opv_ldX; exact rfl; assumption; exact c1_int; exact rfl; exact rfl; refine wl_bin rfl rfl bin_neq rfl ?_; refine wl_ns ?_; apply wc_decF; exact rfl; omega; refine wc_skip ?_; refine we_seq ?_; refine wc_seq ?_; refine wc_sr ?_; apply wl_val; apply opv_fa; exact fa_sC (by decide); exact rfl; exact rfl; apply wl_val; apply opv_ldX; exact rfl; assumption; exact c1_int; exact rfl; exact rfl; refine wl_ns ?_; refine wc_block ?_; refine wc_sr ?_; refine wl_bin rfl rfl bin_eql rfl ?_; refine wl_as rfl rfl ?_; refine wl_ns ?_; apply wc_decT; exact rfl; (with_reducible assumption); refine wc_sr ?_; apply wl_val; apply opv_fa; exact fa_sC (by decide); exact rfl; exact rfl; apply wl_val; apply opv_ldX; exact rfl; assumption; exact c1_bool; exact rfl; exact rfl; apply wl_val; apply opv_not; exact rfl; exact rfl; refine wl_mv rfl rfl ?_; apply wl_skip; exact rfl; exact rfl; exact rfl; exact rfl; exact rfl; apply wl_skip; exact rfl; exact rfl; exact rfl; exact rfl; exact rfl; apply wl_val; apply opv_pickF; exact rfl; exact Bool.not_true; exact rfl; exact rfl; apply wl_val; apply opv_fa; exact fa_sC (by decide); exact rfl; exact rfl; apply wl_val; apply opv_ldX; exact rfl; assumption; exact c1_bool; exact rfl; exact rfl; refine wl_mv rfl rfl ?_; apply wl_take; exact rfl; exact rfl; exact rfl; exact rfl; apply wl_val; apply opv_fa; exact fa_sC (by decide); exact rfl; exact rfl; apply wl_take; exact rfl; exact rfl; exact rfl; exact rfl; apply wl_val; apply opv_ldX; exact rfl; assumption; exact c1_bool; exact rfl; exact rfl; apply wl_take; exact rfl; exact rfl; exact rfl; exact rfl; apply wl_val; apply opv_not; exact rfl; exact rfl; apply wl_val; apply opv_pickT; exact rfl; exact rfl; exact rfl; exact rfl; refine wl_call ok_caissonref06_less (less6_any _ _ _) ⟨rfl, rfl, trivial⟩ rfl ?_; rintro _ _ ⟨rfl, rfl⟩; refine wl_as rfl rfl ?_; refine wl_ns ?_; refine wc_ret ?_; refine we_block_ret ?_; refine we_seq_ret ?_; exact we_ret1 rfl rfl ⟨_, rfl, by rw [e]; rfl, hb⟩)
    | false =>
      cases q with
      | true => (refine wl_as rfl rfl ?_; refine wl_ns ?_; refine wc_seq ?_; refine wc_sr ?_; apply wl_val; apply opv_fa; exact fa_sC (by decide); exact rfl; exact rfl; apply wl_val; apply opv_ldX; exact rfl; assumption; exact c1_int; exact rfl; exact rfl; apply wl_val; apply opv_fa; exact fa_sC (by decide); exact rfl; exact rfl; apply wl_val; apply opv_ldX; exact rfl; assumption; exact c1_int; exact rfl; exact rfl; refine wl_bin rfl rfl bin_neq rfl ?_; refine wl_ns ?_; apply wc_decF; exact rfl; omega; refine wc_skip ?_; refine we_seq ?_; refine wc_seq ?_; refine wc_sr ?_; apply wl_val; apply opv_fa; exact fa_sC (by decide); exact rfl; exact rfl; apply wl_val; apply opv_ldX; exact rfl; assumption; exact c1_int; exact rfl; exact rfl; refine wl_ns ?_; refine wc_block ?_; refine wc_sr ?_; refine wl_bin rfl rfl bin_eql rfl ?_; refine wl_as rfl rfl ?_; refine wl_ns ?_; apply wc_decT; exact rfl; (with_reducible assumption); refine wc_sr ?_; apply wl_val; apply opv_fa; exact fa_sC (by decide); exact rfl; exact rfl; apply wl_val; apply opv_ldX; exact rfl; assumption; exact c1_bool; exact rfl; exact rfl; apply wl_val; apply opv_not; exact rfl; exact rfl; refine wl_mv rfl rfl ?_; apply wl_take; exact rfl; exact rfl; exact rfl; exact Bool.not_false; apply wl_val; apply opv_fa; exact fa_sC (by decide); exact rfl; exact rfl; apply wl_take; exact rfl; exact rfl; exact rfl; exact Bool.not_false; apply wl_val; apply opv_ldX; exact rfl; assumption; exact c1_bool; exact rfl; exact rfl; apply wl_val; apply opv_pickT; exact rfl; exact Bool.not_false; exact rfl; exact rfl; apply wl_val; apply opv_fa; exact fa_sC (by decide); exact rfl; exact rfl; apply wl_val; apply opv_ldX; exact rfl; assumption; exact c1_bool; exact rfl; exact rfl; refine wl_mv rfl rfl ?_; apply wl_skip; exact rfl; exact rfl; exact rfl; exact bR2; exact rfl; apply wl_skip; exact rfl; exact rfl; exact rfl; exact bR2; exact rfl; apply wl_skip; exact rfl; exact rfl; exact rfl; exact bR2; exact rfl; apply wl_val; apply opv_pickF; exact rfl; exact rfl; exact rfl; exact rfl; refine wl_call ok_caissonref06_less (less6_any _ _ _) ⟨rfl, rfl, trivial⟩ rfl ?_; rintro _ _ ⟨rfl, rfl⟩; refine wl_as rfl rfl ?_; refine wl_ns ?_; refine wc_ret ?_; refine we_block_ret ?_; refine we_seq_ret ?_; exact we_ret1 rfl rfl ⟨_, rfl, by rw [e]; rfl, hb⟩)
      | false => (refine wl_as rfl rfl ?_; refine wl_ns ?_; refine wc_seq ?_; refine wc_sr ?_; apply wl_val; apply opv_fa; exact fa_sC (by decide); exact rfl; exact rfl; apply wl_val; apply opv_ldX; exact rfl; assumption; exact c1_int; exact rfl; exact rfl; apply wl_val; apply opv_fa; exact fa_sC (by decide); exact rfl; exact rfl; apply wl_val; apply opv_ldX; exact rfl; assumption; exact c1_int; exact rfl; exact rfl; refine wl_bin rfl rfl bin_neq rfl ?_; refine wl_ns ?_; apply wc_decF; exact rfl; omega; refine wc_skip ?_; refine we_seq ?_; refine wc_seq ?_; refine wc_sr ?_; apply wl_val; apply opv_fa; exact fa_sC (by decide); exact rfl; exact rfl; apply wl_val; apply opv_ldX; exact rfl; assumption; exact c1_int; exact rfl; exact rfl; refine wl_ns ?_; refine wc_block ?_; refine wc_sr ?_; refine wl_bin rfl rfl bin_eql rfl ?_; refine wl_as rfl rfl ?_; refine wl_ns ?_; apply wc_decT; exact rfl; (with_reducible assumption); refine wc_sr ?_; apply wl_val; apply opv_fa; exact fa_sC (by decide); exact rfl; exact rfl; apply wl_val; apply opv_ldX; exact rfl; assumption; exact c1_bool; exact rfl; exact rfl; apply wl_val; apply opv_not; exact rfl; exact rfl; refine wl_mv rfl rfl ?_; apply wl_take; exact rfl; exact rfl; exact rfl; exact Bool.not_false; apply wl_val; apply opv_fa; exact fa_sC (by decide); exact rfl; exact rfl; apply wl_take; exact rfl; exact rfl; exact rfl; exact Bool.not_false; apply wl_val; apply opv_ldX; exact rfl; assumption; exact c1_bool; exact rfl; exact rfl; apply wl_val; apply opv_pickT; exact rfl; exact Bool.not_false; exact rfl; exact rfl; apply wl_val; apply opv_fa; exact fa_sC (by decide); exact rfl; exact rfl; apply wl_val; apply opv_ldX; exact rfl; assumption; exact c1_bool; exact rfl; exact rfl; refine wl_mv rfl rfl ?_; apply wl_skip; exact rfl; exact rfl; exact rfl; exact bR2; exact rfl; apply wl_skip; exact rfl; exact rfl; exact rfl; exact bR2; exact rfl; apply wl_skip; exact rfl; exact rfl; exact rfl; exact bR2; exact rfl; apply wl_val; apply opv_pickF; exact rfl; exact rfl; exact rfl; exact rfl; refine wl_call ok_caissonref06_less (less6_any _ _ _) ⟨rfl, rfl, trivial⟩ rfl ?_; rintro _ _ ⟨rfl, rfl⟩; refine wl_as rfl rfl ?_; refine wl_ns ?_; refine wc_ret ?_; refine we_block_ret ?_; refine we_seq_ret ?_; exact we_ret1 rfl rfl ⟨_, rfl, by rw [e]; rfl, hb⟩)
  by_cases h2 : x.kind = 2
  · refine wl_as rfl rfl ?_; refine wl_ns ?_; refine wc_seq ?_; refine wc_sr ?_; apply wl_val; apply opv_fa; exact fa_sC (by decide); exact rfl; exact rfl; apply wl_val; apply opv_ldX; exact rfl; assumption; exact c1_int; exact rfl; exact rfl; apply wl_val; apply opv_fa; exact fa_sC (by decide); exact rfl; exact rfl; apply wl_val; apply opv_ldX; exact rfl; assumption; exact c1_int; exact rfl; exact rfl; refine wl_bin rfl rfl bin_neq rfl ?_; refine wl_ns ?_; apply wc_decF; exact rfl; omega; refine wc_skip ?_; refine we_seq ?_; refine wc_seq ?_; refine wc_sr ?_; apply wl_val; apply opv_fa; exact fa_sC (by decide); exact rfl; exact rfl; apply wl_val; apply opv_ldX; exact rfl; assumption; exact c1_int; exact rfl; exact rfl; refine wl_ns ?_; refine wc_block ?_; refine wc_sr ?_; refine wl_bin rfl rfl bin_eql rfl ?_; refine wl_as rfl rfl ?_; refine wl_ns ?_; apply wc_decF; exact rfl; (with_reducible assumption); refine wc_sr ?_; refine wl_bin rfl rfl bin_eql rfl ?_; refine wl_as rfl rfl ?_; refine wl_ns ?_; apply wc_decT; exact rfl; (with_reducible assumption); refine wc_sr ?_; apply wl_val; apply opv_fa; exact fa_sC (by decide); exact rfl; exact rfl; apply wl_val; apply opv_ldX; exact rfl; assumption; exact c1_i64; exact rfl; exact rfl; apply wl_val; apply opv_fa; exact fa_sC (by decide); exact rfl; exact rfl; apply wl_val; apply opv_ldX; exact rfl; assumption; exact c1_i64; exact rfl; exact rfl; refine wl_bin rfl rfl bin_lss rfl ?_; apply wl_val; apply opv_fa; exact fa_sC (by decide); exact rfl; exact rfl; apply wl_val; apply opv_ldX; exact rfl; assumption; exact c1_i64; exact rfl; exact rfl; apply wl_val; apply opv_fa; exact fa_sC (by decide); exact rfl; exact rfl; apply wl_val; apply opv_ldX; exact rfl; assumption; exact c1_i64; exact rfl; exact rfl; refine wl_bin rfl rfl bin_gtr rfl ?_
    refine wl_call ok_caissonref06_less (less6_any _ _ _) ⟨rfl, rfl, trivial⟩ rfl ?_
    rintro _ _ ⟨rfl, rfl⟩
    refine wl_as rfl rfl ?_; refine wl_ns ?_; refine wc_ret ?_; refine we_block_ret ?_; refine we_seq_ret ?_
    exact we_ret1 rfl rfl ⟨_, rfl, by rw [cmpC_2 hk h2, ← cmpI_of], hb⟩
  by_cases h3 : x.kind = 3
  · refine wl_as rfl rfl ?_; refine wl_ns ?_; refine wc_seq ?_; refine wc_sr ?_; apply wl_val; apply opv_fa; exact fa_sC (by decide); exact rfl; exact rfl; apply wl_val; apply opv_ldX; exact rfl; assumption; exact c1_int; exact rfl; exact rfl; apply wl_val; apply opv_fa; exact fa_sC (by decide); exact rfl; exact rfl; apply wl_val; apply opv_ldX; exact rfl; assumption; exact c1_int; exact rfl; exact rfl; refine wl_bin rfl rfl bin_neq rfl ?_; refine wl_ns ?_; apply wc_decF; exact rfl; omega; refine wc_skip ?_; refine we_seq ?_; refine wc_seq ?_; refine wc_sr ?_; apply wl_val; apply opv_fa; exact fa_sC (by decide); exact rfl; exact rfl; apply wl_val; apply opv_ldX; exact rfl; assumption; exact c1_int; exact rfl; exact rfl; refine wl_ns ?_; refine wc_block ?_; refine wc_sr ?_; refine wl_bin rfl rfl bin_eql rfl ?_; refine wl_as rfl rfl ?_; refine wl_ns ?_; apply wc_decF; exact rfl; (with_reducible assumption); refine wc_sr ?_; refine wl_bin rfl rfl bin_eql rfl ?_; refine wl_as rfl rfl ?_; refine wl_ns ?_; apply wc_decF; exact rfl; (with_reducible assumption); refine wc_sr ?_; refine wl_bin rfl rfl bin_eql rfl ?_; refine wl_as rfl rfl ?_; refine wl_ns ?_; apply wc_decT; exact rfl; (with_reducible assumption); refine wc_seq ?_
    refine wc_heldB mixed fun w3 hS => ?_
    replace hb := hb.trans (hS.mono hb.size)
    apply wh_take 0; exact rfl; kernel_rfl; kernel_rfl; kernel_rfl; exact hS; intro _ hw_; apply opv_fa; exact fa_sC (by decide); exact rfl; exact rfl; apply wh_take 1; exact rfl; kernel_rfl; kernel_rfl; kernel_rfl; exact hS; intro _ hw_; apply opv_ldX; exact rfl; exact Ar.bel (by assumption) hw_; exact c1_str; exact rfl; exact rfl; apply wh_take 3; exact rfl; kernel_rfl; kernel_rfl; kernel_rfl; exact hS; intro _ hw_; apply opv_fa; exact fa_sC (by decide); exact rfl; exact rfl; apply wh_take 4; exact rfl; kernel_rfl; kernel_rfl; kernel_rfl; exact hS; intro _ hw_; apply opv_ldX; exact rfl; exact Ar.bel (by assumption) hw_; exact c1_str; exact rfl; exact rfl
    refine wh_one 2 (o := ⟨_, _, _, _, _, _⟩) (by kernel_rfl) rfl ?_
    refine wl_call ok_caissonref02_Key (refKey_any (l := x.text) hx _) ⟨rfl, trivial⟩ rfl ?_
    rintro _ w4 ⟨X, cx, rfl, o3, hbx⟩
    have hS4 := hS.trans (hbx.mono hS.size)
    replace hb := hb.trans (hbx.mono hb.size)
    clear hbx
    refine wl_nil ?_
    refine we_held hS4 ?_
    refine wh_one 5 (o := ⟨_, _, _, _, _, _⟩) (by kernel_rfl) rfl ?_
    refine wl_call ok_caissonref02_Key (refKey_any (l := y.text) hy _) ⟨rfl, trivial⟩ rfl ?_
    rintro _ w5 ⟨Y, cy, rfl, o4, hbx⟩
    have hS5 := hS4.trans (hbx.mono hS4.size)
    replace hb := hb.trans (hbx.mono hb.size)
    replace o3 := OwB.below o3 hbx
    clear hbx
    have hl1 := keyB_length x.text
    have hl2 := keyB_length y.text
    refine wl_nil ?_
    refine we_held hS5 ?_
    refine wh_one 6 (o := ⟨_, _, _, _, _, _⟩) (by kernel_rfl) rfl ?_
    refine wl_call ok_caissonref01_Cmp (refCmp_any o3.rd o4.rd rfl rfl (by omega) (by omega)) ⟨rfl, rfl, trivial⟩ rfl ?_
    rintro _ w6 ⟨rfl, hbx⟩
    have hS6 := hS5.trans (hbx.mono hS5.size)
    replace hb := hb.trans (hbx.mono hb.size)
    refine wl_nil ?_
    refine we_held hS6 ?_
    apply wh_take 7; exact rfl; kernel_rfl; kernel_rfl; kernel_rfl; exact hS6; intro _ hw_; apply opv_assign; exact rfl; exact rfl
    refine wh_done (by kernel_rfl) ?_
    refine we_seq ?_; refine wc_ret ?_; refine we_block_ret ?_; refine we_seq_ret ?_
    exact we_ret1 rfl rfl ⟨_, rfl, by rw [cmpC_3 hk h3], hb⟩
  · refine wl_as rfl rfl ?_; refine wl_ns ?_; refine wc_seq ?_; refine wc_sr ?_; apply wl_val; apply opv_fa; exact fa_sC (by decide); exact rfl; exact rfl; apply wl_val; apply opv_ldX; exact rfl; assumption; exact c1_int; exact rfl; exact rfl; apply wl_val; apply opv_fa; exact fa_sC (by decide); exact rfl; exact rfl; apply wl_val; apply opv_ldX; exact rfl; assumption; exact c1_int; exact rfl; exact rfl; refine wl_bin rfl rfl bin_neq rfl ?_; refine wl_ns ?_; apply wc_decF; exact rfl; omega; refine wc_skip ?_; refine we_seq ?_; refine wc_seq ?_; refine wc_sr ?_; apply wl_val; apply opv_fa; exact fa_sC (by decide); exact rfl; exact rfl; apply wl_val; apply opv_ldX; exact rfl; assumption; exact c1_int; exact rfl; exact rfl; refine wl_ns ?_; refine wc_block ?_; refine wc_sr ?_; refine wl_bin rfl rfl bin_eql rfl ?_; refine wl_as rfl rfl ?_; refine wl_ns ?_; apply wc_decF; exact rfl; (with_reducible assumption); refine wc_sr ?_; refine wl_bin rfl rfl bin_eql rfl ?_; refine wl_as rfl rfl ?_; refine wl_ns ?_; apply wc_decF; exact rfl; (with_reducible assumption); refine wc_sr ?_; refine wl_bin rfl rfl bin_eql rfl ?_; refine wl_as rfl rfl ?_; refine wl_ns ?_; apply wc_decF; exact rfl; (with_reducible assumption); refine wc_skip ?_; refine we_block_norm ?_; refine we_seq ?_; refine wc_sr ?_; apply wl_val; apply opv_fa; exact fa_sC (by decide); exact rfl; exact rfl; apply wl_val; apply opv_ldX; exact rfl; assumption; exact c1_by; exact rfl; exact rfl; apply wl_val; apply opv_fa; exact fa_sC (by decide); exact rfl; exact rfl; apply wl_val; apply opv_ldX; exact rfl; assumption; exact c1_by; exact rfl; exact rfl
    refine wl_call ok_caissonref01_Cmp (refCmp_any (hr.below hb) (hs.below hb) rfl rfl (by omega) (by omega)) ⟨rfl, rfl, trivial⟩ rfl ?_
    rintro _ w6 ⟨rfl, hbx⟩
    replace hb := hb.trans (hbx.mono hb.size)
    refine wl_as rfl rfl ?_; refine wl_ns ?_; refine wc_ret ?_
    exact we_ret1 rfl rfl ⟨_, rfl, by rw [cmpC_o hk h1 h2 h3], hb⟩
/-- Compare, where the one value is of another type. -/
theorem compare_other {t : TypeId} {x : Value} {v : Va} {B : Option Addr} {d : Nat} {w : World} (h1 : (t == 4) = false) (h2 : (t == 2) = false) (h3 : (t == 9) = false) (h4 : (t == 30) = false) (hs : RdB w B (vaC v).data) (hv : (vaC v).data.length ≤ 68719476736) :
    CallsV Try.prog 47 #[.iface t x, vaV v B d] w fun r w' => r = .tuple #[.int .i64 0, .int .i64 10] ∧ Below w.heap.size w w' := by
  have hb := Below.refl w.heap.size w
  refine calls_in (N := _) Try.func47 rfl Try.ntmps47 rfl ?_; show WC _ _ _ _ _ _
  refine wc_sr ?_; refine wl_as rfl rfl ?_; refine wl_as rfl rfl ?_; refine wl_ns ?_; refine wc_sr ?_; refine wl_mv rfl rfl ?_
  refine wl_call ok_cell_Cell (cell_other h1 h2 h3 h4) ⟨rfl, trivial⟩ rfl ?_; rintro _ _ ⟨rfl, hbx⟩; replace hb := hb.trans (hbx.mono hb.size); clear hbx
  refine wl_mv rfl rfl ?_; apply wl_val; apply opv_extract; exact rfl; exact rfl; exact rfl; apply wl_val; apply opv_extract; exact rfl; exact rfl; exact rfl
  refine wl_var (cs := zC) zeroC sC rfl (fun _ => rfl) (by first | rfl | simp [Value.oneCell'] | simp [ceV, Value.oneCell']) rfl fun g6 _ hg6 a6 hbx => ?_; replace hb := hb.trans (hbx.mono hb.size); clear hbx
  refine wl_as rfl rfl ?_; refine wl_ns ?_; refine wc_sr ?_; refine wl_mv rfl rfl ?_
  refine wl_call ok_cell_Cell (cell_any (hs.below hb) (by omega)) ⟨rfl, trivial⟩ rfl ?_; rintro _ _ ⟨B2, d2, rfl, o2, hbx⟩; replace hb := hb.trans (hbx.mono hb.size); clear hbx
  refine wl_mv rfl rfl ?_; apply wl_val; apply opv_extract; exact rfl; exact rfl; exact rfl; apply wl_val; apply opv_extract; exact rfl; exact rfl; exact rfl
  refine wl_var (cs := ceV (vaC v) B2 d2) zeroC sC rfl (fun _ => rfl) (by first | rfl | simp [Value.oneCell'] | simp [ceV, Value.oneCell']) rfl fun g8 _ hg8 a8 hbx => ?_; replace hb := hb.trans (hbx.mono hb.size); clear hbx
  refine wl_as rfl rfl ?_; refine wl_ns ?_; refine wc_seq ?_; refine wc_sr ?_; refine wl_mv rfl rfl ?_; refine wl_bin rfl rfl bin_neq rfl ?_; refine wl_mv rfl rfl ?_; apply wl_skip; exact rfl; exact rfl; exact rfl; refine bTn ?_; omega; exact rfl; apply wl_skip; exact rfl; exact rfl; exact rfl; refine bTn ?_; omega; exact rfl; apply wl_val; apply opv_pickT; exact rfl; refine bT ?_; omega; exact rfl; exact rfl; refine wl_ns ?_; apply wc_condTb; exact rfl; exact rfl; refine wc_sr ?_; refine wl_as rfl rfl ?_; refine wl_as rfl rfl ?_; refine wl_ns ?_; refine wc_ret ?_; refine we_seq_ret ?_
  exact we_ret2 rfl rfl rfl ⟨_, rfl, rfl, hb⟩
end Go.Proofs.Ytcjiecclmepboaa


/-
  The walk over CellOrders.
-/
namespace Go.Proofs.Ytcjiecclmepboaa
open Go.RowKit

/-- The values of the cells in form. -/
def goodVs (l : List Ce) : List Va := (goodL l).map ceVa
theorem goodVs_length (l : List Ce) : (goodVs l).length = (goodL l).length := by simp [goodVs]
theorem goodVs_map (l : List Ce) : ((goodL l).map fun x => vaEl (ceVa x)) = (goodVs l).map vaEl := by simp [goodVs]
theorem goodL_good {l : List Ce} {x : Ce} (h : x ∈ goodL l) : goodC x = true ∧ x ∈ l := by simp [goodL] at h; exact ⟨h.2, h.1⟩
theorem goodVs_at {l : List Ce} {k : Nat} {x : Ce} (h : (goodL l)[k]? = some x) : (goodVs l)[k]? = some (ceVa x) ∧ vaC (ceVa x) = x := by
  refine ⟨by rw [goodVs, List.getElem?_map, h]; rfl, vaC_ceVa (goodL_good (List.mem_of_getElem? h)).1⟩
/-- A list of cells that a law is handed. -/
structure LOk (l : List Ce) : Prop where
  ok : ∀ x ∈ l, CeOk x
  sz : sumB ceB l ≤ 1048576
section
variable {l : List Ce} (h : LOk l)
include h
theorem LOk.len : l.length ≤ 1048576 := Nat.le_trans (sumB_len l) h.sz
theorem LOk.each {x : Ce} (hx : x ∈ l) : x.text.length + x.data.length ≤ 1048576 := by
  have := sumB_mem (bulk := ceB) hx; have := h.sz; have e : ceB x = x.text.length + x.data.length := rfl; omega
theorem LOk.vaOk {u : Va} (hu : u ∈ goodVs l) : VaOk u := by
  obtain ⟨x, hx, rfl⟩ := List.mem_map.1 hu
  obtain ⟨hg, hm⟩ := goodL_good hx
  have h1 := h.each hm
  have h2 := h.ok x hm
  have e := vaC_ceVa hg
  refine ⟨by rw [e]; exact h2.num, by rw [e]; omega, by rw [e]; omega⟩
end
def vaB (u : Va) : Nat := (vaC u).text.length + (vaC u).data.length
theorem sumB_sub : ∀ (l : List Ce), sumB vaB (goodVs l) ≤ sumB ceB l
  | [] => by simp [goodVs, goodL, sumB]
  | x :: l => by
    have ih := sumB_sub l
    rw [sumB_cons]
    by_cases hg : goodC x = true
    · have e : goodVs (x :: l) = ceVa x :: goodVs l := by simp [goodVs, goodL, hg]
      rw [e, sumB_cons, vaB, vaC_ceVa hg, ceB]; omega
    · have e : goodVs (x :: l) = goodVs l := by simp [goodVs, goodL, hg]
      rw [e]; omega
theorem key1_length (u : Va) : (key1 u).length ≤ 16 * (vaB u + 1) := by
  cases u with
  | nil => simp [key1, vaB, vaC]
  | bool b => simp [key1, vaB, vaC]
  | int n => simp [key1, vaB, vaC, ordU_length]
  | text s => have := keyB_length s; simp [key1, vaB, vaC]; omega
  | bytes d => have := ordText_length d; simp [key1, vaB, vaC]; omega
theorem keysB_length : ∀ (us : List Va), (keysB us).length ≤ 16 * sumB vaB us
  | [] => by simp [keysB]
  | u :: us => by
    have ih := keysB_length us
    have h1 := key1_length u
    rw [sumB_cons, show keysB (u :: us) = key1 u ++ keysB us by simp [keysB], List.length_append]; omega
theorem LOk.keys {l : List Ce} (h : LOk l) : (keysB (goodVs l)).length ≤ 16777216 := by
  have := keysB_length (goodVs l); have := sumB_sub l; have := h.sz; omega
def OrdI (w w4 : World) (a b : List Ce) (P1 D1 P2 D2 : Value) : FL → World → Nat → Prop := fun L wr m =>
  ∃ (k : Nat) (t : Int), L = [(5, P1), (6, D1), (8, P2), (9, D2), (11, .int .i64 t), (12, .int .i64 (k : Int))] ∧ k ≤ (goodL a).length ∧ k ≤ (goodL b).length ∧ (t = -1 ∨ t = 0 ∨ t = 1) ∧
    cmpVs (goodVs a) (goodVs b) = (if t = 0 then cmpVs ((goodVs a).drop k) ((goodVs b).drop k) else t) ∧ Below w4.heap.size w4 wr ∧ Below w.heap.size w wr ∧ m = (goodL a).length - k
set_option maxHeartbeats 4000000 in
theorem cellOrders_walk {A B : Option Addr} {n m c d : Nat} {a b : List Ce} {w : World} (hr : RdR 5 w All A (a.map ceEl)) (hn : a.length = n) (_hc : n ≤ c) (ho : ∀ x ∈ a, CeOk x) (hl : sumB ceB a ≤ 1048576)
    (hr2 : RdR 5 w All B (b.map ceEl)) (hn2 : b.length = m) (_hc2 : m ≤ d) (ho2 : ∀ x ∈ b, CeOk x) (hl2 : sumB ceB b ≤ 1048576) :
    CallsV Try.prog 9 #[.slice A n c, .slice B m d] w (RetTr w) := by
  have la : LOk a := ⟨ho, hl⟩
  have lb : LOk b := ⟨ho2, hl2⟩
  have hna := la.len
  have hnb := lb.len
  have hga := goodL_le a
  have hgb := goodL_le b
  have hka := la.keys
  have hkb := lb.keys
  subst hn hn2
  have hb := Below.refl w.heap.size w
  have hmax : maxLen = 9223372036854775807 := rfl
  refine calls_in (N := _) Try.func9 rfl Try.ntmps9 rfl ?_; show WC _ _ _ _ _ _
  refine wc_sr ?_; refine wl_as rfl rfl ?_; refine wl_ns ?_; refine wc_sr ?_; refine wl_mv rfl rfl ?_
  refine wl_call ok_caissonlaw06_good (good_list hr (by simp) (fun x hx => by have := la.each hx; omega) (by omega)) ⟨rfl, trivial⟩ rfl ?_; rintro _ _ ⟨P1, p1, D1, d1, rfl, g1, g2, hbx⟩; replace hb := hb.trans (hbx.mono hb.size); clear hbx
  refine wl_mv rfl rfl ?_; apply wl_val; apply opv_extract; exact rfl; exact rfl; exact rfl; apply wl_val; apply opv_extract; exact rfl; exact rfl; exact rfl; apply wl_val; apply opv_extract; exact rfl; exact rfl; exact rfl; refine wl_as rfl rfl ?_; refine wl_as rfl rfl ?_; refine wl_as rfl rfl ?_; refine wl_ns ?_; refine wc_sr ?_; refine wl_mv rfl rfl ?_
  have hs := hb.size
  refine wl_call ok_caissonlaw06_good (good_list (hr2.below hb) (by simp) (fun x hx => by have := lb.each hx; omega) (by omega)) ⟨rfl, trivial⟩ rfl ?_; rintro _ _ ⟨P2, p2, D2, d2, rfl, g3, g4, hbx⟩; replace g1 := OwR.below g1 hbx; replace g2 := OwR.below g2 hbx; replace hb := hb.trans (hbx.mono hb.size); clear hbx
  refine wl_mv rfl rfl ?_; apply wl_val; apply opv_extract; exact rfl; exact rfl; exact rfl; apply wl_val; apply opv_extract; exact rfl; exact rfl; exact rfl; apply wl_val; apply opv_extract; exact rfl; exact rfl; exact rfl; refine wl_as rfl rfl ?_; refine wl_as rfl rfl ?_; refine wl_as rfl rfl ?_; refine wl_ns ?_; refine wc_seq ?_; refine wc_sr ?_; refine wl_mv rfl rfl ?_; apply wl_val; apply opv_not; exact rfl; exact rfl; refine wl_mv rfl rfl ?_; apply wl_take; exact rfl; exact rfl; exact rfl; exact Bool.not_true; refine wl_mv rfl rfl ?_; apply wl_take; exact rfl; exact rfl; exact rfl; exact Bool.not_true; apply wl_val; apply opv_not; exact rfl; exact rfl; apply wl_val; apply opv_pickF; exact rfl; exact Bool.not_true; exact rfl; exact rfl; refine wl_mv rfl rfl ?_; apply wl_take; exact rfl; exact rfl; exact rfl; exact Bool.not_true
  refine wl_call ok_caissonlaw06_awake (awake6_any _) trivial rfl ?_
  rintro _ w4 ⟨rfl, hbx⟩
  replace g1 := OwR.below g1 hbx
  replace g2 := OwR.below g2 hbx
  replace g3 := OwR.below g3 hbx
  replace g4 := OwR.below g4 hbx
  replace hb := hb.trans (hbx.mono hb.size)
  clear hbx
  have t1 := OwR.rd g1
  have t2 := OwR.rd g2
  have t3 := OwR.rd g3
  have t4 := OwR.rd g4
  rw [goodVs_map] at t2 t4
  clear g1 g2 g3 g4
  have hal := goodVs_length a
  have hbl := goodVs_length b
  apply wl_take; exact rfl; exact rfl; exact rfl; exact Bool.not_true; apply wl_val; apply opv_not; exact rfl; exact rfl; apply wl_val; apply opv_pickF; exact rfl; exact Bool.not_true; exact rfl; exact rfl; refine wl_ns ?_; apply wc_condFb; exact rfl; exact Bool.not_true; refine wc_skip ?_; refine we_seq ?_; refine wc_sr ?_; refine wl_as rfl rfl ?_; refine wl_ns ?_; refine wc_seq ?_; refine wc_sr ?_; refine wl_as rfl rfl ?_; refine wl_ns ?_; refine wc_block ?_
  refine wc_loop (OrdI w w4 a b (.slice P1 (goodL a).length p1) (.slice D1 (goodL a).length d1) (.slice P2 (goodL b).length p2) (.slice D2 (goodL b).length d2))
    [(5, .slice P1 (goodL a).length p1), (6, .slice D1 (goodL a).length d1), (8, .slice P2 (goodL b).length p2), (9, .slice D2 (goodL b).length d2), (11, .int .i64 (0 : Nat)), (12, .int .i64 (0 : Nat))] (goodL a).length
    ⟨0, 0, rfl, by omega, by omega, by omega, by simp, Below.refl _ _, hb, rfl⟩ ⟨rfl, rfl, rfl, rfl, rfl, rfl, trivial⟩ ?_
  clear hb
  rintro _ w5 m ⟨k, t, rfl, hka', hkb', ht, hcmp, hbl4, hb, rfl⟩
  refine wc_seq ?_; refine wc_sr ?_; refine wl_mv rfl rfl ?_; refine wl_mv rfl rfl ?_; apply wl_val; apply opv_len; exact rfl; exact tkC.sl; exact rfl; refine wl_bin rfl rfl bin_lss rfl ?_; refine wl_mv rfl rfl ?_
  refine wl_cutV 9 54 (.bool (decide (((k : Int) < ((goodL a).length : Int)) ∧ ((k : Int) < ((goodL b).length : Int))))) ?c5 ?_; (case c5 => (dsimp only [List.take]; by_cases hc0 : ((k : Int) < ((goodL a).length : Int)); (focus (apply wl_take; exact rfl; exact rfl; exact rfl; refine bT ?_; (with_reducible assumption); refine wl_mv rfl rfl ?_; apply wl_take; exact rfl; exact rfl; exact rfl; refine bT ?_; (with_reducible assumption); refine wl_mv rfl rfl ?_; apply wl_take; exact rfl; exact rfl; exact rfl; refine bT ?_; (with_reducible assumption); apply wl_val; apply opv_len; exact rfl; exact tkC.sl; exact rfl; apply wl_take; exact rfl; exact rfl; exact rfl; refine bT ?_; (with_reducible assumption); refine wl_bin rfl rfl bin_lss rfl ?_; apply wl_val; apply opv_pickT; exact rfl; refine bT ?_; (with_reducible assumption); exact rfl; exact rfl; refine wl_nil ?_; refine we_cut _ ⟨rfl, rfl⟩ ⟨congrArg (fun b => some (Value.bool b)) ?e5_0, ?s5_0⟩; (case e5_0 => ((simp [hc0]; done))); (case s5_0 => (refine And.intro rfl ?_; refine And.intro rfl ?_; refine And.intro rfl ?_; refine And.intro rfl ?_; refine And.intro rfl ?_; refine And.intro rfl ?_; refine And.intro rfl ?_; refine And.intro rfl ?_; refine And.intro rfl ?_; refine And.intro rfl ?_; refine And.intro rfl ?_; exact True.intro)))); (focus (apply wl_skip; exact rfl; exact rfl; exact rfl; refine bFn ?_; (with_reducible assumption); exact rfl; apply wl_skip; exact rfl; exact rfl; exact rfl; refine bFn ?_; (with_reducible assumption); exact rfl; apply wl_skip; exact rfl; exact rfl; exact rfl; refine bFn ?_; (with_reducible assumption); exact rfl; apply wl_skip; exact rfl; exact rfl; exact rfl; refine bFn ?_; (with_reducible assumption); exact rfl; apply wl_val; apply opv_pickF; exact rfl; refine bF ?_; (with_reducible assumption); exact rfl; exact rfl; refine wl_nil ?_; refine we_cut _ ⟨rfl, rfl⟩ ⟨congrArg (fun b => some (Value.bool b)) ?e5_1, ?s5_1⟩; (case e5_1 => ((simp [hc0]; done))); (case s5_1 => (refine And.intro rfl ?_; refine And.intro rfl ?_; refine And.intro rfl ?_; refine And.intro rfl ?_; refine And.intro rfl ?_; refine And.intro rfl ?_; refine And.intro rfl ?_; refine And.intro rfl ?_; refine And.intro rfl ?_; refine And.intro rfl ?_; refine And.intro rfl ?_; exact True.intro)))))); dsimp only [List.drop]
  refine wl_ns ?_
  refine wc_cond rfl (fun h1 => ?_) (fun h1 => ?_)
  · obtain ⟨x, hx⟩ : ∃ x, (goodL a)[k]? = some x := ⟨_, List.getElem?_eq_getElem (by omega)⟩
    obtain ⟨y, hy⟩ : ∃ y, (goodL b)[k]? = some y := ⟨_, List.getElem?_eq_getElem (by omega)⟩
    obtain ⟨hu, eu⟩ := goodVs_at hx
    obtain ⟨hv, ev⟩ := goodVs_at hy
    have hok1 := la.vaOk (List.mem_of_getElem? hu)
    have hok2 := lb.vaOk (List.mem_of_getElem? hv)
    obtain ⟨u, hue⟩ : ∃ u, ceVa x = u := ⟨_, rfl⟩
    obtain ⟨v, hve⟩ : ∃ v, ceVa y = v := ⟨_, rfl⟩
    rw [hue] at hu eu hok1
    rw [hve] at hv ev hok2
    obtain ⟨b1, o1, cs1, rfl, _, _, hp1, i1⟩ := RdR.at (k := 5) (by decide) t1 (E := ceEl x) (i := k) (by rw [List.getElem?_map, hx]; rfl)
    obtain ⟨X, cx, rfl, r1, _⟩ := ceEl.rd hp1
    obtain ⟨b2, o2, cs2, rfl, _, _, hp2, i2⟩ := RdR.at (k := 1) (by decide) t2 (E := vaEl u) (i := k) (by rw [List.getElem?_map, hu]; rfl)
    obtain ⟨X2, cx2, rfl, r2, _⟩ := vaEl.rd hp2
    obtain ⟨b3, o3, cs3, rfl, _, _, hp3, i3⟩ := RdR.at (k := 5) (by decide) t3 (E := ceEl y) (i := k) (by rw [List.getElem?_map, hy]; rfl)
    obtain ⟨X3, cx3, rfl, r3, _⟩ := ceEl.rd hp3
    obtain ⟨b4, o4, cs4, rfl, _, _, hp4, i4⟩ := RdR.at (k := 1) (by decide) t4 (E := vaEl v) (i := k) (by rw [List.getElem?_map, hv]; rfl)
    obtain ⟨X4, cx4, rfl, r4, _⟩ := vaEl.rd hp4
    replace i1 := i1.below hbl4
    replace i2 := i2.below hbl4
    replace i3 := i3.below hbl4
    replace i4 := i4.below hbl4
    replace r1 := r1.below hbl4
    replace r2 := r2.below hbl4
    replace r3 := r3.below hbl4
    replace r4 := r4.below hbl4
    have hxm := la.each (goodL_good (List.mem_of_getElem? hx)).2
    have hym := lb.each (goodL_good (List.mem_of_getElem? hy)).2
    have hcv : cmpV u v = cmpC x y := by rw [cmpV, eu, ev]
    have hcv2 : cmpV v u = - cmpC x y := by rw [cmpV, eu, ev, cmpC_neg]
    have hrg := cmpC_range x y
    refine wc_skip ?_; refine we_seq ?_; refine wc_seq ?_; refine wc_block ?_; refine wc_seq ?_
    refine wc_drawB mixed (by kernel_rfl) ?_
    apply wq_val; intro _ hw_; apply opv_move; exact rfl; exact rfl; apply wq_val; intro _ hw_; apply opv_move; exact rfl; exact rfl; apply wq_val; intro _ hw_; apply opv_idxG tkA; exact rfl; exact rfl; exact rfl; omega; exact rfl; apply wq_val; intro _ hw_; apply opv_ldW0; exact rfl; exact Wi.below (by assumption) hw_; exact c1_any; exact rfl; exact rfl; apply wq_val; intro _ hw_; apply opv_move; exact rfl; exact rfl; apply wq_val; intro _ hw_; apply opv_move; exact rfl; exact rfl; apply wq_val; intro _ hw_; apply opv_idxG tkA; exact rfl; exact rfl; exact rfl; omega; exact rfl; apply wq_val; intro _ hw_; apply opv_ldW0; exact rfl; exact Wi.below (by assumption) hw_; exact c1_any; exact rfl; exact rfl
    refine wq_call (v := .tuple #[.int .i64 (cmpC x y), .int .i64 0]) ok_cell_Compare (fun w' hw => (compareV_any (u := u) (v := v) (r2.below hw) (r4.below hw) hok1 hok2).mono (fun v w2 h => ⟨by rw [h.1, hcv], hw.trans (h.2.mono hw.size)⟩)) ⟨rfl, rfl, trivial⟩ rfl ?_
    apply wq_val; intro _ hw_; apply opv_move; exact rfl; exact rfl; apply wq_val; intro _ hw_; apply opv_extract; exact rfl; exact rfl; exact rfl; apply wq_val; intro _ hw_; apply opv_extract; exact rfl; exact rfl; exact rfl; apply wq_val; intro _ hw_; apply opv_assign; exact rfl; exact rfl; apply wq_val; intro _ hw_; apply opv_assign; exact rfl; exact rfl; refine wq_nil fun w1 hw1 => ?_
    replace hb := hb.trans (hw1.mono hb.size)
    replace hbl4 := hbl4.trans (hw1.mono hbl4.size)
    replace i1 := i1.below hw1
    replace i2 := i2.below hw1
    replace i3 := i3.below hw1
    replace i4 := i4.below hw1
    replace r1 := r1.below hw1
    replace r2 := r2.below hw1
    replace r3 := r3.below hw1
    replace r4 := r4.below hw1
    clear hw1
    refine we_seq ?_; refine wc_seq ?_
    refine wc_drawB mixed (by kernel_rfl) ?_
    apply wq_val; intro _ hw_; apply opv_move; exact rfl; exact rfl; apply wq_val; intro _ hw_; apply opv_move; exact rfl; exact rfl; apply wq_val; intro _ hw_; apply opv_idxG tkA; exact rfl; exact rfl; exact rfl; omega; exact rfl; apply wq_val; intro _ hw_; apply opv_ldW0; exact rfl; exact Wi.below (by assumption) hw_; exact c1_any; exact rfl; exact rfl; apply wq_val; intro _ hw_; apply opv_move; exact rfl; exact rfl; apply wq_val; intro _ hw_; apply opv_move; exact rfl; exact rfl; apply wq_val; intro _ hw_; apply opv_idxG tkA; exact rfl; exact rfl; exact rfl; omega; exact rfl; apply wq_val; intro _ hw_; apply opv_ldW0; exact rfl; exact Wi.below (by assumption) hw_; exact c1_any; exact rfl; exact rfl
    refine wq_call (v := .tuple #[.int .i64 (- cmpC x y), .int .i64 0]) ok_cell_Compare (fun w' hw => (compareV_any (u := v) (v := u) (r4.below hw) (r2.below hw) hok2 hok1).mono (fun v w2 h => ⟨by rw [h.1, hcv2], hw.trans (h.2.mono hw.size)⟩)) ⟨rfl, rfl, trivial⟩ rfl ?_
    apply wq_val; intro _ hw_; apply opv_move; exact rfl; exact rfl; apply wq_val; intro _ hw_; apply opv_extract; exact rfl; exact rfl; exact rfl; apply wq_val; intro _ hw_; apply opv_extract; exact rfl; exact rfl; exact rfl; apply wq_val; intro _ hw_; apply opv_assign; exact rfl; exact rfl; apply wq_val; intro _ hw_; apply opv_assign; exact rfl; exact rfl; refine wq_nil fun w1 hw1 => ?_
    replace hb := hb.trans (hw1.mono hb.size)
    replace hbl4 := hbl4.trans (hw1.mono hbl4.size)
    replace i1 := i1.below hw1
    replace i3 := i3.below hw1
    replace r1 := r1.below hw1
    replace r3 := r3.below hw1
    clear hw1
    refine we_seq ?_; refine wc_seq ?_; refine wc_seq ?_
    refine wc_drawB mixed (by kernel_rfl) ?_
    apply wq_val; intro _ hw_; apply opv_move; exact rfl; exact rfl; apply wq_val; intro _ hw_; apply opv_bin; exact rfl; exact rfl; exact bin_neq; exact rfl; apply wq_val; intro _ hw_; apply opv_move; exact rfl; exact rfl; apply wq_take; exact rfl; exact rfl; exact rfl; refine bF ?_; (with_reducible exact nne); apply wq_val; intro _ hw_; apply opv_move; exact rfl; exact rfl; apply wq_take; exact rfl; exact rfl; exact rfl; refine bF ?_; (with_reducible exact nne); apply wq_val; intro _ hw_; apply opv_bin; exact rfl; exact rfl; exact bin_neq; exact rfl; apply wq_val; intro _ hw_; apply opv_pickF; exact rfl; refine bF ?_; (with_reducible exact nne); exact rfl; exact rfl; apply wq_val; intro _ hw_; apply opv_move; exact rfl; exact rfl; apply wq_take; exact rfl; exact rfl; exact rfl; refine bF ?_; (with_reducible exact nne); apply wq_val; intro _ hw_; apply opv_move; exact rfl; exact rfl; apply wq_take; exact rfl; exact rfl; exact rfl; refine bF ?_; (with_reducible exact nne); apply wq_val; intro _ hw_; apply opv_move; exact rfl; exact rfl; apply wq_take; exact rfl; exact rfl; exact rfl; refine bF ?_; (with_reducible exact nne); apply wq_val; intro _ hw_; apply opv_move; exact rfl; exact rfl; apply wq_take; exact rfl; exact rfl; exact rfl; refine bF ?_; (with_reducible exact nne); apply wq_val; intro _ hw_; apply opv_idxG tkC; exact rfl; exact rfl; exact rfl; omega; exact rfl; apply wq_take; exact rfl; exact rfl; exact rfl; refine bF ?_; (with_reducible exact nne); apply wq_val; intro _ hw_; apply opv_ldG; exact rfl; exact Wi.below (by assumption) hw_; exact sC; exact rfl; apply wq_take; exact rfl; exact rfl; exact rfl; refine bF ?_; (with_reducible exact nne); apply wq_val; intro _ hw_; apply opv_move; exact rfl; exact rfl; apply wq_take; exact rfl; exact rfl; exact rfl; refine bF ?_; (with_reducible exact nne); apply wq_val; intro _ hw_; apply opv_move; exact rfl; exact rfl; apply wq_take; exact rfl; exact rfl; exact rfl; refine bF ?_; (with_reducible exact nne); apply wq_val; intro _ hw_; apply opv_idxG tkC; exact rfl; exact rfl; exact rfl; omega; exact rfl; apply wq_take; exact rfl; exact rfl; exact rfl; refine bF ?_; (with_reducible exact nne); apply wq_val; intro _ hw_; apply opv_ldG; exact rfl; exact Wi.below (by assumption) hw_; exact sC; exact rfl; apply wq_take; exact rfl; exact rfl; exact rfl; refine bF ?_; (with_reducible exact nne)
    refine wq_call (v := .int .i64 (cmpC x y)) ok_caissonref06_Compare (fun w' hw => (refCompare_any (r1.below hw) (r3.below hw) (by omega) (by omega) (by omega) (by omega)).mono (fun v w2 h => ⟨h.1, hw.trans (h.2.mono hw.size)⟩)) ⟨rfl, rfl, trivial⟩ rfl ?_
    apply wq_take; exact rfl; exact rfl; exact rfl; refine bF ?_; (with_reducible exact nne); apply wq_val; intro _ hw_; apply opv_bin; exact rfl; exact rfl; exact bin_neq; exact rfl; apply wq_val; intro _ hw_; apply opv_pickF; exact rfl; refine bF ?_; (with_reducible exact nne); exact rfl; exact rfl; apply wq_val; intro _ hw_; apply opv_move; exact rfl; exact rfl; apply wq_take; exact rfl; exact rfl; exact rfl; refine bF ?_; (with_reducible exact nne); apply wq_val; intro _ hw_; apply opv_move; exact rfl; exact rfl; apply wq_take; exact rfl; exact rfl; exact rfl; refine bF ?_; (with_reducible exact nne); apply wq_val; intro _ hw_; apply opv_move; exact rfl; exact rfl; apply wq_take; exact rfl; exact rfl; exact rfl; refine bF ?_; (with_reducible exact nne); apply wq_val; intro _ hw_; apply opv_neg64; exact rfl; omega; exact rfl; apply wq_take; exact rfl; exact rfl; exact rfl; refine bF ?_; (with_reducible exact nne); apply wq_val; intro _ hw_; apply opv_bin; exact rfl; exact rfl; exact bin_neq; exact rfl; apply wq_val; intro _ hw_; apply opv_pickF; exact rfl; refine bF ?_; (with_reducible exact nne); exact rfl; exact rfl; refine wq_nil fun w1 hw1 => ?_
    replace hb := hb.trans (hw1.mono hb.size)
    replace hbl4 := hbl4.trans (hw1.mono hbl4.size)
    clear hw1 i1 i2 i3 i4 r1 r2 r3 r4
    have hst := cmpVs_step hu hv
    rw [hcv] at hst
    by_cases ht0 : t = 0
    · subst ht0
      rw [if_pos rfl, hst] at hcmp
      refine we_seq ?_; apply wc_decF; exact rfl; (with_reducible exact nne); refine wc_skip ?_; refine we_seq ?_; refine wc_sr ?_; refine wl_mv rfl rfl ?_; refine wl_bin rfl rfl bin_eql rfl ?_; refine wl_ns ?_; apply wc_condTb; exact rfl; exact rfl; refine wc_region ?_; refine wl_mv rfl rfl ?_; refine wl_as rfl rfl ?_; refine wl_nil ?_; refine we_block_norm ?_; refine we_seq ?_; refine wc_region ?_; refine wl_mv rfl rfl ?_; apply wl_val; apply opv_bin; exact rfl; exact rfl; exact bin_add64 (by omega); exact rfl; refine wl_as rfl rfl ?_; refine wl_nil ?_
      refine we_loop _ ((goodL a).length - (k + 1)) ⟨k + 1, cmpC x y, rfl, by omega, by omega, hrg, hcmp, hbl4, hb, rfl⟩ (by omega) ⟨rfl, rfl, rfl, rfl, rfl, by simp [lookT], trivial⟩
    · rw [if_neg ht0] at hcmp
      refine we_seq ?_; apply wc_decF; exact rfl; (with_reducible exact nne); refine wc_skip ?_; refine we_seq ?_; refine wc_sr ?_; refine wl_mv rfl rfl ?_; refine wl_bin rfl rfl bin_eql rfl ?_; refine wl_ns ?_; apply wc_decF; exact rfl; (with_reducible assumption); refine wc_skip ?_; refine we_block_norm ?_; refine we_seq ?_; refine wc_region ?_; refine wl_mv rfl rfl ?_; apply wl_val; apply opv_bin; exact rfl; exact rfl; exact bin_add64 (by omega); exact rfl; refine wl_as rfl rfl ?_; refine wl_nil ?_
      refine we_loop _ ((goodL a).length - (k + 1)) ⟨k + 1, t, rfl, by omega, by omega, ht, by rw [if_neg ht0]; exact hcmp, hbl4, hb, rfl⟩ (by omega) ⟨rfl, rfl, rfl, rfl, rfl, by simp [lookT], trivial⟩
  · have hend := cmpVs_end (us := goodVs a) (vs := goodVs b) (k := k) (by omega) (by omega) (by omega)
    replace t2 := t2.below hbl4
    replace t4 := t4.below hbl4
    clear t1 t3
    rw [hal, hbl] at hend
    refine wc_exit ?_; refine we_seq_exit ?_; refine we_loop_exit ?_; refine we_block_exit ?_; refine we_seq ?_; refine wc_seq ?_; refine wc_sr ?_; refine wl_mv rfl rfl ?_; refine wl_bin rfl rfl bin_eql rfl ?_; refine wl_mv rfl rfl ?_
    refine wl_cutV 9 117 (.bool (decide ((t = 0) ∧ (((goodL a).length : Int) ≠ ((goodL b).length : Int))))) ?c24 ?_; (case c24 => (dsimp only [List.take]; by_cases hc0 : (t = 0); (focus (apply wl_take; exact rfl; exact rfl; exact rfl; refine bT ?_; (with_reducible assumption); refine wl_mv rfl rfl ?_; apply wl_take; exact rfl; exact rfl; exact rfl; refine bT ?_; (with_reducible assumption); apply wl_val; apply opv_len; exact rfl; exact tkC.sl; exact rfl; apply wl_take; exact rfl; exact rfl; exact rfl; refine bT ?_; (with_reducible assumption); refine wl_mv rfl rfl ?_; apply wl_take; exact rfl; exact rfl; exact rfl; refine bT ?_; (with_reducible assumption); apply wl_val; apply opv_len; exact rfl; exact tkC.sl; exact rfl; apply wl_take; exact rfl; exact rfl; exact rfl; refine bT ?_; (with_reducible assumption); refine wl_bin rfl rfl bin_neq rfl ?_; apply wl_val; apply opv_pickT; exact rfl; refine bT ?_; (with_reducible assumption); exact rfl; exact rfl; refine wl_nil ?_; refine we_cut _ ⟨rfl, rfl⟩ ⟨congrArg (fun b => some (Value.bool b)) ?e24_0, ?s24_0⟩; (case e24_0 => ((simp [hc0]; done))); (case s24_0 => (refine And.intro rfl ?_; refine And.intro rfl ?_; refine And.intro rfl ?_; refine And.intro rfl ?_; refine And.intro rfl ?_; refine And.intro rfl ?_; refine And.intro rfl ?_; refine And.intro rfl ?_; refine And.intro rfl ?_; refine And.intro rfl ?_; refine And.intro rfl ?_; refine And.intro rfl ?_; refine And.intro rfl ?_; refine And.intro rfl ?_; refine And.intro rfl ?_; exact True.intro)))); (focus (apply wl_skip; exact rfl; exact rfl; exact rfl; refine bFn ?_; (with_reducible assumption); exact rfl; apply wl_skip; exact rfl; exact rfl; exact rfl; refine bFn ?_; (with_reducible assumption); exact rfl; apply wl_skip; exact rfl; exact rfl; exact rfl; refine bFn ?_; (with_reducible assumption); exact rfl; apply wl_skip; exact rfl; exact rfl; exact rfl; refine bFn ?_; (with_reducible assumption); exact rfl; apply wl_skip; exact rfl; exact rfl; exact rfl; refine bFn ?_; (with_reducible assumption); exact rfl; apply wl_val; apply opv_pickF; exact rfl; refine bF ?_; (with_reducible assumption); exact rfl; exact rfl; refine wl_nil ?_; refine we_cut _ ⟨rfl, rfl⟩ ⟨congrArg (fun b => some (Value.bool b)) ?e24_1, ?s24_1⟩; (case e24_1 => ((simp [hc0]; done))); (case s24_1 => (refine And.intro rfl ?_; refine And.intro rfl ?_; refine And.intro rfl ?_; refine And.intro rfl ?_; refine And.intro rfl ?_; refine And.intro rfl ?_; refine And.intro rfl ?_; refine And.intro rfl ?_; refine And.intro rfl ?_; refine And.intro rfl ?_; refine And.intro rfl ?_; refine And.intro rfl ?_; refine And.intro rfl ?_; refine And.intro rfl ?_; refine And.intro rfl ?_; exact True.intro)))))); dsimp only [List.drop]
    refine wl_ns ?_
    refine wc_cutE (fun L w' => L = [(5, .slice P1 (goodL a).length p1), (6, .slice D1 (goodL a).length d1), (8, .slice P2 (goodL b).length p2), (9, .slice D2 (goodL b).length d2), (11, .int .i64 (cmpVs (goodVs a) (goodVs b)))] ∧ w' = w5) ?_ ?_
    · refine wc_cond rfl (fun h2 => ?_) (fun h2 => ?_)
      · obtain ⟨rfl, hne⟩ := h2
        rw [if_pos rfl, hend, if_neg (by omega)] at hcmp
        refine wc_sr ?_; refine wl_as rfl rfl ?_; refine wl_ns ?_; refine wc_sr ?_; refine wl_mv rfl rfl ?_; apply wl_val; apply opv_len; exact rfl; exact tkC.sl; exact rfl; refine wl_mv rfl rfl ?_; apply wl_val; apply opv_len; exact rfl; exact tkC.sl; exact rfl; refine wl_bin rfl rfl bin_gtr rfl ?_; refine wl_ns ?_
        refine wc_cond rfl (fun h3 => ?_) (fun h3 => ?_)
        · rw [if_pos (by omega)] at hcmp
          refine wc_region ?_; refine wl_as rfl rfl ?_; refine wl_nil ?_
          exact we_cut [(5, .slice P1 (goodL a).length p1), (6, .slice D1 (goodL a).length d1), (8, .slice P2 (goodL b).length p2), (9, .slice D2 (goodL b).length d2), (11, .int .i64 (cmpVs (goodVs a) (goodVs b)))] ⟨rfl, rfl⟩ ⟨rfl, rfl, rfl, rfl, by rw [hcmp]; rfl, trivial⟩
        · rw [if_neg (by omega)] at hcmp
          refine wc_skip ?_
          exact we_cut [(5, .slice P1 (goodL a).length p1), (6, .slice D1 (goodL a).length d1), (8, .slice P2 (goodL b).length p2), (9, .slice D2 (goodL b).length d2), (11, .int .i64 (cmpVs (goodVs a) (goodVs b)))] ⟨rfl, rfl⟩ ⟨rfl, rfl, rfl, rfl, by rw [hcmp]; rfl, trivial⟩
      · have hc0 : cmpVs (goodVs a) (goodVs b) = t := by
          by_cases ht0 : t = 0
          · rw [if_pos ht0, hend, if_pos (by omega)] at hcmp; rw [hcmp, ht0]
          · rw [if_neg ht0] at hcmp; exact hcmp
        refine wc_skip ?_
        exact we_cut [(5, .slice P1 (goodL a).length p1), (6, .slice D1 (goodL a).length d1), (8, .slice P2 (goodL b).length p2), (9, .slice D2 (goodL b).length d2), (11, .int .i64 (cmpVs (goodVs a) (goodVs b)))] ⟨rfl, rfl⟩ ⟨rfl, rfl, rfl, rfl, by rw [hc0]; rfl, trivial⟩
    · rintro _ _ ⟨rfl, rfl⟩
      clear hend hcmp
      refine we_seq ?_; refine wc_sr ?_; refine wl_mv rfl rfl ?_
      refine wl_call ok_cell_Key (cellKey_any t2 hal (fun u hu => la.vaOk hu) (by omega) (by omega)) ⟨rfl, trivial⟩ rfl ?_; rintro _ _ ⟨E1, e1, rfl, o1, hbx⟩; replace t4 := RdR.below t4 hbx; replace hb := hb.trans (hbx.mono hb.size); clear hbx
      refine wl_mv rfl rfl ?_; apply wl_val; apply opv_extract; exact rfl; exact rfl; exact rfl; apply wl_val; apply opv_extract; exact rfl; exact rfl; exact rfl; refine wl_as rfl rfl ?_; refine wl_as rfl rfl ?_; refine wl_ns ?_; refine wc_sr ?_; refine wl_mv rfl rfl ?_
      refine wl_call ok_cell_Key (cellKey_any t4 hbl (fun u hu => lb.vaOk hu) (by omega) (by omega)) ⟨rfl, trivial⟩ rfl ?_; rintro _ _ ⟨E2, e2, rfl, o2, hbx⟩; replace o1 := OwB.below o1 hbx; replace hb := hb.trans (hbx.mono hb.size); clear hbx
      refine wl_mv rfl rfl ?_; apply wl_val; apply opv_extract; exact rfl; exact rfl; exact rfl; apply wl_val; apply opv_extract; exact rfl; exact rfl; exact rfl; refine wl_as rfl rfl ?_; refine wl_as rfl rfl ?_; refine wl_ns ?_; refine wc_sr ?_; refine wl_mv rfl rfl ?_; apply wl_val; apply opv_len; exact rfl; exact tkC.sl; exact rfl; apply wl_val; apply opv_mkI; kernel_rfl; exact rfl; exact rfl
      refine wl_call ok_cell_Compare (compare_other (v := .nil) (B := none) (d := 0) (by decide) (by decide) (by decide) (by decide) (Rd.nil _ _) (by simp [vaC])) ⟨rfl, rfl, trivial⟩ rfl ?_; rintro _ _ ⟨rfl, hbx⟩; replace o1 := OwB.below o1 hbx; replace o2 := OwB.below o2 hbx; replace hb := hb.trans (hbx.mono hb.size); clear hbx
      refine wl_mv rfl rfl ?_; apply wl_val; apply opv_extract; exact rfl; exact rfl; exact rfl; apply wl_val; apply opv_extract; exact rfl; exact rfl; exact rfl; refine wl_as rfl rfl ?_; refine wl_as rfl rfl ?_; refine wl_ns ?_; refine wc_sr ?_; refine wl_mv rfl rfl ?_; refine wl_bin rfl rfl bin_eql rfl ?_; refine wl_mv rfl rfl ?_; apply wl_take; exact rfl; exact rfl; exact rfl; refine bT ?_; (with_reducible rfl); refine wl_mv rfl rfl ?_; apply wl_take; exact rfl; exact rfl; exact rfl; refine bT ?_; (with_reducible rfl); refine wl_bin rfl rfl bin_eql rfl ?_; apply wl_val; apply opv_pickT; exact rfl; refine bT ?_; (with_reducible rfl); exact rfl; exact rfl; refine wl_mv rfl rfl ?_; apply wl_take; exact rfl; exact rfl; exact rfl; refine bT ?_; (with_reducible rfl); refine wl_mv rfl rfl ?_; apply wl_take; exact rfl; exact rfl; exact rfl; refine bT ?_; (with_reducible rfl); refine wl_bin rfl rfl bin_eql rfl ?_; apply wl_val; apply opv_pickT; exact rfl; refine bT ?_; (with_reducible rfl); exact rfl; exact rfl; refine wl_mv rfl rfl ?_; apply wl_take; exact rfl; exact rfl; exact rfl; refine bT ?_; (with_reducible rfl); refine wl_mv rfl rfl ?_; apply wl_take; exact rfl; exact rfl; exact rfl; refine bT ?_; (with_reducible rfl); refine wl_mv rfl rfl ?_; apply wl_take; exact rfl; exact rfl; exact rfl; refine bT ?_; (with_reducible rfl)
      refine wl_call ok_caissonref01_Cmp (refCmp_any o1.rd o2.rd rfl rfl (by omega) (by omega)) ⟨rfl, rfl, trivial⟩ rfl ?_; rintro _ _ ⟨rfl, hbx⟩; replace hb := hb.trans (hbx.mono hb.size); clear hbx
      rw [cmp_keys (fun u hu => la.vaOk hu) (fun u hu => lb.vaOk hu)]
      apply wl_take; exact rfl; exact rfl; exact rfl; refine bT ?_; (with_reducible rfl); refine wl_mv rfl rfl ?_; apply wl_take; exact rfl; exact rfl; exact rfl; refine bT ?_; (with_reducible rfl); refine wl_bin rfl rfl bin_eql rfl ?_; apply wl_val; apply opv_pickT; exact rfl; refine bT ?_; (with_reducible rfl); exact rfl; exact rfl; refine wl_as rfl rfl ?_; refine wl_ns ?_; refine wc_ret ?_
      exact we_ret1 rfl rfl ⟨_, rfl, by simp, hb⟩
end Go.Proofs.Ytcjiecclmepboaa


/-
  Walks over the reading of keys: one, FromKey of the program and of the reference.
-/
namespace Go.Proofs.Ytcjiecclmepboaa
open Go.RowKit

theorem someI_any (n p e : Int) (w : World) : CallsV Try.prog 103 #[.int .i64 n, .int .i64 p, .int .i64 e] w fun v w' => v = .tuple #[.iface 2 (.int .i64 n), .int .i64 p, .int .i64 e] ∧ w = w' := by
  refine calls_in (N := _) Try.func103 rfl Try.ntmps103 rfl ?_; show WC _ _ _ _ _ _
  refine wc_sr ?_; refine wl_as rfl rfl ?_; refine wl_as rfl rfl ?_; refine wl_as rfl rfl ?_; refine wl_ns ?_; refine wc_sr ?_; refine wl_mv rfl rfl ?_; apply wl_val; apply opv_mkI; kernel_rfl; exact rfl; exact rfl; refine wl_mv rfl rfl ?_; refine wl_mv rfl rfl ?_; refine wl_as rfl rfl ?_; refine wl_as rfl rfl ?_; refine wl_as rfl rfl ?_; refine wl_ns ?_; refine wc_ret ?_
  exact we_ret3 rfl rfl rfl rfl ⟨_, rfl, rfl, rfl⟩
theorem someS_any (s : List UInt8) (p e : Int) (w : World) : CallsV Try.prog 105 #[str s, .int .i64 p, .int .i64 e] w fun v w' => v = .tuple #[.iface 9 (str s), .int .i64 p, .int .i64 e] ∧ w = w' := by
  refine calls_in (N := _) Try.func105 rfl Try.ntmps105 rfl ?_; show WC _ _ _ _ _ _
  refine wc_sr ?_; refine wl_as rfl rfl ?_; refine wl_as rfl rfl ?_; refine wl_as rfl rfl ?_; refine wl_ns ?_; refine wc_sr ?_; refine wl_mv rfl rfl ?_; apply wl_val; apply opv_mkI; kernel_rfl; exact rfl; exact rfl; refine wl_mv rfl rfl ?_; refine wl_mv rfl rfl ?_; refine wl_as rfl rfl ?_; refine wl_as rfl rfl ?_; refine wl_as rfl rfl ?_; refine wl_ns ?_; refine wc_ret ?_
  exact we_ret3 rfl rfl rfl rfl ⟨_, rfl, rfl, rfl⟩
/-- The value whose key begins at a place. -/
def RetV (w : World) (b : List UInt8) (q : Nat) (v : Value) (w' : World) : Prop :=
  ∃ (u : Va) (B : Option Addr) (c : Nat) (p : Int), v = .tuple #[vaV u B c, .int .i64 p, .int .i64 ((oneV b q).2.2 : Nat)] ∧ ((oneV b q).2.2 = 0 → u = (oneV b q).1 ∧ p = ((oneV b q).2.1 : Nat) ∧ OwB w' w.heap.size B c (vaC u).data) ∧ Below w.heap.size w w'
theorem RetV.mk {w w' : World} {b : List UInt8} {q : Nat} {r : Va × Nat × Nat} {B : Option Addr} {c : Nat} {p e : Int} {u : Va} (h : oneV b q = r) (hp : r.2.2 = 0 → p = (r.2.1 : Nat)) (he : e = (r.2.2 : Nat)) (hu : r.2.2 = 0 → u = r.1 ∧ OwB w' w.heap.size B c (vaC u).data) (hb : Below w.heap.size w w') :
    RetV w b q (.tuple #[vaV u B c, .int .i64 p, .int .i64 e]) w' := by
  subst h he
  exact ⟨u, B, c, p, rfl, fun h => ⟨(hu h).1, hp h, (hu h).2⟩, hb⟩
theorem one_of {b : List UInt8} {q : Nat} {k : UInt8} (h : b[q]? = some k) : oneV b q =
    if k = 0 then (.nil, q + 1, 0)
    else if k = 1 then
      match b[q + 1]? with
      | none => (.nil, 0, 5)
      | some t => if 1 < t.toNat then (.nil, 0, 3) else (.bool (decide (t = 1)), q + 2, 0)
    else if k = 2 then
      if (getOrdU b ((q + 1 : Nat) : Int)).2.2 = 0 then (.int (drop63 (getOrdU b ((q + 1 : Nat) : Int)).1), (getOrdU b ((q + 1 : Nat) : Int)).2.1.toNat, 0) else (.nil, 0, (getOrdU b ((q + 1 : Nat) : Int)).2.2)
    else if k = 3 then
      if (fromKey b ((q + 1 : Nat) : Int)).2.2 = 0 then (.text (fromKey b ((q + 1 : Nat) : Int)).1, (fromKey b ((q + 1 : Nat) : Int)).2.1.toNat, 0) else (.nil, 0, (fromKey b ((q + 1 : Nat) : Int)).2.2)
    else if k = 4 then
      if (getOrd b ((q + 1 : Nat) : Int)).2.2 = 0 then (.bytes (getOrd b ((q + 1 : Nat) : Int)).1, (getOrd b ((q + 1 : Nat) : Int)).2.1.toNat, 0) else (.nil, 0, (getOrd b ((q + 1 : Nat) : Int)).2.2)
    else (.nil, 0, 3) := by unfold oneV; simp only [h] <;> (cases b[q + 1]? <;> rfl)
theorem u8_eq {k : UInt8} {n : Nat} (h : ((k.toNat : Int) = (n : Nat))) (hn : n < 256) : k = UInt8.ofNat n := by
  apply UInt8.toNat_inj.1; rw [UInt8.toNat_ofNat', Nat.mod_eq_of_lt hn]; omega
set_option maxHeartbeats 2000000 in
theorem one_any {A : Option Addr} {n c : Nat} {b : List UInt8} {q : Nat} {w : World} (r1 : RdB w A b) (hn : b.length = n) (hc : b.length ≤ c) (hl : b.length ≤ 1099511627776) (hq : q < b.length) :
    CallsV Try.prog 85 #[.slice A n c, .int .i64 (q : Int)] w (RetV w b q) := by
  subst hn
  have hb := Below.refl w.heap.size w
  obtain ⟨k, hx⟩ : ∃ k, b[q]? = some k := ⟨_, List.getElem?_eq_getElem hq⟩
  have ho := one_of hx
  refine calls_in (N := _) Try.func85 rfl Try.ntmps85 rfl ?_; show WC _ _ _ _ _ _
  refine wc_sr ?_; refine wl_as rfl rfl ?_; refine wl_as rfl rfl ?_; refine wl_as rfl rfl ?_; refine wl_ns ?_; refine wc_sr ?_; refine wl_mv rfl rfl ?_; refine wl_mv rfl rfl ?_; apply wl_byK (T := tyB) (hr := r1) (hb := hx); exact rfl; exact rfl; exact rfl; exact rfl; exact rfl; intro _; refine wl_as rfl rfl ?_; refine wl_ns ?_; refine wc_sr ?_; refine wl_mv rfl rfl ?_; apply wl_val; apply opv_bin; exact rfl; exact rfl; exact bin_add64 (by omega); exact rfl; refine wl_as rfl rfl ?_; refine wl_ns ?_; refine wc_seq ?_; refine wc_sr ?_; refine wl_mv rfl rfl ?_; refine wl_ns ?_; refine wc_block ?_; refine wc_sr ?_; refine wl_bin rfl rfl bin_eql rfl ?_; refine wl_as rfl rfl ?_; refine wl_ns ?_
  by_cases h0 : k = 0
  · subst h0
    rw [if_pos rfl] at ho
    apply wc_condTb; exact rfl; exact rfl; refine wc_sr ?_; refine wl_mv rfl rfl ?_; refine wl_as rfl rfl ?_; refine wl_as rfl rfl ?_; refine wl_as rfl rfl ?_; refine wl_ns ?_; refine wc_ret ?_; refine we_block_ret ?_; refine we_seq_ret ?_
    refine we_ret3 rfl rfl rfl rfl ⟨_, rfl, RetV.mk (u := .nil) (B := none) (c := 0) ho (fun _ => rfl) rfl (fun _ => ⟨rfl, Ow.nil _ _ _⟩) hb⟩
  rw [if_neg h0] at ho
  have h0' : ¬ (k.toNat : Int) = 0 := fun h => h0 (u8_eq (n := 0) h (by decide))
  by_cases h1 : k = 1
  · subst h1
    rw [if_pos rfl] at ho
    by_cases hq1 : q + 1 = b.length
    · rw [List.getElem?_eq_none (by omega : b.length ≤ q + 1)] at ho
      apply wc_condFb; exact rfl; exact rfl; refine wc_sr ?_; refine wl_bin rfl rfl bin_eql rfl ?_; refine wl_as rfl rfl ?_; refine wl_ns ?_; apply wc_condTb; exact rfl; exact rfl; refine wc_seq ?_; refine wc_sr ?_; refine wl_mv rfl rfl ?_; refine wl_mv rfl rfl ?_; apply wl_val; apply opv_len; exact rfl; exact tyB.sl; exact rfl; refine wl_bin rfl rfl bin_eql rfl ?_; refine wl_ns ?_; apply wc_decT; exact rfl; omega; refine wc_sr ?_; refine wl_as rfl rfl ?_; refine wl_as rfl rfl ?_; refine wl_as rfl rfl ?_; refine wl_ns ?_; refine wc_ret ?_; refine we_seq_ret ?_; refine we_block_ret ?_; refine we_seq_ret ?_
      exact we_ret3 rfl rfl rfl rfl ⟨_, rfl, RetV.mk (u := .nil) (B := none) (c := 0) ho (fun h => by cases h) rfl (fun h => by cases h) hb⟩
    obtain ⟨t, ht⟩ : ∃ t, b[q + 1]? = some t := ⟨_, List.getElem?_eq_getElem (by omega)⟩
    rw [ht] at ho
    simp only at ho
    have hq1' : ¬ ((q : Int) + 1 = (b.length : Int)) := by omega
    apply wc_condFb; exact rfl; exact rfl; refine wc_sr ?_; refine wl_bin rfl rfl bin_eql rfl ?_; refine wl_as rfl rfl ?_; refine wl_ns ?_; apply wc_condTb; exact rfl; exact rfl; refine wc_seq ?_; refine wc_sr ?_; refine wl_mv rfl rfl ?_; refine wl_mv rfl rfl ?_; apply wl_val; apply opv_len; exact rfl; exact tyB.sl; exact rfl; refine wl_bin rfl rfl bin_eql rfl ?_; refine wl_ns ?_; apply wc_decF; exact rfl; (with_reducible assumption); refine wc_skip ?_; refine we_seq ?_; refine wc_seq ?_; refine wc_sr ?_; refine wl_mv rfl rfl ?_; refine wl_mv rfl rfl ?_; apply wl_byK (T := tyB) (hr := r1) (hb := ht); exact rfl; exact rfl; exact rfl; exact rfl; exact rfl; intro _; refine wl_bin rfl rfl bin_gtr rfl ?_; refine wl_ns ?_
    by_cases h2 : 1 < t.toNat
    · rw [if_pos h2] at ho
      have h2' : (1 : Int) < (t.toNat : Int) := by omega
      apply wc_decT; exact rfl; (with_reducible assumption); refine wc_sr ?_; refine wl_as rfl rfl ?_; refine wl_as rfl rfl ?_; refine wl_as rfl rfl ?_; refine wl_ns ?_; refine wc_ret ?_; refine we_seq_ret ?_; refine we_block_ret ?_; refine we_seq_ret ?_
      exact we_ret3 rfl rfl rfl rfl ⟨_, rfl, RetV.mk (u := .nil) (B := none) (c := 0) ho (fun h => by cases h) rfl (fun h => by cases h) hb⟩
    rw [if_neg h2] at ho
    have h2' : ¬ (1 : Int) < (t.toNat : Int) := by omega
    have e : (((t.toNat : Int) = 1) : Prop) = (t = 1) := propext ⟨fun h => u8_eq (n := 1) h (by decide), fun h => by subst h; rfl⟩
    apply wc_decF; exact rfl; (with_reducible assumption); refine wc_skip ?_; refine we_seq ?_; refine wc_sr ?_; refine wl_mv rfl rfl ?_; refine wl_mv rfl rfl ?_; apply wl_byK (T := tyB) (hr := r1) (hb := ht); exact rfl; exact rfl; exact rfl; exact rfl; exact rfl; intro _; refine wl_bin rfl rfl bin_eql rfl ?_; apply wl_val; apply opv_mkI; kernel_rfl; exact rfl; exact rfl; refine wl_mv rfl rfl ?_; apply wl_val; apply opv_bin; exact rfl; exact rfl; exact bin_add64 (by omega); exact rfl; refine wl_as rfl rfl ?_; refine wl_as rfl rfl ?_; refine wl_as rfl rfl ?_; refine wl_ns ?_; refine wc_ret ?_; refine we_block_ret ?_; refine we_seq_ret ?_
    refine we_ret3 rfl rfl rfl rfl ⟨_, rfl, RetV.mk (u := .bool (decide ((t.toNat : Int) = 1))) (B := none) (c := 0) ho (fun _ => by simp only [Int.natCast_add]; rfl) rfl (fun _ => ⟨by simp only [e], Ow.nil _ _ _⟩) hb⟩
  rw [if_neg h1] at ho
  have h1' : ¬ (k.toNat : Int) = 1 := fun h => h1 (u8_eq (n := 1) h (by decide))
  by_cases h2 : k = 2
  · subst h2
    rw [if_pos rfl] at ho
    apply wc_condFb; exact rfl; exact rfl; refine wc_sr ?_; refine wl_bin rfl rfl bin_eql rfl ?_; refine wl_as rfl rfl ?_; refine wl_ns ?_; apply wc_condFb; exact rfl; exact rfl; refine wc_sr ?_; refine wl_bin rfl rfl bin_eql rfl ?_; refine wl_as rfl rfl ?_; refine wl_ns ?_; apply wc_condTb; exact rfl; exact rfl; refine wc_sr ?_; refine wl_mv rfl rfl ?_; refine wl_mv rfl rfl ?_
    refine wl_call ok_codec_GetOrdI (getOrdI_any (p := ((q + 1 : Nat) : Int)) r1 rfl hc (by omega) (by omega)) ⟨rfl, rfl, trivial⟩ rfl ?_
    rintro _ w2 ⟨rfl, hbx⟩
    replace hb := hb.trans (hbx.mono hb.size)
    clear hbx
    obtain ⟨g, hg⟩ : ∃ g, getOrdU b ((q + 1 : Nat) : Int) = g := ⟨_, rfl⟩
    have hgl := fun h => (getOrdU_le (b := b) (q := q + 1) h).2
    rw [hg] at ho hgl ⊢
    apply wl_val; apply opv_extract; exact rfl; exact rfl; exact rfl; apply wl_val; apply opv_extract; exact rfl; exact rfl; exact rfl; apply wl_val; apply opv_extract; exact rfl; exact rfl; exact rfl
    refine wl_call ok_cell_some_int64 (someI_any _ _ _ _) ⟨rfl, rfl, rfl, trivial⟩ rfl ?_
    rintro _ _ ⟨rfl, rfl⟩
    apply wl_val; apply opv_extract; exact rfl; exact rfl; exact rfl; apply wl_val; apply opv_extract; exact rfl; exact rfl; exact rfl; apply wl_val; apply opv_extract; exact rfl; exact rfl; exact rfl; refine wl_as rfl rfl ?_; refine wl_as rfl rfl ?_; refine wl_as rfl rfl ?_; refine wl_ns ?_; refine wc_ret ?_; refine we_block_ret ?_; refine we_seq_ret ?_
    by_cases he : g.2.2 = 0
    · rw [if_pos he] at ho
      refine we_ret3 rfl rfl rfl rfl ⟨_, rfl, RetV.mk (u := .int (if g.2.2 = 0 then (g.1 : Int) - 9223372036854775808 else 0)) (B := none) (c := 0) ho (fun _ => by have := congrArg (fun x => x.2.1) (hgl he); simp only at this ⊢; omega) (by simp [he]) (fun _ => ⟨by rw [if_pos he]; rfl, Ow.nil _ _ _⟩) hb⟩
    · rw [if_neg he] at ho
      exact we_ret3 rfl rfl rfl rfl ⟨_, rfl, RetV.mk (u := .int (if g.2.2 = 0 then (g.1 : Int) - 9223372036854775808 else 0)) (B := none) (c := 0) ho (fun h => absurd h he) rfl (fun h => absurd h he) hb⟩
  rw [if_neg h2] at ho
  have h2' : ¬ (k.toNat : Int) = 2 := fun h => h2 (u8_eq (n := 2) h (by decide))
  by_cases h3 : k = 3
  · subst h3
    rw [if_pos rfl] at ho
    apply wc_condFb; exact rfl; exact rfl; refine wc_sr ?_; refine wl_bin rfl rfl bin_eql rfl ?_; refine wl_as rfl rfl ?_; refine wl_ns ?_; apply wc_condFb; exact rfl; exact rfl; refine wc_sr ?_; refine wl_bin rfl rfl bin_eql rfl ?_; refine wl_as rfl rfl ?_; refine wl_ns ?_; apply wc_condFb; exact rfl; exact rfl; refine wc_sr ?_; refine wl_bin rfl rfl bin_eql rfl ?_; refine wl_as rfl rfl ?_; refine wl_ns ?_; apply wc_condTb; exact rfl; exact rfl; refine wc_sr ?_; refine wl_mv rfl rfl ?_; refine wl_mv rfl rfl ?_
    refine wl_call ok_text_FromKey (fromKey_any (p := ((q + 1 : Nat) : Int)) r1 rfl (by omega)) ⟨rfl, rfl, trivial⟩ rfl ?_
    rintro _ w2 ⟨rfl, hbx⟩
    replace hb := hb.trans (hbx.mono hb.size)
    clear hbx
    have hgl := fun h => fromKey_le (b := b) (q := q + 1) h
    obtain ⟨g, hg⟩ : ∃ g, fromKey b ((q + 1 : Nat) : Int) = g := ⟨_, rfl⟩
    rw [hg] at ho hgl ⊢
    apply wl_val; apply opv_extract; exact rfl; exact rfl; exact rfl; apply wl_val; apply opv_extract; exact rfl; exact rfl; exact rfl; apply wl_val; apply opv_extract; exact rfl; exact rfl; exact rfl
    refine wl_call ok_cell_some_string (someS_any _ _ _ _) ⟨rfl, rfl, rfl, trivial⟩ rfl ?_
    rintro _ _ ⟨rfl, rfl⟩
    apply wl_val; apply opv_extract; exact rfl; exact rfl; exact rfl; apply wl_val; apply opv_extract; exact rfl; exact rfl; exact rfl; apply wl_val; apply opv_extract; exact rfl; exact rfl; exact rfl; refine wl_as rfl rfl ?_; refine wl_as rfl rfl ?_; refine wl_as rfl rfl ?_; refine wl_ns ?_; refine wc_ret ?_; refine we_block_ret ?_; refine we_seq_ret ?_
    by_cases he : g.2.2 = 0
    · rw [if_pos he] at ho
      refine we_ret3 rfl rfl rfl rfl ⟨_, rfl, RetV.mk (u := .text g.1) (B := none) (c := 0) ho (fun _ => by obtain ⟨k, hk, _⟩ := hgl he; simp only; omega) (by simp [he]) (fun _ => ⟨rfl, Ow.nil _ _ _⟩) hb⟩
    · rw [if_neg he] at ho
      exact we_ret3 rfl rfl rfl rfl ⟨_, rfl, RetV.mk (u := .text g.1) (B := none) (c := 0) ho (fun h => absurd h he) rfl (fun h => absurd h he) hb⟩
  rw [if_neg h3] at ho
  have h3' : ¬ (k.toNat : Int) = 3 := fun h => h3 (u8_eq (n := 3) h (by decide))
  by_cases h4 : k = 4
  · subst h4
    rw [if_pos rfl] at ho
    apply wc_condFb; exact rfl; exact rfl; refine wc_sr ?_; refine wl_bin rfl rfl bin_eql rfl ?_; refine wl_as rfl rfl ?_; refine wl_ns ?_; apply wc_condFb; exact rfl; exact rfl; refine wc_sr ?_; refine wl_bin rfl rfl bin_eql rfl ?_; refine wl_as rfl rfl ?_; refine wl_ns ?_; apply wc_condFb; exact rfl; exact rfl; refine wc_sr ?_; refine wl_bin rfl rfl bin_eql rfl ?_; refine wl_as rfl rfl ?_; refine wl_ns ?_; apply wc_condFb; exact rfl; exact rfl; refine wc_sr ?_; refine wl_bin rfl rfl bin_eql rfl ?_; refine wl_as rfl rfl ?_; refine wl_ns ?_; apply wc_condTb; exact rfl; exact rfl; refine wc_sr ?_; refine wl_mv rfl rfl ?_; refine wl_mv rfl rfl ?_
    refine wl_call ok_codec_GetOrdText (getOrd_any (p := ((q + 1 : Nat) : Int)) r1 rfl (by omega)) ⟨rfl, rfl, trivial⟩ rfl ?_
    rintro _ w2 ⟨B, cB, rfl, o2, hbx⟩
    replace hb := hb.trans (hbx.mono hb.size)
    clear hbx
    have hgl := fun h => getOrd_le (b := b) (q := q + 1) (xs := (getOrd b ((q + 1 : Nat) : Int)).1) (x := (getOrd b ((q + 1 : Nat) : Int)).2.1) h
    have hlen := getOrd_length (show getOrd b ((q + 1 : Nat) : Int) = ((getOrd b ((q + 1 : Nat) : Int)).1, (getOrd b ((q + 1 : Nat) : Int)).2.1, (getOrd b ((q + 1 : Nat) : Int)).2.2) from rfl)
    obtain ⟨g, hg⟩ : ∃ g, getOrd b ((q + 1 : Nat) : Int) = g := ⟨_, rfl⟩
    rw [hg] at ho hgl hlen o2 ⊢
    refine wl_mv rfl rfl ?_; apply wl_val; apply opv_extract; exact rfl; exact rfl; exact rfl; apply wl_val; apply opv_extract; exact rfl; exact rfl; exact rfl; apply wl_val; apply opv_extract; exact rfl; exact rfl; exact rfl; refine wl_as rfl rfl ?_; refine wl_as rfl rfl ?_; refine wl_as rfl rfl ?_; refine wl_ns ?_; refine wc_sr ?_
    refine wl_bs (vs := []) tyB trivial rfl (by decide) rfl fun E w3 q3 hbx _ => ?_
    replace o2 := OwB.below o2 hbx
    replace q3 := Ow.mono q3 hb.size
    replace hb := hb.trans (hbx.mono hb.size)
    clear hbx
    refine wl_mv rfl rfl ?_
    refine wl_app tyB rfl q3 rfl o2.rd (bvs_one _) (by omega) (by simp only [maxLen]; omega) hb.size rfl fun _ _ _ hO hG _ => ?_; replace hb := hG.below hb q3 (Nat.le_refl _) hb.size; replace q3 := hO; clear hO hG
    rw [List.nil_append] at q3
    rw [Nat.zero_add] at q3 ⊢
    apply wl_val; apply opv_mkI; kernel_rfl; exact rfl; exact rfl; refine wl_mv rfl rfl ?_; refine wl_mv rfl rfl ?_; refine wl_as rfl rfl ?_; refine wl_as rfl rfl ?_; refine wl_as rfl rfl ?_; refine wl_ns ?_; refine wc_ret ?_; refine we_block_ret ?_; refine we_seq_ret ?_
    by_cases he : g.2.2 = 0
    · rw [if_pos he] at ho
      refine we_ret3 rfl rfl rfl rfl ⟨_, rfl, RetV.mk (u := .bytes g.1) ho (fun _ => by obtain ⟨k, hk, _⟩ := hgl (by rw [← he]); simp only; omega) (by simp [he]) (fun _ => ⟨rfl, q3⟩) hb⟩
    · rw [if_neg he] at ho
      exact we_ret3 rfl rfl rfl rfl ⟨_, rfl, RetV.mk (u := .bytes g.1) ho (fun h => absurd h he) rfl (fun h => absurd h he) hb⟩
  rw [if_neg h4] at ho
  have h4' : ¬ (k.toNat : Int) = 4 := fun h => h4 (u8_eq (n := 4) h (by decide))
  apply wc_decF; exact rfl; (with_reducible assumption); refine wc_sr ?_; refine wl_bin rfl rfl bin_eql rfl ?_; refine wl_as rfl rfl ?_; refine wl_ns ?_; apply wc_decF; exact rfl; (with_reducible assumption); refine wc_sr ?_; refine wl_bin rfl rfl bin_eql rfl ?_; refine wl_as rfl rfl ?_; refine wl_ns ?_; apply wc_decF; exact rfl; (with_reducible assumption); refine wc_sr ?_; refine wl_bin rfl rfl bin_eql rfl ?_; refine wl_as rfl rfl ?_; refine wl_ns ?_; apply wc_decF; exact rfl; (with_reducible assumption); refine wc_sr ?_; refine wl_bin rfl rfl bin_eql rfl ?_; refine wl_as rfl rfl ?_; refine wl_ns ?_; apply wc_decF; exact rfl; (with_reducible assumption); refine wc_skip ?_; refine we_block_norm ?_; refine we_seq ?_; refine wc_sr ?_; refine wl_as rfl rfl ?_; refine wl_as rfl rfl ?_; refine wl_as rfl rfl ?_; refine wl_ns ?_; refine wc_ret ?_
  exact we_ret3 rfl rfl rfl rfl ⟨_, rfl, RetV.mk (u := .nil) (B := none) (c := 0) ho (fun h => by cases h) rfl (fun h => by cases h) hb⟩
theorem getOrdU_num (b : List UInt8) (q : Nat) : (getOrdU b q).1 < 2 ^ 64 := by
  rcases getOrdU_cases b q with ⟨e, _, h⟩ | ⟨p, _, hp, h⟩
  · rw [h]; exact (by decide : 0 < 2 ^ 64)
  · rw [h]
    refine Nat.lt_of_lt_of_le (numB_lt _) ?_
    refine Nat.le_trans (Nat.pow_le_pow_right (by decide) (show ((b.drop p).take 8).length ≤ 8 by simp; omega)) (by decide)
/-- A row of values, or none and an error. -/
def RetVs (w : World) (r : List Va × Nat) (v : Value) (w' : World) : Prop :=
  ∃ (B : Option Addr) (c : Nat), v = .tuple #[.slice B r.1.length c, .int .i64 (r.2 : Nat)] ∧ OwR 1 20 w' w.heap.size (fun b => w.heap.size ≤ b) B c (r.1.map vaEl) ∧ Below w.heap.size w w'
theorem fromF_done {f : Nat} {b : List UInt8} {q : Nat} {out : List Va} (h : b.length ≤ q) : fromF f b q out = (out, 0) := by cases f <;> simp [fromF, h]
theorem fromF_ok {f : Nat} {b : List UInt8} {q : Nat} {out : List Va} (h : q < b.length) (hf : b.length - q ≤ f) (he : (oneV b q).2.2 = 0) : fromF f b q out = fromF (f - 1) b (oneV b q).2.1 (out ++ [(oneV b q).1]) := by
  cases f with
  | zero => omega
  | succ f => rw [fromF, if_neg (by omega), if_pos he]; rfl
theorem fromF_bad {f : Nat} {b : List UInt8} {q : Nat} {out : List Va} (h : q < b.length) (hf : b.length - q ≤ f) (he : ¬ (oneV b q).2.2 = 0) : fromF f b q out = ([], (oneV b q).2.2) := by
  cases f with
  | zero => omega
  | succ f => rw [fromF, if_neg (by omega), if_neg he]
/-- Where reading stands: what is told so far, what is left. -/
structure FromS (b : List UInt8) (q : Nat) (us : List Va) : Prop where
  le : q ≤ b.length
  len : us.length ≤ q
  sum : sumB vaB us ≤ q
  eq : ∃ f, b.length - q ≤ f ∧ fromV b = fromF f b q us
theorem FromS.start (b : List UInt8) : FromS b 0 [] := ⟨by omega, by simp, by simp [sumB], b.length, by omega, rfl⟩
theorem FromS.done {b : List UInt8} {q : Nat} {us : List Va} (h : FromS b q us) (hq : b.length ≤ q) : fromV b = (us, 0) := by
  obtain ⟨f, _, he⟩ := h.eq
  rw [he, fromF_done hq]
theorem FromS.bad {b : List UInt8} {q : Nat} {us : List Va} (h : FromS b q us) (hq : q < b.length) (he : ¬ (oneV b q).2.2 = 0) : fromV b = ([], (oneV b q).2.2) := by
  obtain ⟨f, hf, e⟩ := h.eq
  rw [e, fromF_bad hq hf he]
theorem FromS.next {b : List UInt8} {q : Nat} {us : List Va} (h : FromS b q us) (hq : q < b.length) (he : (oneV b q).2.2 = 0) : FromS b (oneV b q).2.1 (us ++ [(oneV b q).1]) ∧ q < (oneV b q).2.1 := by
  have h1 := oneV_le he
  have hl := h.len
  have hs := h.sum
  have e1 : ∀ (l : List Va) (v : Va), sumB vaB (l ++ [v]) = sumB vaB l + (vaB v + 1) := fun l v => by simp [sumB]
  refine ⟨⟨h1.2.2, by rw [List.length_append, List.length_singleton]; omega, by rw [e1, vaB]; omega, ?_⟩, h1.1⟩
  obtain ⟨f, hf, e⟩ := h.eq
  exact ⟨f - 1, by omega, by rw [e, fromF_ok hq hf he]⟩
theorem fromKeyP_any {A : Option Addr} {n c : Nat} {b : List UInt8} {w : World} (r1 : RdB w A b) (hn : b.length = n) (hc : b.length ≤ c) (hl : b.length ≤ 1073741824) :
    CallsV Try.prog 50 #[.slice A n c] w (RetVs w (fromV b)) := by
  subst hn
  refine calls_in (N := _) Try.func50 rfl Try.ntmps50 rfl ?_; show WC _ _ _ _ _ _
  refine wc_sr ?_; refine wl_as rfl rfl ?_; refine wl_as rfl rfl ?_; refine wl_ns ?_; refine wc_sr ?_; refine wl_as rfl rfl ?_; refine wl_ns ?_; refine wc_seq ?_; refine wc_sr ?_; refine wl_as rfl rfl ?_; refine wl_ns ?_; refine wc_block ?_
  refine wc_loop (fun L wr m => ∃ (q : Nat) (us : List Va) (P : Option Addr) (cp : Nat), L = [(0, .slice A b.length c), (4, .slice P us.length cp), (5, .int .i64 (q : Int))] ∧ FromS b q us ∧ OwR 1 20 wr w.heap.size (fun b => w.heap.size ≤ b) P cp (us.map vaEl) ∧ Below w.heap.size w wr ∧ m = b.length - q)
    [(0, .slice A b.length c), (4, .slice none 0 0), (5, .int .i64 (0 : Nat))] b.length ⟨0, [], none, 0, rfl, FromS.start b, OwR.nil _ _ _, Below.refl _ _, rfl⟩ ⟨rfl, rfl, rfl, trivial⟩ ?_
  rintro _ w1 m ⟨q, us, P, cp, rfl, hf, g1, hb, rfl⟩
  have hle := hf.len
  have hqb := hf.le
  refine wc_seq ?_; refine wc_sr ?_; refine wl_mv rfl rfl ?_; refine wl_mv rfl rfl ?_; apply wl_val; apply opv_len; exact rfl; exact tyB.sl; exact rfl; refine wl_bin rfl rfl bin_lss rfl ?_; refine wl_ns ?_
  refine wc_cond rfl (fun h1 => ?_) (fun h1 => ?_)
  · have hq : q < b.length := by omega
    have hP := fun a ha => (OwR.lt g1 a ha).2
    have hs1 := hb.size
    refine wc_skip ?_; refine we_seq ?_; refine wc_block ?_; refine wc_sr ?_; refine wl_mv rfl rfl ?_; refine wl_mv rfl rfl ?_
    refine wl_call ok_cell_one (one_any (r1.below hb) rfl hc (by omega) hq) ⟨rfl, rfl, trivial⟩ rfl ?_
    rintro _ w2 ⟨u, B, cB, p, rfl, hok, hbx⟩
    replace g1 := OwR.below g1 hbx
    replace hb := hb.trans (hbx.mono hb.size)
    clear hbx
    by_cases he : (oneV b q).2.2 = 0
    · obtain ⟨rfl, rfl, o2⟩ := hok he
      obtain ⟨hf', hlt⟩ := hf.next hq he
      rw [he]
      refine wl_mv rfl rfl ?_; apply wl_val; apply opv_extract; exact rfl; exact rfl; exact rfl; apply wl_val; apply opv_extract; exact rfl; exact rfl; exact rfl; apply wl_val; apply opv_extract; exact rfl; exact rfl; exact rfl; refine wl_as rfl rfl ?_; refine wl_as rfl rfl ?_; refine wl_as rfl rfl ?_; refine wl_ns ?_; refine wc_seq ?_; refine wc_sr ?_; refine wl_mv rfl rfl ?_; refine wl_bin rfl rfl bin_neq rfl ?_; refine wl_ns ?_; apply wc_condFb; exact rfl; exact rfl; refine wc_skip ?_; refine we_seq ?_; refine wc_region ?_; refine wl_mv rfl rfl ?_; refine wl_mv rfl rfl ?_
      refine wl_pushG (css' := [[vaV (oneV b q).1 B cB]]) (els' := [vaEl (oneV b q).1]) tkA (fun _ => rfl) g1 ((by simp)) ⟨rfl, ⟨_, rfl, (by first | rfl | exact cells_one (vaV_one _ _ _))⟩, rfl, trivial⟩ (Grp.one (⟨B, cB, rfl, byEl.own o2 fun a ha h1 h2 => ⟨by omega, fun p hp => by have := hP p hp; omega⟩⟩) rfl) rfl (by first | exact ceV_all _ _ _ | exact vaV_all _ _ _ | (simp [Value.oneCell'])) (by decide) (by decide) (by omega) (by simp only [maxLen]; omega) hb.size rfl rfl fun _ _ _ _ hO hG hA => ?_; replace hb := hG.belowR hb g1 (Nat.le_refl _) hb.size; replace g1 := hO; clear hO hG
      refine wl_mv rfl rfl ?_; refine wl_as rfl rfl ?_; refine wl_as rfl rfl ?_; refine wl_nil ?_; refine we_block_norm ?_
      refine we_loop _ (b.length - (oneV b q).2.1) ⟨(oneV b q).2.1, us ++ [(oneV b q).1], _, _, rfl, hf', by rw [List.map_append]; exact g1, hb, rfl⟩ (by omega) ⟨rfl, by rw [List.length_append]; rfl, rfl, trivial⟩
    · have he' : ¬ (((oneV b q).2.2 : Nat) : Int) = 0 := by omega
      refine wl_mv rfl rfl ?_; apply wl_val; apply opv_extract; exact rfl; exact rfl; exact rfl; apply wl_val; apply opv_extract; exact rfl; exact rfl; exact rfl; apply wl_val; apply opv_extract; exact rfl; exact rfl; exact rfl; refine wl_as rfl rfl ?_; refine wl_as rfl rfl ?_; refine wl_as rfl rfl ?_; refine wl_ns ?_; refine wc_seq ?_; refine wc_sr ?_; refine wl_mv rfl rfl ?_; refine wl_bin rfl rfl bin_neq rfl ?_; refine wl_ns ?_; apply wc_decT; exact rfl; (with_reducible assumption); refine wc_sr ?_; refine wl_mv rfl rfl ?_; refine wl_as rfl rfl ?_; refine wl_as rfl rfl ?_; refine wl_ns ?_; refine wc_ret ?_; refine we_seq_ret ?_; refine we_block_ret ?_; refine we_loop_ret ?_; refine we_block_ret ?_; refine we_seq_ret ?_
      exact we_ret2 rfl rfl rfl ⟨_, rfl, none, 0, by rw [hf.bad hq he]; rfl, by rw [hf.bad hq he]; exact OwR.nil _ _ _, hb⟩
  · have hd := hf.done (by omega)
    refine wc_exit ?_; refine we_seq_exit ?_; refine we_loop_exit ?_; refine we_block_exit ?_; refine we_seq ?_; refine wc_sr ?_; refine wl_mv rfl rfl ?_; refine wl_as rfl rfl ?_; refine wl_as rfl rfl ?_; refine wl_ns ?_; refine wc_ret ?_
    exact we_ret2 rfl rfl rfl ⟨_, rfl, P, cp, by rw [hd]; rfl, by rw [hd]; exact g1, hb⟩
theorem refFromKeyC_any {A : Option Addr} {n c : Nat} {b : List UInt8} {w : World} (r1 : RdB w A b) (hn : b.length = n) (hc : b.length ≤ c) (hl : b.length ≤ 1073741824) :
    CallsV Try.prog 54 #[.slice A n c] w fun v w' => ∃ (B : Option Addr) (c : Nat), v = .tuple #[.slice B (fromV b).1.length c, .int .i64 ((fromV b).2 : Nat)] ∧ OwR 5 53 w' w.heap.size (fun b => w.heap.size ≤ b) B c ((fromV b).1.map fun u => ceEl (vaC u)) ∧ Below w.heap.size w w' := by
  subst hn
  refine calls_in (N := _) Try.func54 rfl Try.ntmps54 rfl ?_; show WC _ _ _ _ _ _
  refine wc_sr ?_; refine wl_as rfl rfl ?_; refine wl_as rfl rfl ?_; refine wl_ns ?_; refine wc_sr ?_; refine wl_as rfl rfl ?_; refine wl_ns ?_; refine wc_sr ?_; refine wl_as rfl rfl ?_; refine wl_ns ?_; refine wc_seq ?_; refine wc_block ?_
  refine wc_loop (fun L wr m => ∃ (q : Nat) (us : List Va) (P : Option Addr) (cp : Nat), L = [(0, .slice A b.length c), (4, .slice P us.length cp), (5, .int .i64 (q : Int))] ∧ FromS b q us ∧ OwR 5 53 wr w.heap.size (fun b => w.heap.size ≤ b) P cp (us.map fun u => ceEl (vaC u)) ∧ Below w.heap.size w wr ∧ m = b.length - q)
    [(0, .slice A b.length c), (4, .slice none 0 0), (5, .int .i64 (0 : Nat))] b.length ⟨0, [], none, 0, rfl, FromS.start b, OwR.nil _ _ _, Below.refl _ _, rfl⟩ ⟨rfl, rfl, rfl, trivial⟩ ?_
  rintro _ w1 m ⟨q, us, P, cp, rfl, hf, g1, hb, rfl⟩
  have hle := hf.len
  have hqb := hf.le
  refine wc_seq ?_; refine wc_sr ?_; refine wl_mv rfl rfl ?_; refine wl_mv rfl rfl ?_; apply wl_val; apply opv_len; exact rfl; exact tyB.sl; exact rfl; refine wl_bin rfl rfl bin_lss rfl ?_; refine wl_ns ?_
  refine wc_cond rfl (fun h1 => ?_) (fun h1 => ?_)
  · have hq : q < b.length := by omega
    have hP := fun a ha => (OwR.lt g1 a ha).2
    obtain ⟨k, hx⟩ : ∃ k, b[q]? = some k := ⟨_, List.getElem?_eq_getElem hq⟩
    have ho := one_of hx
    have r0 := r1.below hb
    have hkl := k.toNat_lt
    have hs1 := hb.size
    refine wc_skip ?_; refine we_seq ?_; refine wc_block ?_; refine wc_sr ?_; refine wl_mv rfl rfl ?_; refine wl_mv rfl rfl ?_; apply wl_byK (T := tyB) (hr := r0) (hb := hx); exact rfl; exact rfl; exact rfl; exact rfl; exact rfl; intro _; apply wl_val; apply opv_convR; exact rfl; exact Try.underlying5; exact Try.underlying3; exact IntWalk.i64_in _ (by omega); exact rfl
    refine wl_val (opv_build (vs := [(0, .int .i64 (k.toNat : Int))]) (cs := [.int .i64 (k.toNat : Int), .bool false, .int .i64 0, str [], .slice none 0 0]) ⟨rfl, rfl, trivial⟩ (by kernel_rfl)) rfl ?_
    replace g1 := OwR.mono g1 (Nat.le_refl _) (S' := fun b => w.heap.size ≤ b ∧ b < w1.heap.size) fun b h h' => ⟨h', h⟩
    refine wl_var (cs := [.int .i64 (k.toNat : Int), .bool false, .int .i64 0, str [], .slice none 0 0]) zeroC sC rfl (fun _ => rfl) (by first | rfl | simp [Value.oneCell'] | simp [ceV, Value.oneCell']) rfl fun g6 _ hg6 a6 hbx => ?_; replace g1 := OwR.below g1 hbx; replace hb := hb.trans (hbx.mono hb.size); clear hbx
    have hbut : ∀ b' : Nat, b' < w1.heap.size → But (some ⟨g6, 0, none⟩) b' := fun b' h a ha => by cases ha; exact (show b' ≠ g6 by omega)
    refine wl_ns ?_; refine wc_sr ?_; refine wl_mv rfl rfl ?_; apply wl_val; apply opv_bin; exact rfl; exact rfl; exact bin_add64 (by omega); exact rfl; refine wl_as rfl rfl ?_; refine wl_ns ?_; refine wc_sr ?_; refine wl_as rfl rfl ?_; refine wl_ns ?_; refine wc_seq ?_; refine wc_sr ?_; apply wl_val; apply opv_fa; exact fa_sC (by decide); exact rfl; exact rfl; apply wl_val; apply opv_ldX; exact rfl; assumption; exact c1_int; exact rfl; exact rfl; refine wl_ns ?_; refine wc_block ?_; refine wc_sr ?_; refine wl_bin rfl rfl bin_eql rfl ?_; refine wl_as rfl rfl ?_; refine wl_ns ?_
    refine wc_cutE (fun L w' => ∃ (u : Va) (B : Option Addr) (cB : Nat) (p e : Int), L = [(0, .slice A b.length c), (4, .slice P us.length cp), (5, .int .i64 p), (6, .pointer (some ⟨g6, 0, none⟩)), (7, .int .i64 e)] ∧ Ar w' g6 53 (ceV (vaC u) B cB) ∧
      OwR 5 53 w' w.heap.size (fun b => w.heap.size ≤ b ∧ b < w1.heap.size) P cp (us.map fun u => ceEl (vaC u)) ∧ e = ((oneV b q).2.2 : Nat) ∧ (e = 0 → u = (oneV b q).1 ∧ p = ((oneV b q).2.1 : Nat) ∧ OwB w' w1.heap.size B cB (vaC u).data) ∧ Below w.heap.size w w') ?_ ?_
    · by_cases h0 : k = 0
      · subst h0
        rw [if_pos rfl] at ho
        rw [ho]
        apply wc_condTb; exact rfl; exact rfl; refine wc_skip ?_
        exact we_cut _ ⟨.nil, none, 0, _, _, rfl, a6, g1, rfl, fun _ => ⟨rfl, rfl, Ow.nil _ _ _⟩, hb⟩ ⟨rfl, rfl, rfl, rfl, rfl, trivial⟩
      rw [if_neg h0] at ho
      have h0' : ¬ (k.toNat : Int) = 0 := fun h => h0 (u8_eq (n := 0) h (by decide))
      by_cases h1 : k = 1
      · subst h1
        rw [if_pos rfl] at ho
        by_cases hq1 : q + 1 = b.length
        · rw [List.getElem?_eq_none (by omega : b.length ≤ q + 1)] at ho
          simp only at ho
          apply wc_condFb; exact rfl; exact rfl; refine wc_sr ?_; refine wl_bin rfl rfl bin_eql rfl ?_; refine wl_as rfl rfl ?_; refine wl_ns ?_; apply wc_condTb; exact rfl; exact rfl; refine wc_seq ?_; refine wc_sr ?_; refine wl_mv rfl rfl ?_; refine wl_mv rfl rfl ?_; apply wl_val; apply opv_len; exact rfl; exact tyB.sl; exact rfl; refine wl_bin rfl rfl bin_geq rfl ?_; refine wl_ns ?_; apply wc_decT; exact rfl; omega; refine wc_sr ?_; refine wl_as rfl rfl ?_; refine wl_as rfl rfl ?_; refine wl_ns ?_; refine wc_ret ?_; refine we_seq_ret ?_; refine we_cut_ret ?_; refine we_block_ret ?_; refine we_seq_ret ?_; refine we_block_ret ?_; refine we_loop_ret ?_; refine we_block_ret ?_; refine we_seq_ret ?_
          have hd := hf.bad hq (by rw [ho]; decide)
          rw [ho] at hd
          exact we_ret2 rfl rfl rfl ⟨_, rfl, none, 0, by rw [hd]; rfl, by rw [hd]; exact OwR.nil _ _ _, hb⟩
        obtain ⟨t, ht⟩ : ∃ t, b[q + 1]? = some t := ⟨_, List.getElem?_eq_getElem (by omega)⟩
        rw [ht] at ho
        simp only at ho
        have htl := t.toNat_lt
        have rc := r1.below hb
        apply wc_condFb; exact rfl; exact rfl; refine wc_sr ?_; refine wl_bin rfl rfl bin_eql rfl ?_; refine wl_as rfl rfl ?_; refine wl_ns ?_; apply wc_condTb; exact rfl; exact rfl; refine wc_seq ?_; refine wc_sr ?_; refine wl_mv rfl rfl ?_; refine wl_mv rfl rfl ?_; apply wl_val; apply opv_len; exact rfl; exact tyB.sl; exact rfl; refine wl_bin rfl rfl bin_geq rfl ?_; refine wl_ns ?_; apply wc_decF; exact rfl; omega; refine wc_skip ?_; refine we_seq ?_; refine wc_seq ?_; refine wc_sr ?_; refine wl_mv rfl rfl ?_; refine wl_mv rfl rfl ?_; apply wl_byK (T := tyB) (hr := rc) (hb := ht); exact rfl; exact rfl; exact rfl; exact rfl; exact rfl; intro _; refine wl_bin rfl rfl bin_gtr rfl ?_; refine wl_ns ?_
        by_cases h2 : 1 < t.toNat
        · rw [if_pos h2] at ho
          have h2' : (1 : Int) < (t.toNat : Int) := by omega
          apply wc_decT; exact rfl; (with_reducible assumption); refine wc_sr ?_; refine wl_as rfl rfl ?_; refine wl_as rfl rfl ?_; refine wl_ns ?_; refine wc_ret ?_; refine we_seq_ret ?_; refine we_cut_ret ?_; refine we_block_ret ?_; refine we_seq_ret ?_; refine we_block_ret ?_; refine we_loop_ret ?_; refine we_block_ret ?_; refine we_seq_ret ?_
          have hd := hf.bad hq (by rw [ho]; decide)
          rw [ho] at hd
          exact we_ret2 rfl rfl rfl ⟨_, rfl, none, 0, by rw [hd]; rfl, by rw [hd]; exact OwR.nil _ _ _, hb⟩
        rw [if_neg h2] at ho
        have h2' : ¬ (1 : Int) < (t.toNat : Int) := by omega
        have e : (((t.toNat : Int) = 1) : Prop) = (t = 1) := propext ⟨fun h => u8_eq (n := 1) h (by decide), fun h => by subst h; rfl⟩
        apply wc_decF; exact rfl; (with_reducible assumption); refine wc_skip ?_; refine we_seq ?_; refine wc_sr ?_; refine wl_mv rfl rfl ?_; refine wl_mv rfl rfl ?_; apply wl_byK (T := tyB) (hr := rc) (hb := ht); exact rfl; exact rfl; exact rfl; exact rfl; exact rfl; intro _; refine wl_bin rfl rfl bin_eql rfl ?_; apply wl_val; apply opv_fa; exact fa_sC (by decide); exact rfl; exact rfl
        refine wl_stA c1_bool a6 rfl (show 0 + 1 < 5 by decide) rfl rfl fun w4 a6 hG _ => ?_
        replace g1 := OwR.gr g1 hG (fun b' _ h _ => hbut b' h.2) (fun a ha => hbut _ (hP a ha))
        replace hb := hG.belowI hb (by omega) hb.size
        refine wl_ns ?_; refine wc_region ?_; refine wl_mv rfl rfl ?_; apply wl_val; apply opv_bin; exact rfl; exact rfl; exact bin_add64 (by omega); exact rfl; refine wl_as rfl rfl ?_; refine wl_nil ?_
        rw [ho]
        refine we_cut _ ⟨.bool (decide ((t.toNat : Int) = 1)), none, 0, _, _, rfl, a6, g1, rfl, fun _ => ⟨by simp only [e], by simp only [Int.natCast_add]; omega, Ow.nil _ _ _⟩, hb⟩ ⟨rfl, rfl, rfl, rfl, rfl, trivial⟩
      rw [if_neg h1] at ho
      have h1' : ¬ (k.toNat : Int) = 1 := fun h => h1 (u8_eq (n := 1) h (by decide))
      by_cases h2 : k = 2
      · subst h2
        rw [if_pos rfl] at ho
        apply wc_condFb; exact rfl; exact rfl; refine wc_sr ?_; refine wl_bin rfl rfl bin_eql rfl ?_; refine wl_as rfl rfl ?_; refine wl_ns ?_; apply wc_condFb; exact rfl; exact rfl; refine wc_sr ?_; refine wl_bin rfl rfl bin_eql rfl ?_; refine wl_as rfl rfl ?_; refine wl_ns ?_; apply wc_condTb; exact rfl; exact rfl; refine wc_sr ?_; refine wl_mv rfl rfl ?_; refine wl_mv rfl rfl ?_
        refine wl_call ok_caissonref01_GetOrdU (refGetOrdU_any (p := ((q + 1 : Nat) : Int)) (r1.below hb) rfl (by omega) (by omega)) ⟨rfl, rfl, trivial⟩ rfl ?_
        rintro _ w2 ⟨rfl, hbx⟩
        replace hb := hb.trans (hbx.mono hb.size)
        replace g1 := OwR.below g1 hbx
        replace a6 := Ar.bel a6 hbx
        clear hbx
        have hgl := fun h => (getOrdU_le (b := b) (q := q + 1) h).2
        have hgn := getOrdU_num b (q + 1)
        obtain ⟨g, hg⟩ : ∃ g, getOrdU b ((q + 1 : Nat) : Int) = g := ⟨_, rfl⟩
        rw [hg] at ho hgl hgn ⊢
        refine wl_mv rfl rfl ?_; apply wl_val; apply opv_extract; exact rfl; exact rfl; exact rfl; apply wl_val; apply opv_extract; exact rfl; exact rfl; exact rfl; apply wl_val; apply opv_extract; exact rfl; exact rfl; exact rfl; refine wl_as rfl rfl ?_; refine wl_as rfl rfl ?_; refine wl_as rfl rfl ?_; refine wl_ns ?_; refine wc_sr ?_; refine wl_mv rfl rfl ?_
        refine wl_val (opv_bin (b := .int .u64 (9223372036854775808 : Nat)) rfl rfl (bin_addU rfl)) rfl ?_
        refine wl_val (opv_convR rfl Try.underlying121 Try.underlying2 (r := drop63 g.1) ?_) rfl ?_
        · rw [IntKind.wrap_i64]; unfold drop63; simp only [IntKind.bits]; omega
        apply wl_val; apply opv_fa; exact fa_sC (by decide); exact rfl; exact rfl
        refine wl_stA c1_i64 a6 rfl (show 0 + 2 < 5 by decide) rfl rfl fun w4 a6 hG _ => ?_
        replace g1 := OwR.gr g1 hG (fun b' _ h _ => hbut b' h.2) (fun a ha => hbut _ (hP a ha))
        replace hb := hG.belowI hb (by omega) hb.size
        refine wl_ns ?_; refine wc_sr ?_; refine wl_mv rfl rfl ?_; refine wl_as rfl rfl ?_; refine wl_ns ?_; refine wc_region ?_; refine wl_mv rfl rfl ?_; refine wl_as rfl rfl ?_; refine wl_nil ?_
        rw [ho]
        refine we_cut _ ⟨.int (drop63 g.1), none, 0, _, _, rfl, a6, g1, by split <;> simp [*], fun h => ?_, hb⟩ ⟨rfl, rfl, rfl, rfl, rfl, trivial⟩
        have he : g.2.2 = 0 := by omega
        rw [if_pos he]
        exact ⟨rfl, by have := congrArg (fun x => x.2.1) (hgl he); simp only at this ⊢; omega, Ow.nil _ _ _⟩
      rw [if_neg h2] at ho
      have h2' : ¬ (k.toNat : Int) = 2 := fun h => h2 (u8_eq (n := 2) h (by decide))
      by_cases h3 : k = 3
      · subst h3
        rw [if_pos rfl] at ho
        apply wc_condFb; exact rfl; exact rfl; refine wc_sr ?_; refine wl_bin rfl rfl bin_eql rfl ?_; refine wl_as rfl rfl ?_; refine wl_ns ?_; apply wc_condFb; exact rfl; exact rfl; refine wc_sr ?_; refine wl_bin rfl rfl bin_eql rfl ?_; refine wl_as rfl rfl ?_; refine wl_ns ?_; apply wc_condFb; exact rfl; exact rfl; refine wc_sr ?_; refine wl_bin rfl rfl bin_eql rfl ?_; refine wl_as rfl rfl ?_; refine wl_ns ?_; apply wc_condTb; exact rfl; exact rfl; refine wc_sr ?_; refine wl_mv rfl rfl ?_; refine wl_mv rfl rfl ?_
        refine wl_call ok_caissonref02_FromKey (refFromKey_any (p := ((q + 1 : Nat) : Int)) (r1.below hb) rfl (by omega)) ⟨rfl, rfl, trivial⟩ rfl ?_
        rintro _ w2 ⟨rfl, hbx⟩
        replace hb := hb.trans (hbx.mono hb.size)
        replace g1 := OwR.below g1 hbx
        replace a6 := Ar.bel a6 hbx
        clear hbx
        have hgl := fun h => fromKey_le (b := b) (q := q + 1) h
        obtain ⟨g, hg⟩ : ∃ g, fromKey b ((q + 1 : Nat) : Int) = g := ⟨_, rfl⟩
        rw [hg] at ho hgl ⊢
        refine wl_mv rfl rfl ?_; apply wl_val; apply opv_extract; exact rfl; exact rfl; exact rfl; apply wl_val; apply opv_extract; exact rfl; exact rfl; exact rfl; apply wl_val; apply opv_extract; exact rfl; exact rfl; exact rfl; refine wl_as rfl rfl ?_; refine wl_as rfl rfl ?_; refine wl_as rfl rfl ?_; refine wl_ns ?_; refine wc_sr ?_; refine wl_mv rfl rfl ?_; apply wl_val; apply opv_fa; exact fa_sC (by decide); exact rfl; exact rfl
        refine wl_stA c1_str a6 rfl (show 0 + 3 < 5 by decide) rfl rfl fun w4 a6 hG _ => ?_
        replace g1 := OwR.gr g1 hG (fun b' _ h _ => hbut b' h.2) (fun a ha => hbut _ (hP a ha))
        replace hb := hG.belowI hb (by omega) hb.size
        refine wl_ns ?_; refine wc_sr ?_; refine wl_mv rfl rfl ?_; refine wl_as rfl rfl ?_; refine wl_ns ?_; refine wc_region ?_; refine wl_mv rfl rfl ?_; refine wl_as rfl rfl ?_; refine wl_nil ?_
        rw [ho]
        refine we_cut _ ⟨.text g.1, none, 0, _, _, rfl, a6, g1, by split <;> simp [*], fun h => ?_, hb⟩ ⟨rfl, rfl, rfl, rfl, rfl, trivial⟩
        have he : g.2.2 = 0 := by omega
        rw [if_pos he]
        exact ⟨rfl, by obtain ⟨k, hk, _⟩ := hgl he; simp only; omega, Ow.nil _ _ _⟩
      rw [if_neg h3] at ho
      have h3' : ¬ (k.toNat : Int) = 3 := fun h => h3 (u8_eq (n := 3) h (by decide))
      by_cases h4 : k = 4
      · subst h4
        rw [if_pos rfl] at ho
        apply wc_condFb; exact rfl; exact rfl; refine wc_sr ?_; refine wl_bin rfl rfl bin_eql rfl ?_; refine wl_as rfl rfl ?_; refine wl_ns ?_; apply wc_condFb; exact rfl; exact rfl; refine wc_sr ?_; refine wl_bin rfl rfl bin_eql rfl ?_; refine wl_as rfl rfl ?_; refine wl_ns ?_; apply wc_condFb; exact rfl; exact rfl; refine wc_sr ?_; refine wl_bin rfl rfl bin_eql rfl ?_; refine wl_as rfl rfl ?_; refine wl_ns ?_; apply wc_condFb; exact rfl; exact rfl; refine wc_sr ?_; refine wl_bin rfl rfl bin_eql rfl ?_; refine wl_as rfl rfl ?_; refine wl_ns ?_; apply wc_condTb; exact rfl; exact rfl; refine wc_sr ?_; refine wl_mv rfl rfl ?_; refine wl_mv rfl rfl ?_
        have hsz := hb.size
        refine wl_call ok_caissonref01_GetOrdText (refGetOrd_any (p := ((q + 1 : Nat) : Int)) (r1.below hb) rfl (by omega)) ⟨rfl, rfl, trivial⟩ rfl ?_
        rintro _ w2 ⟨B, cB, rfl, o2, hbx⟩
        replace hb := hb.trans (hbx.mono hb.size)
        replace g1 := OwR.below g1 hbx
        have ha6 := a6.lt
        replace a6 := Ar.bel a6 hbx
        clear hbx
        have hgl := fun h => getOrd_le (b := b) (q := q + 1) (xs := (getOrd b ((q + 1 : Nat) : Int)).1) (x := (getOrd b ((q + 1 : Nat) : Int)).2.1) h
        obtain ⟨g, hg⟩ : ∃ g, getOrd b ((q + 1 : Nat) : Int) = g := ⟨_, rfl⟩
        rw [hg] at ho hgl o2 ⊢
        refine wl_mv rfl rfl ?_; apply wl_val; apply opv_extract; exact rfl; exact rfl; exact rfl; apply wl_val; apply opv_extract; exact rfl; exact rfl; exact rfl; apply wl_val; apply opv_extract; exact rfl; exact rfl; exact rfl; refine wl_as rfl rfl ?_; refine wl_as rfl rfl ?_; refine wl_as rfl rfl ?_; refine wl_ns ?_; refine wc_sr ?_; refine wl_mv rfl rfl ?_; apply wl_val; apply opv_fa; exact fa_sC (by decide); exact rfl; exact rfl
        refine wl_stA c1_by a6 rfl (show 0 + 4 < 5 by decide) rfl rfl fun w4 a6 hG _ => ?_
        replace g1 := OwR.gr g1 hG (fun b' _ h _ => hbut b' h.2) (fun a ha => hbut _ (hP a ha))
        replace hb := hG.belowI hb (by omega) hb.size
        replace o2 := Ow.gr2 o2 hG (fun b hb => by cases hb; exact ha6)
        refine wl_ns ?_; refine wc_sr ?_; refine wl_mv rfl rfl ?_; refine wl_as rfl rfl ?_; refine wl_ns ?_; refine wc_region ?_; refine wl_mv rfl rfl ?_; refine wl_as rfl rfl ?_; refine wl_nil ?_
        rw [ho]
        refine we_cut _ ⟨.bytes g.1, B, cB, _, _, rfl, a6, g1, by split <;> simp [*], fun h => ?_, hb⟩ ⟨rfl, rfl, rfl, rfl, rfl, trivial⟩
        have he : g.2.2 = 0 := by omega
        rw [if_pos he]
        exact ⟨rfl, by obtain ⟨k, hk, _⟩ := hgl (by rw [← he]); simp only; omega, Ow.mono o2 (by omega)⟩
      rw [if_neg h4] at ho
      have h4' : ¬ (k.toNat : Int) = 4 := fun h => h4 (u8_eq (n := 4) h (by decide))
      apply wc_decF; exact rfl; (with_reducible assumption); refine wc_sr ?_; refine wl_bin rfl rfl bin_eql rfl ?_; refine wl_as rfl rfl ?_; refine wl_ns ?_; apply wc_decF; exact rfl; (with_reducible assumption); refine wc_sr ?_; refine wl_bin rfl rfl bin_eql rfl ?_; refine wl_as rfl rfl ?_; refine wl_ns ?_; apply wc_decF; exact rfl; (with_reducible assumption); refine wc_sr ?_; refine wl_bin rfl rfl bin_eql rfl ?_; refine wl_as rfl rfl ?_; refine wl_ns ?_; apply wc_decF; exact rfl; (with_reducible assumption); refine wc_sr ?_; refine wl_bin rfl rfl bin_eql rfl ?_; refine wl_as rfl rfl ?_; refine wl_ns ?_; apply wc_decF; exact rfl; (with_reducible assumption); refine wc_sr ?_; refine wl_as rfl rfl ?_; refine wl_as rfl rfl ?_; refine wl_ns ?_; refine wc_ret ?_; refine we_cut_ret ?_; refine we_block_ret ?_; refine we_seq_ret ?_; refine we_block_ret ?_; refine we_loop_ret ?_; refine we_block_ret ?_; refine we_seq_ret ?_
      have hd := hf.bad hq (by rw [ho]; decide)
      rw [ho] at hd
      exact we_ret2 rfl rfl rfl ⟨_, rfl, none, 0, by rw [hd]; rfl, by rw [hd]; exact OwR.nil _ _ _, hb⟩
    · clear g1 hb a6
      rintro _ w5 ⟨u, B, cB, p, e, rfl, a6, g1, rfl, hok, hb⟩
      by_cases he : (oneV b q).2.2 = 0
      · obtain ⟨rfl, rfl, o2⟩ := hok (by omega)
        obtain ⟨hf', hlt⟩ := hf.next hq he
        rw [he]
        replace g1 := OwR.mono g1 (Nat.le_refl _) (S' := fun b => w.heap.size ≤ b) fun _ _ h => h.1
        refine we_block_norm ?_; refine we_seq ?_; refine wc_seq ?_; refine wc_sr ?_; refine wl_mv rfl rfl ?_; refine wl_bin rfl rfl bin_neq rfl ?_; refine wl_ns ?_; apply wc_condFb; exact rfl; exact rfl; refine wc_skip ?_; refine we_seq ?_; refine wc_region ?_; refine wl_mv rfl rfl ?_; apply wl_val; apply opv_loadX; exact rfl; assumption; exact sC; exact rfl
        refine wl_pushG (css' := [ceV (vaC (oneV b q).1) B cB]) (els' := [ceEl (vaC (oneV b q).1)]) tkC (fun _ => rfl) g1 ((by simp)) ⟨rfl, ⟨_, rfl, (by first | rfl | exact cells_one (vaV_one _ _ _))⟩, rfl, trivial⟩ (Grp.one (⟨B, cB, rfl, byEl.own o2 fun a ha h1 h2 => ⟨by omega, fun p hp => by have := hP p hp; omega⟩⟩) rfl) rfl (by first | exact ceV_all _ _ _ | exact vaV_all _ _ _ | (simp [Value.oneCell'])) (by decide) (by decide) (by omega) (by simp only [maxLen]; omega) hb.size rfl rfl fun _ _ _ _ hO hG hA => ?_; replace hb := hG.belowR hb g1 (Nat.le_refl _) hb.size; replace g1 := hO; clear hO hG
        refine wl_as rfl rfl ?_; refine wl_nil ?_; refine we_block_norm ?_
        refine we_loop _ (b.length - (oneV b q).2.1) ⟨(oneV b q).2.1, us ++ [(oneV b q).1], _, _, rfl, hf', by rw [List.map_append]; exact g1, hb, rfl⟩ (by omega) ⟨rfl, by rw [List.length_append]; rfl, rfl, trivial⟩
      · have he' : ¬ (((oneV b q).2.2 : Nat) : Int) = 0 := by omega
        refine we_block_norm ?_; refine we_seq ?_; refine wc_seq ?_; refine wc_sr ?_; refine wl_mv rfl rfl ?_; refine wl_bin rfl rfl bin_neq rfl ?_; refine wl_ns ?_; apply wc_decT; exact rfl; (with_reducible assumption); refine wc_sr ?_; refine wl_mv rfl rfl ?_; refine wl_as rfl rfl ?_; refine wl_as rfl rfl ?_; refine wl_ns ?_; refine wc_ret ?_; refine we_seq_ret ?_; refine we_block_ret ?_; refine we_loop_ret ?_; refine we_block_ret ?_; refine we_seq_ret ?_
        exact we_ret2 rfl rfl rfl ⟨_, rfl, none, 0, by rw [hf.bad hq he]; rfl, by rw [hf.bad hq he]; exact OwR.nil _ _ _, hb⟩
  · have hd := hf.done (by omega)
    refine wc_exit ?_; refine we_seq_exit ?_; refine we_loop_exit ?_; refine we_block_exit ?_; refine we_seq ?_; refine wc_sr ?_; refine wl_mv rfl rfl ?_; refine wl_as rfl rfl ?_; refine wl_as rfl rfl ?_; refine wl_ns ?_; refine wc_ret ?_
    exact we_ret2 rfl rfl rfl ⟨_, rfl, P, cp, by rw [hd]; rfl, by rw [hd]; exact g1, hb⟩
end Go.Proofs.Ytcjiecclmepboaa


/-
  Walks over Key at values of which the last one is of another type, and over the reference's Key.
-/
namespace Go.Proofs.Ytcjiecclmepboaa
open Go.RowKit

def KeyX (w : World) (us : List Va) (A : Option Addr) (c : Nat) : FL → World → Nat → Prop := fun L wr m =>
  ∃ (k : Nat) (P : Option Addr) (cp : Nat), L = [(4, .slice P (keysB (us.take k)).length cp), (9, .slice A (us.length + 1) c), (10, .int .i64 ((us.length + 1 : Nat) : Int)), (11, .int .i64 (k : Int))] ∧ k ≤ us.length ∧ OwB wr w.heap.size P cp (keysB (us.take k)) ∧ Below w.heap.size w wr ∧ m = us.length - k
theorem keyX_next {w w' : World} {us : List Va} {A : Option Addr} {c k : Nat} {P : Option Addr} {cp n : Nat} {vs : List Value} {u : Va} (hu : us[k]? = some u) (ho : Ow w' w.heap.size 5 P n cp vs) (hn : (keysB (us.take k)).length + (key1 u).length = n) (hv : bvs (keysB (us.take k)) ++ bvs (key1 u) = vs) (hb : Below w.heap.size w w') {m : Nat} (hm : m = us.length - k) :
    ∃ m', KeyX w us A c [(4, .slice P n cp), (9, .slice A (us.length + 1) c), (10, .int .i64 ((us.length + 1 : Nat) : Int)), (11, .int .i64 ((k + 1 : Nat) : Int))] w' m' ∧ m' < m := by
  have hlt := (List.getElem?_eq_some_iff.1 hu).1
  have e := keysB_take hu
  have el : n = (keysB (us.take (k + 1))).length := by rw [e, List.length_append, hn]
  refine ⟨us.length - (k + 1), ⟨k + 1, P, cp, by rw [el], by omega, ?_, hb, rfl⟩, by omega⟩
  unfold OwB
  rw [← el, e, bvs_append, hv]
  exact ho
set_option maxHeartbeats 2000000 in
theorem cellKey_bad {A : Option Addr} {n c : Nat} {us : List Va} {t0 : TypeId} {x0 : Value} {w : World} (t1 : (t0 == 4) = false) (t2 : (t0 == 2) = false) (t3 : (t0 == 9) = false) (t4 : (t0 == 30) = false) (hr : RdR 1 w All A (us.map vaEl ++ [vEl (.iface t0 x0)])) (hn : us.length + 1 = n) (hok : ∀ u ∈ us, VaOk u) (hl : (keysB us).length ≤ 137438953472) (hl2 : us.length + 1 ≤ maxLen) :
    CallsV Try.prog 49 #[.slice A n c] w fun v w' => v = .tuple #[.slice none 0 0, .int .i64 10] ∧ Below w.heap.size w w' := by
  subst hn
  have hmax : maxLen = 9223372036854775807 := rfl
  refine calls_in (N := _) Try.func49 rfl Try.ntmps49 rfl ?_; show WC _ _ _ _ _ _
  refine wc_sr ?_; refine wl_as rfl rfl ?_; refine wl_as rfl rfl ?_; refine wl_ns ?_; refine wc_sr ?_; refine wl_as rfl rfl ?_; refine wl_ns ?_; refine wc_seq ?_; refine wc_sr ?_; refine wl_mv rfl rfl ?_; apply wl_val; apply opv_len; exact rfl; exact tkA.sl; exact rfl; refine wl_mv rfl rfl ?_; refine wl_ns ?_; refine wc_block ?_
  refine wc_loop (KeyX w us A c) [(4, .slice none 0 0), (9, .slice A (us.length + 1) c), (10, .int .i64 ((us.length + 1 : Nat) : Int)), (11, .int .i64 (0 : Nat))] us.length ⟨0, none, 0, rfl, by omega, Ow.nil _ _ _, Below.refl _ _, rfl⟩ ⟨rfl, rfl, rfl, rfl, trivial⟩ ?_
  rintro _ w1 m ⟨k, P, cp, rfl, hk, o1, hb, hm⟩
  have hle := keysB_le us k
  refine wc_sr ?_; refine wl_bin rfl rfl bin_lss rfl ?_; refine wl_ns ?_; refine wc_seq ?_; apply wc_decT; exact rfl; omega; refine wc_skip ?_; refine we_seq ?_; refine wc_seq ?_; refine wc_block ?_; refine wc_sr ?_
  by_cases h1 : k < us.length
  · obtain ⟨u, hu⟩ : ∃ u, us[k]? = some u := ⟨_, List.getElem?_eq_getElem (by omega)⟩
    have hle2 := keysB_le us (k + 1)
    rw [keysB_take hu, List.length_append] at hle2
    have hou := hok u (List.mem_of_getElem? hu)
    obtain ⟨b, o, cs, rfl, _, _, ⟨X, cx, rfl, hx⟩, hw⟩ := RdR.at (k := 1) (by decide) hr (E := vaEl u) (i := k) (by rw [List.getElem?_append_left (by simpa using h1), List.getElem?_map, hu]; rfl)
    have i1 := hw.below hb
    have hP : ∀ a, P = some a → a.block < w1.heap.size := fun a ha => (Ow.lt o1 a ha).2
    have rx := (byEl.rd hx).1.below hb
    apply wl_val; apply opv_idxG tkA; exact rfl; exact rfl; exact rfl; omega; exact rfl; apply wl_val; apply opv_ldW0; exact rfl; assumption; exact c1_any; exact rfl; exact rfl; refine wl_as rfl rfl ?_; refine wl_ns ?_; refine wc_sr ?_; refine wl_mv rfl rfl ?_
    refine wl_call ok_cell_Cell (cell_any rx (by have := hou.data; omega)) ⟨rfl, trivial⟩ rfl ?_; rintro _ _ ⟨B, cB, rfl, o2, hbx⟩; replace o1 := OwB.below o1 hbx; replace hb := hb.trans (hbx.mono hb.size); clear hbx
    refine wl_mv rfl rfl ?_; apply wl_val; apply opv_extract; exact rfl; exact rfl; exact rfl; apply wl_val; apply opv_extract; exact rfl; exact rfl; exact rfl
    refine wl_var (cs := ceV (vaC u) B cB) zeroC sC rfl (fun _ => rfl) (by first | rfl | simp [Value.oneCell'] | simp [ceV, Value.oneCell']) rfl fun g3 _ hg3 a3 hbx => ?_; replace o1 := OwB.below o1 hbx; replace o2 := OwB.below o2 hbx; replace hb := hb.trans (hbx.mono hb.size); clear hbx
    unfold ceV at a3
    obtain ⟨K, hK⟩ : ∃ K, (keysB (us.take k)).length = K := ⟨_, rfl⟩
    have q1 := Ow.re o1 hK
    rw [hK] at hle hle2 ⊢
    clear o1 i1 rx
    cases u with
    | nil =>
      simp only [vaC] at a3
      simp only [key1, List.length_cons, List.length_nil] at hle2
      refine wl_as rfl rfl ?_; refine wl_ns ?_; refine wc_seq ?_; refine wc_sr ?_; refine wl_mv rfl rfl ?_; refine wl_bin rfl rfl bin_neq rfl ?_; refine wl_ns ?_; apply wc_condFb; exact rfl; exact rfl; refine wc_skip ?_; refine we_seq ?_; refine wc_sr ?_; refine wl_mv rfl rfl ?_; apply wl_val; apply opv_fa; exact fa_sC (by decide); exact rfl; exact rfl; apply wl_val; apply opv_ldX; exact rfl; assumption; exact c1_int; exact rfl; exact rfl; apply wl_val; apply opv_convR; exact rfl; exact Try.underlying3; exact Try.underlying5; exact IntWalk.u8_in _ (by omega); exact rfl
      refine wl_push (vs := [_]) tyB rfl q1 ⟨rfl, rfl, rfl, trivial⟩ rfl (by decide) rfl (by omega) (by simp only [maxLen]; omega) hb.size rfl rfl fun _ _ _ _ hO hG _ => ?_; (try replace a3 := Ar.grA a3 hG (Ar.ne_ow a3 q1 rfl)); replace hb := hG.below hb q1 (Nat.le_refl _) hb.size; replace q1 := hO; clear hO hG
      refine wl_as rfl rfl ?_; refine wl_ns ?_; refine wc_sr ?_; apply wl_val; apply opv_fa; exact fa_sC (by decide); exact rfl; exact rfl; apply wl_val; apply opv_ldX; exact rfl; assumption; exact c1_int; exact rfl; exact rfl; refine wl_ns ?_; refine wc_block ?_; refine wc_sr ?_; refine wl_bin rfl rfl bin_eql rfl ?_; refine wl_as rfl rfl ?_; refine wl_ns ?_; apply wc_condFb; exact rfl; exact rfl; refine wc_sr ?_; refine wl_bin rfl rfl bin_eql rfl ?_; refine wl_as rfl rfl ?_; refine wl_ns ?_; apply wc_condFb; exact rfl; exact rfl; refine wc_sr ?_; refine wl_bin rfl rfl bin_eql rfl ?_; refine wl_as rfl rfl ?_; refine wl_ns ?_; apply wc_condFb; exact rfl; exact rfl; refine wc_sr ?_; refine wl_bin rfl rfl bin_eql rfl ?_; refine wl_as rfl rfl ?_; refine wl_ns ?_; apply wc_condFb; exact rfl; exact rfl; refine wc_skip ?_; refine we_block_norm ?_; refine we_block_norm ?_; refine we_seq ?_; refine wc_region ?_; apply wl_val; apply opv_bin; exact rfl; exact rfl; exact bin_add64 (by omega); exact rfl; refine wl_mv rfl rfl ?_; refine wl_nil ?_
      obtain ⟨m', hI, hlt⟩ := keyX_next (A := some ⟨b, o, none⟩) (c := c) hu q1 (by simp [key1, hK]) rfl hb hm
      exact we_loop _ m' hI hlt ⟨rfl, rfl, rfl, by simp [lookT], trivial⟩
    | bool t =>
      simp only [vaC] at a3
      simp only [key1, List.length_cons, List.length_nil] at hle2
      refine wl_as rfl rfl ?_; refine wl_ns ?_; refine wc_seq ?_; refine wc_sr ?_; refine wl_mv rfl rfl ?_; refine wl_bin rfl rfl bin_neq rfl ?_; refine wl_ns ?_; apply wc_condFb; exact rfl; exact rfl; refine wc_skip ?_; refine we_seq ?_; refine wc_sr ?_; refine wl_mv rfl rfl ?_; apply wl_val; apply opv_fa; exact fa_sC (by decide); exact rfl; exact rfl; apply wl_val; apply opv_ldX; exact rfl; assumption; exact c1_int; exact rfl; exact rfl; apply wl_val; apply opv_convR; exact rfl; exact Try.underlying3; exact Try.underlying5; exact IntWalk.u8_in _ (by omega); exact rfl
      refine wl_push (vs := [_]) tyB rfl q1 ⟨rfl, rfl, rfl, trivial⟩ rfl (by decide) rfl (by omega) (by simp only [maxLen]; omega) hb.size rfl rfl fun _ _ _ _ hO hG _ => ?_; replace a3 := Ar.grA a3 hG (Ar.ne_ow a3 q1 rfl); replace hb := hG.below hb q1 (Nat.le_refl _) hb.size; replace q1 := hO; clear hO hG
      refine wl_as rfl rfl ?_; refine wl_ns ?_; refine wc_sr ?_; apply wl_val; apply opv_fa; exact fa_sC (by decide); exact rfl; exact rfl; apply wl_val; apply opv_ldX; exact rfl; assumption; exact c1_int; exact rfl; exact rfl; refine wl_ns ?_; refine wc_block ?_; refine wc_sr ?_; refine wl_bin rfl rfl bin_eql rfl ?_; refine wl_as rfl rfl ?_; refine wl_ns ?_; apply wc_condTb; exact rfl; exact rfl; refine wc_region ?_; refine wl_mv rfl rfl ?_; apply wl_val; apply opv_fa; exact fa_sC (by decide); exact rfl; exact rfl; apply wl_val; apply opv_ldX; exact rfl; assumption; exact c1_bool; exact rfl; exact rfl
      refine wl_call ok_cell_truth truth_any ⟨rfl, trivial⟩ rfl ?_
      rintro _ _ ⟨rfl, rfl⟩
      have hlt : (if t then 1 else 0 : Nat) < 256 := by cases t <;> decide
      apply wl_val; apply opv_convR; exact rfl; exact Try.underlying3; exact Try.underlying5; exact IntWalk.u8_in _ (by omega); exact rfl
      refine wl_push (vs := [_]) tyB rfl q1 ⟨rfl, rfl, rfl, trivial⟩ rfl (by decide) rfl (by omega) (by simp only [maxLen]; omega) hb.size rfl rfl fun _ _ _ _ hO hG _ => ?_; (try replace a3 := Ar.grA a3 hG (Ar.ne_ow a3 q1 rfl)); replace hb := hG.below hb q1 (Nat.le_refl _) hb.size; replace q1 := hO; clear hO hG
      refine wl_as rfl rfl ?_; refine wl_nil ?_; refine we_block_norm ?_; refine we_block_norm ?_; refine we_seq ?_; refine wc_region ?_; apply wl_val; apply opv_bin; exact rfl; exact rfl; exact bin_add64 (by omega); exact rfl; refine wl_mv rfl rfl ?_; refine wl_nil ?_
      obtain ⟨m', hI, hlt⟩ := keyX_next (A := some ⟨b, o, none⟩) (c := c) hu q1 (by simp [key1, hK]) (by cases t <;> simp [key1, bvs, bv]) hb hm
      exact we_loop _ m' hI hlt ⟨rfl, rfl, rfl, by simp [lookT], trivial⟩
    | int n =>
      simp only [vaC] at a3
      simp only [key1, List.length_cons, ordU_length] at hle2
      refine wl_as rfl rfl ?_; refine wl_ns ?_; refine wc_seq ?_; refine wc_sr ?_; refine wl_mv rfl rfl ?_; refine wl_bin rfl rfl bin_neq rfl ?_; refine wl_ns ?_; apply wc_condFb; exact rfl; exact rfl; refine wc_skip ?_; refine we_seq ?_; refine wc_sr ?_; refine wl_mv rfl rfl ?_; apply wl_val; apply opv_fa; exact fa_sC (by decide); exact rfl; exact rfl; apply wl_val; apply opv_ldX; exact rfl; assumption; exact c1_int; exact rfl; exact rfl; apply wl_val; apply opv_convR; exact rfl; exact Try.underlying3; exact Try.underlying5; exact IntWalk.u8_in _ (by omega); exact rfl
      refine wl_push (vs := [_]) tyB rfl q1 ⟨rfl, rfl, rfl, trivial⟩ rfl (by decide) rfl (by omega) (by simp only [maxLen]; omega) hb.size rfl rfl fun _ _ _ _ hO hG _ => ?_; replace a3 := Ar.grA a3 hG (Ar.ne_ow a3 q1 rfl); replace hb := hG.below hb q1 (Nat.le_refl _) hb.size; replace q1 := hO; clear hO hG
      refine wl_as rfl rfl ?_; refine wl_ns ?_; refine wc_sr ?_; apply wl_val; apply opv_fa; exact fa_sC (by decide); exact rfl; exact rfl; apply wl_val; apply opv_ldX; exact rfl; assumption; exact c1_int; exact rfl; exact rfl; refine wl_ns ?_; refine wc_block ?_; refine wc_sr ?_; refine wl_bin rfl rfl bin_eql rfl ?_; refine wl_as rfl rfl ?_; refine wl_ns ?_; apply wc_condFb; exact rfl; exact rfl; refine wc_sr ?_; refine wl_bin rfl rfl bin_eql rfl ?_; refine wl_as rfl rfl ?_; refine wl_ns ?_; apply wc_condTb; exact rfl; exact rfl; refine wc_region ?_; refine wl_mv rfl rfl ?_; apply wl_val; apply opv_fa; exact fa_sC (by decide); exact rfl; exact rfl; apply wl_val; apply opv_ldX; exact rfl; assumption; exact c1_i64; exact rfl; exact rfl
      refine wl_call ok_codec_OrdI (ordI_any n hou.num _) ⟨rfl, trivial⟩ rfl ?_; rintro _ _ ⟨Y, cy, rfl, o3, hbx⟩; replace q1 := Ow.bel q1 hbx; replace hb := hb.trans (hbx.mono hb.size); clear hbx
      rw [ordU_length]
      refine wl_app tyB rfl q1 rfl (Ow.re o3 (ordU_length _)).rd (bvs_one _) (by omega) (by simp only [maxLen]; omega) hb.size rfl fun _ _ _ hO hG _ => ?_; (try replace a3 := Ar.grA a3 hG (Ar.ne_ow a3 q1 rfl)); replace hb := hG.below hb q1 (Nat.le_refl _) hb.size; replace q1 := hO; clear hO hG
      refine wl_as rfl rfl ?_; refine wl_nil ?_; refine we_block_norm ?_; refine we_block_norm ?_; refine we_seq ?_; refine wc_region ?_; apply wl_val; apply opv_bin; exact rfl; exact rfl; exact bin_add64 (by omega); exact rfl; refine wl_mv rfl rfl ?_; refine wl_nil ?_
      obtain ⟨m', hI, hlt⟩ := keyX_next (A := some ⟨b, o, none⟩) (c := c) hu q1 (by simp [key1, hK, ordU_length]) (by simp [key1, bvs, bv]) hb hm
      exact we_loop _ m' hI hlt ⟨rfl, rfl, rfl, by simp [lookT], trivial⟩
    | text s =>
      simp only [vaC] at a3
      simp only [key1, List.length_cons] at hle2
      refine wl_as rfl rfl ?_; refine wl_ns ?_; refine wc_seq ?_; refine wc_sr ?_; refine wl_mv rfl rfl ?_; refine wl_bin rfl rfl bin_neq rfl ?_; refine wl_ns ?_; apply wc_condFb; exact rfl; exact rfl; refine wc_skip ?_; refine we_seq ?_; refine wc_sr ?_; refine wl_mv rfl rfl ?_; apply wl_val; apply opv_fa; exact fa_sC (by decide); exact rfl; exact rfl; apply wl_val; apply opv_ldX; exact rfl; assumption; exact c1_int; exact rfl; exact rfl; apply wl_val; apply opv_convR; exact rfl; exact Try.underlying3; exact Try.underlying5; exact IntWalk.u8_in _ (by omega); exact rfl
      refine wl_push (vs := [_]) tyB rfl q1 ⟨rfl, rfl, rfl, trivial⟩ rfl (by decide) rfl (by omega) (by simp only [maxLen]; omega) hb.size rfl rfl fun _ _ _ _ hO hG _ => ?_; replace a3 := Ar.grA a3 hG (Ar.ne_ow a3 q1 rfl); replace hb := hG.below hb q1 (Nat.le_refl _) hb.size; replace q1 := hO; clear hO hG
      refine wl_as rfl rfl ?_; refine wl_ns ?_; refine wc_sr ?_; apply wl_val; apply opv_fa; exact fa_sC (by decide); exact rfl; exact rfl; apply wl_val; apply opv_ldX; exact rfl; assumption; exact c1_int; exact rfl; exact rfl; refine wl_ns ?_; refine wc_block ?_; refine wc_sr ?_; refine wl_bin rfl rfl bin_eql rfl ?_; refine wl_as rfl rfl ?_; refine wl_ns ?_; apply wc_condFb; exact rfl; exact rfl; refine wc_sr ?_; refine wl_bin rfl rfl bin_eql rfl ?_; refine wl_as rfl rfl ?_; refine wl_ns ?_; apply wc_condFb; exact rfl; exact rfl; refine wc_sr ?_; refine wl_bin rfl rfl bin_eql rfl ?_; refine wl_as rfl rfl ?_; refine wl_ns ?_; apply wc_condTb; exact rfl; exact rfl; refine wc_region ?_; refine wl_mv rfl rfl ?_; apply wl_val; apply opv_fa; exact fa_sC (by decide); exact rfl; exact rfl; apply wl_val; apply opv_ldX; exact rfl; assumption; exact c1_str; exact rfl; exact rfl
      refine wl_call ok_text_Key (key_any (l := s) hou.text _) ⟨rfl, trivial⟩ rfl ?_; rintro _ _ ⟨Y, cy, rfl, o3, hbx⟩; replace q1 := Ow.bel q1 hbx; replace hb := hb.trans (hbx.mono hb.size); clear hbx
      refine wl_app tyB rfl q1 rfl o3.rd (bvs_one _) (by omega) (by simp only [maxLen]; omega) hb.size rfl fun _ _ _ hO hG _ => ?_; (try replace a3 := Ar.grA a3 hG (Ar.ne_ow a3 q1 rfl)); replace hb := hG.below hb q1 (Nat.le_refl _) hb.size; replace q1 := hO; clear hO hG
      refine wl_as rfl rfl ?_; refine wl_nil ?_; refine we_block_norm ?_; refine we_block_norm ?_; refine we_seq ?_; refine wc_region ?_; apply wl_val; apply opv_bin; exact rfl; exact rfl; exact bin_add64 (by omega); exact rfl; refine wl_mv rfl rfl ?_; refine wl_nil ?_
      obtain ⟨m', hI, hlt⟩ := keyX_next (A := some ⟨b, o, none⟩) (c := c) hu q1 (by simp [key1, hK]; omega) (by simp [key1, bvs, bv]) hb hm
      exact we_loop _ m' hI hlt ⟨rfl, rfl, rfl, by simp [lookT], trivial⟩
    | bytes d =>
      simp only [vaC] at a3 o2
      simp only [key1, List.length_cons] at hle2
      refine wl_as rfl rfl ?_; refine wl_ns ?_; refine wc_seq ?_; refine wc_sr ?_; refine wl_mv rfl rfl ?_; refine wl_bin rfl rfl bin_neq rfl ?_; refine wl_ns ?_; apply wc_condFb; exact rfl; exact rfl; refine wc_skip ?_; refine we_seq ?_; refine wc_sr ?_; refine wl_mv rfl rfl ?_; apply wl_val; apply opv_fa; exact fa_sC (by decide); exact rfl; exact rfl; apply wl_val; apply opv_ldX; exact rfl; assumption; exact c1_int; exact rfl; exact rfl; apply wl_val; apply opv_convR; exact rfl; exact Try.underlying3; exact Try.underlying5; exact IntWalk.u8_in _ (by omega); exact rfl
      refine wl_push (vs := [_]) tyB rfl q1 ⟨rfl, rfl, rfl, trivial⟩ rfl (by decide) rfl (by omega) (by simp only [maxLen]; omega) hb.size rfl rfl fun _ _ _ _ hO hG _ => ?_; replace a3 := Ar.grA a3 hG (Ar.ne_ow a3 q1 rfl); replace o2 := Ow.gr2 o2 hG hP; replace hb := hG.below hb q1 (Nat.le_refl _) hb.size; replace q1 := hO; clear hO hG
      refine wl_as rfl rfl ?_; refine wl_ns ?_; refine wc_sr ?_; apply wl_val; apply opv_fa; exact fa_sC (by decide); exact rfl; exact rfl; apply wl_val; apply opv_ldX; exact rfl; assumption; exact c1_int; exact rfl; exact rfl; refine wl_ns ?_; refine wc_block ?_; refine wc_sr ?_; refine wl_bin rfl rfl bin_eql rfl ?_; refine wl_as rfl rfl ?_; refine wl_ns ?_; apply wc_condFb; exact rfl; exact rfl; refine wc_sr ?_; refine wl_bin rfl rfl bin_eql rfl ?_; refine wl_as rfl rfl ?_; refine wl_ns ?_; apply wc_condFb; exact rfl; exact rfl; refine wc_sr ?_; refine wl_bin rfl rfl bin_eql rfl ?_; refine wl_as rfl rfl ?_; refine wl_ns ?_; apply wc_condFb; exact rfl; exact rfl; refine wc_sr ?_; refine wl_bin rfl rfl bin_eql rfl ?_; refine wl_as rfl rfl ?_; refine wl_ns ?_; apply wc_condTb; exact rfl; exact rfl; refine wc_region ?_; refine wl_mv rfl rfl ?_; apply wl_val; apply opv_fa; exact fa_sC (by decide); exact rfl; exact rfl; apply wl_val; apply opv_ldX; exact rfl; assumption; exact c1_by; exact rfl; exact rfl
      refine wl_call ok_codec_OrdText (ordText_any (OwB.rd o2) rfl (by have : d.length ≤ 68719476736 := hou.data; omega)) ⟨rfl, trivial⟩ rfl ?_; rintro _ _ ⟨Y, cy, rfl, o3, hbx⟩; replace q1 := Ow.bel q1 hbx; replace hb := hb.trans (hbx.mono hb.size); clear hbx
      refine wl_app tyB rfl q1 rfl o3.rd (bvs_one _) (by omega) (by simp only [maxLen]; omega) hb.size rfl fun _ _ _ hO hG _ => ?_; (try replace a3 := Ar.grA a3 hG (Ar.ne_ow a3 q1 rfl)); replace hb := hG.below hb q1 (Nat.le_refl _) hb.size; replace q1 := hO; clear hO hG
      refine wl_as rfl rfl ?_; refine wl_nil ?_; refine we_block_norm ?_; refine we_block_norm ?_; refine we_seq ?_; refine wc_region ?_; apply wl_val; apply opv_bin; exact rfl; exact rfl; exact bin_add64 (by omega); exact rfl; refine wl_mv rfl rfl ?_; refine wl_nil ?_
      obtain ⟨m', hI, hlt⟩ := keyX_next (A := some ⟨b, o, none⟩) (c := c) hu q1 (by simp [key1, hK]; omega) (by simp [key1, bvs, bv]) hb hm
      exact we_loop _ m' hI hlt ⟨rfl, rfl, rfl, by simp [lookT], trivial⟩
  · obtain rfl : k = us.length := by omega
    obtain ⟨b, o, cs, rfl, _, _, hx, hw⟩ := RdR.at (k := 1) (by decide) hr (E := vEl (.iface t0 x0)) (i := us.length) (by simp)
    obtain rfl : cs = [.iface t0 x0] := hx
    have i1 := hw.below hb
    apply wl_val; apply opv_idxG tkA; exact rfl; exact rfl; exact rfl; omega; exact rfl; apply wl_val; apply opv_ldW0; exact rfl; assumption; exact c1_any; exact rfl; exact rfl; refine wl_as rfl rfl ?_; refine wl_ns ?_; refine wc_sr ?_; refine wl_mv rfl rfl ?_
    refine wl_call ok_cell_Cell (cell_other t1 t2 t3 t4) ⟨rfl, trivial⟩ rfl ?_; rintro _ _ ⟨rfl, hbx⟩; replace hb := hb.trans (hbx.mono hb.size); clear hbx
    refine wl_mv rfl rfl ?_; apply wl_val; apply opv_extract; exact rfl; exact rfl; exact rfl; apply wl_val; apply opv_extract; exact rfl; exact rfl; exact rfl
    refine wl_var (cs := zC) zeroC sC rfl (fun _ => rfl) (by first | rfl | simp [Value.oneCell'] | simp [ceV, Value.oneCell']) rfl fun g3 _ hg3 a3 hbx => ?_; replace hb := hb.trans (hbx.mono hb.size); clear hbx
    refine wl_as rfl rfl ?_; refine wl_ns ?_; refine wc_seq ?_; refine wc_sr ?_; refine wl_mv rfl rfl ?_; refine wl_bin rfl rfl bin_neq rfl ?_; refine wl_ns ?_; apply wc_condTb; exact rfl; exact rfl; refine wc_sr ?_; refine wl_mv rfl rfl ?_; refine wl_as rfl rfl ?_; refine wl_as rfl rfl ?_; refine wl_ns ?_; refine wc_ret ?_; refine we_seq_ret ?_; refine we_block_ret ?_; refine we_seq_ret ?_; refine we_loop_ret ?_; refine we_block_ret ?_; refine we_seq_ret ?_
    exact we_ret2 rfl rfl rfl ⟨_, rfl, rfl, hb⟩
def RefKeyI (w : World) (us : List Va) (A : Option Addr) (c : Nat) : FL → World → Nat → Prop := fun L wr m =>
  ∃ (k : Nat) (P : Option Addr) (cp : Nat), L = [(0, .slice A us.length c), (3, .slice P (keysB (us.take k)).length cp), (4, .int .i64 (k : Int))] ∧ k ≤ us.length ∧ OwB wr w.heap.size P cp (keysB (us.take k)) ∧ Below w.heap.size w wr ∧ m = us.length - k

theorem refKeyC_next {w w' : World} {us : List Va} {A : Option Addr} {c k : Nat} {P : Option Addr} {cp n : Nat} {vs : List Value} {u : Va} (hu : us[k]? = some u) (ho : Ow w' w.heap.size 5 P n cp vs) (hn : (keysB (us.take k)).length + (key1 u).length = n) (hv : bvs (keysB (us.take k)) ++ bvs (key1 u) = vs) (hb : Below w.heap.size w w') {m : Nat} (hm : m = us.length - k) :
    ∃ m', RefKeyI w us A c [(0, .slice A us.length c), (3, .slice P n cp), (4, .int .i64 ((k + 1 : Nat) : Int))] w' m' ∧ m' < m := by
  have hlt := (List.getElem?_eq_some_iff.1 hu).1
  have e := keysB_take hu
  have el : n = (keysB (us.take (k + 1))).length := by rw [e, List.length_append, hn]
  refine ⟨us.length - (k + 1), ⟨k + 1, P, cp, by rw [el], by omega, ?_, hb, rfl⟩, by omega⟩
  unfold OwB
  rw [← el, e, bvs_append, hv]
  exact ho
set_option maxHeartbeats 2000000 in
theorem refKeyC_any {A : Option Addr} {n c : Nat} {us : List Va} {w : World} (hr : RdR 5 w All A (us.map fun u => ceEl (vaC u))) (hn : us.length = n) (hok : ∀ u ∈ us, VaOk u) (hl : (keysB us).length ≤ 137438953472) (hl2 : us.length ≤ maxLen) :
    CallsV Try.prog 51 #[.slice A n c] w (RetB w (keysB us)) := by
  subst hn
  have hmax : maxLen = 9223372036854775807 := rfl
  refine calls_in (N := _) Try.func51 rfl Try.ntmps51 rfl ?_; show WC _ _ _ _ _ _
  refine wc_sr ?_; refine wl_as rfl rfl ?_; refine wl_ns ?_; refine wc_sr ?_; refine wl_as rfl rfl ?_; refine wl_ns ?_; refine wc_seq ?_; refine wc_sr ?_; refine wl_as rfl rfl ?_; refine wl_ns ?_; refine wc_block ?_
  refine wc_loop (RefKeyI w us A c) [(0, .slice A us.length c), (3, .slice none 0 0), (4, .int .i64 (0 : Nat))] us.length ⟨0, none, 0, rfl, by omega, Ow.nil _ _ _, Below.refl _ _, rfl⟩ ⟨rfl, rfl, rfl, trivial⟩ ?_
  rintro _ w1 m ⟨k, P, cp, rfl, hk, o1, hb, hm⟩
  have hle := keysB_le us k
  refine wc_seq ?_; refine wc_sr ?_; refine wl_mv rfl rfl ?_; refine wl_mv rfl rfl ?_; apply wl_val; apply opv_len; exact rfl; exact tkC.sl; exact rfl; refine wl_bin rfl rfl bin_lss rfl ?_; refine wl_ns ?_
  refine wc_cond rfl (fun h1 => ?_) (fun h1 => ?_)
  · obtain ⟨u, hu⟩ : ∃ u, us[k]? = some u := ⟨_, List.getElem?_eq_getElem (by omega)⟩
    have hle2 := keysB_le us (k + 1)
    rw [keysB_take hu, List.length_append] at hle2
    have hou := hok u (List.mem_of_getElem? hu)
    obtain ⟨b, o, cs, rfl, _, _, hp, hw⟩ := RdR.at (k := 5) (by decide) hr (E := ceEl (vaC u)) (i := k) (by rw [List.getElem?_map, hu]; rfl)
    obtain ⟨X, cx, rfl, rx, _⟩ := ceEl.rd hp
    have i1 := hw.below hb
    have hs1 := hb.size
    refine wc_skip ?_; refine we_seq ?_; refine wc_seq ?_; refine wc_block ?_; refine wc_sr ?_; refine wl_mv rfl rfl ?_; refine wl_mv rfl rfl ?_; apply wl_val; apply opv_idxG tkC; exact rfl; exact rfl; exact rfl; omega; exact rfl; apply wl_val; apply opv_ldG; exact rfl; assumption; exact sC; exact rfl
    refine wl_var (cs := ceV (vaC u) X cx) zeroC sC rfl (fun _ => rfl) (by first | rfl | simp [Value.oneCell'] | simp [ceV, Value.oneCell']) rfl fun g5 _ hg5 a5 hbx => ?_; replace o1 := OwB.below o1 hbx; replace hb := hb.trans (hbx.mono hb.size); clear hbx
    unfold ceV at a5
    obtain ⟨K, hK⟩ : ∃ K, (keysB (us.take k)).length = K := ⟨_, rfl⟩
    have q1 := Ow.re o1 hK
    rw [hK] at hle hle2 ⊢
    clear o1 i1
    cases u with
    | nil =>
      simp only [vaC] at a5
      simp only [key1, List.length_cons, List.length_nil] at hle2
      refine wl_ns ?_; refine wc_sr ?_; refine wl_mv rfl rfl ?_; apply wl_val; apply opv_fa; exact fa_sC (by decide); exact rfl; exact rfl; apply wl_val; apply opv_ldX; exact rfl; assumption; exact c1_int; exact rfl; exact rfl; apply wl_val; apply opv_convR; exact rfl; exact Try.underlying3; exact Try.underlying5; exact IntWalk.u8_in _ (by omega); exact rfl
      refine wl_push (vs := [_]) tyB rfl q1 ⟨rfl, rfl, rfl, trivial⟩ rfl (by decide) rfl (by omega) (by simp only [maxLen]; omega) hb.size rfl rfl fun _ _ _ _ hO hG _ => ?_; replace a5 := Ar.grA a5 hG (Ar.ne_ow a5 q1 rfl); replace hb := hG.below hb q1 (Nat.le_refl _) hb.size; replace q1 := hO; clear hO hG
      refine wl_as rfl rfl ?_; refine wl_ns ?_; refine wc_sr ?_; apply wl_val; apply opv_fa; exact fa_sC (by decide); exact rfl; exact rfl; apply wl_val; apply opv_ldX; exact rfl; assumption; exact c1_int; exact rfl; exact rfl; refine wl_ns ?_; refine wc_block ?_; refine wc_sr ?_; refine wl_bin rfl rfl bin_eql rfl ?_; refine wl_as rfl rfl ?_; refine wl_ns ?_; apply wc_condFb; exact rfl; exact rfl; refine wc_sr ?_; refine wl_bin rfl rfl bin_eql rfl ?_; refine wl_as rfl rfl ?_; refine wl_ns ?_; apply wc_condFb; exact rfl; exact rfl; refine wc_sr ?_; refine wl_bin rfl rfl bin_eql rfl ?_; refine wl_as rfl rfl ?_; refine wl_ns ?_; apply wc_condFb; exact rfl; exact rfl; refine wc_sr ?_; refine wl_bin rfl rfl bin_eql rfl ?_; refine wl_as rfl rfl ?_; refine wl_ns ?_; apply wc_condFb; exact rfl; exact rfl; refine wc_skip ?_; refine we_block_norm ?_; refine we_block_norm ?_; refine we_seq ?_; refine wc_region ?_; refine wl_mv rfl rfl ?_; apply wl_val; apply opv_bin; exact rfl; exact rfl; exact bin_add64 (by omega); exact rfl; refine wl_as rfl rfl ?_; refine wl_nil ?_
      obtain ⟨m', hI, hlt⟩ := refKeyC_next (A := some ⟨b, o, none⟩) (c := c) hu q1 (by simp [key1, hK]) rfl hb hm
      exact we_loop _ m' hI hlt ⟨rfl, rfl, by simp [lookT], trivial⟩
    | bool t =>
      simp only [vaC] at a5
      simp only [key1, List.length_cons, List.length_nil] at hle2
      refine wl_ns ?_; refine wc_sr ?_; refine wl_mv rfl rfl ?_; apply wl_val; apply opv_fa; exact fa_sC (by decide); exact rfl; exact rfl; apply wl_val; apply opv_ldX; exact rfl; assumption; exact c1_int; exact rfl; exact rfl; apply wl_val; apply opv_convR; exact rfl; exact Try.underlying3; exact Try.underlying5; exact IntWalk.u8_in _ (by omega); exact rfl
      refine wl_push (vs := [_]) tyB rfl q1 ⟨rfl, rfl, rfl, trivial⟩ rfl (by decide) rfl (by omega) (by simp only [maxLen]; omega) hb.size rfl rfl fun _ _ _ _ hO hG _ => ?_; replace a5 := Ar.grA a5 hG (Ar.ne_ow a5 q1 rfl); replace hb := hG.below hb q1 (Nat.le_refl _) hb.size; replace q1 := hO; clear hO hG
      cases t with
      | true =>
        refine wl_as rfl rfl ?_; refine wl_ns ?_; refine wc_sr ?_; apply wl_val; apply opv_fa; exact fa_sC (by decide); exact rfl; exact rfl; apply wl_val; apply opv_ldX; exact rfl; assumption; exact c1_int; exact rfl; exact rfl; refine wl_ns ?_; refine wc_block ?_; refine wc_sr ?_; refine wl_bin rfl rfl bin_eql rfl ?_; refine wl_as rfl rfl ?_; refine wl_ns ?_; apply wc_condTb; exact rfl; exact rfl; refine wc_sr ?_; refine wl_as rfl rfl ?_; refine wl_ns ?_; refine wc_seq ?_; refine wc_sr ?_; apply wl_val; apply opv_fa; exact fa_sC (by decide); exact rfl; exact rfl; apply wl_val; apply opv_ldX; exact rfl; assumption; exact c1_bool; exact rfl; exact rfl; refine wl_ns ?_; apply wc_condTb; exact rfl; exact rfl; refine wc_region ?_; refine wl_as rfl rfl ?_; refine wl_ns ?_; refine wc_region ?_; refine wl_mv rfl rfl ?_; refine wl_mv rfl rfl ?_
        refine wl_push (vs := [_]) tyB rfl q1 ⟨rfl, rfl, rfl, trivial⟩ rfl (by decide) rfl (by omega) (by simp only [maxLen]; omega) hb.size rfl rfl fun _ _ _ _ hO hG _ => ?_; (try replace a5 := Ar.grA a5 hG (Ar.ne_ow a5 q1 rfl)); replace hb := hG.below hb q1 (Nat.le_refl _) hb.size; replace q1 := hO; clear hO hG
        refine wl_as rfl rfl ?_; refine wl_nil ?_; refine we_block_norm ?_; refine we_block_norm ?_; refine we_seq ?_; refine wc_region ?_; refine wl_mv rfl rfl ?_; apply wl_val; apply opv_bin; exact rfl; exact rfl; exact bin_add64 (by omega); exact rfl; refine wl_as rfl rfl ?_; refine wl_nil ?_
        obtain ⟨m', hI, hlt⟩ := refKeyC_next (A := some ⟨b, o, none⟩) (c := c) hu q1 (by simp [key1, hK]) (by simp [key1, bvs, bv]) hb hm
        exact we_loop _ m' hI hlt ⟨rfl, rfl, by simp [lookT], trivial⟩
      | false =>
        refine wl_as rfl rfl ?_; refine wl_ns ?_; refine wc_sr ?_; apply wl_val; apply opv_fa; exact fa_sC (by decide); exact rfl; exact rfl; apply wl_val; apply opv_ldX; exact rfl; assumption; exact c1_int; exact rfl; exact rfl; refine wl_ns ?_; refine wc_block ?_; refine wc_sr ?_; refine wl_bin rfl rfl bin_eql rfl ?_; refine wl_as rfl rfl ?_; refine wl_ns ?_; apply wc_condTb; exact rfl; exact rfl; refine wc_sr ?_; refine wl_as rfl rfl ?_; refine wl_ns ?_; refine wc_seq ?_; refine wc_sr ?_; apply wl_val; apply opv_fa; exact fa_sC (by decide); exact rfl; exact rfl; apply wl_val; apply opv_ldX; exact rfl; assumption; exact c1_bool; exact rfl; exact rfl; refine wl_ns ?_; apply wc_condFb; exact rfl; exact rfl; refine wc_skip ?_; refine we_seq ?_; refine wc_region ?_; refine wl_mv rfl rfl ?_; refine wl_mv rfl rfl ?_
        refine wl_push (vs := [_]) tyB rfl q1 ⟨rfl, rfl, rfl, trivial⟩ rfl (by decide) rfl (by omega) (by simp only [maxLen]; omega) hb.size rfl rfl fun _ _ _ _ hO hG _ => ?_; (try replace a5 := Ar.grA a5 hG (Ar.ne_ow a5 q1 rfl)); replace hb := hG.below hb q1 (Nat.le_refl _) hb.size; replace q1 := hO; clear hO hG
        refine wl_as rfl rfl ?_; refine wl_nil ?_; refine we_block_norm ?_; refine we_block_norm ?_; refine we_seq ?_; refine wc_region ?_; refine wl_mv rfl rfl ?_; apply wl_val; apply opv_bin; exact rfl; exact rfl; exact bin_add64 (by omega); exact rfl; refine wl_as rfl rfl ?_; refine wl_nil ?_
        obtain ⟨m', hI, hlt⟩ := refKeyC_next (A := some ⟨b, o, none⟩) (c := c) hu q1 (by simp [key1, hK]) (by simp [key1, bvs, bv]) hb hm
        exact we_loop _ m' hI hlt ⟨rfl, rfl, by simp [lookT], trivial⟩
    | int n =>
      simp only [vaC] at a5
      simp only [key1, List.length_cons, ordU_length] at hle2
      refine wl_ns ?_; refine wc_sr ?_; refine wl_mv rfl rfl ?_; apply wl_val; apply opv_fa; exact fa_sC (by decide); exact rfl; exact rfl; apply wl_val; apply opv_ldX; exact rfl; assumption; exact c1_int; exact rfl; exact rfl; apply wl_val; apply opv_convR; exact rfl; exact Try.underlying3; exact Try.underlying5; exact IntWalk.u8_in _ (by omega); exact rfl
      refine wl_push (vs := [_]) tyB rfl q1 ⟨rfl, rfl, rfl, trivial⟩ rfl (by decide) rfl (by omega) (by simp only [maxLen]; omega) hb.size rfl rfl fun _ _ _ _ hO hG _ => ?_; replace a5 := Ar.grA a5 hG (Ar.ne_ow a5 q1 rfl); replace hb := hG.below hb q1 (Nat.le_refl _) hb.size; replace q1 := hO; clear hO hG
      refine wl_as rfl rfl ?_; refine wl_ns ?_; refine wc_sr ?_; apply wl_val; apply opv_fa; exact fa_sC (by decide); exact rfl; exact rfl; apply wl_val; apply opv_ldX; exact rfl; assumption; exact c1_int; exact rfl; exact rfl; refine wl_ns ?_; refine wc_block ?_; refine wc_sr ?_; refine wl_bin rfl rfl bin_eql rfl ?_; refine wl_as rfl rfl ?_; refine wl_ns ?_; apply wc_condFb; exact rfl; exact rfl; refine wc_sr ?_; refine wl_bin rfl rfl bin_eql rfl ?_; refine wl_as rfl rfl ?_; refine wl_ns ?_; apply wc_condTb; exact rfl; exact rfl; refine wc_region ?_; refine wl_mv rfl rfl ?_; apply wl_val; apply opv_fa; exact fa_sC (by decide); exact rfl; exact rfl; apply wl_val; apply opv_ldX; exact rfl; assumption; exact c1_i64; exact rfl; exact rfl
      refine wl_call ok_caissonref01_OrdI (refOrdI_any n hou.num _) ⟨rfl, trivial⟩ rfl ?_; rintro _ _ ⟨Y, cy, rfl, o3, hbx⟩; replace q1 := Ow.bel q1 hbx; replace hb := hb.trans (hbx.mono hb.size); clear hbx
      rw [ordU_length]
      refine wl_app tyB rfl q1 rfl (Ow.re o3 (ordU_length _)).rd (bvs_one _) (by omega) (by simp only [maxLen]; omega) hb.size rfl fun _ _ _ hO hG _ => ?_; (try replace a5 := Ar.grA a5 hG (Ar.ne_ow a5 q1 rfl)); replace hb := hG.below hb q1 (Nat.le_refl _) hb.size; replace q1 := hO; clear hO hG
      refine wl_as rfl rfl ?_; refine wl_nil ?_; refine we_block_norm ?_; refine we_block_norm ?_; refine we_seq ?_; refine wc_region ?_; refine wl_mv rfl rfl ?_; apply wl_val; apply opv_bin; exact rfl; exact rfl; exact bin_add64 (by omega); exact rfl; refine wl_as rfl rfl ?_; refine wl_nil ?_
      obtain ⟨m', hI, hlt⟩ := refKeyC_next (A := some ⟨b, o, none⟩) (c := c) hu q1 (by simp [key1, hK, ordU_length]) (by simp [key1, bvs, bv]) hb hm
      exact we_loop _ m' hI hlt ⟨rfl, rfl, by simp [lookT], trivial⟩
    | text s =>
      simp only [vaC] at a5
      simp only [key1, List.length_cons] at hle2
      refine wl_ns ?_; refine wc_sr ?_; refine wl_mv rfl rfl ?_; apply wl_val; apply opv_fa; exact fa_sC (by decide); exact rfl; exact rfl; apply wl_val; apply opv_ldX; exact rfl; assumption; exact c1_int; exact rfl; exact rfl; apply wl_val; apply opv_convR; exact rfl; exact Try.underlying3; exact Try.underlying5; exact IntWalk.u8_in _ (by omega); exact rfl
      refine wl_push (vs := [_]) tyB rfl q1 ⟨rfl, rfl, rfl, trivial⟩ rfl (by decide) rfl (by omega) (by simp only [maxLen]; omega) hb.size rfl rfl fun _ _ _ _ hO hG _ => ?_; replace a5 := Ar.grA a5 hG (Ar.ne_ow a5 q1 rfl); replace hb := hG.below hb q1 (Nat.le_refl _) hb.size; replace q1 := hO; clear hO hG
      refine wl_as rfl rfl ?_; refine wl_ns ?_; refine wc_sr ?_; apply wl_val; apply opv_fa; exact fa_sC (by decide); exact rfl; exact rfl; apply wl_val; apply opv_ldX; exact rfl; assumption; exact c1_int; exact rfl; exact rfl; refine wl_ns ?_; refine wc_block ?_; refine wc_sr ?_; refine wl_bin rfl rfl bin_eql rfl ?_; refine wl_as rfl rfl ?_; refine wl_ns ?_; apply wc_condFb; exact rfl; exact rfl; refine wc_sr ?_; refine wl_bin rfl rfl bin_eql rfl ?_; refine wl_as rfl rfl ?_; refine wl_ns ?_; apply wc_condFb; exact rfl; exact rfl; refine wc_sr ?_; refine wl_bin rfl rfl bin_eql rfl ?_; refine wl_as rfl rfl ?_; refine wl_ns ?_; apply wc_condTb; exact rfl; exact rfl; refine wc_region ?_; refine wl_mv rfl rfl ?_; apply wl_val; apply opv_fa; exact fa_sC (by decide); exact rfl; exact rfl; apply wl_val; apply opv_ldX; exact rfl; assumption; exact c1_str; exact rfl; exact rfl
      refine wl_call ok_caissonref02_Key (refKey_any (l := s) hou.text _) ⟨rfl, trivial⟩ rfl ?_; rintro _ _ ⟨Y, cy, rfl, o3, hbx⟩; replace q1 := Ow.bel q1 hbx; replace hb := hb.trans (hbx.mono hb.size); clear hbx
      refine wl_app tyB rfl q1 rfl o3.rd (bvs_one _) (by omega) (by simp only [maxLen]; omega) hb.size rfl fun _ _ _ hO hG _ => ?_; (try replace a5 := Ar.grA a5 hG (Ar.ne_ow a5 q1 rfl)); replace hb := hG.below hb q1 (Nat.le_refl _) hb.size; replace q1 := hO; clear hO hG
      refine wl_as rfl rfl ?_; refine wl_nil ?_; refine we_block_norm ?_; refine we_block_norm ?_; refine we_seq ?_; refine wc_region ?_; refine wl_mv rfl rfl ?_; apply wl_val; apply opv_bin; exact rfl; exact rfl; exact bin_add64 (by omega); exact rfl; refine wl_as rfl rfl ?_; refine wl_nil ?_
      obtain ⟨m', hI, hlt⟩ := refKeyC_next (A := some ⟨b, o, none⟩) (c := c) hu q1 (by simp [key1, hK]; omega) (by simp [key1, bvs, bv]) hb hm
      exact we_loop _ m' hI hlt ⟨rfl, rfl, by simp [lookT], trivial⟩
    | bytes d =>
      simp only [vaC] at a5
      simp only [key1, List.length_cons] at hle2
      refine wl_ns ?_; refine wc_sr ?_; refine wl_mv rfl rfl ?_; apply wl_val; apply opv_fa; exact fa_sC (by decide); exact rfl; exact rfl; apply wl_val; apply opv_ldX; exact rfl; assumption; exact c1_int; exact rfl; exact rfl; apply wl_val; apply opv_convR; exact rfl; exact Try.underlying3; exact Try.underlying5; exact IntWalk.u8_in _ (by omega); exact rfl
      refine wl_push (vs := [_]) tyB rfl q1 ⟨rfl, rfl, rfl, trivial⟩ rfl (by decide) rfl (by omega) (by simp only [maxLen]; omega) hb.size rfl rfl fun _ _ _ _ hO hG _ => ?_; replace a5 := Ar.grA a5 hG (Ar.ne_ow a5 q1 rfl); replace hb := hG.below hb q1 (Nat.le_refl _) hb.size; replace q1 := hO; clear hO hG
      refine wl_as rfl rfl ?_; refine wl_ns ?_; refine wc_sr ?_; apply wl_val; apply opv_fa; exact fa_sC (by decide); exact rfl; exact rfl; apply wl_val; apply opv_ldX; exact rfl; assumption; exact c1_int; exact rfl; exact rfl; refine wl_ns ?_; refine wc_block ?_; refine wc_sr ?_; refine wl_bin rfl rfl bin_eql rfl ?_; refine wl_as rfl rfl ?_; refine wl_ns ?_; apply wc_condFb; exact rfl; exact rfl; refine wc_sr ?_; refine wl_bin rfl rfl bin_eql rfl ?_; refine wl_as rfl rfl ?_; refine wl_ns ?_; apply wc_condFb; exact rfl; exact rfl; refine wc_sr ?_; refine wl_bin rfl rfl bin_eql rfl ?_; refine wl_as rfl rfl ?_; refine wl_ns ?_; apply wc_condFb; exact rfl; exact rfl; refine wc_sr ?_; refine wl_bin rfl rfl bin_eql rfl ?_; refine wl_as rfl rfl ?_; refine wl_ns ?_; apply wc_condTb; exact rfl; exact rfl; refine wc_region ?_; refine wl_mv rfl rfl ?_; apply wl_val; apply opv_fa; exact fa_sC (by decide); exact rfl; exact rfl; apply wl_val; apply opv_ldX; exact rfl; assumption; exact c1_by; exact rfl; exact rfl
      refine wl_call ok_caissonref01_OrdText (refOrdText_any (xs := d) (RdB.below rx hb) rfl (by have : d.length ≤ 68719476736 := hou.data; omega)) ⟨rfl, trivial⟩ rfl ?_; rintro _ _ ⟨Y, cy, rfl, o3, hbx⟩; replace q1 := Ow.bel q1 hbx; replace hb := hb.trans (hbx.mono hb.size); clear hbx
      refine wl_app tyB rfl q1 rfl o3.rd (bvs_one _) (by omega) (by simp only [maxLen]; omega) hb.size rfl fun _ _ _ hO hG _ => ?_; (try replace a5 := Ar.grA a5 hG (Ar.ne_ow a5 q1 rfl)); replace hb := hG.below hb q1 (Nat.le_refl _) hb.size; replace q1 := hO; clear hO hG
      refine wl_as rfl rfl ?_; refine wl_nil ?_; refine we_block_norm ?_; refine we_block_norm ?_; refine we_seq ?_; refine wc_region ?_; refine wl_mv rfl rfl ?_; apply wl_val; apply opv_bin; exact rfl; exact rfl; exact bin_add64 (by omega); exact rfl; refine wl_as rfl rfl ?_; refine wl_nil ?_
      obtain ⟨m', hI, hlt⟩ := refKeyC_next (A := some ⟨b, o, none⟩) (c := c) hu q1 (by simp [key1, hK]; omega) (by simp [key1, bvs, bv]) hb hm
      exact we_loop _ m' hI hlt ⟨rfl, rfl, by simp [lookT], trivial⟩
  · obtain rfl : k = us.length := by omega
    rw [List.take_length] at o1 ⊢
    refine wc_exit ?_; refine we_seq_exit ?_; refine we_loop_exit ?_; refine we_block_exit ?_; refine we_seq ?_; refine wc_sr ?_; refine wl_mv rfl rfl ?_; refine wl_as rfl rfl ?_; refine wl_ns ?_; refine wc_ret ?_
    exact we_ret1 rfl rfl ⟨_, rfl, P, cp, rfl, o1, hb⟩
end Go.Proofs.Ytcjiecclmepboaa


/-
  The walk over CellKeys.
-/
namespace Go.Proofs.Ytcjiecclmepboaa
open Go.RowKit

theorem goodL_vs (l : List Ce) : (goodVs l).map vaC = goodL l := by
  rw [goodVs, List.map_map]
  refine (List.map_congr_left fun x hx => ?_).trans (List.map_id _)
  exact vaC_ceVa (goodL_good hx).1
theorem goodL_ce (l : List Ce) : (goodL l).map ceEl = (goodVs l).map fun u => ceEl (vaC u) := by
  rw [← goodL_vs, List.map_map]; rfl
theorem sameList_yes {A B : Option Addr} {n m c d : Nat} {us : List Va} {w : World} (hx : RdR 5 w All A (us.map fun u => ceEl (vaC u))) (hy : RdR 5 w All B (us.map fun u => ceEl (vaC u))) (hn : us.length = n) (hm : us.length = m) (hok : ∀ u ∈ us, (vaC u).data.length ≤ 68719476736) (hl : us.length ≤ 4294967296) :
    CallsV Try.prog 52 #[.slice A n c, .slice B m d] w fun v w' => v = .bool true ∧ Below w.heap.size w w' := by
  have e : (us.map fun u => ceEl (vaC u)) = (us.map vaC).map ceEl := by rw [List.map_map]; rfl
  rw [e] at hx hy
  refine (sameList_any (xs := us.map vaC) (ys := us.map vaC) hx hy (by simpa using hn) (by simpa using hm) (fun x hx => ?_) (by simpa using hl) (by simpa using hl)).mono fun v w' ⟨⟨b, hb, hi⟩, h2⟩ => ⟨by rw [hb, hi.2 rfl], h2⟩
  obtain ⟨u, hu, rfl⟩ := List.mem_map.1 hx
  exact hok u hu
theorem FromS.facts {b : List UInt8} : ∀ (n q : Nat) (us : List Va), b.length - q ≤ n → FromS b q us → (fromV b).2 = 0 ∧ sumB vaB (fromV b).1 ≤ b.length ∨ (fromV b).1 = []
  | n, q, us, hn, h => by
    by_cases hq : b.length ≤ q
    · rw [h.done hq]; exact .inl ⟨rfl, (show sumB vaB us ≤ b.length by have := h.sum; have := h.le; omega)⟩
    · by_cases he : (oneV b q).2.2 = 0
      · obtain ⟨h', hlt⟩ := h.next (by omega) he
        cases n with
        | zero => omega
        | succ n => exact FromS.facts n _ _ (by omega) h'
      · rw [h.bad (by omega) he]; exact .inr rfl
theorem fromV_sum (b : List UInt8) : sumB vaB (fromV b).1 ≤ b.length := by
  rcases FromS.facts b.length 0 [] (by omega) (FromS.start b) with h | h
  · exact h.2
  · rw [h]; simp [sumB]
theorem fromV_len (b : List UInt8) : (fromV b).1.length ≤ b.length := Nat.le_trans (sumB_len (bulk := vaB) _) (fromV_sum b)
theorem fromV_data {b : List UInt8} {u : Va} (h : u ∈ (fromV b).1) : (vaC u).data.length ≤ b.length := by
  have h1 := sumB_mem (bulk := vaB) h
  have h2 := fromV_sum b
  have e : vaB u = (vaC u).text.length + (vaC u).data.length := rfl
  omega
set_option maxHeartbeats 4000000 in
theorem cellKeys_walk {A B : Option Addr} {n m c d : Nat} {l : List Ce} {b : List UInt8} {w : World} (hr : RdR 5 w All A (l.map ceEl)) (hn : l.length = n) (_hc : n ≤ c) (ho : ∀ x ∈ l, CeOk x) (hl : sumB ceB l ≤ 1048576)
    (r1 : RdB w B b) (hm : b.length = m) (hd : b.length ≤ d) (hlb : b.length ≤ 1048576) :
    CallsV Try.prog 10 #[.slice A n c, .slice B m d] w (RetTr w) := by
  have la : LOk l := ⟨ho, hl⟩
  have hna := la.len
  have hga := goodL_le l
  have hka := la.keys
  have hal := goodVs_length l
  subst hn hm
  have hb := Below.refl w.heap.size w
  have hmax : maxLen = 9223372036854775807 := rfl
  refine calls_in (N := _) Try.func10 rfl Try.ntmps10 rfl ?_; show WC _ _ _ _ _ _
  refine wc_sr ?_; refine wl_as rfl rfl ?_; refine wl_ns ?_; refine wc_sr ?_; refine wl_mv rfl rfl ?_
  refine wl_call ok_caissonlaw06_good (good_list hr rfl (fun x hx => by have := la.each hx; omega) (by omega)) ⟨rfl, trivial⟩ rfl ?_; rintro _ _ ⟨P1, p1, D1, d1, rfl, g1, g2, hbx⟩; replace hb := hb.trans (hbx.mono hb.size); clear hbx
  rw [goodL_ce] at g1
  rw [goodVs_map] at g2
  rw [← hal]
  obtain ⟨us, hus⟩ : ∃ us, goodVs l = us := ⟨_, rfl⟩
  have hvo := fun u hu => la.vaOk (u := u) hu
  rw [hus] at g1 g2 hal hka hvo ⊢
  have hvd := fun u hu => (hvo u hu).data
  refine wl_mv rfl rfl ?_; apply wl_val; apply opv_extract; exact rfl; exact rfl; exact rfl; apply wl_val; apply opv_extract; exact rfl; exact rfl; exact rfl; apply wl_val; apply opv_extract; exact rfl; exact rfl; exact rfl; refine wl_as rfl rfl ?_; refine wl_as rfl rfl ?_; refine wl_as rfl rfl ?_; refine wl_ns ?_; refine wc_seq ?_; refine wc_sr ?_; refine wl_mv rfl rfl ?_; apply wl_val; apply opv_not; exact rfl; exact rfl; refine wl_mv rfl rfl ?_; apply wl_take; exact rfl; exact rfl; exact rfl; exact Bool.not_true
  refine wl_call ok_caissonlaw06_awake (awake6_any _) trivial rfl ?_; rintro _ _ ⟨rfl, hbx⟩; replace g1 := OwR.below g1 hbx; replace g2 := OwR.below g2 hbx; replace hb := hb.trans (hbx.mono hb.size); clear hbx
  apply wl_take; exact rfl; exact rfl; exact rfl; exact Bool.not_true; apply wl_val; apply opv_not; exact rfl; exact rfl; apply wl_val; apply opv_pickF; exact rfl; exact Bool.not_true; exact rfl; exact rfl; refine wl_ns ?_; apply wc_condFb; exact rfl; exact Bool.not_true; refine wc_skip ?_; refine we_seq ?_; refine wc_sr ?_; refine wl_mv rfl rfl ?_
  have t1 := OwR.rd g1
  clear g1
  refine wl_call ok_cell_Key (cellKey_any (OwR.rd g2) rfl hvo (by omega) (by omega)) ⟨rfl, trivial⟩ rfl ?_; rintro _ _ ⟨E1, e1, rfl, o1, hbx⟩; replace t1 := RdR.below t1 hbx; replace g2 := OwR.below g2 hbx; replace hb := hb.trans (hbx.mono hb.size); clear hbx
  refine wl_mv rfl rfl ?_; apply wl_val; apply opv_extract; exact rfl; exact rfl; exact rfl; apply wl_val; apply opv_extract; exact rfl; exact rfl; exact rfl; refine wl_as rfl rfl ?_; refine wl_as rfl rfl ?_; refine wl_ns ?_; refine wc_sr ?_; refine wl_mv rfl rfl ?_
  have hfk1 : (fromV (keysB us)).1 = us := by rw [fromV_keys hvo]
  have hfk2 : (fromV (keysB us)).2 = 0 := by rw [fromV_keys hvo]
  refine wl_call ok_cell_FromKey (fromKeyP_any o1.rd rfl o1.cap (by omega)) ⟨rfl, trivial⟩ rfl ?_
  rintro _ w3 ⟨B3, c3, rfl, g3, hbx⟩
  rw [hfk1] at g3 ⊢
  rw [hfk2]
  replace t1 := t1.below hbx
  replace g2 := OwR.below g2 hbx
  replace o1 := OwB.below o1 hbx
  replace hb := hb.trans (hbx.mono hb.size)
  clear hbx
  refine wl_mv rfl rfl ?_; apply wl_val; apply opv_extract; exact rfl; exact rfl; exact rfl; apply wl_val; apply opv_extract; exact rfl; exact rfl; exact rfl; refine wl_as rfl rfl ?_; refine wl_as rfl rfl ?_; refine wl_ns ?_; refine wc_seq ?_; refine wc_sr ?_; refine wl_mv rfl rfl ?_; refine wl_bin rfl rfl bin_neq rfl ?_; refine wl_mv rfl rfl ?_; apply wl_take; exact rfl; exact rfl; exact rfl; refine bF ?_; (with_reducible exact nne); refine wl_mv rfl rfl ?_; apply wl_take; exact rfl; exact rfl; exact rfl; refine bF ?_; (with_reducible exact nne); refine wl_bin rfl rfl bin_neq rfl ?_; apply wl_val; apply opv_pickF; exact rfl; refine bF ?_; (with_reducible exact nne); exact rfl; exact rfl; refine wl_mv rfl rfl ?_; apply wl_take; exact rfl; exact rfl; exact rfl; refine bF ?_; omega; refine wl_mv rfl rfl ?_; apply wl_take; exact rfl; exact rfl; exact rfl; refine bF ?_; omega; refine wl_mv rfl rfl ?_; apply wl_take; exact rfl; exact rfl; exact rfl; refine bF ?_; omega
  refine wl_call ok_caissonref06_Key (refKeyC_any t1 rfl hvo (by omega) (by omega)) ⟨rfl, trivial⟩ rfl ?_; rintro _ _ ⟨E4, e4, rfl, o4, hbx⟩; replace t1 := RdR.below t1 hbx; replace g2 := OwR.below g2 hbx; replace o1 := OwB.below o1 hbx; replace g3 := OwR.below g3 hbx; replace hb := hb.trans (hbx.mono hb.size); clear hbx
  apply wl_take; exact rfl; exact rfl; exact rfl; refine bF ?_; omega
  refine wl_call ok_caissonref01_Equal (equal_yes rfl o1.rd o4.rd rfl rfl (by omega)) ⟨rfl, rfl, trivial⟩ rfl ?_; rintro _ _ ⟨rfl, hbx⟩; replace t1 := RdR.below t1 hbx; replace g2 := OwR.below g2 hbx; replace g3 := OwR.below g3 hbx; replace hb := hb.trans (hbx.mono hb.size); clear hbx
  clear o1 o4
  apply wl_take; exact rfl; exact rfl; exact rfl; refine bF ?_; omega; apply wl_val; apply opv_not; exact rfl; exact rfl; apply wl_val; apply opv_pickF; exact rfl; refine bF ?_; omega; exact rfl; exact rfl; refine wl_mv rfl rfl ?_; apply wl_take; exact rfl; exact rfl; exact rfl; exact Bool.not_true; refine wl_mv rfl rfl ?_; apply wl_take; exact rfl; exact rfl; exact rfl; exact Bool.not_true
  refine wl_call ok_caissonlaw06_told (told_any (OwR.rd g3) rfl hvd (by omega)) ⟨rfl, trivial⟩ rfl ?_; rintro _ _ ⟨B5, c5, rfl, g5, hbx⟩; replace t1 := RdR.below t1 hbx; replace g2 := OwR.below g2 hbx; replace hb := hb.trans (hbx.mono hb.size); clear hbx
  clear g3
  apply wl_take; exact rfl; exact rfl; exact rfl; exact Bool.not_true; refine wl_mv rfl rfl ?_; apply wl_take; exact rfl; exact rfl; exact rfl; exact Bool.not_true
  refine wl_call ok_caissonref06_SameList (sameList_yes (OwR.rd g5) t1 rfl rfl hvd (by omega)) ⟨rfl, rfl, trivial⟩ rfl ?_; rintro _ _ ⟨rfl, hbx⟩; replace g2 := OwR.below g2 hbx; replace hb := hb.trans (hbx.mono hb.size); clear hbx
  clear g5 t1
  apply wl_take; exact rfl; exact rfl; exact rfl; exact Bool.not_true; apply wl_val; apply opv_not; exact rfl; exact rfl; apply wl_val; apply opv_pickF; exact rfl; exact Bool.not_true; exact rfl; exact rfl; refine wl_ns ?_; apply wc_condFb; exact rfl; exact Bool.not_true; refine wc_skip ?_; refine we_seq ?_; refine wc_sr ?_; refine wl_mv rfl rfl ?_
  refine wl_call ok_caissonref01_Copy (copy_any (r1.below hb) rfl (by omega)) ⟨rfl, trivial⟩ rfl ?_; rintro _ _ ⟨B6, c6, rfl, o6, hbx⟩; replace g2 := OwR.below g2 hbx; replace hb := hb.trans (hbx.mono hb.size); clear hbx
  have hD1 := fun a ha => (OwR.lt g2 a ha).2
  refine wl_call ok_cell_FromKey (fromKeyP_any o6.rd rfl o6.cap (by omega)) ⟨rfl, trivial⟩ rfl ?_
  rintro _ w7 ⟨B7, c7, rfl, g7, hbx⟩
  replace g2 := OwR.below g2 hbx
  replace hb := hb.trans (hbx.mono hb.size)
  clear hbx o6
  refine wl_mv rfl rfl ?_; apply wl_val; apply opv_extract; exact rfl; exact rfl; exact rfl; apply wl_val; apply opv_extract; exact rfl; exact rfl; exact rfl; refine wl_as rfl rfl ?_; refine wl_as rfl rfl ?_; refine wl_ns ?_; refine wc_sr ?_; refine wl_mv rfl rfl ?_
  have hD2 := fun a ha => (OwR.lt g2 a ha).2
  refine wl_call ok_caissonref06_FromKey (refFromKeyC_any (r1.below hb) rfl hd (by omega)) ⟨rfl, trivial⟩ rfl ?_
  rintro _ w8 ⟨B8, c8, rfl, g8, hbx⟩
  replace g2 := OwR.below g2 hbx
  replace g7 := OwR.below g7 hbx
  replace hb := hb.trans (hbx.mono hb.size)
  clear hbx
  have hfl := fromV_len b
  have hfd := fun u hu => Nat.le_trans (fromV_data (b := b) (u := u) hu) (by omega : b.length ≤ 68719476736)
  obtain ⟨vs, hvs⟩ : ∃ vs, (fromV b).1 = vs := ⟨_, rfl⟩
  obtain ⟨er, her⟩ : ∃ er, (fromV b).2 = er := ⟨_, rfl⟩
  rw [hvs] at g7 g8 hfl hfd ⊢
  rw [her]
  refine wl_mv rfl rfl ?_; apply wl_val; apply opv_extract; exact rfl; exact rfl; exact rfl; apply wl_val; apply opv_extract; exact rfl; exact rfl; exact rfl; refine wl_as rfl rfl ?_; refine wl_as rfl rfl ?_; refine wl_ns ?_; refine wc_sr ?_; refine wl_mv rfl rfl ?_; refine wl_mv rfl rfl ?_; apply wl_val; apply opv_len; exact rfl; exact tyB.sl; exact rfl; apply wl_val; apply opv_mkI; kernel_rfl; exact rfl; exact rfl
  refine wl_pushG (css' := [[.iface 3 (.int .i64 (b.length : Int))]]) (els' := [vEl (.iface 3 (.int .i64 (b.length : Int)))]) tkA (fun _ => rfl) g2 (by simp) ⟨rfl, ⟨_, rfl, rfl⟩, rfl, trivial⟩ (Grp.one rfl rfl) rfl (by simp [Value.oneCell']) (by decide) (by decide) (by omega) (by omega) hb.size rfl rfl fun _ A9 c9 w9 g9 hG _ => ?_
  replace g7 := OwR.gr2 g7 hG hD1 (fun b' _ h1 _ a ha => by have := hD1 a ha; omega)
  replace g8 := OwR.gr2 g8 hG hD2 (fun b' _ h1 _ a ha => by have := hD2 a ha; omega)
  replace hb := hG.belowR hb g2 (Nat.le_refl _) hb.size
  clear hG
  have t7 := OwR.rd g7
  have t8 := OwR.rd g8
  clear g7 g8
  refine wl_call ok_cell_Key (cellKey_bad (us := us) (by decide) (by decide) (by decide) (by decide) (OwR.rd g9) rfl hvo (by omega) (by omega)) ⟨rfl, trivial⟩ rfl ?_
  rintro _ w10 ⟨rfl, hbx⟩
  replace t7 := t7.below hbx
  replace t8 := t8.below hbx
  replace hb := hb.trans (hbx.mono hb.size)
  clear hbx g9
  refine wl_mv rfl rfl ?_; apply wl_val; apply opv_extract; exact rfl; exact rfl; exact rfl; apply wl_val; apply opv_extract; exact rfl; exact rfl; exact rfl; refine wl_as rfl rfl ?_; refine wl_as rfl rfl ?_; refine wl_ns ?_; refine wc_sr ?_; refine wl_mv rfl rfl ?_; refine wl_mv rfl rfl ?_; refine wl_bin rfl rfl bin_eql rfl ?_; refine wl_mv rfl rfl ?_; apply wl_take; exact rfl; exact rfl; exact rfl; refine bT ?_; (with_reducible rfl); refine wl_mv rfl rfl ?_; apply wl_take; exact rfl; exact rfl; exact rfl; refine bT ?_; (with_reducible rfl)
  refine wl_call ok_caissonlaw06_told (told_any t7 rfl hfd (by omega)) ⟨rfl, trivial⟩ rfl ?_; rintro _ _ ⟨B11, c11, rfl, g11, hbx⟩; replace t8 := RdR.below t8 hbx; replace hb := hb.trans (hbx.mono hb.size); clear hbx
  apply wl_take; exact rfl; exact rfl; exact rfl; refine bT ?_; (with_reducible rfl); refine wl_mv rfl rfl ?_; apply wl_take; exact rfl; exact rfl; exact rfl; refine bT ?_; (with_reducible rfl)
  refine wl_call ok_caissonref06_SameList (sameList_yes (OwR.rd g11) t8 rfl rfl hfd (by omega)) ⟨rfl, rfl, trivial⟩ rfl ?_; rintro _ _ ⟨rfl, hbx⟩; replace hb := hb.trans (hbx.mono hb.size); clear hbx
  apply wl_val; apply opv_pickT; exact rfl; refine bT ?_; (with_reducible rfl); exact rfl; exact rfl; refine wl_mv rfl rfl ?_; apply wl_take; exact rfl; exact rfl; exact rfl; exact rfl; refine wl_mv rfl rfl ?_; apply wl_take; exact rfl; exact rfl; exact rfl; exact rfl; refine wl_bin rfl rfl bin_eql rfl ?_; apply wl_val; apply opv_pickT; exact rfl; exact rfl; exact rfl; exact rfl; refine wl_as rfl rfl ?_; refine wl_ns ?_; refine wc_ret ?_
  exact we_ret1 rfl rfl ⟨_, rfl, rfl, hb⟩
end Go.Proofs.Ytcjiecclmepboaa


/-
  Plain laws of values written in frames. No program in sight.
-/
namespace Go.Proofs.Ytcjiecclmepboaa

theorem partsF_inv : ∀ (f : Nat) (b : List UInt8) (q : Nat) (out ps : List (List UInt8)), q ≤ b.length → b.length - q ≤ f → partsF f b q out = (ps, 0) → ∃ r, ps = out ++ r ∧ framed r = b.drop q
  | f, b, q, out, ps, hq, hf, h => by
    by_cases h1 : b.length ≤ q
    · rw [partsF_end h1] at h
      simp only [Prod.mk.injEq, and_true] at h
      exact ⟨[], by rw [h]; simp, by rw [List.drop_of_length_le h1]; rfl⟩
    · cases f with
      | zero => omega
      | succ f =>
        obtain ⟨n, x, e, hu⟩ : ∃ n x e, getU b q = (n, x, e) := ⟨_, _, _, rfl⟩
        by_cases he : e = 0
        · subst he
          obtain ⟨k, rfl, h2, h3⟩ := getU_next hu
          obtain ⟨q', k', hq', hk', h4, h5, h6, _⟩ := getU_inv hu
          obtain rfl : q = q' := by omega
          obtain rfl : k = k' := by omega
          by_cases hs : b.length < k + n
          · rw [partsF_short h1 hu hs] at h; simp at h
          · rw [partsF_step h1 hu hs] at h
            obtain ⟨r, hr, hfr⟩ := partsF_inv f b (k + n) _ ps (by omega) (by omega) h
            refine ⟨(b.take (k + n)).drop k :: r, by rw [hr]; simp, ?_⟩
            have e1 : framed ((b.take (k + n)).drop k :: r) = putU ((b.take (k + n)).drop k).length ++ (b.take (k + n)).drop k ++ framed r := by simp [framed]
            have e2 : ((b.take (k + n)).drop k).length = n := by simp; omega
            rw [e1, e2, h6, hfr]
            have e3 : b.drop q = (b.drop q).take (k - q) ++ ((b.drop k).take n ++ b.drop (k + n)) := by
              have a1 : (b.drop k).take n ++ b.drop (k + n) = b.drop k := by rw [← List.drop_drop, List.take_append_drop]
              have a2 : b.drop k = (b.drop q).drop (k - q) := by rw [List.drop_drop]; congr 1; omega
              rw [a1, a2, List.take_append_drop]
            rw [e3, List.drop_take, List.drop_take]
            simp [Nat.add_sub_cancel_left]
        · rw [partsF_err h1 hu he] at h
          simp at h; exact absurd h.2 he
theorem framed_parts {b : List UInt8} {ps : List (List UInt8)} (h : parts b = (ps, 0)) : framed ps = b := by
  obtain ⟨r, hr, hf⟩ := partsF_inv b.length b 0 [] ps (by omega) (by omega) h
  rw [hr]; simpa using hf
theorem parts_size (b : List UInt8) : (parts b).1.length + (parts b).1.flatten.length ≤ b.length := partsF_size b.length b 0 [] (by omega) (by simp)
/-- A value as a part. -/
def enc1 : Va → List UInt8
  | .nil => [0]
  | .bool b => [1, if b then 1 else 0]
  | .int n => 2 :: ordU (lift n)
  | .text s => 3 :: s
  | .bytes d => 4 :: d
def encV (us : List Va) : List UInt8 := framed (us.map enc1)
/-- The value of a part: of its first byte and the rest. -/
def partK (k : UInt8) (r : List UInt8) : Option Va :=
    if k = 0 then (if r = [] then some .nil else none)
    else if k = 1 then (if r = [0] then some (.bool false) else if r = [1] then some (.bool true) else none)
    else if k = 2 then (if r.length = 8 then some (.int (drop63 (numB r))) else none)
    else if k = 3 then some (.text r)
    else if k = 4 then some (.bytes r)
    else none
def partV : List UInt8 → Option Va
  | [] => none
  | k :: r => partK k r
theorem lift_drop {n : Nat} : lift (drop63 n) = n := by unfold drop63 lift; omega
theorem numB_8 {r : List UInt8} (h : r.length = 8) : numB r < 18446744073709551616 := by have := numB_lt r; rw [h] at this; exact this
theorem drop63_ok {n : Nat} (h : n < 18446744073709551616) : -9223372036854775808 ≤ drop63 n ∧ drop63 n ≤ 9223372036854775807 := by unfold drop63; omega
theorem partV_enc {u : Va} (h : VaOk u) : partV (enc1 u) = some u := by
  cases u with
  | nil => rfl
  | bool b => cases b <;> rfl
  | int n => simp [enc1, partV, partK, ordU_length, numB_ordU (lift_lt (i := n) h.num), drop_lift (i := n) h.num]
  | text s => rfl
  | bytes d => rfl
theorem enc_part {p : List UInt8} {u : Va} (h : partV p = some u) : enc1 u = p := by
  cases p with
  | nil => cases h
  | cons k r =>
    rw [partV, partK] at h
    by_cases h0 : k = 0
    · rw [if_pos h0] at h
      split at h
      · rename_i hr; cases h; subst h0 hr; rfl
      · cases h
    rw [if_neg h0] at h
    by_cases h1 : k = 1
    · rw [if_pos h1] at h
      split at h
      · rename_i hr; cases h; subst h1 hr; rfl
      split at h
      · rename_i hr; cases h; subst h1 hr; rfl
      · cases h
    rw [if_neg h1] at h
    by_cases h2 : k = 2
    · rw [if_pos h2] at h
      split at h
      · rename_i hr; cases h; subst h2; rw [enc1, lift_drop, ordU_numB hr]
      · cases h
    rw [if_neg h2] at h
    by_cases h3 : k = 3
    · rw [if_pos h3] at h; cases h; subst h3; rfl
    rw [if_neg h3] at h
    by_cases h4 : k = 4
    · rw [if_pos h4] at h; cases h; subst h4; rfl
    rw [if_neg h4] at h; cases h
theorem partV_ok {p : List UInt8} {u : Va} (h : partV p = some u) : -9223372036854775808 ≤ (vaC u).num ∧ (vaC u).num ≤ 9223372036854775807 ∧ (vaC u).text.length + (vaC u).data.length + 1 ≤ p.length := by
  cases p with
  | nil => cases h
  | cons k r =>
    rw [partV, partK] at h
    by_cases h0 : k = 0
    · rw [if_pos h0] at h
      split at h
      · cases h; simp [vaC]
      · cases h
    rw [if_neg h0] at h
    by_cases h1 : k = 1
    · rw [if_pos h1] at h
      split at h
      · cases h; simp [vaC]
      split at h
      · cases h; simp [vaC]
      · cases h
    rw [if_neg h1] at h
    by_cases h2 : k = 2
    · rw [if_pos h2] at h
      split at h
      · rename_i hr; cases h; have := drop63_ok (numB_8 hr); simp only [vaC, List.length_nil, List.length_cons]; omega
      · cases h
    rw [if_neg h2] at h
    by_cases h3 : k = 3
    · rw [if_pos h3] at h; cases h; simp [vaC]
    rw [if_neg h3] at h
    by_cases h4 : k = 4
    · rw [if_pos h4] at h; cases h; simp [vaC]
    rw [if_neg h4] at h; cases h
def decL : List (List UInt8) → Option (List Va)
  | [] => some []
  | p :: ps => match partV p with
    | none => none
    | some u => (decL ps).map (u :: ·)
def decV (b : List UInt8) : List Va × Nat :=
  if (parts b).2 = 0 then (match decL (parts b).1 with | some us => (us, 0) | none => ([], 3)) else ([], (parts b).2)
theorem decL_snoc : ∀ (ps : List (List UInt8)) (us : List Va) (p : List UInt8) (u : Va), decL ps = some us → partV p = some u → decL (ps ++ [p]) = some (us ++ [u])
  | [], us, p, u, h, hp => by cases h; simp [decL, hp]
  | q :: ps, us, p, u, h, hp => by
    simp only [List.cons_append, decL] at h ⊢
    cases hq : partV q with
    | none => rw [hq] at h; cases h
    | some v =>
      rw [hq] at h
      simp only at h ⊢
      cases hd : decL ps with
      | none => rw [hd] at h; cases h
      | some vs =>
        rw [hd] at h; cases h
        rw [decL_snoc ps vs p u hd hp]; rfl
theorem decL_none : ∀ {ps : List (List UInt8)} {k : Nat} {p : List UInt8}, ps[k]? = some p → partV p = none → decL ps = none
  | [], _, _, h, _ => by simp at h
  | q :: ps, 0, p, h, hp => by simp at h; subst h; simp [decL, hp]
  | q :: ps, k + 1, p, h, hp => by
    have := decL_none (ps := ps) (by simpa using h) hp
    simp only [decL]
    cases partV q with
    | none => rfl
    | some v => simp [this]
theorem decL_len : ∀ {ps : List (List UInt8)} {us : List Va}, decL ps = some us → us.length = ps.length
  | [], us, h => by cases h; rfl
  | q :: ps, us, h => by
    simp only [decL] at h
    cases hq : partV q with
    | none => rw [hq] at h; cases h
    | some v =>
      rw [hq] at h
      cases hd : decL ps with
      | none => rw [hd] at h; cases h
      | some vs => rw [hd] at h; cases h; simp [decL_len hd]
theorem decL_enc : ∀ {ps : List (List UInt8)} {us : List Va}, decL ps = some us → us.map enc1 = ps
  | [], us, h => by cases h; rfl
  | q :: ps, us, h => by
    simp only [decL] at h
    cases hq : partV q with
    | none => rw [hq] at h; cases h
    | some v =>
      rw [hq] at h
      cases hd : decL ps with
      | none => rw [hd] at h; cases h
      | some vs => rw [hd] at h; cases h; simp [decL_enc hd, enc_part hq]
theorem decL_mem : ∀ {ps : List (List UInt8)} {us : List Va} {u : Va}, decL ps = some us → u ∈ us → ∃ p ∈ ps, partV p = some u
  | [], us, u, h, hu => by cases h; cases hu
  | q :: ps, us, u, h, hu => by
    simp only [decL] at h
    cases hq : partV q with
    | none => rw [hq] at h; cases h
    | some v =>
      rw [hq] at h
      cases hd : decL ps with
      | none => rw [hd] at h; cases h
      | some vs =>
        rw [hd] at h; cases h
        rcases List.mem_cons.1 hu with rfl | hu
        · exact ⟨q, by simp, hq⟩
        · obtain ⟨p, hp, hv⟩ := decL_mem hd hu
          exact ⟨p, by simp [hp], hv⟩
theorem decL_map : ∀ {us : List Va}, (∀ u ∈ us, VaOk u) → decL (us.map enc1) = some us
  | [], _ => rfl
  | u :: us, h => by
    simp only [List.map_cons, decL, partV_enc (h u (by simp)), decL_map (us := us) (fun v hv => h v (List.mem_cons_of_mem _ hv))]; rfl
theorem enc1_length (u : Va) : (enc1 u).length ≤ 8 * (vaB u + 1) + 1 := by
  cases u <;> simp [enc1, vaB, vaC, ordU_length] <;> omega
theorem decV_enc {us : List Va} (h : ∀ u ∈ us, VaOk u) : decV (encV us) = (us, 0) := by
  have hp : parts (encV us) = (us.map enc1, 0) := parts_framed fun r hr => by
    obtain ⟨u, hu, rfl⟩ := List.mem_map.1 hr
    have h1 := enc1_length u
    have h2 := (h u hu).text
    have h3 := (h u hu).data
    have e : vaB u = (vaC u).text.length + (vaC u).data.length := rfl
    omega
  rw [decV, hp]
  simp only [if_true, decL_map h]
theorem enc_decV {b : List UInt8} (h : (decV b).2 = 0) : encV (decV b).1 = b := by
  unfold decV at h ⊢
  by_cases h1 : (parts b).2 = 0
  · rw [if_pos h1] at h ⊢
    cases hd : decL (parts b).1 with
    | none => rw [hd] at h; simp at h
    | some us =>
      simp only
      rw [encV, decL_enc hd]
      exact framed_parts (by rw [← h1])
  · rw [if_neg h1] at h; exact absurd h h1
theorem decV_ok {b : List UInt8} {u : Va} (hb : b.length ≤ 68719476736) (h : u ∈ (decV b).1) : VaOk u ∧ (vaC u).text.length + (vaC u).data.length ≤ b.length := by
  unfold decV at h
  by_cases h1 : (parts b).2 = 0
  · rw [if_pos h1] at h
    cases hd : decL (parts b).1 with
    | none => rw [hd] at h; simp at h
    | some us =>
      rw [hd] at h
      obtain ⟨p, hp, hv⟩ := decL_mem hd h
      have h2 := partV_ok hv
      have h3 := mem_flat hp
      have h4 := parts_size b
      exact ⟨⟨⟨h2.1, h2.2.1⟩, by omega, by omega⟩, by omega⟩
  · rw [if_neg h1] at h; simp at h
theorem decV_len (b : List UInt8) : (decV b).1.length ≤ b.length := by
  unfold decV
  by_cases h1 : (parts b).2 = 0
  · rw [if_pos h1]
    cases hd : decL (parts b).1 with
    | none => simp
    | some us => have := decL_len hd; have := parts_size b; simp only; omega
  · rw [if_neg h1]; simp
end Go.Proofs.Ytcjiecclmepboaa


/-
  Walks over Encode and Decode of values.
-/
namespace Go.Proofs.Ytcjiecclmepboaa
open Go.RowKit

theorem encs_flat : ∀ (us : List Va), (us.map enc1).flatten.length + us.length ≤ 10 * sumB vaB us
  | [] => by simp
  | u :: us => by
    have ih := encs_flat us
    have h1 := enc1_length u
    rw [sumB_cons, List.map_cons, List.flatten_cons, List.length_append, List.length_cons]; omega
theorem OwB.of' {w : World} {base n c : Nat} {A : Option Addr} {vs : List Value} {ys : List UInt8} (h : Ow w base 5 A n c vs) (hn : ys.length = n) (hv : bvs ys = vs) : OwB w base A c ys := by subst hn hv; exact h
def EncI (w : World) (us : List Va) (A : Option Addr) (c : Nat) : FL → World → Nat → Prop := fun L wr m =>
  ∃ (k : Nat) (P : Option Addr) (cp : Nat), L = [(4, .slice P k cp), (10, .slice A us.length c), (11, .int .i64 (us.length : Int)), (12, .int .i64 (k : Int))] ∧ k ≤ us.length ∧ OwBB wr w.heap.size P cp ((us.take k).map enc1) ∧ Below w.heap.size w wr ∧ m = us.length - k
set_option maxHeartbeats 2000000 in
theorem encode_any {A : Option Addr} {n c : Nat} {us : List Va} {w : World} (hr : RdR 1 w All A (us.map vaEl)) (hn : us.length = n) (hok : ∀ u ∈ us, VaOk u) (hl : sumB vaB us ≤ 1073741824) :
    CallsV Try.prog 55 #[.slice A n c] w fun v w' => ∃ (B : Option Addr) (cB : Nat), v = .tuple #[.slice B (encV us).length cB, .int .i64 0] ∧ OwB w' w.heap.size B cB (encV us) ∧ Below w.heap.size w w' := by
  subst hn
  have hmax : maxLen = 9223372036854775807 := rfl
  have hul := sumB_len (bulk := vaB) us
  have hef := encs_flat us
  refine calls_in (N := _) Try.func55 rfl Try.ntmps55 rfl ?_; show WC _ _ _ _ _ _
  refine wc_sr ?_; refine wl_as rfl rfl ?_; refine wl_as rfl rfl ?_; refine wl_ns ?_; refine wc_sr ?_; refine wl_as rfl rfl ?_; refine wl_ns ?_; refine wc_seq ?_; refine wc_sr ?_; refine wl_mv rfl rfl ?_; apply wl_val; apply opv_len; exact rfl; exact tkA.sl; exact rfl; refine wl_mv rfl rfl ?_; refine wl_ns ?_; refine wc_block ?_
  refine wc_loop (EncI w us A c) [(4, .slice none 0 0), (10, .slice A us.length c), (11, .int .i64 (us.length : Int)), (12, .int .i64 (0 : Nat))] us.length ⟨0, none, 0, rfl, by omega, OwBB.nil _ _, Below.refl _ _, rfl⟩ ⟨rfl, rfl, rfl, rfl, trivial⟩ ?_
  rintro _ w1 m ⟨k, P, cp, rfl, hk, O1, hb0, rfl⟩
  refine wc_sr ?_; refine wl_bin rfl rfl bin_lss rfl ?_; refine wl_ns ?_; refine wc_seq ?_
  refine wc_cond rfl (fun h1 => ?_) (fun h1 => ?_)
  · obtain ⟨u, hu⟩ : ∃ u, us[k]? = some u := ⟨_, List.getElem?_eq_getElem (by omega)⟩
    have hou := hok u (List.mem_of_getElem? hu)
    have hbu := sumB_mem (bulk := vaB) (List.mem_of_getElem? hu)
    have hbe : vaB u = (vaC u).text.length + (vaC u).data.length := rfl
    obtain ⟨b, o, cs, rfl, _, _, hx, hw⟩ := RdR.at (k := 1) (by decide) hr (E := vaEl u) (i := k) (by rw [List.getElem?_map, hu]; rfl)
    obtain ⟨X, cx, rfl, rx, _⟩ := vaEl.rd hx
    have i1 := hw.below hb0
    replace rx := rx.below hb0
    have hb := Below.refl w1.heap.size w1
    refine wc_skip ?_; refine we_seq ?_; refine wc_seq ?_; refine wc_block ?_; refine wc_sr ?_; apply wl_val; apply opv_idxG tkA; exact rfl; exact rfl; exact rfl; omega; exact rfl; apply wl_val; apply opv_ldW0; exact rfl; assumption; exact c1_any; exact rfl; exact rfl; refine wl_as rfl rfl ?_; refine wl_ns ?_; refine wc_sr ?_; refine wl_mv rfl rfl ?_
    refine wl_call ok_cell_Cell (cell_any rx (by omega)) ⟨rfl, trivial⟩ rfl ?_; rintro _ _ ⟨B, cB, rfl, o2, hbx⟩; replace hb := hb.trans (hbx.mono hb.size); clear hbx
    refine wl_mv rfl rfl ?_; apply wl_val; apply opv_extract; exact rfl; exact rfl; exact rfl; apply wl_val; apply opv_extract; exact rfl; exact rfl; exact rfl
    refine wl_var (cs := ceV (vaC u) B cB) zeroC sC rfl (fun _ => rfl) (by first | rfl | simp [Value.oneCell'] | simp [ceV, Value.oneCell']) rfl fun g7 _ hg7 a7 hbx => ?_; replace o2 := OwB.below o2 hbx; replace hb := hb.trans (hbx.mono hb.size); clear hbx
    unfold ceV at a7
    cases u with
    | nil =>
      simp only [vaC] at a7
      refine wl_as rfl rfl ?_; refine wl_ns ?_; refine wc_seq ?_; refine wc_sr ?_; refine wl_mv rfl rfl ?_; refine wl_bin rfl rfl bin_neq rfl ?_; refine wl_ns ?_; apply wc_condFb; exact rfl; exact rfl; refine wc_skip ?_; refine we_seq ?_; refine wc_sr ?_; apply wl_val; apply opv_fa; exact fa_sC (by decide); exact rfl; exact rfl; apply wl_val; apply opv_ldX; exact rfl; assumption; exact c1_int; exact rfl; exact rfl; apply wl_val; apply opv_convR; exact rfl; exact Try.underlying3; exact Try.underlying5; exact IntWalk.u8_in _ (by omega); exact rfl
      refine wl_bs (vs := [bv 0]) tyB ⟨rfl, rfl, rfl, trivial⟩ rfl (by decide) rfl fun E e q3 hbx _ => ?_
      replace a7 := Ar.bel a7 hbx
      replace q3 := Ow.mono q3 hb.size
      replace hb := hb.trans (hbx.mono hb.size)
      clear hbx
      refine wl_as rfl rfl ?_; refine wl_ns ?_; refine wc_seq ?_; refine wc_sr ?_; apply wl_val; apply opv_fa; exact fa_sC (by decide); exact rfl; exact rfl; apply wl_val; apply opv_ldX; exact rfl; assumption; exact c1_int; exact rfl; exact rfl; refine wl_ns ?_; refine wc_block ?_; refine wc_sr ?_; refine wl_bin rfl rfl bin_eql rfl ?_; refine wl_as rfl rfl ?_; refine wl_ns ?_; apply wc_condFb; exact rfl; exact rfl; refine wc_sr ?_; refine wl_bin rfl rfl bin_eql rfl ?_; refine wl_as rfl rfl ?_; refine wl_ns ?_; apply wc_condFb; exact rfl; exact rfl; refine wc_sr ?_; refine wl_bin rfl rfl bin_eql rfl ?_; refine wl_as rfl rfl ?_; refine wl_ns ?_; apply wc_condFb; exact rfl; exact rfl; refine wc_sr ?_; refine wl_bin rfl rfl bin_eql rfl ?_; refine wl_as rfl rfl ?_; refine wl_ns ?_; apply wc_condFb; exact rfl; exact rfl; refine wc_skip ?_; refine we_block_norm ?_; refine we_seq ?_; refine wc_region ?_; refine wl_mv rfl rfl ?_; refine wl_mv rfl rfl ?_
      refine wl_pushR (wf := w) (r := enc1 .nil) O1 hb hb0.size q3 (hb0.trans (hb.mono hb0.size)) (by simp; omega) (by omega) rfl rfl rfl rfl rfl fun _ A9 c9 w9 O9 hb9 => ?_
      refine wl_as rfl rfl ?_; refine wl_nil ?_; refine we_block_norm ?_; refine we_seq ?_; refine wc_region ?_; apply wl_val; apply opv_bin; exact rfl; exact rfl; exact bin_add64 (by omega); exact rfl; refine wl_mv rfl rfl ?_; refine wl_nil ?_
      refine we_loop _ (us.length - (k + 1)) ⟨k + 1, _, _, rfl, by omega, by rw [take_map _ hu]; exact O9, hb9, rfl⟩ (by omega) ⟨rfl, rfl, rfl, by simp [lookT], trivial⟩
    | bool t =>
      simp only [vaC] at a7
      refine wl_as rfl rfl ?_; refine wl_ns ?_; refine wc_seq ?_; refine wc_sr ?_; refine wl_mv rfl rfl ?_; refine wl_bin rfl rfl bin_neq rfl ?_; refine wl_ns ?_; apply wc_condFb; exact rfl; exact rfl; refine wc_skip ?_; refine we_seq ?_; refine wc_sr ?_; apply wl_val; apply opv_fa; exact fa_sC (by decide); exact rfl; exact rfl; apply wl_val; apply opv_ldX; exact rfl; assumption; exact c1_int; exact rfl; exact rfl; apply wl_val; apply opv_convR; exact rfl; exact Try.underlying3; exact Try.underlying5; exact IntWalk.u8_in _ (by omega); exact rfl
      refine wl_bs (vs := [bv 1]) tyB ⟨rfl, rfl, rfl, trivial⟩ rfl (by decide) rfl fun E e q3 hbx _ => ?_
      replace a7 := Ar.bel a7 hbx
      replace q3 := Ow.mono q3 hb.size
      replace hb := hb.trans (hbx.mono hb.size)
      clear hbx
      refine wl_as rfl rfl ?_; refine wl_ns ?_; refine wc_seq ?_; refine wc_sr ?_; apply wl_val; apply opv_fa; exact fa_sC (by decide); exact rfl; exact rfl; apply wl_val; apply opv_ldX; exact rfl; assumption; exact c1_int; exact rfl; exact rfl; refine wl_ns ?_; refine wc_block ?_; refine wc_sr ?_; refine wl_bin rfl rfl bin_eql rfl ?_; refine wl_as rfl rfl ?_; refine wl_ns ?_; apply wc_condTb; exact rfl; exact rfl; refine wc_region ?_; refine wl_mv rfl rfl ?_; apply wl_val; apply opv_fa; exact fa_sC (by decide); exact rfl; exact rfl; apply wl_val; apply opv_ldX; exact rfl; assumption; exact c1_bool; exact rfl; exact rfl
      refine wl_call ok_cell_truth truth_any ⟨rfl, trivial⟩ rfl ?_
      rintro _ _ ⟨rfl, rfl⟩
      have hlt : (if t then 1 else 0 : Nat) < 256 := by cases t <;> decide
      apply wl_val; apply opv_convR; exact rfl; exact Try.underlying3; exact Try.underlying5; exact IntWalk.u8_in _ (by omega); exact rfl
      refine wl_push (vs := [_]) tyB rfl q3 ⟨rfl, rfl, rfl, trivial⟩ rfl (by decide) rfl (by omega) (by simp only [maxLen]; omega) hb.size rfl rfl fun _ _ _ _ hO hG _ => ?_; (try replace a7 := Ar.grA a7 hG (Ar.ne_ow a7 q3 rfl)); replace hb := hG.below hb q3 (Nat.le_refl _) hb.size; replace q3 := hO; clear hO hG
      refine wl_as rfl rfl ?_; refine wl_nil ?_; refine we_block_norm ?_; refine we_seq ?_; refine wc_region ?_; refine wl_mv rfl rfl ?_; refine wl_mv rfl rfl ?_
      refine wl_pushR (wf := w) (r := enc1 (.bool t)) O1 hb hb0.size (by cases t <;> exact q3) (hb0.trans (hb.mono hb0.size)) (by simp; omega) (by omega) rfl rfl rfl rfl rfl fun _ A9 c9 w9 O9 hb9 => ?_
      refine wl_as rfl rfl ?_; refine wl_nil ?_; refine we_block_norm ?_; refine we_seq ?_; refine wc_region ?_; apply wl_val; apply opv_bin; exact rfl; exact rfl; exact bin_add64 (by omega); exact rfl; refine wl_mv rfl rfl ?_; refine wl_nil ?_
      refine we_loop _ (us.length - (k + 1)) ⟨k + 1, _, _, rfl, by omega, by rw [take_map _ hu]; exact O9, hb9, rfl⟩ (by omega) ⟨rfl, rfl, rfl, by simp [lookT], trivial⟩
    | int n =>
      simp only [vaC] at a7
      refine wl_as rfl rfl ?_; refine wl_ns ?_; refine wc_seq ?_; refine wc_sr ?_; refine wl_mv rfl rfl ?_; refine wl_bin rfl rfl bin_neq rfl ?_; refine wl_ns ?_; apply wc_condFb; exact rfl; exact rfl; refine wc_skip ?_; refine we_seq ?_; refine wc_sr ?_; apply wl_val; apply opv_fa; exact fa_sC (by decide); exact rfl; exact rfl; apply wl_val; apply opv_ldX; exact rfl; assumption; exact c1_int; exact rfl; exact rfl; apply wl_val; apply opv_convR; exact rfl; exact Try.underlying3; exact Try.underlying5; exact IntWalk.u8_in _ (by omega); exact rfl
      refine wl_bs (vs := [bv 2]) tyB ⟨rfl, rfl, rfl, trivial⟩ rfl (by decide) rfl fun E e q3 hbx _ => ?_
      replace a7 := Ar.bel a7 hbx
      replace q3 := Ow.mono q3 hb.size
      replace hb := hb.trans (hbx.mono hb.size)
      clear hbx
      refine wl_as rfl rfl ?_; refine wl_ns ?_; refine wc_seq ?_; refine wc_sr ?_; apply wl_val; apply opv_fa; exact fa_sC (by decide); exact rfl; exact rfl; apply wl_val; apply opv_ldX; exact rfl; assumption; exact c1_int; exact rfl; exact rfl; refine wl_ns ?_; refine wc_block ?_; refine wc_sr ?_; refine wl_bin rfl rfl bin_eql rfl ?_; refine wl_as rfl rfl ?_; refine wl_ns ?_; apply wc_condFb; exact rfl; exact rfl; refine wc_sr ?_; refine wl_bin rfl rfl bin_eql rfl ?_; refine wl_as rfl rfl ?_; refine wl_ns ?_; apply wc_condTb; exact rfl; exact rfl; refine wc_region ?_; refine wl_mv rfl rfl ?_; apply wl_val; apply opv_fa; exact fa_sC (by decide); exact rfl; exact rfl; apply wl_val; apply opv_ldX; exact rfl; assumption; exact c1_i64; exact rfl; exact rfl
      refine wl_call ok_codec_OrdI (ordI_any n hou.num _) ⟨rfl, trivial⟩ rfl ?_; rintro _ _ ⟨Y, cy, rfl, o3, hbx⟩; replace q3 := Ow.bel q3 hbx; replace hb := hb.trans (hbx.mono hb.size); clear hbx
      rw [ordU_length]
      refine wl_app tyB rfl q3 rfl (Ow.re o3 (ordU_length _)).rd (bvs_one _) (by omega) (by simp only [maxLen]; omega) hb.size rfl fun _ _ _ hO hG _ => ?_; (try replace a7 := Ar.grA a7 hG (Ar.ne_ow a7 q3 rfl)); replace hb := hG.below hb q3 (Nat.le_refl _) hb.size; replace q3 := hO; clear hO hG
      refine wl_as rfl rfl ?_; refine wl_nil ?_; refine we_block_norm ?_; refine we_seq ?_; refine wc_region ?_; refine wl_mv rfl rfl ?_; refine wl_mv rfl rfl ?_
      have ho : OwB _ w1.heap.size _ _ (enc1 (.int n)) := OwB.of' q3 (by simp [enc1, ordU_length]) (by simp [enc1, bvs, bv])
      refine wl_pushR (wf := w) (r := enc1 (.int n)) O1 hb hb0.size ho (hb0.trans (hb.mono hb0.size)) (by simp; omega) (by omega) rfl (by simp [enc1, ordU_length, look, lookT]) rfl rfl rfl fun _ A9 c9 w9 O9 hb9 => ?_
      refine wl_as rfl rfl ?_; refine wl_nil ?_; refine we_block_norm ?_; refine we_seq ?_; refine wc_region ?_; apply wl_val; apply opv_bin; exact rfl; exact rfl; exact bin_add64 (by omega); exact rfl; refine wl_mv rfl rfl ?_; refine wl_nil ?_
      refine we_loop _ (us.length - (k + 1)) ⟨k + 1, _, _, rfl, by omega, by rw [take_map _ hu]; exact O9, hb9, rfl⟩ (by omega) ⟨rfl, rfl, rfl, by simp [lookT], trivial⟩
    | text s =>
      simp only [vaC] at a7
      refine wl_as rfl rfl ?_; refine wl_ns ?_; refine wc_seq ?_; refine wc_sr ?_; refine wl_mv rfl rfl ?_; refine wl_bin rfl rfl bin_neq rfl ?_; refine wl_ns ?_; apply wc_condFb; exact rfl; exact rfl; refine wc_skip ?_; refine we_seq ?_; refine wc_sr ?_; apply wl_val; apply opv_fa; exact fa_sC (by decide); exact rfl; exact rfl; apply wl_val; apply opv_ldX; exact rfl; assumption; exact c1_int; exact rfl; exact rfl; apply wl_val; apply opv_convR; exact rfl; exact Try.underlying3; exact Try.underlying5; exact IntWalk.u8_in _ (by omega); exact rfl
      refine wl_bs (vs := [bv 3]) tyB ⟨rfl, rfl, rfl, trivial⟩ rfl (by decide) rfl fun E e q3 hbx _ => ?_
      replace a7 := Ar.bel a7 hbx
      replace q3 := Ow.mono q3 hb.size
      replace hb := hb.trans (hbx.mono hb.size)
      clear hbx
      refine wl_as rfl rfl ?_; refine wl_ns ?_; refine wc_seq ?_; refine wc_sr ?_; apply wl_val; apply opv_fa; exact fa_sC (by decide); exact rfl; exact rfl; apply wl_val; apply opv_ldX; exact rfl; assumption; exact c1_int; exact rfl; exact rfl; refine wl_ns ?_; refine wc_block ?_; refine wc_sr ?_; refine wl_bin rfl rfl bin_eql rfl ?_; refine wl_as rfl rfl ?_; refine wl_ns ?_; apply wc_condFb; exact rfl; exact rfl; refine wc_sr ?_; refine wl_bin rfl rfl bin_eql rfl ?_; refine wl_as rfl rfl ?_; refine wl_ns ?_; apply wc_condFb; exact rfl; exact rfl; refine wc_sr ?_; refine wl_bin rfl rfl bin_eql rfl ?_; refine wl_as rfl rfl ?_; refine wl_ns ?_; apply wc_condTb; exact rfl; exact rfl; refine wc_region ?_; refine wl_mv rfl rfl ?_; apply wl_val; apply opv_fa; exact fa_sC (by decide); exact rfl; exact rfl; apply wl_val; apply opv_ldX; exact rfl; assumption; exact c1_str; exact rfl; exact rfl
      refine wl_appS tyB tyStr rfl q3 rfl (by have : s.length ≤ 68719476736 := hou.text; omega) hb.size rfl fun _ _ _ hO hG => ?_
      replace hb := hG.below hb q3 (Nat.le_refl _) hb.size
      refine wl_as rfl rfl ?_; refine wl_nil ?_; refine we_block_norm ?_; refine we_seq ?_; refine wc_region ?_; refine wl_mv rfl rfl ?_; refine wl_mv rfl rfl ?_
      have ho : OwB _ w1.heap.size _ _ (enc1 (.text s)) := OwB.of' hO (by simp [enc1]; omega) (by simp [enc1, bvs, bv])
      refine wl_pushR (wf := w) (r := enc1 (.text s)) O1 hb hb0.size ho (hb0.trans (hb.mono hb0.size)) (by simp; omega) (by omega) rfl (by simp [enc1, look, lookT]; omega) rfl rfl rfl fun _ A9 c9 w9 O9 hb9 => ?_
      refine wl_as rfl rfl ?_; refine wl_nil ?_; refine we_block_norm ?_; refine we_seq ?_; refine wc_region ?_; apply wl_val; apply opv_bin; exact rfl; exact rfl; exact bin_add64 (by omega); exact rfl; refine wl_mv rfl rfl ?_; refine wl_nil ?_
      refine we_loop _ (us.length - (k + 1)) ⟨k + 1, _, _, rfl, by omega, by rw [take_map _ hu]; exact O9, hb9, rfl⟩ (by omega) ⟨rfl, rfl, rfl, by simp [lookT], trivial⟩
    | bytes d =>
      simp only [vaC] at a7 o2
      refine wl_as rfl rfl ?_; refine wl_ns ?_; refine wc_seq ?_; refine wc_sr ?_; refine wl_mv rfl rfl ?_; refine wl_bin rfl rfl bin_neq rfl ?_; refine wl_ns ?_; apply wc_condFb; exact rfl; exact rfl; refine wc_skip ?_; refine we_seq ?_; refine wc_sr ?_; apply wl_val; apply opv_fa; exact fa_sC (by decide); exact rfl; exact rfl; apply wl_val; apply opv_ldX; exact rfl; assumption; exact c1_int; exact rfl; exact rfl; apply wl_val; apply opv_convR; exact rfl; exact Try.underlying3; exact Try.underlying5; exact IntWalk.u8_in _ (by omega); exact rfl
      refine wl_bs (vs := [bv 4]) tyB ⟨rfl, rfl, rfl, trivial⟩ rfl (by decide) rfl fun E e q3 hbx _ => ?_
      replace a7 := Ar.bel a7 hbx
      replace o2 := OwB.below o2 hbx
      replace q3 := Ow.mono q3 hb.size
      replace hb := hb.trans (hbx.mono hb.size)
      clear hbx
      refine wl_as rfl rfl ?_; refine wl_ns ?_; refine wc_seq ?_; refine wc_sr ?_; apply wl_val; apply opv_fa; exact fa_sC (by decide); exact rfl; exact rfl; apply wl_val; apply opv_ldX; exact rfl; assumption; exact c1_int; exact rfl; exact rfl; refine wl_ns ?_; refine wc_block ?_; refine wc_sr ?_; refine wl_bin rfl rfl bin_eql rfl ?_; refine wl_as rfl rfl ?_; refine wl_ns ?_; apply wc_condFb; exact rfl; exact rfl; refine wc_sr ?_; refine wl_bin rfl rfl bin_eql rfl ?_; refine wl_as rfl rfl ?_; refine wl_ns ?_; apply wc_condFb; exact rfl; exact rfl; refine wc_sr ?_; refine wl_bin rfl rfl bin_eql rfl ?_; refine wl_as rfl rfl ?_; refine wl_ns ?_; apply wc_condFb; exact rfl; exact rfl; refine wc_sr ?_; refine wl_bin rfl rfl bin_eql rfl ?_; refine wl_as rfl rfl ?_; refine wl_ns ?_; apply wc_condTb; exact rfl; exact rfl; refine wc_region ?_; refine wl_mv rfl rfl ?_; apply wl_val; apply opv_fa; exact fa_sC (by decide); exact rfl; exact rfl; apply wl_val; apply opv_ldX; exact rfl; assumption; exact c1_by; exact rfl; exact rfl
      have hd : d.length ≤ 68719476736 := hou.data
      refine wl_app tyB rfl q3 rfl (OwB.rd o2) (bvs_one _) (by omega) (by simp only [maxLen]; omega) hb.size rfl fun _ _ _ hO hG _ => ?_
      replace hb := hG.below hb q3 (Nat.le_refl _) hb.size
      refine wl_as rfl rfl ?_; refine wl_nil ?_; refine we_block_norm ?_; refine we_seq ?_; refine wc_region ?_; refine wl_mv rfl rfl ?_; refine wl_mv rfl rfl ?_
      have ho : OwB _ w1.heap.size _ _ (enc1 (.bytes d)) := OwB.of' hO (by simp [enc1]; omega) (by simp [enc1, bvs, bv])
      refine wl_pushR (wf := w) (r := enc1 (.bytes d)) O1 hb hb0.size ho (hb0.trans (hb.mono hb0.size)) (by simp; omega) (by omega) rfl (by simp [enc1, look, lookT]; omega) rfl rfl rfl fun _ A9 c9 w9 O9 hb9 => ?_
      refine wl_as rfl rfl ?_; refine wl_nil ?_; refine we_block_norm ?_; refine we_seq ?_; refine wc_region ?_; apply wl_val; apply opv_bin; exact rfl; exact rfl; exact bin_add64 (by omega); exact rfl; refine wl_mv rfl rfl ?_; refine wl_nil ?_
      refine we_loop _ (us.length - (k + 1)) ⟨k + 1, _, _, rfl, by omega, by rw [take_map _ hu]; exact O9, hb9, rfl⟩ (by omega) ⟨rfl, rfl, rfl, by simp [lookT], trivial⟩
  · obtain rfl : k = us.length := by omega
    rw [List.take_length] at O1
    have hb := hb0
    refine wc_exit ?_; refine we_seq_exit ?_; refine we_loop_exit ?_; refine we_block_exit ?_; refine we_seq ?_; refine wc_sr ?_; refine wl_mv rfl rfl ?_
    refine wl_call ok_codec_Frame (frame_any O1.rd (by simp) (by rw [List.length_map]; omega)) ⟨rfl, trivial⟩ rfl ?_; rintro _ _ ⟨B, cB, rfl, o2, hbx⟩; replace hb := hb.trans (hbx.mono hb.size); clear hbx
    refine wl_as rfl rfl ?_; refine wl_as rfl rfl ?_; refine wl_ns ?_; refine wc_ret ?_
    exact we_ret2 rfl rfl rfl ⟨_, rfl, B, cB, rfl, Ow.mono o2 hb0.size, hb⟩
end Go.Proofs.Ytcjiecclmepboaa
