
/-
  Plain laws of numbers written in eight bytes, the greatest first. No program in sight.
-/
import Derived.Test.YtcjiecclmepboaaPc
namespace Go.Proofs.Ytcjiecclmepboaa

/-- The lowest k bytes of a number, the greatest first. -/
def ordK : Nat → Nat → List UInt8
  | 0, _ => []
  | k + 1, n => ordK k (n / 256) ++ [UInt8.ofNat n]
def ordU (n : Nat) : List UInt8 := ordK 8 n
def numB (l : List UInt8) : Nat := l.foldl (fun n x => n * 256 + x.toNat) 0
def getOrdU (b : List UInt8) (p : Int) : Nat × Int × Nat :=
  if p < 0 ∨ (b.length : Int) < p then (0, 0, 1)
  else if (b.length : Int) - p < 8 then (0, 0, 5)
  else (numB ((b.drop p.toNat).take 8), p + 8, 0)

theorem ordK_length : ∀ (k n : Nat), (ordK k n).length = k
  | 0, _ => rfl
  | k + 1, n => by simp [ordK, ordK_length k]
theorem ordU_length (n : Nat) : (ordU n).length = 8 := ordK_length 8 n
theorem numB_snoc (l : List UInt8) (x : UInt8) : numB (l ++ [x]) = numB l * 256 + x.toNat := by simp [numB]
theorem numB_ordK : ∀ (k n : Nat), numB (ordK k n) = n % 256 ^ k
  | 0, n => by simp [ordK, numB, Nat.mod_one]
  | k + 1, n => by
    rw [ordK, numB_snoc, numB_ordK k]
    rw [Nat.pow_succ, Nat.mul_comm (256 ^ k) 256, Nat.mod_mul]
    simp
    omega
theorem numB_ordU {n : Nat} (h : n < 2 ^ 64) : numB (ordU n) = n := by
  rw [ordU, numB_ordK]; exact Nat.mod_eq_of_lt h
theorem ordK_numB : ∀ (k : Nat) (l : List UInt8), l.length = k → ordK k (numB l) = l
  | 0, l, h => by simp [ordK, List.length_eq_zero_iff.1 h]
  | k + 1, l, h => by
    have hne : l ≠ [] := by rintro rfl; simp at h
    have e := List.dropLast_concat_getLast hne
    rw [← e, numB_snoc, ordK]
    have hx := (l.getLast hne).toNat_lt
    have e1 : (numB l.dropLast * 256 + (l.getLast hne).toNat) / 256 = numB l.dropLast := by omega
    rw [e1, ordK_numB k _ (by simp [h])]
    congr 2
    apply UInt8.toNat_inj.1
    simp
theorem ordU_numB {l : List UInt8} (h : l.length = 8) : ordU (numB l) = l := ordK_numB 8 l h
theorem numB_cons : ∀ (l : List UInt8) (a : Nat), l.foldl (fun n x => n * 256 + x.toNat) a = a * 256 ^ l.length + numB l
  | [], a => by simp [numB]
  | x :: l, a => by
    have h1 := numB_cons l (a * 256 + x.toNat)
    have h2 := numB_cons l (0 * 256 + x.toNat)
    simp only [numB, List.foldl_cons, List.length_cons] at h1 h2 ⊢
    rw [h1, h2, Nat.pow_succ]
    simp only [Nat.add_mul, Nat.mul_assoc, Nat.zero_mul, Nat.zero_add]
    rw [Nat.mul_comm 256 (256 ^ l.length)]
    omega
theorem numB_lt (l : List UInt8) : numB l < 256 ^ l.length := by
  have h := numB_ordK l.length (numB l)
  rw [ordK_numB _ l rfl] at h
  rw [h]; exact Nat.mod_lt _ (Nat.pow_pos (by decide))
theorem cmp_num : ∀ (a b : List UInt8), a.length = b.length → (cmpB a b < 0 ↔ numB a < numB b)
  | [], [], _ => by simp [cmpB, numB]
  | [], _ :: _, h => by simp at h
  | _ :: _, [], h => by simp at h
  | x :: a, y :: b, h => by
    simp only [List.length_cons, Nat.add_right_cancel_iff] at h
    have ha : numB (x :: a) = x.toNat * 256 ^ a.length + numB a := by
      have := numB_cons a (0 * 256 + x.toNat); simp only [numB, List.foldl_cons] at this ⊢; rw [this]; simp
    have hb : numB (y :: b) = y.toNat * 256 ^ a.length + numB b := by
      have := numB_cons b (0 * 256 + y.toNat); simp only [numB, List.foldl_cons] at this ⊢; rw [this, h]; simp
    have la := numB_lt a
    have lb := numB_lt b
    rw [← h] at lb
    rw [ha, hb]
    by_cases h1 : x < y
    · rw [cmp_lt h1]
      rw [UInt8.lt_iff_toNat_lt] at h1
      have := Nat.mul_le_mul_right (256 ^ a.length) (show x.toNat + 1 ≤ y.toNat from h1)
      rw [Nat.add_mul, Nat.one_mul] at this
      constructor
      · intro _; omega
      · intro _; decide
    · by_cases h2 : y < x
      · rw [cmp_gt h2]
        rw [UInt8.lt_iff_toNat_lt] at h2
        have := Nat.mul_le_mul_right (256 ^ a.length) (show y.toNat + 1 ≤ x.toNat from h2)
        rw [Nat.add_mul, Nat.one_mul] at this
        constructor
        · intro h; omega
        · intro h; omega
      · have e : x = y := UInt8.le_antisymm (UInt8.not_lt.1 h2) (UInt8.not_lt.1 h1)
        subst e
        rw [cmp_same, cmp_num a b h]
        omega
theorem cmp_ordU {n m : Nat} (hn : n < 2 ^ 64) (hm : m < 2 ^ 64) : (cmpB (ordU n) (ordU m) < 0) = (n < m) := by
  rw [cmp_num _ _ (by rw [ordU_length, ordU_length]), numB_ordU hn, numB_ordU hm]
theorem ordK_get : ∀ (k n i : Nat), i < k → (ordK k n)[i]? = some (UInt8.ofNat (n / 256 ^ (k - 1 - i)))
  | 0, _, _, h => by omega
  | k + 1, n, i, h => by
    rw [ordK]
    by_cases hi : i < k
    · rw [List.getElem?_append_left (by rw [ordK_length]; exact hi), ordK_get k _ i hi, Nat.div_div_eq_div_mul]
      have e : 256 * 256 ^ (k - 1 - i) = 256 ^ (k + 1 - 1 - i) := by
        rw [show k + 1 - 1 - i = (k - 1 - i) + 1 by omega, Nat.pow_succ, Nat.mul_comm]
      rw [e]
    · have : i = k := by omega
      subst this
      rw [List.getElem?_append_right (by rw [ordK_length]; omega), ordK_length]
      simp
theorem numB_step {l : List UInt8} {k : Nat} {x : UInt8} (h : l[k]? = some x) : numB (l.take (k + 1)) = numB (l.take k) * 256 + x.toNat := by
  rw [take_getR h, numB_snoc]
theorem xor_top {u : Nat} (h : u < 2 ^ 64) : u ^^^ 9223372036854775808 = (u + 9223372036854775808) % 18446744073709551616 := by
  rw [show 9223372036854775808 = 2 ^ 63 from rfl, show 18446744073709551616 = 2 ^ 64 from rfl]
  apply Nat.eq_of_testBit_eq
  intro j
  rw [Nat.testBit_xor, Nat.testBit_mod_two_pow, Nat.add_comm]
  rcases Nat.lt_trichotomy j 63 with hj | hj | hj
  · rw [Nat.testBit_two_pow_of_ne (by omega), Nat.testBit_two_pow_add_gt hj]
    have : j < 64 := by omega
    simp [this]
  · subst hj
    rw [Nat.testBit_two_pow_self, Nat.testBit_two_pow_add_eq]
    simp
  · rw [Nat.testBit_two_pow_of_ne (by omega), Nat.testBit_lt_two_pow (Nat.lt_of_lt_of_le h (Nat.pow_le_pow_right (by decide) (by omega)))]
    have : ¬ j < 64 := by omega
    simp [this]
theorem getOrdU_arg {b : List UInt8} {p : Int} (h : ¬ (0 ≤ p ∧ p ≤ b.length)) : getOrdU b p = (0, 0, 1) := by
  rw [getOrdU, if_pos (by omega)]
theorem getOrdU_end {b : List UInt8} {p : Int} (h : 0 ≤ p ∧ p ≤ b.length) (h8 : (b.length : Int) - p < 8) : getOrdU b p = (0, 0, 5) := by
  rw [getOrdU, if_neg (by omega), if_pos h8]
theorem getOrdU_ok {b : List UInt8} {q : Nat} (h : q + 8 ≤ b.length) : getOrdU b q = (numB ((b.drop q).take 8), (q : Int) + 8, 0) := by
  rw [getOrdU, if_neg (by omega), if_neg (by omega)]; simp
theorem getOrdU_cases (b : List UInt8) (p : Int) : (∃ e : Nat, ¬ e = 0 ∧ getOrdU b p = (0, 0, e)) ∨ ∃ q : Nat, p = q ∧ q + 8 ≤ b.length ∧ getOrdU b p = (numB ((b.drop q).take 8), (q : Int) + 8, 0) := by
  by_cases h : 0 ≤ p ∧ p ≤ b.length
  · by_cases h8 : (b.length : Int) - p < 8
    · exact .inl ⟨5, by decide, getOrdU_end h h8⟩
    · obtain ⟨q, rfl⟩ := Int.eq_ofNat_of_zero_le h.1
      exact .inr ⟨q, rfl, by omega, getOrdU_ok (by omega)⟩
  · exact .inl ⟨1, by decide, getOrdU_arg h⟩
end Go.Proofs.Ytcjiecclmepboaa
