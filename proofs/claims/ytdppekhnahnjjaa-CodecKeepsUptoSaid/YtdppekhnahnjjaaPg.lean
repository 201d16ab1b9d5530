/-
  Plain laws of sealed records. No program in sight.
-/
import Derived.Test.YtdppekhnahnjjaaPe
import Derived.Test.YtdppekhnahnjjaaPf
namespace Go.Proofs.Ytdppekhnahnjjaa

/-- Four bytes, the greatest first. -/
def four (n : Nat) : List UInt8 := ordK 4 n
theorem four_length (n : Nat) : (four n).length = 4 := ordK_length 4 n
theorem ordU_four (n : Nat) : (ordU n).drop 4 = four n := by
  have e : ordU n = ordK 4 (n / 256 / 256 / 256 / 256) ++ four n := by
    show ordK 8 n = _
    simp [ordK, four]
  rw [e, List.drop_append_of_le_length (by rw [ordK_length]; omega), List.drop_of_length_le (by rw [ordK_length]; omega)]
  rfl
theorem four_list (n : Nat) : four n = [UInt8.ofNat (n / 16777216), UInt8.ofNat (n / 65536), UInt8.ofNat (n / 256), UInt8.ofNat n] := by
  simp [four, ordK, Nat.div_div_eq_div_mul]
theorem numB_four {n : Nat} (h : n < 4294967296) : numB (four n) = n := by
  rw [four, numB_ordK]; exact Nat.mod_eq_of_lt h
theorem four_numB {l : List UInt8} (h : l.length = 4) : four (numB l) = l := ordK_numB 4 l h
theorem numB_lt4 {l : List UInt8} (h : l.length = 4) : numB l < 4294967296 := by
  have := numB_lt l; rw [h] at this; exact this

def crcRec (b : List UInt8) : List UInt8 := four b.length ++ (four (crcOf (four b.length ++ b)) ++ b)
theorem crcRec_length (b : List UInt8) : (crcRec b).length = 8 + b.length := by simp [crcRec, four_length]; omega
def sealB (b : List UInt8) : List UInt8 × Nat := if 1048576 < b.length then ([], 2) else (crcRec b, 0)
/-- What is sealed at the head of a list: the body, and the error. -/
def openH (y : List UInt8) : List UInt8 × Nat :=
  if y.length < 8 then ([], 5)
  else if 1048576 < numB (y.take 4) then ([], 2)
  else if y.length < 8 + numB (y.take 4) then ([], 5)
  else if crcOf (y.take 4 ++ (y.take (8 + numB (y.take 4))).drop 8) = numB ((y.drop 4).take 4) then ((y.take (8 + numB (y.take 4))).drop 8, 0) else ([], 4)
/-- At a place: the body, what stands behind it, and the error. -/
def openB (xs : List UInt8) (p : Int) : List UInt8 × Nat × Nat :=
  if p < 0 ∨ (xs.length : Int) < p then ([], 0, 1)
  else if (openH (xs.drop p.toNat)).2 = 0 then ((openH (xs.drop p.toNat)).1, p.toNat + 8 + (openH (xs.drop p.toNat)).1.length, 0)
  else ([], 0, (openH (xs.drop p.toNat)).2)
theorem openH_short {y : List UInt8} (h : y.length < 8) : openH y = ([], 5) := by rw [openH, if_pos h]
theorem openH_size {y : List UInt8} (h : ¬ y.length < 8) (h2 : 1048576 < numB (y.take 4)) : openH y = ([], 2) := by rw [openH, if_neg h, if_pos h2]
theorem openH_end {y : List UInt8} (h : ¬ y.length < 8) (h2 : ¬ 1048576 < numB (y.take 4)) (h3 : y.length < 8 + numB (y.take 4)) : openH y = ([], 5) := by rw [openH, if_neg h, if_neg h2, if_pos h3]
theorem openH_sum {y : List UInt8} (h : ¬ y.length < 8) (h2 : ¬ 1048576 < numB (y.take 4)) (h3 : ¬ y.length < 8 + numB (y.take 4)) (h4 : ¬ crcOf (y.take 4 ++ (y.take (8 + numB (y.take 4))).drop 8) = numB ((y.drop 4).take 4)) : openH y = ([], 4) := by
  rw [openH, if_neg h, if_neg h2, if_neg h3, if_neg h4]
theorem openH_ok {y : List UInt8} (h : ¬ y.length < 8) (h2 : ¬ 1048576 < numB (y.take 4)) (h3 : ¬ y.length < 8 + numB (y.take 4)) (h4 : crcOf (y.take 4 ++ (y.take (8 + numB (y.take 4))).drop 8) = numB ((y.drop 4).take 4)) : openH y = ((y.take (8 + numB (y.take 4))).drop 8, 0) := by
  rw [openH, if_neg h, if_neg h2, if_neg h3, if_pos h4]
theorem openB_arg {xs : List UInt8} {p : Int} (h : ¬ (0 ≤ p ∧ p ≤ xs.length)) : openB xs p = ([], 0, 1) := by rw [openB, if_pos (by omega)]
theorem openB_at {xs : List UInt8} {q : Nat} (h : q ≤ xs.length) {r : List UInt8} {e : Nat} (ho : openH (xs.drop q) = (r, e)) : openB xs q = if e = 0 then (r, q + 8 + r.length, 0) else ([], 0, e) := by
  rw [openB, if_neg (by omega), Int.toNat_natCast, ho]
theorem openB_ok {xs : List UInt8} {q : Nat} (h : q ≤ xs.length) {r : List UInt8} (ho : openH (xs.drop q) = (r, 0)) : openB xs q = (r, q + 8 + r.length, 0) := by rw [openB_at h ho, if_pos rfl]
theorem openB_err {xs : List UInt8} {q : Nat} (h : q ≤ xs.length) {r : List UInt8} {e : Nat} (ho : openH (xs.drop q) = (r, e)) (he : ¬ e = 0) : openB xs q = ([], 0, e) := by rw [openB_at h ho, if_neg he]
theorem openH_len {y r : List UInt8} (h : openH y = (r, 0)) : 8 + r.length ≤ y.length ∧ r.length ≤ 1048576 := by
  unfold openH at h
  split at h
  · simp at h
  · split at h
    · simp at h
    · split at h
      · simp at h
      · split at h
        · simp only [Prod.mk.injEq, and_true] at h
          subst h
          simp; omega
        · simp at h
theorem openB_inv {xs r : List UInt8} {q x : Nat} (hq : q ≤ xs.length) (h : openB xs q = (r, x, 0)) : x = q + 8 + r.length ∧ x ≤ xs.length ∧ r.length ≤ 1048576 := by
  obtain ⟨s, e, ho⟩ : ∃ s e, openH (xs.drop q) = (s, e) := ⟨_, _, rfl⟩
  rw [openB_at hq ho] at h
  split at h
  · rename_i he
    subst he
    simp only [Prod.mk.injEq, and_true] at h
    obtain ⟨rfl, rfl⟩ := h
    have := openH_len ho
    rw [List.length_drop] at this
    omega
  · simp only [Prod.mk.injEq] at h
    omega
theorem openB_err' {xs r : List UInt8} {p : Int} {x e : Nat} (h : openB xs p = (r, x, e)) (he : ¬ e = 0) : r = [] ∧ x = 0 := by
  unfold openB at h
  split at h
  · simp only [Prod.mk.injEq] at h; exact ⟨h.1.symm, h.2.1.symm⟩
  · split at h
    · simp only [Prod.mk.injEq] at h; omega
    · simp only [Prod.mk.injEq] at h; exact ⟨h.1.symm, h.2.1.symm⟩
/-- What is sealed opens to what it was. -/
theorem openH_rec {b : List UInt8} (h : b.length ≤ 1048576) (rest : List UInt8) : openH (crcRec b ++ rest) = (b, 0) := by
  have e1 : (crcRec b ++ rest).take 4 = four b.length := by
    unfold crcRec; rw [List.append_assoc, List.take_append_of_le_length (by rw [four_length]; omega), List.take_of_length_le (by rw [four_length]; omega)]
  have e2 : numB ((crcRec b ++ rest).take 4) = b.length := by rw [e1, numB_four (by omega)]
  have e3 : ((crcRec b ++ rest).drop 4).take 4 = four (crcOf (four b.length ++ b)) := by
    unfold crcRec
    rw [List.append_assoc, List.drop_append_of_le_length (by rw [four_length]; omega), List.drop_of_length_le (by rw [four_length]; omega), List.nil_append, List.append_assoc,
      List.take_append_of_le_length (by rw [four_length]; omega), List.take_of_length_le (by rw [four_length]; omega)]
  have e4 : ((crcRec b ++ rest).take (8 + b.length)).drop 8 = b := by
    rw [List.take_append_of_le_length (by rw [crcRec_length]; omega), List.take_of_length_le (by rw [crcRec_length]; omega)]
    unfold crcRec
    rw [← List.append_assoc, List.drop_append_of_le_length (by simp [four_length]), List.drop_of_length_le (by simp [four_length]), List.nil_append]
  have hl : (crcRec b ++ rest).length = 8 + b.length + rest.length := by rw [List.length_append, crcRec_length]
  rw [openH_ok (by omega) (by omega) (by omega) (by rw [e2, e3, e4, e1, numB_four (crcOf_lt _)]), e2, e4]
theorem openB_rec {b : List UInt8} (h : b.length ≤ 1048576) : openB (crcRec b) 0 = (b, (crcRec b).length, 0) := by
  have := openH_rec h []
  rw [List.append_nil] at this
  have := openB_ok (q := 0) (xs := crcRec b) (by omega) this
  rw [crcRec_length]
  simpa using this
/-- The reference's test: a record is what would be sealed of its body. -/
theorem rec_iff {y : List UInt8} (h : ¬ y.length < 8) (h3 : ¬ y.length < 8 + numB (y.take 4)) :
    (crcRec ((y.take (8 + numB (y.take 4))).drop 8) = y.take (8 + numB (y.take 4))) = (crcOf (y.take 4 ++ (y.take (8 + numB (y.take 4))).drop 8) = numB ((y.drop 4).take 4)) := by
  obtain ⟨n, hn⟩ : ∃ n, numB (y.take 4) = n := ⟨_, rfl⟩
  rw [hn] at h3 ⊢
  have hl : ((y.take (8 + n)).drop 8).length = n := by simp; omega
  have h4 : (y.take 4).length = 4 := by simp; omega
  have e4 : four n = y.take 4 := by rw [← hn, four_numB h4]
  have es : y.take (8 + n) = y.take 4 ++ ((y.drop 4).take 4 ++ (y.take (8 + n)).drop 8) := by
    have a1 : y.take (8 + n) = (y.take (8 + n)).take 4 ++ ((y.take (8 + n)).drop 4) := (List.take_append_drop 4 _).symm
    have a2 : (y.take (8 + n)).drop 4 = ((y.take (8 + n)).drop 4).take 4 ++ ((y.take (8 + n)).drop 4).drop 4 := (List.take_append_drop 4 _).symm
    rw [List.drop_drop] at a2
    rw [a2] at a1
    rw [List.take_take, Nat.min_eq_left (by omega)] at a1
    rw [show ((y.take (8 + n)).drop 4).take 4 = (y.drop 4).take 4 by rw [List.drop_take, List.take_take, Nat.min_eq_left (by omega)]] at a1
    exact a1
  unfold crcRec
  rw [hl, e4]
  apply propext
  constructor
  · intro h
    rw [es] at h
    have h1 := (List.append_inj h rfl).2
    have h2 := (List.append_inj h1 (by simp [four_length]; omega)).1
    have := congrArg numB h2
    rw [← es] at this
    rw [numB_four (crcOf_lt _)] at this
    exact this
  · intro h
    rw [h, four_numB (by simp; omega)]
    exact es.symm

/-- All records, up to the first that doesn't open. -/
def openAllF : Nat → List UInt8 → Nat → List (List UInt8) → List (List UInt8) × Nat
  | 0, _, q, out => (out, q)
  | f + 1, b, q, out =>
    if b.length ≤ q then (out, q)
    else if (openB b q).2.2 = 0 then openAllF f b (openB b q).2.1 (out ++ [(openB b q).1])
    else (out, q)
def openAll (b : List UInt8) : List (List UInt8) × Nat := openAllF b.length b 0 []
theorem openAllF_end {f : Nat} {b : List UInt8} {q : Nat} {out : List (List UInt8)} (h : b.length ≤ q) : openAllF f b q out = (out, q) := by
  cases f with
  | zero => rfl
  | succ f => rw [openAllF, if_pos h]
theorem openAllF_err {f : Nat} {b r : List UInt8} {q x e : Nat} {out : List (List UInt8)} (hu : openB b q = (r, x, e)) (he : ¬ e = 0) : openAllF f b q out = (out, q) := by
  cases f with
  | zero => rfl
  | succ f =>
    by_cases h : b.length ≤ q
    · exact openAllF_end h
    · rw [openAllF, if_neg h, hu, if_neg he]
theorem openAllF_step {f : Nat} {b r : List UInt8} {q x : Nat} {out : List (List UInt8)} (h : ¬ b.length ≤ q) (hu : openB b q = (r, x, 0)) : openAllF (f + 1) b q out = openAllF f b x (out ++ [r]) := by
  rw [openAllF, if_neg h, hu, if_pos rfl]
theorem openAllF_size : ∀ (f : Nat) (b : List UInt8) (q : Nat) (out : List (List UInt8)), q ≤ b.length → out.length * 8 + out.flatten.length ≤ q → (openAllF f b q out).2 ≤ b.length ∧ (openAllF f b q out).1.length * 8 + (openAllF f b q out).1.flatten.length ≤ b.length
  | 0, b, q, out, hq, h => by simp only [openAllF]; omega
  | f + 1, b, q, out, hq, h => by
    by_cases h1 : b.length ≤ q
    · rw [openAllF_end h1]; exact ⟨hq, Nat.le_trans h hq⟩
    · obtain ⟨r, x, e, hu⟩ : ∃ r x e, openB b q = (r, x, e) := ⟨_, _, _, rfl⟩
      by_cases he : e = 0
      · subst he
        obtain ⟨h2, h3, _⟩ := openB_inv hq hu
        rw [openAllF_step h1 hu]
        refine openAllF_size f b _ _ h3 ?_
        simp only [List.flatten_append, List.flatten_cons, List.flatten_nil, List.length_append, List.length_cons, List.length_nil]
        omega
      · rw [openAllF_err hu he]; exact ⟨hq, Nat.le_trans h hq⟩
end Go.Proofs.Ytdppekhnahnjjaa
