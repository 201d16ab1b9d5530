
/-
  Plain laws of frames. No program in sight.
-/
import Derived.Test.YtcjiecclmepboaaPc
namespace Go.Proofs.Ytcjiecclmepboaa

def framed (l : List (List UInt8)) : List UInt8 := l.flatMap fun r => putU r.length ++ r
/-- The parts behind place q; out: those ahead of it. -/
def partsF : Nat → List UInt8 → Nat → List (List UInt8) → List (List UInt8) × Nat
  | 0, _, _, out => (out, 0)
  | f + 1, b, q, out =>
    if b.length ≤ q then (out, 0)
    else if (getU b q).2.2 = 0 then
      if b.length < (getU b q).2.1.toNat + (getU b q).1 then ([], 5)
      else partsF f b ((getU b q).2.1.toNat + (getU b q).1) (out ++ [(b.take ((getU b q).2.1.toNat + (getU b q).1)).drop (getU b q).2.1.toNat])
    else ([], (getU b q).2.2)
def parts (b : List UInt8) : List (List UInt8) × Nat := partsF b.length b 0 []

theorem putU_pos (n : Nat) : 0 < (putU n).length := by
  rw [putU]; split <;> simp
theorem getU_next {b : List UInt8} {q n : Nat} {x : Int} (h : getU b q = (n, x, 0)) : ∃ k : Nat, x = k ∧ q < k ∧ k ≤ b.length := by
  obtain ⟨q', k, hq, rfl, h1, h2, h3, _⟩ := getU_inv h
  obtain rfl : q = q' := by omega
  have := congrArg List.length h3
  have hp := putU_pos n
  refine ⟨k, rfl, ?_, h2⟩
  simp at this; omega
theorem partsF_end {f : Nat} {b : List UInt8} {q : Nat} {out : List (List UInt8)} (h : b.length ≤ q) : partsF f b q out = (out, 0) := by
  cases f with
  | zero => rfl
  | succ f => rw [partsF, if_pos h]
theorem partsF_err {f : Nat} {b : List UInt8} {q n e : Nat} {x : Int} {out : List (List UInt8)} (h : ¬ b.length ≤ q) (hu : getU b q = (n, x, e)) (he : ¬ e = 0) : partsF (f + 1) b q out = ([], e) := by
  rw [partsF, if_neg h, hu, if_neg he]
theorem partsF_short {f : Nat} {b : List UInt8} {q n k : Nat} {out : List (List UInt8)} (h : ¬ b.length ≤ q) (hu : getU b q = (n, (k : Int), 0)) (hs : b.length < k + n) : partsF (f + 1) b q out = ([], 5) := by
  rw [partsF, if_neg h, hu, if_pos rfl]
  simp only [Int.toNat_natCast]
  rw [if_pos hs]
theorem partsF_step {f : Nat} {b : List UInt8} {q n k : Nat} {out : List (List UInt8)} (h : ¬ b.length ≤ q) (hu : getU b q = (n, (k : Int), 0)) (hs : ¬ b.length < k + n) : partsF (f + 1) b q out = partsF f b (k + n) (out ++ [(b.take (k + n)).drop k]) := by
  rw [partsF, if_neg h, hu, if_pos rfl]
  simp only [Int.toNat_natCast]
  rw [if_neg hs]
/-- How much a list's parts hold, and what error there is. -/
theorem partsF_size : ∀ (f : Nat) (b : List UInt8) (q : Nat) (out : List (List UInt8)), q ≤ b.length → out.length + out.flatten.length ≤ q → (partsF f b q out).1.length + (partsF f b q out).1.flatten.length ≤ b.length
  | 0, b, q, out, hq, h => by simp only [partsF]; omega
  | f + 1, b, q, out, hq, h => by
    by_cases h1 : b.length ≤ q
    · rw [partsF_end h1]; exact Nat.le_trans h hq
    · obtain ⟨n, x, e, hu⟩ : ∃ n x e, getU b q = (n, x, e) := ⟨_, _, _, rfl⟩
      by_cases he : e = 0
      · subst he
        obtain ⟨k, rfl, h2, h3⟩ := getU_next hu
        by_cases hs : b.length < k + n
        · rw [partsF_short h1 hu hs]; simp
        · rw [partsF_step h1 hu hs]
          refine partsF_size f b _ _ (by omega) ?_
          simp only [List.flatten_append, List.flatten_cons, List.flatten_nil, List.length_append, List.length_cons, List.length_nil, List.length_drop, List.length_take]
          omega
      · rw [partsF_err h1 hu he]; simp
theorem getU_mid {pre rest : List UInt8} {n : Nat} (hn : n < 2 ^ 64) : getU (pre ++ (putU n ++ rest)) pre.length = (n, ((pre.length + (putU n).length : Nat) : Int), 0) := by
  have h := getAux_putU rest n 0 0 (by decide) hn (by omega) (.inl rfl)
  have := getU_ok (b := pre ++ (putU n ++ rest)) (q := pre.length) (n := n) (k := (putU n).length) (by simp) (by rw [List.drop_left, h]; simp)
  rw [this]; simp
theorem partsF_framed : ∀ (l : List (List UInt8)) (f : Nat) (pre : List UInt8) (out : List (List UInt8)), (∀ r ∈ l, r.length < 2 ^ 64) → (framed l).length ≤ f → partsF f (pre ++ framed l) pre.length out = (out ++ l, 0)
  | [], f, pre, out, _, _ => by rw [partsF_end (by simp [framed])]; simp
  | r :: l, f, pre, out, hr, hf => by
    have e : framed (r :: l) = putU r.length ++ (r ++ framed l) := by simp [framed]
    rw [e] at hf ⊢
    have hp := putU_pos r.length
    simp only [List.length_append] at hf
    obtain ⟨f, rfl⟩ : ∃ g, f = g + 1 := ⟨f - 1, by omega⟩
    have hg := getU_mid (pre := pre) (rest := r ++ framed l) (hr r (by simp))
    rw [partsF_step (by simp; omega) hg (by simp only [List.length_append]; omega)]
    have hb : pre ++ (putU r.length ++ (r ++ framed l)) = (pre ++ putU r.length ++ r) ++ framed l := by simp
    have hlen : (pre ++ putU r.length ++ r).length = pre.length + (putU r.length).length + r.length := by simp only [List.length_append]
    have hcut : ((pre ++ (putU r.length ++ (r ++ framed l))).take (pre.length + (putU r.length).length + r.length)).drop (pre.length + (putU r.length).length) = r := by
      rw [hb, ← hlen, List.take_left, show pre.length + (putU r.length).length = (pre ++ putU r.length).length by simp, List.drop_left]
    rw [hcut, hb, ← hlen, partsF_framed l f _ _ (fun x hx => hr x (by simp [hx])) (by omega)]
    simp
theorem parts_framed {l : List (List UInt8)} (h : ∀ r ∈ l, r.length < 2 ^ 64) : parts (framed l) = (l, 0) := by
  have := partsF_framed l (framed l).length [] [] h (Nat.le_refl _)
  simpa [parts] using this
theorem framed_take {l : List (List UInt8)} {k : Nat} {x : List UInt8} (h : l[k]? = some x) : framed (l.take (k + 1)) = framed (l.take k) ++ putU x.length ++ x := by
  rw [take_getR h]; simp [framed]
theorem framed_length : ∀ (l : List (List UInt8)), (∀ r ∈ l, r.length < 2 ^ 64) → (framed l).length ≤ l.flatten.length + 10 * l.length
  | [], _ => by simp [framed]
  | x :: l, h => by
    have h1 := framed_length l (fun r hr => h r (by simp [hr]))
    have h2 := putU_le (h x (by simp))
    simp only [framed, List.flatMap_cons, List.length_append, List.flatten_cons, List.length_cons] at h1 ⊢
    omega
theorem framed_take_le (l : List (List UInt8)) (k : Nat) : (framed (l.take k)).length ≤ (framed l).length := by
  have : framed l = framed (l.take k) ++ framed (l.drop k) := by
    rw [framed, framed, framed, ← List.flatMap_append, List.take_append_drop]
  rw [this, List.length_append]; omega
theorem mem_flat {l : List (List UInt8)} {x : List UInt8} (h : x ∈ l) : x.length ≤ l.flatten.length := by
  obtain ⟨k, hk, rfl⟩ := List.getElem_of_mem h
  exact flat_mem (List.getElem?_eq_getElem hk)
end Go.Proofs.Ytcjiecclmepboaa
