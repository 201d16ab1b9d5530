/-
  Plain laws of the sum: what a step of the division does, that it keeps differences, and that no change within 32 bits of one another goes unseen. No program in sight.
-/
import Derived.Lib.Hide
namespace Go.Proofs.Ytdppekhnahnjjaa

def stepC (x : Nat) : Nat := if x % 2 = 1 then (x / 2) ^^^ 3988292384 else x / 2
def stepsC : Nat → Nat → Nat
  | 0, x => x
  | k + 1, x => stepsC k (stepC x)
def eightC (x : Nat) : Nat := stepsC 8 x
def crcRaw (x : Nat) (l : List UInt8) : Nat := l.foldl (fun x b => eightC (x ^^^ b.toNat)) x
def crcOf (l : List UInt8) : Nat := 4294967295 - crcRaw 4294967295 l

theorem stepC_odd {x : Nat} (h : x % 2 = 1) : stepC x = (x / 2) ^^^ 3988292384 := by rw [stepC, if_pos h]
theorem stepC_even {x : Nat} (h : ¬ x % 2 = 1) : stepC x = x / 2 := by rw [stepC, if_neg h]
theorem xor_div2 (a b : Nat) : (a ^^^ b) / 2 = a / 2 ^^^ b / 2 := by
  have := Nat.shiftRight_xor_distrib (a := a) (b := b) (i := 1)
  simpa [Nat.shiftRight_succ] using this
theorem xor_mod2 (a b : Nat) : (a ^^^ b) % 2 = (a + b) % 2 := by
  have h := Nat.testBit_xor a b 0
  simp only [Nat.testBit_zero] at h
  rcases Nat.mod_two_eq_zero_or_one a with ha | ha <;> rcases Nat.mod_two_eq_zero_or_one b with hb | hb <;> rcases Nat.mod_two_eq_zero_or_one (a ^^^ b) with hc | hc <;> simp [ha, hb, hc] at h <;> omega
theorem step_xor (a b : Nat) : stepC (a ^^^ b) = stepC a ^^^ stepC b := by
  have hm := xor_mod2 a b
  have hd := xor_div2 a b
  by_cases ha : a % 2 = 1
  · by_cases hb : b % 2 = 1
    · rw [stepC_even (by omega), stepC_odd ha, stepC_odd hb, hd]
      rw [Nat.xor_assoc, Nat.xor_comm 3988292384 (b / 2 ^^^ 3988292384), Nat.xor_assoc, Nat.xor_self, Nat.xor_zero]
    · rw [stepC_odd (by omega), stepC_odd ha, stepC_even hb, hd]
      rw [Nat.xor_assoc, Nat.xor_assoc, Nat.xor_comm (b / 2)]
  · by_cases hb : b % 2 = 1
    · rw [stepC_odd (by omega), stepC_even ha, stepC_odd hb, hd, Nat.xor_assoc]
    · rw [stepC_even (by omega), stepC_even ha, stepC_even hb, hd]
theorem steps_xor : ∀ (k a b : Nat), stepsC k (a ^^^ b) = stepsC k a ^^^ stepsC k b
  | 0, _, _ => rfl
  | k + 1, a, b => by simp only [stepsC]; rw [step_xor, steps_xor k]
theorem steps_add : ∀ (k m a : Nat), stepsC (k + m) a = stepsC m (stepsC k a)
  | 0, m, a => by rw [Nat.zero_add]; rfl
  | k + 1, m, a => by rw [show k + 1 + m = (k + m) + 1 by omega]; simp only [stepsC]; rw [steps_add k m]
theorem steps_zero : ∀ (k : Nat), stepsC k 0 = 0
  | 0 => rfl
  | k + 1 => by simp only [stepsC]; rw [show stepC 0 = 0 from rfl, steps_zero k]
theorem step_lt {x : Nat} (h : x < 4294967296) : stepC x < 4294967296 := by
  unfold stepC
  split
  · exact Nat.xor_lt_two_pow (n := 32) (by omega) (by decide)
  · omega
theorem steps_lt : ∀ (k : Nat) {x : Nat}, x < 4294967296 → stepsC k x < 4294967296
  | 0, _, h => h
  | k + 1, _, h => steps_lt k (step_lt h)
theorem steps_shift : ∀ (k m : Nat), stepsC k (m * 2 ^ k) = m
  | 0, m => by simp [stepsC]
  | k + 1, m => by
    have e : m * 2 ^ (k + 1) = 2 * (m * 2 ^ k) := by rw [Nat.pow_succ, ← Nat.mul_assoc, Nat.mul_comm]
    simp only [stepsC]
    rw [e, stepC_even (by omega), Nat.mul_div_cancel_left _ (by decide), steps_shift k]
theorem step_ne {x : Nat} (h : x < 4294967296) (h0 : x ≠ 0) : stepC x ≠ 0 := by
  intro hc
  by_cases ho : x % 2 = 1
  · rw [stepC_odd ho] at hc
    have e : x / 2 = 3988292384 := by
      have := congrArg (· ^^^ 3988292384) hc
      simpa [Nat.xor_assoc] using this
    omega
  · rw [stepC_even ho] at hc; omega
theorem steps_ne : ∀ (k : Nat) {x : Nat}, x < 4294967296 → x ≠ 0 → stepsC k x ≠ 0
  | 0, _, _, h => h
  | k + 1, _, h, h0 => steps_ne k (step_lt h) (step_ne h h0)
/-- A burst of 32 bits, wherever it begins, is never lost. -/
theorem burst_ne {n a d : Nat} (hd : d < 4294967296) (h0 : d ≠ 0) (ha : a ≤ n) : stepsC n (d * 2 ^ a) ≠ 0 := by
  obtain ⟨m, rfl⟩ := Nat.exists_eq_add_of_le ha
  rw [steps_add, steps_shift]
  exact steps_ne m hd h0
theorem xor_low (q r : Nat) (hr : r < 256) : q * 256 ^^^ r = q * 256 + r := by
  have h1 : (q * 256 ^^^ r) / 256 = q := by
    have := Nat.shiftRight_xor_distrib (a := q * 256) (b := r) (i := 8)
    simp only [Nat.shiftRight_eq_div_pow] at this
    rw [show (2 : Nat) ^ 8 = 256 from rfl, Nat.mul_div_cancel _ (by decide), Nat.div_eq_of_lt hr, Nat.xor_zero] at this
    exact this
  have h2 : (q * 256 ^^^ r) % 256 = r := by
    have := Nat.xor_mod_two_pow (a := q * 256) (b := r) (n := 8)
    rw [show (2 : Nat) ^ 8 = 256 from rfl, Nat.mul_mod_left, Nat.zero_xor, Nat.mod_eq_of_lt hr] at this
    exact this
  omega
theorem eight_high (q : Nat) : eightC (q * 256) = q := steps_shift 8 q
/-- A byte's entry does for it. -/
theorem eight_split (x : Nat) (b : UInt8) : eightC (x ^^^ b.toNat) = x / 256 ^^^ eightC (x % 256 ^^^ b.toNat) := by
  have e : x = x / 256 * 256 ^^^ x % 256 := by rw [xor_low _ _ (Nat.mod_lt _ (by decide))]; omega
  have e2 : eightC (x ^^^ b.toNat) = eightC (x / 256 * 256 ^^^ (x % 256 ^^^ b.toNat)) := by
    rw [← Nat.xor_assoc, ← e]
  rw [e2]
  unfold eightC
  rw [steps_xor]
  congr 1
  exact eight_high (x / 256)
theorem eight_lt {x : Nat} (h : x < 4294967296) : eightC x < 4294967296 := steps_lt 8 h
theorem xorb_lt {x : Nat} (h : x < 4294967296) (b : UInt8) : x ^^^ b.toNat < 4294967296 :=
  Nat.xor_lt_two_pow (n := 32) h (Nat.lt_trans b.toNat_lt (by decide))
theorem raw_cons (x : Nat) (b : UInt8) (l : List UInt8) : crcRaw x (b :: l) = crcRaw (eightC (x ^^^ b.toNat)) l := rfl
theorem raw_snoc (x : Nat) (b : UInt8) (l : List UInt8) : crcRaw x (l ++ [b]) = eightC (crcRaw x l ^^^ b.toNat) := by simp [crcRaw]
theorem raw_append (x : Nat) (l m : List UInt8) : crcRaw x (l ++ m) = crcRaw (crcRaw x l) m := by simp [crcRaw]
theorem raw_lt : ∀ (l : List UInt8) {x : Nat}, x < 4294967296 → crcRaw x l < 4294967296
  | [], _, h => h
  | b :: l, _, h => raw_lt l (eight_lt (xorb_lt h b))
theorem crcOf_lt (l : List UInt8) : crcOf l < 4294967296 := by unfold crcOf; omega

/-- Bytes as one number, the lowest first. -/
def low : List UInt8 → Nat
  | [] => 0
  | b :: l => low l * 256 + b.toNat
theorem raw_low : ∀ (l : List UInt8) (x : Nat), crcRaw x l = stepsC (8 * l.length) (x ^^^ low l)
  | [], x => by simp [crcRaw, low, stepsC]
  | b :: l, x => by
    have hb := b.toNat_lt
    rw [raw_cons, raw_low l, List.length_cons, show 8 * (l.length + 1) = 8 + 8 * l.length by omega, steps_add]
    congr 1
    rw [low, ← xor_low _ _ hb, Nat.xor_comm (low l * 256), ← Nat.xor_assoc, steps_xor]
    congr 1
    exact (eight_high _).symm
theorem raw_diff (x : Nat) {l m : List UInt8} (h : l.length = m.length) : crcRaw x l ^^^ crcRaw x m = stepsC (8 * l.length) (low l ^^^ low m) := by
  rw [raw_low, raw_low, ← h, ← steps_xor]
  congr 1
  rw [Nat.xor_comm x (low l), Nat.xor_assoc, ← Nat.xor_assoc x x, Nat.xor_self, Nat.zero_xor]
theorem low_set : ∀ (l : List UInt8) (i j : Nat) (x : UInt8), l[i]? = some x → j < 8 → low (l.set i (UInt8.ofNat (x.toNat ^^^ 2 ^ j))) = low l ^^^ 2 ^ (8 * i + j)
  | [], _, _, _, h, _ => by simp at h
  | b :: l, 0, j, x, h, hj => by
    simp only [List.getElem?_cons_zero, Option.some.injEq] at h
    subst h
    have hp : 2 ^ j < 256 := Nat.lt_of_lt_of_le (Nat.pow_lt_pow_right (by decide) hj) (by decide)
    have hx : b.toNat ^^^ 2 ^ j < 256 := Nat.xor_lt_two_pow (n := 8) b.toNat_lt hp
    simp only [List.set_cons_zero, low]
    have ex : (UInt8.ofNat (b.toNat ^^^ 2 ^ j)).toNat = b.toNat ^^^ 2 ^ j := by rw [UInt8.toNat_ofNat']; exact Nat.mod_eq_of_lt hx
    rw [ex, ← xor_low _ _ hx, ← xor_low _ _ b.toNat_lt, Nat.xor_assoc]
    simp
  | b :: l, i + 1, j, x, h, hj => by
    simp only [List.getElem?_cons_succ] at h
    simp only [List.set_cons_succ, low]
    rw [low_set l i j x h hj, ← xor_low _ _ b.toNat_lt, ← xor_low _ _ b.toNat_lt]
    have e : (low l ^^^ 2 ^ (8 * i + j)) * 256 = low l * 256 ^^^ 2 ^ (8 * (i + 1) + j) := by
      have h1 : ∀ a b : Nat, (a ^^^ b) * 256 = a * 256 ^^^ b * 256 := fun a b => by
        have := Nat.shiftLeft_xor_distrib (a := a) (b := b) (i := 8)
        simpa only [Nat.shiftLeft_eq] using this
      rw [h1, show 8 * (i + 1) + j = (8 * i + j) + 8 by omega, Nat.pow_add 2 (8 * i + j) 8]
    rw [e, Nat.xor_assoc, Nat.xor_comm (2 ^ (8 * (i + 1) + j)), ← Nat.xor_assoc]
end Go.Proofs.Ytdppekhnahnjjaa
