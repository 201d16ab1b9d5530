/-
  Plain laws of bursts: bits that are turned within 32 of one another are seen by the sum, in a record too. No program in sight.
-/
import Derived.Test.YtdppekhnahnjjaaPg
namespace Go.Proofs.Ytdppekhnahnjjaa

theorem xor_lowk (q r k : Nat) (hr : r < 2 ^ k) : q * 2 ^ k ^^^ r = q * 2 ^ k + r := by
  have hp : 0 < 2 ^ k := Nat.two_pow_pos k
  have h1 : (q * 2 ^ k ^^^ r) / 2 ^ k = q := by
    have := Nat.shiftRight_xor_distrib (a := q * 2 ^ k) (b := r) (i := k)
    simp only [Nat.shiftRight_eq_div_pow] at this
    rw [Nat.mul_div_cancel _ hp, Nat.div_eq_of_lt hr, Nat.xor_zero] at this
    exact this
  have h2 : (q * 2 ^ k ^^^ r) % 2 ^ k = r := by
    have := Nat.xor_mod_two_pow (a := q * 2 ^ k) (b := r) (n := k)
    rw [Nat.mul_mod_left, Nat.zero_xor, Nat.mod_eq_of_lt hr] at this
    exact this
  have h3 := Nat.div_add_mod (q * 2 ^ k ^^^ r) (2 ^ k)
  rw [h1, h2, Nat.mul_comm] at h3
  exact h3.symm
theorem xor_mulp (a b p : Nat) : (a ^^^ b) * 2 ^ p = a * 2 ^ p ^^^ b * 2 ^ p := by
  have := Nat.shiftLeft_xor_distrib (a := a) (b := b) (i := p)
  simpa only [Nat.shiftLeft_eq] using this
theorem mask_step {n k p : Nat} (h : n / 2 ^ k % 2 = 1) : n % 2 ^ k * 2 ^ p ^^^ 2 ^ (p + k) = n % 2 ^ (k + 1) * 2 ^ p := by
  have e : n % 2 ^ (k + 1) = 1 * 2 ^ k ^^^ n % 2 ^ k := by
    rw [xor_lowk _ _ _ (Nat.mod_lt _ (Nat.two_pow_pos k)), Nat.mod_pow_succ, h, Nat.mul_one, Nat.one_mul, Nat.add_comm]
  rw [e, xor_mulp, Nat.one_mul, ← Nat.pow_add, Nat.add_comm k p, Nat.xor_comm]
theorem mask_keep {n k : Nat} (h : ¬ n / 2 ^ k % 2 = 1) : n % 2 ^ (k + 1) = n % 2 ^ k := by
  rw [Nat.mod_pow_succ, show n / 2 ^ k % 2 = 0 by omega, Nat.mul_zero, Nat.add_zero]
theorem burst_raw {l m : List UInt8} {n p : Nat} (hn : n < 4294967296) (h0 : n ≠ 0) (hlen : l.length = m.length) (hp : p ≤ 8 * l.length) (hl : low l = low m ^^^ n * 2 ^ p) (x : Nat) : crcRaw x l ≠ crcRaw x m := fun h => by
  have h1 := raw_diff x hlen
  rw [h, Nat.xor_self, hl, Nat.xor_comm (low m), Nat.xor_assoc, Nat.xor_self, Nat.xor_zero] at h1
  exact burst_ne hn h0 hp h1.symm
theorem burst_crc {l m : List UInt8} {n p : Nat} (hn : n < 4294967296) (h0 : n ≠ 0) (hlen : l.length = m.length) (hp : p ≤ 8 * l.length) (hl : low l = low m ^^^ n * 2 ^ p) (a : List UInt8) : crcOf (a ++ l) ≠ crcOf (a ++ m) := fun h => by
  have h1 := burst_raw hn h0 hlen hp hl (crcRaw 4294967295 a)
  rw [← raw_append, ← raw_append] at h1
  have h2 : crcRaw 4294967295 (a ++ l) < 4294967296 := raw_lt _ (by decide)
  have h3 : crcRaw 4294967295 (a ++ m) < 4294967296 := raw_lt _ (by decide)
  unfold crcOf at h
  omega
/-- A record whose sum isn't its body's. -/
theorem openB_bad {b : List UInt8} {s : Nat} (h : b.length ≤ 1048576) (hs : s < 4294967296) (hne : crcOf (four b.length ++ b) ≠ s) : openB (four b.length ++ (four s ++ b)) 0 = ([], 0, 4) := by
  obtain ⟨y, hy⟩ : ∃ y, four b.length ++ (four s ++ b) = y := ⟨_, rfl⟩
  rw [hy]
  have e1 : y.take 4 = four b.length := by rw [← hy, List.take_append_of_le_length (by rw [four_length]; omega), List.take_of_length_le (by rw [four_length]; omega)]
  have e2 : numB (y.take 4) = b.length := by rw [e1, numB_four (by omega)]
  have e3 : (y.drop 4).take 4 = four s := by
    rw [← hy, List.drop_append_of_le_length (by rw [four_length]; omega), List.drop_of_length_le (by rw [four_length]; omega), List.nil_append,
      List.take_append_of_le_length (by rw [four_length]; omega), List.take_of_length_le (by rw [four_length]; omega)]
  have hl : y.length = 8 + b.length := by rw [← hy]; simp [four_length]; omega
  have e4 : (y.take (8 + b.length)).drop 8 = b := by
    rw [List.take_of_length_le (by omega), ← hy, ← List.append_assoc, List.drop_append_of_le_length (by simp [four_length]), List.drop_of_length_le (by simp [four_length]), List.nil_append]
  have ho : openH y = ([], 4) := openH_sum (by omega) (by omega) (by omega) (by rw [e2, e3, e4, e1, numB_four hs]; exact hne)
  exact openB_err (q := 0) (by omega) (by rw [List.drop_zero]; exact ho) (by decide)
end Go.Proofs.Ytdppekhnahnjjaa
