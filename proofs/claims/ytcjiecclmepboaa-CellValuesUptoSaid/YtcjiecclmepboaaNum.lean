
/-
  The engine's rules for numbers: conversions, quotients, bits, shifts; natural numbers as the values of unsigned kinds. Nothing here names the program.
-/
import Derived.Test.YtcjiecclmepboaaEng
namespace Go.Proofs.Ytcjiecclmepboaa
open Go.RowKit

theorem wrap_uns {k : IntKind} (hk : k.signed = false) (q : Int) : k.wrap q = q % (2 ^ k.bits : Int) := by
  simp [IntKind.wrap, hk]
theorem wrap_nat {k : IntKind} (hk : k.signed = false) (n : Nat) : k.wrap (n : Int) = ((n % 2 ^ k.bits : Nat) : Int) := by
  rw [wrap_uns hk]; simp
theorem wrap_small {k : IntKind} (hk : k.signed = false) {n : Nat} (h : n < 2 ^ k.bits) : k.wrap (n : Int) = (n : Int) := by
  rw [wrap_nat hk, Nat.mod_eq_of_lt h]
theorem ofInt_nat (b n : Nat) : BitVec.ofInt b (n : Int) = BitVec.ofNat b n := by simp

section
variable {P : Program} {L : FL} {w : World} {t ty : TypeId} {k : IntKind}

theorem OpV.to {op : Op} {w' : World} {v u : Value} (h : OpV P op ty L w v w') (e : v = u) : OpV P op ty L w u w' := e ▸ h
theorem opv_conv {src dst : TypeId} {x : Operand} {k0 : IntKind} {q : Int} {ds : TypeDesc} (hx : look L x = some (.int k0 q)) (hs : P.underlying src = some ds) (hd : P.underlying dst = some (.int k)) :
    OpV P (.convert src dst x) ty L w (.int k (k.wrap q)) w := fun ρ o hρ ho _ => by
  unfold execOp
  simp only [ho, hρ x _ hx, convert, Sem.run_bind, run_underlying hs, run_underlying hd, Result.andThen_ok, Conv.intToInt]
  simp
theorem opv_convR {src dst : TypeId} {x : Operand} {k0 : IntKind} {q r : Int} {ds : TypeDesc} (hx : look L x = some (.int k0 q)) (hs : P.underlying src = some ds) (hd : P.underlying dst = some (.int k)) (hr : k.wrap q = r) :
    OpV P (.convert src dst x) ty L w (.int k r) w := hr ▸ opv_conv hx hs hd
end

section
variable {P : Program} {t : TypeId} {k : IntKind}
theorem bin_bits (op : BinOp) (hop : op = .and ∨ op = .or ∨ op = .xor ∨ op = .andNot) {x y : Int} {r : Value} (h : ∀ w, (Op.intBits op k x y).run P w = .ok r w) : BinV P op t (.int k x) (.int k y) r := .mk fun u v w => by
  rcases hop with rfl | rfl | rfl | rfl <;> simpa [eqGuard, binOp] using h w
theorem bin_and {a b : Nat} (hk : k.signed = false) (ha : a < 2 ^ k.bits) (hb : b < 2 ^ k.bits) : BinV P .and t (.int k (a : Int)) (.int k (b : Int)) (.int k ((a &&& b : Nat) : Int)) :=
  bin_bits .and (.inl rfl) fun w => by
    have h : a &&& b < 2 ^ k.bits := Nat.lt_of_le_of_lt Nat.and_le_left ha
    simp only [Op.intBits, ofInt_nat, BitVec.toNat_and, BitVec.toNat_ofNat, Nat.mod_eq_of_lt ha, Nat.mod_eq_of_lt hb, wrap_small hk h]; rfl
theorem bin_or {a b : Nat} (hk : k.signed = false) (ha : a < 2 ^ k.bits) (hb : b < 2 ^ k.bits) : BinV P .or t (.int k (a : Int)) (.int k (b : Int)) (.int k ((a ||| b : Nat) : Int)) :=
  bin_bits .or (.inr (.inl rfl)) fun w => by
    have h : a ||| b < 2 ^ k.bits := Nat.or_lt_two_pow ha hb
    simp only [Op.intBits, ofInt_nat, BitVec.toNat_or, BitVec.toNat_ofNat, Nat.mod_eq_of_lt ha, Nat.mod_eq_of_lt hb, wrap_small hk h]; rfl
theorem bin_xor {a b : Nat} (hk : k.signed = false) (ha : a < 2 ^ k.bits) (hb : b < 2 ^ k.bits) : BinV P .xor t (.int k (a : Int)) (.int k (b : Int)) (.int k ((a ^^^ b : Nat) : Int)) :=
  bin_bits .xor (.inr (.inr (.inl rfl))) fun w => by
    have h : a ^^^ b < 2 ^ k.bits := Nat.xor_lt_two_pow ha hb
    simp only [Op.intBits, ofInt_nat, BitVec.toNat_xor, BitVec.toNat_ofNat, Nat.mod_eq_of_lt ha, Nat.mod_eq_of_lt hb, wrap_small hk h]; rfl
theorem bin_andNot {a b : Nat} (hk : k.signed = false) (ha : a < 2 ^ k.bits) (hb : b < 2 ^ k.bits) : BinV P .andNot t (.int k (a : Int)) (.int k (b : Int)) (.int k ((a &&& (2 ^ k.bits - 1 - b) : Nat) : Int)) :=
  bin_bits .andNot (.inr (.inr (.inr rfl))) fun w => by
    have h : a &&& (2 ^ k.bits - 1 - b) < 2 ^ k.bits := Nat.lt_of_le_of_lt Nat.and_le_left ha
    simp only [Op.intBits, ofInt_nat, BitVec.toNat_and, BitVec.toNat_not, BitVec.toNat_ofNat, Nat.mod_eq_of_lt ha, Nat.mod_eq_of_lt hb, wrap_small hk h]; rfl
theorem bin_shr {x y : Nat} {yk : IntKind} (hx : x < 2 ^ k.bits) : BinV P .shr t (.int k (x : Int)) (.int yk (y : Int)) (.int k ((x / 2 ^ y : Nat) : Int)) := .mk fun u v w => by
  have h : ((x : Int).fdiv (2 ^ min y k.bits)) = ((x / 2 ^ y : Nat) : Int) := by
    rw [Int.fdiv_eq_ediv_of_nonneg _ (Int.le_of_lt (Int.pow_pos (by decide)))]
    rcases Nat.le_total y k.bits with h | h
    · rw [Nat.min_eq_left h]; simp
    · rw [Nat.min_eq_right h]
      have h1 : x / 2 ^ k.bits = 0 := Nat.div_eq_of_lt hx
      have h2 : x / 2 ^ y = 0 := Nat.div_eq_of_lt (Nat.lt_of_lt_of_le hx (Nat.pow_le_pow_right (by decide) h))
      rw [h2]
      have : ((x : Int) / 2 ^ k.bits) = ((x / 2 ^ k.bits : Nat) : Int) := by simp
      rw [this, h1]
  have h0 : ¬ (y : Int) < 0 := by omega
  simp only [eqGuard, binOp, Op.shift, h0, if_false, Int.toNat_natCast, h]
  simp
theorem bin_shl {x y : Nat} {yk : IntKind} (hk : k.signed = false) : BinV P .shl t (.int k (x : Int)) (.int yk (y : Int)) (.int k ((x * 2 ^ y % 2 ^ k.bits : Nat) : Int)) := .mk fun u v w => by
  have h : k.wrap ((x : Int) * 2 ^ min y k.bits) = ((x * 2 ^ y % 2 ^ k.bits : Nat) : Int) := by
    have : ((x : Int) * 2 ^ min y k.bits) = ((x * 2 ^ min y k.bits : Nat) : Int) := by simp
    rw [this, wrap_nat hk]
    rcases Nat.le_total y k.bits with h | h
    · rw [Nat.min_eq_left h]
    · rw [Nat.min_eq_right h, Nat.mul_mod_left]
      obtain ⟨d, rfl⟩ := Nat.exists_eq_add_of_le h
      rw [Nat.pow_add, ← Nat.mul_assoc, Nat.mul_right_comm, Nat.mul_mod_left]
  have h0 : ¬ (y : Int) < 0 := by omega
  simp only [eqGuard, binOp, Op.shift, h0, if_false, Int.toNat_natCast, h]
  simp
theorem bin_addU {a b : Nat} (hk : k.signed = false) : BinV P .add t (.int k (a : Int)) (.int k (b : Int)) (.int k (((a + b) % 2 ^ k.bits : Nat) : Int)) := bin_add.to (by
  have : (a : Int) + b = ((a + b : Nat) : Int) := by simp
  rw [this, wrap_nat hk])
theorem bin_mulU {a b : Nat} (hk : k.signed = false) : BinV P .mul t (.int k (a : Int)) (.int k (b : Int)) (.int k (((a * b) % 2 ^ k.bits : Nat) : Int)) := bin_mul.to (by
  have : (a : Int) * b = ((a * b : Nat) : Int) := by simp
  rw [this, wrap_nat hk])
theorem bin_subU {a b : Nat} (hk : k.signed = false) (hb : b ≤ 2 ^ k.bits) : BinV P .sub t (.int k (a : Int)) (.int k (b : Int)) (.int k (((a + (2 ^ k.bits - b)) % 2 ^ k.bits : Nat) : Int)) := bin_sub.to (by
  have : ((a : Int) - b) % (2 ^ k.bits : Int) = (((a + (2 ^ k.bits - b)) % 2 ^ k.bits : Nat) : Int) := by
    have e : ((a + (2 ^ k.bits - b) : Nat) : Int) = (a : Int) - b + (2 ^ k.bits : Int) := by
      rw [Int.natCast_add, Int.ofNat_sub hb]; simp; omega
    rw [Int.natCast_emod, e]; simp
  rw [wrap_uns hk, this])
theorem bin_quo {a b : Nat} (hb : 0 < b) (hr : k.wrap ((a / b : Nat) : Int) = ((a / b : Nat) : Int)) : BinV P .quo t (.int k (a : Int)) (.int k (b : Int)) (.int k ((a / b : Nat) : Int)) := .mk fun u v w => by
  have h0 : ¬ (b : Int) = 0 := by omega
  have h0' : ¬ b = 0 := by omega
  have h1 : (a : Int).tdiv b = ((a / b : Nat) : Int) := by rw [Int.tdiv_eq_ediv_of_nonneg (by omega)]; simp
  simp [eqGuard, binOp, Op.intDiv, h0', h1, -Int.natCast_ediv, hr]
theorem bin_rem {a b : Nat} (hb : 0 < b) : BinV P .rem t (.int k (a : Int)) (.int k (b : Int)) (.int k ((a % b : Nat) : Int)) := .mk fun u v w => by
  have h0' : ¬ b = 0 := by omega
  have h1 : (a : Int).tmod b = ((a % b : Nat) : Int) := by rw [Int.tmod_eq_emod_of_nonneg (by omega)]; simp
  simp [eqGuard, binOp, Op.intDiv, h0', h1, -Int.natCast_emod]
theorem bin_mulN {a b : Nat} (h : a * b ≤ 9223372036854775807) : BinV P .mul t (.int .i64 (a : Int)) (.int .i64 (b : Int)) (.int .i64 ((a * b : Nat) : Int)) := (bin_mul64 (by
  have : (a : Int) * b = ((a * b : Nat) : Int) := by simp
  omega)).to (by simp)
theorem bin_addN {a b : Nat} (h : a + b ≤ 9223372036854775807) : BinV P .add t (.int .i64 (a : Int)) (.int .i64 (b : Int)) (.int .i64 ((a + b : Nat) : Int)) := (bin_add64 (by omega)).to (by simp)
theorem bin_subN {a b : Nat} (hb : b ≤ a) (h : a ≤ 9223372036854775807) : BinV P .sub t (.int .i64 (a : Int)) (.int .i64 (b : Int)) (.int .i64 ((a - b : Nat) : Int)) := (bin_sub64 (by omega)).to (by simp; omega)
theorem bin_addU' {a b : Nat} (hk : k.signed = false) (h : a + b < 2 ^ k.bits) : BinV P .add t (.int k (a : Int)) (.int k (b : Int)) (.int k ((a + b : Nat) : Int)) := (bin_addU hk).to (by rw [Nat.mod_eq_of_lt h])
theorem bin_mulU' {a b : Nat} (hk : k.signed = false) (h : a * b < 2 ^ k.bits) : BinV P .mul t (.int k (a : Int)) (.int k (b : Int)) (.int k ((a * b : Nat) : Int)) := (bin_mulU hk).to (by rw [Nat.mod_eq_of_lt h])
theorem bin_subU' {a b : Nat} (hk : k.signed = false) (hb : b ≤ a) (h : a < 2 ^ k.bits) : BinV P .sub t (.int k (a : Int)) (.int k (b : Int)) (.int k ((a - b : Nat) : Int)) := (bin_sub.to (by
  have : (a : Int) - b = ((a - b : Nat) : Int) := by omega
  rw [this, wrap_small hk (by omega)]))
theorem run_equalIn_slice (w : World) (d : Nat) {e : TypeId} (A : Option Addr) (n c : Nat) (ht : P.underlying t = some (.slice e)) : (Op.equalIn (d + 1) t (.slice A n c) (.slice none 0 0)).run P w = .ok A.isNone w := by
  cases A <;> simp [Op.equalIn, run_underlying ht]
theorem bin_eqlSliceNil {e : TypeId} {A : Option Addr} {n c : Nat} (ht : P.underlying t = some (.slice e)) : BinV P .eql t (.slice A n c) (.slice none 0 0) (.bool A.isNone) := .mk fun x y w => by
  simp only [eqGuard, binOp]
  simp [Op.equal, Op.maxDepth, run_equalIn_slice w 9999 A n c ht]
theorem bin_neqSliceNil {e : TypeId} {A : Option Addr} {n c : Nat} (ht : P.underlying t = some (.slice e)) : BinV P .neq t (.slice A n c) (.slice none 0 0) (.bool (!A.isNone)) := .mk fun x y w => by
  simp only [eqGuard, binOp]
  simp [Op.equal, Op.maxDepth, run_equalIn_slice w 9999 A n c ht]
end
end Go.Proofs.Ytcjiecclmepboaa
