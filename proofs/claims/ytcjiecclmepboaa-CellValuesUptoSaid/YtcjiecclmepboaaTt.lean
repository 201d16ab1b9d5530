
/-
  The types of the seat of texts and cells, and small rules for numbers.
-/
import Derived.Test.YtcjiecclmepboaaTy
import Derived.Test.YtcjiecclmepboaaRow
import Derived.Test.YtcjiecclmepboaaStr
namespace Go.Proofs.Ytcjiecclmepboaa
open Go.RowKit
theorem tyI : Row1 Try.prog 23 3 (.int .i64 0) 8 := ⟨Try.underlying23, by kernel_rfl, rfl, by rw [Try.underlying3]⟩
theorem tyR : Row1 Try.prog 94 21 (.int .i32 0) 4 := ⟨Try.underlying94, by kernel_rfl, rfl, by rw [Try.underlying21]⟩
theorem tyT : Row1 Try.prog 96 4 (.bool false) 1 := ⟨Try.underlying96, by kernel_rfl, rfl, by rw [Try.underlying4]⟩
theorem tyS : Row1 Try.prog 41 9 (str []) 16 := ⟨Try.underlying41, by kernel_rfl, rfl, by rw [Try.underlying9]⟩
theorem tyBool : Try.prog.underlying 4 = some .bool := Try.underlying4
theorem tyStr : Try.prog.underlying 9 = some .string := Try.underlying9
section
variable {P : Program} {t : TypeId} {a b : Int}
theorem bin_add32 (h : -2147483648 ≤ a + b ∧ a + b ≤ 2147483647) : BinV P .add t (.int .i32 a) (.int .i32 b) (.int .i32 (a + b)) := bin_add.to (by rw [IntWalk.i32_in _ h])
theorem bin_sub32 (h : -2147483648 ≤ a - b ∧ a - b ≤ 2147483647) : BinV P .sub t (.int .i32 a) (.int .i32 b) (.int .i32 (a - b)) := bin_sub.to (by rw [IntWalk.i32_in _ h])
theorem run_equalIn_bool (w : World) (d : Nat) (p q : Bool) (ht : P.underlying t = some .bool) : (Op.equalIn (d + 1) t (.bool p) (.bool q)).run P w = .ok (decide (p = q)) w := by
  unfold Op.equalIn
  rw [Sem.run_bind, run_underlying ht]
  cases p <;> cases q <;> rfl
theorem bin_eqlB {p q : Bool} (ht : P.underlying t = some .bool) : BinV P .eql t (.bool p) (.bool q) (.bool (decide (p = q))) := .mk fun x y w => by
  have h := run_equalIn_bool w 9999 p q ht
  simp [eqGuard, binOp, Op.equal, Op.maxDepth, h]
theorem bin_neqB {p q : Bool} (ht : P.underlying t = some .bool) : BinV P .neq t (.bool p) (.bool q) (.bool (decide (p ≠ q))) := .mk fun x y w => by
  have h := run_equalIn_bool w 9999 p q ht
  simp [eqGuard, binOp, Op.equal, Op.maxDepth, h]
end
end Go.Proofs.Ytcjiecclmepboaa
