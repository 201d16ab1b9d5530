
/-
  Rows of values of any type, and of cells.
-/
import Derived.Test.YtcjiecclmepboaaSk
import Derived.Test.YtcjiecclmepboaaGf
import Derived.Test.YtcjiecclmepboaaWm
import Derived.Test.YtcjiecclmepboaaTk
namespace Go.Proofs.Ytcjiecclmepboaa
open Go.RowKit

theorem tyA : Row1 Try.prog 47 20 .nilIface 16 := ⟨Try.underlying47, by kernel_rfl, rfl, by rw [Try.underlying20]⟩
theorem tkA : RowK Try.prog 47 20 1 .nilIface 16 := ⟨Try.underlying47, by kernel_rfl, rfl, by decide⟩
theorem tkC : RowK Try.prog 46 53 5 (.agg zC.toArray) 64 := ⟨Try.underlying46, by kernel_rfl, by simp [zC, Value.cells], by decide⟩
/-- A cell that holds a value, one that holds a cell of values. -/
def vaEl (u : Va) : El where
  P w S cs := ∃ (A : Option Addr) (c : Nat), cs = [vaV u A c] ∧ (byEl (vaC u).data).P w S [.slice A (vaC u).data.length c]
  move := by rintro w w' S S' cs ⟨A, c, h, hb⟩ hz hm; exact ⟨A, c, h, El.move _ hb hz hm⟩
def ceEl (x : Ce) : El where
  P w S cs := ∃ (A : Option Addr) (c : Nat), cs = ceV x A c ∧ (byEl x.data).P w S [.slice A x.data.length c]
  move := by rintro w w' S S' cs ⟨A, c, h, hb⟩ hz hm; exact ⟨A, c, h, El.move _ hb hz hm⟩
theorem byEl.rd {w : World} {S : Nat → Prop} {xs : List UInt8} {A : Option Addr} {c : Nat} (h : (byEl xs).P w S [.slice A xs.length c]) : RdB w A xs ∧ xs.length ≤ c := by
  obtain ⟨A', c', h1, h2, h3, _⟩ := h
  simp only [List.cons.injEq, Value.slice.injEq, and_true] at h1
  obtain ⟨rfl, _, rfl⟩ := h1
  exact ⟨h3, h2⟩
theorem byEl.own {w : World} {base : Nat} {S : Nat → Prop} {xs : List UInt8} {A : Option Addr} {c : Nat} (h : OwB w base A c xs) (hs : ∀ a, A = some a → base ≤ a.block → a.block < w.heap.size → S a.block) : (byEl xs).P w S [.slice A xs.length c] :=
  byEl.mk h.rd h.cap fun a ha _ => by have := Ow.lt h a ha; exact hs a ha this.1 this.2
theorem vaV_one (u : Va) (A : Option Addr) (c : Nat) : (vaV u A c).oneCell' = true := by cases u <;> rfl
theorem ceV_one (x : Ce) (A : Option Addr) (c : Nat) : ∀ v ∈ ceV x A c, v.oneCell' = true := by simp [ceV, Value.oneCell']
/-- What a value must be to be written. -/
structure VaOk (u : Va) : Prop where
  num : -9223372036854775808 ≤ (vaC u).num ∧ (vaC u).num ≤ 9223372036854775807
  text : (vaC u).text.length ≤ 68719476736
  data : (vaC u).data.length ≤ 68719476736
/-- A value's key. -/
def key1 : Va → List UInt8
  | .nil => [0]
  | .bool b => [1, if b then 1 else 0]
  | .int n => 2 :: ordU (lift n)
  | .text s => 3 :: keyB s
  | .bytes d => 4 :: ordText d
def keysB (us : List Va) : List UInt8 := us.flatMap key1
theorem keysB_take {us : List Va} {k : Nat} {u : Va} (h : us[k]? = some u) : keysB (us.take (k + 1)) = keysB (us.take k) ++ key1 u := by
  rw [take_getR h]; simp [keysB]
theorem keysB_le (us : List Va) (k : Nat) : (keysB (us.take k)).length ≤ (keysB us).length := by
  have := congrArg List.length (show keysB (us.take k) ++ keysB (us.drop k) = keysB us by rw [keysB, keysB, ← List.flatMap_append, List.take_append_drop]; rfl)
  simp at this; omega
end Go.Proofs.Ytcjiecclmepboaa
