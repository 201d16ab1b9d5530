
/-
  The engine's rules for structs in memory and pointers: the address of a field, the test for nil, pointers held against one another. Nothing here names the program.
-/
import Derived.Test.YtcjiecclmepboaaArr
import Derived.Lib.Builder
namespace Go.Proofs.Ytcjiecclmepboaa
open Go.RowKit

section
variable {P : Program} {N : Nat} {ops : Array Oper} {Q : Exit → Act → World → Prop} {rest : List Oper} {L : FL} {w w' : World} {t e : TypeId}
theorem opv_nilOk {x : Operand} {ty : TypeId} {a : Addr} (hx : look L x = some (.pointer (some a))) : OpV P (.nilCheck x) ty L w (.pointer (some a)) w := fun ρ o hρ ho _ => by
  simp [execOp, ho, hρ x _ hx]
/-- Field k of struct type t lies off cells behind its beginning. -/
def FieldAt (P : Program) (t : TypeId) (k off : Nat) : Prop := ∀ (a : Addr) (w : World), (Instr.fieldAt t (.pointer (some a)) k).run P w = .ok (.pointer (some (a.add off))) w
theorem fieldAt_mk {fs : Array Field} {f : Field} {k off : Nat} (hu : P.underlying t = some (.struct fs)) (hf : fs[k]? = some f) (ho : f.offset = off) (hs : ((P.info? f.type).map fun i => decide (i.size = 0)) = some false) : FieldAt P t k off := fun a w => by
  cases hq : P.info? f.type with
  | none => simp [hq] at hs
  | some i =>
    have h0 : ¬ i.size = 0 := by simpa [hq] using hs
    subst ho
    simp [Instr.fieldAt, run_underlying hu, hf, Instr.sureAddr, fieldPlace, sizeOf, typeInfo, hq, h0]
theorem opv_fa {x : Operand} {ty : TypeId} {k off b o : Nat} (F : FieldAt P t k off) (hx : look L x = some (.pointer (some ⟨b, o, none⟩))) : OpV P (.fieldAddr t x k) ty L w (.pointer (some ⟨b, o + off, none⟩)) w := fun ρ op hρ ho _ => by
  have := F ⟨b, o, none⟩ w
  rw [Addr.add_lit] at this
  unfold execOp
  simp only [ho, hρ x _ hx, Sem.run_bind, this]
  simp
theorem bin_eqlPtrNil {te : TypeId} {a : Addr} (ht : P.underlying t = some (.pointer te)) : BinV P .eql t (.pointer (some a)) (.pointer none) (.bool false) := .mk fun x y w => by
  have h : ∀ d : Nat, (Op.equalIn (d + 1) t (.pointer (some a)) (.pointer none)).run P w = .ok false w := fun d => by simp [Op.equalIn, run_underlying ht]
  simp [eqGuard, binOp, Op.equal, Op.maxDepth, h 9999]
theorem bin_eqlNilNil {te : TypeId} (ht : P.underlying t = some (.pointer te)) : BinV P .eql t (.pointer none) (.pointer none) (.bool true) := .mk fun x y w => by
  have h : ∀ d : Nat, (Op.equalIn (d + 1) t (.pointer none) (.pointer none)).run P w = .ok true w := fun d => by simp [Op.equalIn, run_underlying ht]
  simp [eqGuard, binOp, Op.equal, Op.maxDepth, h 9999]
theorem bin_neqPtrSelf {te : TypeId} {j : TypeInfo} {a : Addr} (ht : P.underlying t = some (.pointer te)) (hte : P.info? te = some j) : BinV P .neq t (.pointer (some a)) (.pointer (some a)) (.bool false) := .mk fun x y w => by
  have h := Lib.run_neq_ptr_same (P := P) w a ht hte
  simp [eqGuard, h]
theorem opv_convWith {src dst : TypeId} {x : Operand} {ty : TypeId} {u v : Value} (hx : look L x = some u) (hr : (convert src dst u).run P w = .ok v w) : OpV P (.convert src dst x) ty L w v w := fun ρ o hρ ho _ => by
  unfold execOp
  simp only [ho, hρ x _ hx, Sem.run_bind, hr]
  simp
theorem Ar.shape {g : Nat} {cs : List Value} (h : Ar w g t cs) : w.shape? g = some (t, cs.length) := by
  unfold World.shape?; rw [show w.heap[g]? = some (.cells cs.toArray t) from h]; simp
/-- A cell of a variable that has a block of its own: read, and written. -/
theorem opv_ldA {x : Operand} {ty : TypeId} {g k : Nat} {T : TypeId} {cs : List Value} {u : Value} (E : Cell1 P e) (ha : Ar w g T cs) (hx : look L x = some (.pointer (some ⟨g, k, none⟩))) (hk : cs[k]? = some u) : OpV P (.load e x) ty L w u w :=
  opv_loadC E hx ((ha.cell k).trans hk)
theorem wl_stA {x y : Operand} {ty : TypeId} {pos : String} {aft : Array Edge} {g k : Nat} {T : TypeId} {u : Value} {cs : List Value} (E : Cell1 P e) (ha : Ar w g T cs) (hx : look L x = some (.pointer (some ⟨g, k, none⟩))) (hk : k < cs.length)
    (hy : look L y = some u) (h1 : u.oneCell' = true)
    (h : ∀ w', Ar w' g T (cs.set k u) → Gr w w' (some ⟨g, 0, none⟩) → w'.heap.size = w.heap.size → WL P N ops Q rest L w') :
    WL P N ops Q (⟨none, .store e x y, ty, pos, aft, none⟩ :: rest) L w := by
  refine wl_unitN (opu_storeC E hx hy h1 (v := cs[k]) ((ha.cell k).trans (List.getElem?_eq_getElem hk)) (ha.frozen k)) (h _ (ha.setCell k u) ⟨rfl, rfl, rfl, by simp [World.setCell], fun j _ hj => ?_⟩ (by simp [World.setCell]))
  simp only [World.setCell, Array.getElem?_modify]
  rw [if_neg (by simp at hj; exact fun h => hj h.symm)]
/-- A block that is known whole stays where another one has changed. -/
theorem Ar.grA {g : Nat} {T : TypeId} {cs : List Value} {A : Option Addr} (h : Ar w g T cs) (hg : Gr w w' A) (hne : ∀ a, A = some a → a.block ≠ g) : Ar w' g T cs := by
  unfold Ar
  rw [hg.block g h.lt fun hk => by
    cases A with
    | none => simp at hk
    | some a => simp at hk; exact hne a rfl hk.symm]
  exact h
end
end Go.Proofs.Ytcjiecclmepboaa
