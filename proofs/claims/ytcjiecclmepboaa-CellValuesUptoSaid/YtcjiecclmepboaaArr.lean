
/-
  The engine's rules for arrays and for variables that have a block of their own: made, read, written, cell by cell and whole; an array that is handed back by value. Nothing here names the program.
-/
import Derived.Test.YtcjiecclmepboaaMem
import Derived.Laws.Rows
import Derived.Laws.Tables
namespace Go.Proofs.Ytcjiecclmepboaa
open Go.RowKit

/-- Block g holds these cells, and may be written. -/
def Ar (w : World) (g : Nat) (t : TypeId) (cs : List Value) : Prop := w.heap[g]? = some (.cells cs.toArray t)
/-- A type of one cell that is no array and no struct. -/
structure Cell1 (P : Program) (e : TypeId) : Prop where
  size : (P.info? e).map (·.size) = some 1
  flat : (match P.underlying e with | some (.struct _) => true | some (.array _ _) => true | some _ => false | none => true) = false
theorem Cell1.agg {P : Program} {e : TypeId} (T : Cell1 P e) (w : World) : (isAgg e).run P w = .ok false w := by
  have h := T.flat
  unfold isAgg
  cases hu : P.underlying e with
  | none => rw [hu] at h; simp at h
  | some d =>
    rw [hu] at h
    rw [Sem.run_bind, run_underlying hu]
    cases d <;> first | (simp at h; done) | simp
theorem Cell1.sizeOf {P : Program} {e : TypeId} (T : Cell1 P e) (w : World) : (sizeOf e).run P w = .ok 1 w := by
  have h := T.size
  cases hq : P.info? e with
  | none => simp [hq] at h
  | some i =>
    have : i.size = 1 := by simpa [hq] using h
    simp [Go.sizeOf, typeInfo, hq, this]

section
variable {P : Program} {N : Nat} {ops : Array Oper} {Q : Exit → Act → World → Prop} {rest : List Oper} {L : FL} {w w' : World} {t e : TypeId} {g : Nat} {cs : List Value}
theorem Ar.lt (h : Ar w g t cs) : g < w.heap.size := by
  rcases Nat.lt_or_ge g w.heap.size with h1 | h1
  · exact h1
  · unfold Ar at h; rw [Array.getElem?_eq_none h1] at h; cases h
theorem Ar.below {B : Nat} (h : Ar w g t cs) (hb : Below B w w') (hg : w.heap.size ≤ B) : Ar w' g t cs := by
  unfold Ar; rw [hb.block g (by have := h.lt; omega)]; exact h
theorem Ar.bel (h : Ar w g t cs) (hb : Below w.heap.size w w') : Ar w' g t cs := h.below hb (Nat.le_refl _)
theorem Ar.new (w : World) (t : TypeId) (cs : List Value) : Ar (w.alloc (.cells cs.toArray t)) w.heap.size t cs := heap_alloc_new w _
theorem Ar.cell (h : Ar w g t cs) (k : Nat) : w.cell? ⟨g, k, none⟩ = cs[k]? := by
  rw [cell_of_row w g k cs.toArray t (0, 0) h]; simp
theorem Ar.frozen (h : Ar w g t cs) (k : Nat) : w.frozen? ⟨g, k, none⟩ = false := by
  unfold World.frozen?; rw [show w.heap[(⟨g, k, none⟩ : Addr).block]? = some (.cells cs.toArray t) from h]; simp
theorem Ar.setCell (h : Ar w g t cs) (k : Nat) (v : Value) : Ar (w.setCell ⟨g, k, none⟩ v) g t (cs.set k v) := by
  unfold Ar World.setCell
  simp only [Array.getElem?_modify, if_true]
  rw [show w.heap[g]? = some (.cells cs.toArray t) from h]
  simp
theorem Ar.ne {g' : Nat} {t' : TypeId} {cs' : List Value} (h : Ar w g' t' cs') (k : Nat) (v : Value) (hne : g ≠ g') : Ar (w.setCell ⟨g, k, none⟩ v) g' t' cs' := by
  unfold Ar World.setCell
  simp only [Array.getElem?_modify, if_neg hne]
  exact h
theorem below_setCell {B k : Nat} {v : Value} {w0 : World} (h : Below B w0 w) (hg : B ≤ g) : Below B w0 (w.setCell ⟨g, k, none⟩ v) :=
  h.trans ⟨rfl, rfl, rfl, by simp [World.setCell], fun j hj => by
    simp only [World.setCell, Array.getElem?_modify]
    rw [if_neg (by omega)]⟩
theorem Ar.setRow {cs' : List Value} (h : Ar w g t cs) : Ar (w.setRow g cs'.toArray) g t cs' := setRow_heap w g _ _ _ _ h
theorem below_setRow {B : Nat} {cs' : Array Value} {w0 : World} (h : Below B w0 w) (hg : B ≤ g) : Below B w0 (w.setRow g cs') :=
  h.trans ⟨rfl, rfl, rfl, by simp [World.setRow], fun j hj => by
    simp only [World.setRow, Array.getElem?_modify]
    rw [if_neg (by omega)]⟩
theorem Ar.neRow {g' : Nat} {t' : TypeId} {cs' : List Value} {x : Array Value} (h : Ar w g' t' cs') (hne : g ≠ g') : Ar (w.setRow g x) g' t' cs' := by
  unfold Ar World.setRow
  simp only [Array.getElem?_modify, if_neg hne]
  exact h

/-- A variable with a block of its own. -/
theorem opv_alloc {ty : TypeId} {z : Value} (hz : (P.info? t).map (·.zero) = some (some z)) : OpV P (.alloc t) ty L w (.pointer (some ⟨w.heap.size, 0, none⟩)) (w.alloc (.cells z.cells t)) := fun ρ o hρ ho _ => by
  cases hq : P.info? t with
  | none => simp [hq] at hz
  | some i =>
    have : i.zero = some z := by simpa [hq] using hz
    simp [execOp, ho, Instr.alloc, zeroValue, typeInfo, hq, this, newVar, newRow]
theorem wl_alloc {d : Nat} {ty : TypeId} {pos : String} {aft : Array Edge} {z : Value} (hz : (P.info? t).map (·.zero) = some (some z)) (hd : Nat.blt d N = true)
    (h : ∀ w', Ar w' w.heap.size t z.cells.toList → Below w.heap.size w w' → w'.heap.size = w.heap.size + 1 → WL P N ops Q rest ((d, .pointer (some ⟨w.heap.size, 0, none⟩)) :: L) w') :
    WL P N ops Q (⟨some d, .alloc t, ty, pos, aft, none⟩ :: rest) L w :=
  wl_val (opv_alloc hz) hd (h _ (by simpa using Ar.new w t z.cells.toList) ((Below.refl _ _).alloc (Nat.le_refl _) _) (by simp))
theorem opv_idxA {x i : Operand} {ty : TypeId} {n kk : Nat} {ik : IntKind} {q : Int} (ht : P.underlying t = some (.array n e)) (T : Cell1 P e) (hx : look L x = some (.pointer (some ⟨g, 0, none⟩))) (hi : look L i = some (.int ik q)) (hq : q = (kk : Int)) (hk : kk < n) :
    OpV P (.indexAddr t x i) ty L w (.pointer (some ⟨g, kk, none⟩)) w := fun ρ op hρ ho _ => by
  subst hq
  simp [execOp, ho, Instr.indexAt, asIntOf, hρ x _ hx, hρ i _ hi, run_underlying ht, hk, T.sizeOf, Addr.add_lit, Instr.sureAddr]
theorem opv_loadC {x : Operand} {ty : TypeId} {a : Addr} {u : Value} (T : Cell1 P e) (hx : look L x = some (.pointer (some a))) (hc : w.cell? a = some u) : OpV P (.load e x) ty L w u w := fun ρ op hρ ho _ => by
  simp [execOp, ho, Instr.loadAt, Instr.sureAddr, loadVar, hρ x _ hx, T.agg, hc]
theorem opu_storeC {x y : Operand} {ty : TypeId} {a : Addr} {u v : Value} (T : Cell1 P e) (hx : look L x = some (.pointer (some a))) (hy : look L y = some u) (h1 : u.oneCell' = true) (hc : w.cell? a = some v) (hf : w.frozen? a = false) :
    OpU P (.store e x y) ty L w (w.setCell a u) := fun ρ o hρ ho _ => by
  have hs : u.cells = #[u] := cells_one h1
  have hst : (store a u).run P w = .ok () (w.setCell a u) := by
    cases u <;> first | (simp [Value.oneCell'] at h1; done) | simp [store, Sem.run, hc, hf]
  unfold execOp
  simp only [ho, Instr.storeAt, Instr.sureAddr, hρ x _ hx, hρ y _ hy, storeVar, Sem.run_bind, Sem.run_pure, Result.andThen_ok, T.sizeOf, hs]
  have h0 : a.add 0 = a := by simp [Addr.add]
  simp [storeCells, h0, hst]
/-- a[i] = v -/
theorem wl_setA {d1 : Nat} {x i y : Operand} {ty1 ty2 : TypeId} {p1 p2 : String} {f1 f2 : Array Edge} {n kk : Nat} {ik : IntKind} {q : Int} {u : Value} (ht : P.underlying t = some (.array n e)) (T : Cell1 P e)
    (hx : look L x = some (.pointer (some ⟨g, 0, none⟩))) (hi : look L i = some (.int ik q)) (ha : Ar w g t cs) (hl : cs.length = n) (hq : q = (kk : Int)) (hk : kk < n)
    (hy : ∀ p, look ((d1, p) :: L) y = some u) (h1 : u.oneCell' = true) (hd1 : Nat.blt d1 N = true)
    (h : ∀ p, WL P N ops Q rest ((d1, p) :: L) (w.setCell ⟨g, kk, none⟩ u)) :
    WL P N ops Q (⟨some d1, .indexAddr t x i, ty1, p1, f1, none⟩ :: ⟨none, .store e (.tmp d1) y, ty2, p2, f2, none⟩ :: rest) L w := by
  refine wl_val (opv_idxA ht T hx hi hq hk) hd1 ?_
  refine wl_unitN (opu_storeC T (by simp [look, lookT]) (hy _) h1 (v := cs[kk]'(by omega)) ?_ (ha.frozen _)) (h _)
  exact (ha.cell _).trans (List.getElem?_eq_getElem _)
/-- a[i] -/
theorem wl_elA {d1 d2 : Nat} {x i : Operand} {ty1 ty2 : TypeId} {p1 p2 : String} {f1 f2 : Array Edge} {n kk : Nat} {ik : IntKind} {q : Int} {u : Value} (ht : P.underlying t = some (.array n e)) (T : Cell1 P e)
    (hx : look L x = some (.pointer (some ⟨g, 0, none⟩))) (hi : look L i = some (.int ik q)) (ha : Ar w g t cs) (hl : cs.length = n) (hq : q = (kk : Int)) (hu : cs[kk]? = some u) (hd1 : Nat.blt d1 N = true) (hd2 : Nat.blt d2 N = true)
    (h : ∀ p, WL P N ops Q rest ((d2, u) :: (d1, p) :: L) w) :
    WL P N ops Q (⟨some d1, .indexAddr t x i, ty1, p1, f1, none⟩ :: ⟨some d2, .load e (.tmp d1), ty2, p2, f2, none⟩ :: rest) L w := by
  have hk : kk < n := by have := (List.getElem?_eq_some_iff.1 hu).1; omega
  refine wl_val (opv_idxA ht T hx hi hq hk) hd1 (wl_val (opv_loadC T (by simp [look, lookT]; rfl) ?_) hd2 (h _))
  rw [ha.cell]; exact hu
/-- The whole array as a value. -/
theorem opv_loadW {x : Operand} {ty : TypeId} {n : Nat} (ht : P.underlying t = some (.array n e)) (hi : (P.info? t).map (·.size) = some cs.length) (hx : look L x = some (.pointer (some ⟨g, 0, none⟩))) (ha : Ar w g t cs) : OpV P (.load t x) ty L w (.agg cs.toArray) w := fun ρ op hρ ho _ => by
  have := run_loadVar_row (P := P) w g t t cs.toArray (0, 0) _ ha ht rfl (by simpa using hi)
  simp [execOp, ho, Instr.loadAt, Instr.sureAddr, hρ x _ hx, this]
theorem opu_storeW {x y : Operand} {ty : TypeId} {cs' : List Value} (hi : (P.info? t).map (·.size) = some cs.length) (hl : cs'.length = cs.length) (hx : look L x = some (.pointer (some ⟨g, 0, none⟩))) (hy : look L y = some (.agg cs'.toArray)) (ha : Ar w g t cs) (h1 : ∀ v ∈ cs', v.oneCell' = true) :
    OpU P (.store t x y) ty L w (w.setRow g cs'.toArray) := fun ρ o hρ ho _ => by
  have := run_storeVar_row (P := P) w g t t cs.toArray cs'.toArray ha (by simp [hl, hi]) (by simp [hl]) (by simpa [Array.all_eq_true_iff_forall_mem] using h1)
  simp [execOp, ho, Instr.storeAt, Instr.sureAddr, hρ x _ hx, hρ y _ hy, this]
/-- An array is handed back by value. -/
theorem we_retA {fn : Func} {R : Ending → World → Prop} {p n : Nat} (hr : fn.results = #[.cell p t]) (hx : lookT L p = some (.pointer (some ⟨g, 0, none⟩))) (ht : P.underlying t = some (.array n e)) (hi : (P.info? t).map (·.size) = some cs.length) (ha : Ar w g t cs)
    (h : R (.returned (.agg cs.toArray)) w) : WE N (bodyPost P fn R) .ret L w := fun a hA =>
  ⟨hA.nodefer, _, by
    have := run_loadVar_row (P := P) w g t t cs.toArray (0, 0) _ ha ht rfl (by simpa using hi)
    have e := hA.get p _ hx
    rw [Array.getD_eq_getD_getElem?] at e
    simp [results, hr, e, asAddr, this], h⟩
end
end Go.Proofs.Ytcjiecclmepboaa
