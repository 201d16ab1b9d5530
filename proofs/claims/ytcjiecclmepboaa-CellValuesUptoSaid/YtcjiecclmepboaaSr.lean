
/-
  The engine's rules for structs that have a block of their own (made, read, written whole; built; handed back), and for interface values: made, asked for their type, held against nil. Nothing here names the program.
-/
import Derived.Test.YtcjiecclmepboaaSt
import Derived.Laws.Build
import Derived.Laws.Tables
import Derived.Stop.IfaceNil
namespace Go.Proofs.Ytcjiecclmepboaa
open Go.RowKit

/-- A struct type of k cells. -/
structure StT (P : Program) (t : TypeId) (k : Nat) : Prop where
  un : (match P.underlying t with | some (.struct _) => true | _ => false) = true
  size : (P.info? t).map (·.size) = some k
section
variable {P : Program} {N : Nat} {ops : Array Oper} {Q : Exit → Act → World → Prop} {rest : List Oper} {L : FL} {w w' : World} {t e : TypeId} {g : Nat} {cs cs' : List Value}
theorem StT.get {k : Nat} (T : StT P t k) : ∃ fs, P.underlying t = some (.struct fs) := by
  have h := T.un
  cases hu : P.underlying t with
  | none => rw [hu] at h; cases h
  | some d => rw [hu] at h; cases d <;> first | exact ⟨_, rfl⟩ | cases h
theorem opv_box {x : Operand} {ty : TypeId} {v : Value} (hx : look L x = some v) : OpV P (.box t x) ty L w (.pointer (some ⟨w.heap.size, 0, none⟩)) (w.alloc (.cells v.cells t)) := fun ρ o hρ ho _ => by
  simp [execOp, ho, Instr.box, hρ x _ hx, newVar, newRow]
theorem cells_agg (xs : Array Value) : (Value.agg xs).cells = xs := by simp [Value.cells]
theorem wl_box {d : Nat} {x : Operand} {ty : TypeId} {pos : String} {aft : Array Edge} (hx : look L x = some (.agg cs.toArray)) (hd : Nat.blt d N = true)
    (h : ∀ g w', w.heap.size ≤ g → Ar w' g t cs → Below w.heap.size w w' → WL P N ops Q rest ((d, .pointer (some ⟨g, 0, none⟩)) :: L) w') :
    WL P N ops Q (⟨some d, .box t x, ty, pos, aft, none⟩ :: rest) L w :=
  wl_val (opv_box hx) hd (h _ _ (Nat.le_refl _) (by rw [cells_agg]; exact Ar.new w t cs) ((Below.refl _ _).alloc (Nat.le_refl _) _))
/-- A new variable of a struct type, zero. -/
theorem wl_new {d : Nat} {ty : TypeId} {pos : String} {aft : Array Edge} (hz : (P.info? t).map (·.zero) = some (some (.agg cs.toArray))) (hd : Nat.blt d N = true)
    (h : ∀ g w', w.heap.size ≤ g → Ar w' g t cs → Below w.heap.size w w' → WL P N ops Q rest ((d, .pointer (some ⟨g, 0, none⟩)) :: L) w') :
    WL P N ops Q (⟨some d, .alloc t, ty, pos, aft, none⟩ :: rest) L w :=
  wl_val (opv_alloc hz) hd (h _ _ (Nat.le_refl _) (by rw [cells_agg]; exact Ar.new w t cs) ((Below.refl _ _).alloc (Nat.le_refl _) _))
theorem opv_loadS {x : Operand} {ty T : TypeId} (S : StT P t cs.length) (hx : look L x = some (.pointer (some ⟨g, 0, none⟩))) (ha : Ar w g T cs) : OpV P (.load t x) ty L w (.agg cs.toArray) w := fun ρ op hρ ho _ => by
  obtain ⟨fs, hu⟩ := S.get
  have := run_loadVar_row (P := P) w g T t cs.toArray (0, 0) _ ha hu rfl (by simpa using S.size)
  simp [execOp, ho, Instr.loadAt, Instr.sureAddr, hρ x _ hx, this]
theorem opv_loadX {x : Operand} {ty T : TypeId} (hx : look L x = some (.pointer (some ⟨g, 0, none⟩))) (ha : Ar w g T cs) (S : StT P t cs.length) : OpV P (.load t x) ty L w (.agg cs.toArray) w := opv_loadS S hx ha
theorem opv_ldX {x : Operand} {ty : TypeId} {k : Nat} {T : TypeId} {u : Value} (hx : look L x = some (.pointer (some ⟨g, k, none⟩))) (ha : Ar w g T cs) (E : Cell1 P e) (hk : cs[k]? = some u) : OpV P (.load e x) ty L w u w := opv_ldA E ha hx hk
theorem gr_setRow {x : Array Value} : Gr w (w.setRow g x) (some ⟨g, 0, none⟩) := ⟨rfl, rfl, rfl, by simp [World.setRow], fun j _ hj => by
  simp only [World.setRow, Array.getElem?_modify]
  rw [if_neg (by simp at hj; exact fun h => hj h.symm)]⟩
theorem wl_storeS {x y : Operand} {ty T : TypeId} {pos : String} {aft : Array Edge} (S : StT P t cs'.length) (ha : Ar w g T cs) (hx : look L x = some (.pointer (some ⟨g, 0, none⟩))) (hy : look L y = some (.agg cs'.toArray)) (hl : cs.length = cs'.length) (h1 : cs'.all (·.oneCell') = true)
    (h : ∀ w', Ar w' g T cs' → Gr w w' (some ⟨g, 0, none⟩) → w'.heap.size = w.heap.size → WL P N ops Q rest L w') :
    WL P N ops Q (⟨none, .store t x y, ty, pos, aft, none⟩ :: rest) L w := by
  refine wl_unitN (w' := w.setRow g cs'.toArray) (fun ρ o hρ ho _ => ?_) (h _ ha.setRow gr_setRow (by simp [World.setRow]))
  have := run_storeVar_row (P := P) w g T t cs.toArray cs'.toArray ha (by simpa using S.size) (by simpa using hl) (by simpa [Array.all_eq_true_iff_forall_mem] using h1)
  simp [execOp, ho, Instr.storeAt, Instr.sureAddr, hρ x _ hx, hρ y _ hy, this]
/-- A struct is handed back by value; beside another result. -/
theorem we_retC {fn : Func} {R : Ending → World → Prop} {p : Nat} {T : TypeId} (hr : fn.results = #[.cell p t]) (hx : lookT L p = some (.pointer (some ⟨g, 0, none⟩))) (ha : Ar w g T cs) (S : StT P t cs.length)
    (h : R (.returned (.agg cs.toArray)) w) : WE N (bodyPost P fn R) .ret L w := fun a hA =>
  ⟨hA.nodefer, _, by
    obtain ⟨fs, hu⟩ := S.get
    have := run_loadVar_row (P := P) w g T t cs.toArray (0, 0) _ ha hu rfl (by simpa using S.size)
    have e := hA.get p _ hx
    rw [Array.getD_eq_getD_getElem?] at e
    simp [results, hr, e, asAddr, this], h⟩
theorem we_retC1 {fn : Func} {R : Ending → World → Prop} {p q : Nat} {T : TypeId} {v : Value} (hr : fn.results = #[.cell p t, .tmp q]) (hx : lookT L p = some (.pointer (some ⟨g, 0, none⟩))) (hq : lookT L q = some v) (ha : Ar w g T cs) (S : StT P t cs.length)
    (h : R (.returned (.tuple #[.agg cs.toArray, v])) w) : WE N (bodyPost P fn R) .ret L w := fun a hA =>
  ⟨hA.nodefer, _, by
    obtain ⟨fs, hu⟩ := S.get
    have := run_loadVar_row (P := P) w g T t cs.toArray (0, 0) _ ha hu rfl (by simpa using S.size)
    have e := hA.get p _ hx
    have e2 := hA.get q _ hq
    rw [Array.getD_eq_getD_getElem?] at e e2
    simp [results, hr, e, e2, asAddr, this], h⟩
/-- Parts of a struct. -/
def LooksP (L : FL) : List (Nat × Operand) → List (Nat × Value) → Prop
  | [], [] => True
  | (i, x) :: xs, (j, v) :: vs => i = j ∧ look L x = some v ∧ LooksP L xs vs
  | _, _ => False
theorem LooksP.map {ρ : Operand → Value} (hρ : ∀ x u, look L x = some u → ρ x = u) : ∀ {xs : List (Nat × Operand)} {vs : List (Nat × Value)}, LooksP L xs vs → xs.map (fun p => (p.1, ρ p.2)) = vs
  | [], [], _ => rfl
  | (i, x) :: xs, (j, v) :: vs, h => by rw [List.map_cons, LooksP.map hρ h.2.2, h.1, hρ x v h.2.1]
theorem opv_build {xs : List (Nat × Operand)} {vs : List (Nat × Value)} {ty : TypeId} (hx : LooksP L xs vs) (hb : P.built t vs = some cs.toArray) : OpV P (.build t xs.toArray) ty L w (.agg cs.toArray) w := fun ρ o hρ ho _ => by
  have hm : (xs.toArray.map fun (p : Nat × Operand) => (p.1, ρ p.2)) = vs.toArray := by
    rw [List.map_toArray, LooksP.map hρ hx]
  have := run_build (P := P) w t vs.toArray cs.toArray (by simpa using hb)
  unfold execOp
  simp only [ho]
  rw [hm, Sem.run_bind, this]
  simp
/-- Interface values. -/
def conT (P : Program) (t : TypeId) : Bool := match P.underlying t with | some (.interface _) => false | some _ => true | none => false
theorem conT_get (h : conT P t = true) : ∃ d, P.underlying t = some d ∧ ∀ ms, d ≠ .interface ms := by
  unfold conT at h
  cases hu : P.underlying t with
  | none => rw [hu] at h; cases h
  | some d => rw [hu] at h; exact ⟨d, rfl, fun ms e => by subst e; cases h⟩
theorem opv_mkI {x : Operand} {ty : TypeId} {v : Value} (hc : P.concrete t = true) (hx : look L x = some v) : OpV P (.makeInterface t x) ty L w (.iface t v) w := fun ρ o hρ ho _ => by
  have := run_makeInterface (P := P) w t v hc
  simp [execOp, ho, hρ x _ hx, this]
theorem opv_asT {x : Operand} {ty xT : TypeId} {v : Value} (hc : conT P t = true) (hx : look L x = some (.iface t v)) : OpV P (.typeAssert x xT t true) ty L w (.tuple #[v, .bool true]) w := fun ρ o hρ ho _ => by
  obtain ⟨d, hu, hne⟩ := conT_get hc
  cases d <;> first | exact absurd rfl (hne _) | simp [execOp, ho, hρ x _ hx, Instr.typeAssert, run_underlying hu]
theorem opv_asV {x : Operand} {ty xT : TypeId} {v : Value} (hc : conT P t = true) (hx : look L x = some (.iface t v)) : OpV P (.typeAssert x xT t false) ty L w v w := fun ρ o hρ ho _ => by
  obtain ⟨d, hu, hne⟩ := conT_get hc
  cases d <;> first | exact absurd rfl (hne _) | simp [execOp, ho, hρ x _ hx, Instr.typeAssert, run_underlying hu]
theorem opv_asF {x : Operand} {ty xT u : TypeId} {v z : Value} (hc : conT P t = true) (hz : (P.info? t).map (·.zero) = some (some z)) (hx : look L x = some (.iface u v)) (hn : (u == t) = false) : OpV P (.typeAssert x xT t true) ty L w (.tuple #[z, .bool false]) w := fun ρ o hρ ho _ => by
  obtain ⟨d, hu, hne⟩ := conT_get hc
  have hn' : ¬ u = t := by simpa using hn
  cases hq : P.info? t with
  | none => simp [hq] at hz
  | some i =>
    have hi : i.zero = some z := by simpa [hq] using hz
    cases d <;> first | exact absurd rfl (hne _) | simp [execOp, ho, hρ x _ hx, Instr.typeAssert, run_underlying hu, hn', zeroValue, typeInfo, hq, hi]
theorem opv_asN {x : Operand} {ty xT : TypeId} {z : Value} (hc : conT P t = true) (hz : (P.info? t).map (·.zero) = some (some z)) (hx : look L x = some .nilIface) : OpV P (.typeAssert x xT t true) ty L w (.tuple #[z, .bool false]) w := fun ρ o hρ ho _ => by
  obtain ⟨d, hu, hne⟩ := conT_get hc
  cases hq : P.info? t with
  | none => simp [hq] at hz
  | some i =>
    have hi : i.zero = some z := by simpa [hq] using hz
    cases d <;> first | exact absurd rfl (hne _) | simp [execOp, ho, hρ x _ hx, Instr.typeAssert, run_underlying hu, zeroValue, typeInfo, hq, hi]
theorem bin_eqlIN {u : TypeId} {v : Value} (h : P.isIface t = true) : BinV P .eql t (.iface u v) .nilIface (.bool false) := .mk fun x y w => by
  simp [eqGuard, run_eql_iface_nil (P := P) w t h u v]
theorem bin_eqlNN (h : P.underlying t = some (.interface #[])) : BinV P .eql t .nilIface .nilIface (.bool true) := .mk fun x y w => by
  have hi : P.isIface t = true := by unfold Program.isIface; rw [h]
  have h9 : ∀ d : Nat, (Op.eqGuardIn (d + 1) t .nilIface .nilIface).run P w = .ok false w := fun d => by simp [Op.eqGuardIn, run_underlying h]
  have hg : (eqGuard .eql t x y .nilIface .nilIface).run P w = .ok () w := by
    cases x <;> cases y <;> simp [eqGuard, Op.maxDepth, h9 9999]
  rw [Sem.run_bind, hg]
  exact run_eql_nil_nil_at (P := P) w t hi
end
end Go.Proofs.Ytcjiecclmepboaa
