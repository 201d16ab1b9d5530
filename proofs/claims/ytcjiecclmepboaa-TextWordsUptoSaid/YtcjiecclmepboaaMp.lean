
/-
  The engine's rules for maps whose keys are strings and of which nothing is deleted: made, asked, written, counted, and gone through in whatever order. Nothing here names the program.
-/
import Derived.Test.YtcjiecclmepboaaStr
import Derived.MapKept
import Derived.Maps.RangeRun
namespace Go.Proofs.Ytcjiecclmepboaa
open Go.RowKit

/-- An entry: its key, its value, its stamp. -/
abbrev ME := List UInt8 × Value × Nat
def toE (x : ME) : MapEntry := { key := str x.1, val := x.2.1, born := x.2.2 }
/-- Block b is a map with these entries. -/
def Mp (w : World) (b : Nat) (es : List ME) (clk : Nat) : Prop := w.heap[b]? = some (.map (es.map toE).toArray clk)
def fnd (k : List UInt8) : List ME → Nat → Option (Nat × Value)
  | [], _ => none
  | e :: es, i => if k = e.1 then some (i, e.2.1) else fnd k es (i + 1)
def mget (es : List ME) (k : List UInt8) : Option Value := (fnd k es 0).map (·.2)
def mput (es : List ME) (clk : Nat) (k : List UInt8) (v : Value) : List ME × Nat :=
  match fnd k es 0 with
  | some (i, _) => (es.modify i fun e => (k, v, e.2.2), clk)
  | none => (es ++ [(k, v, clk)], clk + 1)
section
variable {P : Program} {N : Nat} {ops : Array Oper} {Q : Exit → Act → World → Prop} {rest : List Oper} {L : FL} {w w' : World} {t e kt : TypeId} {b clk : Nat} {es : List ME} {k : List UInt8}
theorem Mp.lt (h : Mp w b es clk) : b < w.heap.size := (Array.getElem?_eq_some_iff.1 h).1
theorem Mp.bel (h : Mp w b es clk) (hb : Below w.heap.size w w') : Mp w' b es clk := (hb.block b h.lt).trans h
theorem Mp.gr {A : Option Addr} (h : Mp w b es clk) (g : Gr w w' A) (hA : ∀ a, A = some a → a.block ≠ b) : Mp w' b es clk :=
  (g.block b h.lt fun hk => by
    cases A with
    | none => simp at hk
    | some a => simp at hk; exact hA a rfl hk.symm).trans h
theorem ba_eq (a c : List UInt8) : ((⟨a.toArray⟩ : ByteArray) == ⟨c.toArray⟩) = decide (a = c) := by
  rw [Bool.eq_iff_iff, MapKept.bytes_beq, decide_eq_true_eq]
  exact ⟨fun h => by injection h with h1; simpa using h1, fun h => by rw [h]⟩
theorem findNow_str (k : List UInt8) : ∀ (es : List ME) (i : Nat), Instr.findNow .string (str k) (es.map toE) i = some (fnd k es i)
  | [], i => rfl
  | e :: es, i => by
    have hs : Instr.sameNow .string (str k) (toE e).key = some (decide (k = e.1)) := by
      show some ((⟨k.toArray⟩ : ByteArray) == ⟨e.1.toArray⟩) = _
      rw [ba_eq]
    simp only [List.map_cons, Instr.findNow, hs, fnd]
    by_cases h : k = e.1
    · simp [h]; rfl
    · simp [h, findNow_str k es (i + 1)]
theorem run_findKey (hk : P.underlying kt = some .string) : (Instr.findKey kt (str k) (es.map toE)).run P w = .ok (fnd k es 0) w := by
  simp only [Instr.findKey, Sem.run_bind, run_underlying hk, Result.andThen_ok, findNow_str]
  simp
theorem opv_mkMap {ty : TypeId} : OpV P (.makeMap t none) ty L w (.map (some w.heap.size)) (w.alloc (.map #[] 0)) := fun ρ o hρ ho _ => by
  simp [execOp, ho, Instr.makeMap]
theorem wl_mkMap {d : Nat} {ty : TypeId} {pos : String} {aft : Array Edge} (hd : Nat.blt d N = true)
    (h : ∀ g w', w.heap.size ≤ g → Mp w' g [] 0 → Below w.heap.size w w' → WL P N ops Q rest ((d, .map (some g)) :: L) w') :
    WL P N ops Q (⟨some d, .makeMap t none, ty, pos, aft, none⟩ :: rest) L w :=
  wl_val opv_mkMap hd (h _ _ (Nat.le_refl _) (heap_alloc_new w _) ((Below.refl _ _).alloc (Nat.le_refl _) _))
theorem opv_lookup {x y : Operand} {ty : TypeId} {z : Value} (ht : P.underlying t = some (.map kt e)) (hk : P.underlying kt = some .string) (hz : (P.info? e).map (·.zero) = some (some z)) (hx : look L x = some (.map (some b))) (hy : look L y = some (str k)) (hm : Mp w b es clk) :
    OpV P (.lookup t x y false) ty L w ((mget es k).getD z) w := fun ρ o hρ ho _ => by
  have hzr : (zeroValue e).run P w = .ok z w := by
    cases hq : P.info? e with
    | none => simp [hq] at hz
    | some i => have : i.zero = some z := by simpa [hq] using hz
                simp [zeroValue, typeInfo, hq, this]
  have hg : (getObj b).run P w = .ok (.map (es.map toE).toArray clk) w := by simp [getObj, Sem.run, show w.heap[b]? = _ from hm]
  have hck : ∀ em, (Instr.checkKey em 10000 kt (str k)).run P w = .ok () w := fun em => MapKept.run_checkKey hk (show MapKept.IsKey .string (str k) from trivial) em 9999
  unfold execOp
  simp only [ho, Instr.lookup, Sem.run_bind, run_underlying ht, Result.andThen_ok, hρ x _ hx, hρ y _ hy, hg, hck, Sem.run_pure]
  rw [run_findKey hk]
  unfold mget
  cases fnd k es 0 with
  | none => simp [hzr]
  | some p => simp
theorem sameBits_str (n : Nat) (a : List UInt8) : Instr.sameBits n (str a) (str a) = true := by cases n <;> simp only [Instr.sameBits, ba_eq, decide_true]
theorem fnd_get : ∀ (es : List ME) (j i : Nat) (v : Value), fnd k es j = some (i, v) → j ≤ i ∧ ∃ x, es[i - j]? = some x ∧ x.1 = k ∧ x.2.1 = v
  | [], j, i, v, h => by simp [fnd] at h
  | x :: es, j, i, v, h => by
    unfold fnd at h
    split at h
    · rename_i hk
      simp only [Option.some.injEq, Prod.mk.injEq] at h
      obtain ⟨rfl, rfl⟩ := h
      exact ⟨Nat.le_refl _, x, by simp, hk.symm, rfl⟩
    · obtain ⟨h1, y, h2, h3⟩ := fnd_get es (j + 1) i v h
      refine ⟨by omega, y, ?_, h3⟩
      rw [show i - j = (i - (j + 1)) + 1 by omega]; simpa using h2
theorem opu_mput {m y z : Operand} {ty : TypeId} {v : Value} (ht : P.underlying t = some (.map kt e)) (hk : P.underlying kt = some .string) (hx : look L m = some (.map (some b))) (hy : look L y = some (str k)) (hz : look L z = some v) (hm : Mp w b es clk) :
    ∃ w', OpU P (.mapUpdate t m y z) ty L w w' ∧ Mp w' b (mput es clk k v).1 (mput es clk k v).2 ∧ Gr w w' (some ⟨b, 0, none⟩) ∧ w'.heap.size = w.heap.size := by
  refine ⟨{ w with heap := w.heap.setIfInBounds b (.map ((mput es clk k v).1.map toE).toArray (mput es clk k v).2) }, fun ρ o hρ ho _ => ?_, ?_, ⟨rfl, rfl, rfl, by simp, fun j _ hj => ?_⟩, by simp⟩
  · have hg : (getObj b).run P w = .ok (.map (es.map toE).toArray clk) w := by simp [getObj, Sem.run, show w.heap[b]? = _ from hm]
    have hs : ∀ o' : Obj, (∃ a c, o' = .map a c) → (setObj b o').run P w = .ok () { w with heap := w.heap.setIfInBounds b o' } := fun o' ⟨a, c, ho'⟩ => by
      subst ho'; simp [setObj, Sem.run, show w.heap[b]? = _ from hm]
    have hck : ∀ em, (Instr.checkKey em 10000 kt (str k)).run P w = .ok () w := fun em => MapKept.run_checkKey hk (show MapKept.IsKey .string (str k) from trivial) em 9999
    unfold execOp
    simp only [ho, Instr.mapUpdate, Sem.run_bind, run_underlying ht, Result.andThen_ok, hρ m _ hx, hρ y _ hy, hρ z _ hz, hg, hck]
    rw [run_findKey hk]
    unfold mput
    cases hf : fnd k es 0 with
    | none =>
      simp only [Result.andThen_ok]
      rw [hs _ ⟨_, _, rfl⟩]
      simp [toE]
    | some p =>
      obtain ⟨i, u⟩ := p
      obtain ⟨_, x, h2, h3, h4⟩ := fnd_get es 0 i u hf
      rw [Nat.sub_zero] at h2
      have hi := (List.getElem?_eq_some_iff.1 h2).1
      have hkey : ((((es.map toE).toArray)[i]?).map (·.key)).getD (str k) = str k := by
        simp [h2, toE, h3]
      simp only [Result.andThen_ok, Sem.run_bind, hkey, Instr.keyThatStays, sameBits_str, if_true, Sem.run_pure]
      rw [hs _ ⟨_, _, rfl⟩]
      have e : (es.map toE).toArray.modify i (fun e => { e with key := str k, val := v }) = ((es.modify i fun e => (k, v, e.2.2)).map toE).toArray := by
        apply Array.ext'
        apply List.ext_getElem?
        intro j
        simp only [Array.toList_modify, List.getElem?_modify, List.getElem?_map]
        by_cases hij : i = j
        · subst hij; simp [h2, toE]
        · simp [hij]
      simp only [e]
      simp
  · simp [Mp, hm.lt]
  · simp only [Array.getElem?_setIfInBounds]
    rw [if_neg (by simp at hj; exact fun h => hj h.symm)]
theorem wl_mput {m y z : Operand} {ty : TypeId} {pos : String} {aft : Array Edge} {v : Value} (ht : P.underlying t = some (.map kt e)) (hk : P.underlying kt = some .string) (hx : look L m = some (.map (some b))) (hy : look L y = some (str k)) (hz : look L z = some v) (hm : Mp w b es clk)
    (h : ∀ w', Mp w' b (mput es clk k v).1 (mput es clk k v).2 → Gr w w' (some ⟨b, 0, none⟩) → w'.heap.size = w.heap.size → WL P N ops Q rest L w') :
    WL P N ops Q (⟨none, .mapUpdate t m y z, ty, pos, aft, none⟩ :: rest) L w := by
  obtain ⟨w', h1, h2, h3, h4⟩ := opu_mput (ty := ty) ht hk hx hy hz hm
  exact wl_unitN h1 (h w' h2 h3 h4)
theorem opv_lenM {x : Operand} {ty : TypeId} (ht : P.underlying t = some (.map kt e)) (hx : look L x = some (.map (some b))) (hm : Mp w b es clk) :
    OpV P (.call { callee := .builtin .len, args := #[x], argTypes := #[t] }) ty L w (.int .i64 (es.length : Int)) w := fun ρ o hρ ho _ => by
  have hg : (getObj b).run P w = .ok (.map (es.map toE).toArray clk) w := by simp [getObj, Sem.run, show w.heap[b]? = _ from hm]
  simp [execOp, ho, resolve, invoke, builtin, Builtin.len_, hρ x _ hx, run_underlying ht, goInt, hg]

/-- An iterator over the map in block b. -/
def MI (w : World) (r b since : Nat) (seen : List Nat) (last : Nat) : Prop := w.heap[r]? = some (.mapIter (some b) since seen.toArray last)
variable {r since last : Nat} {seen : List Nat}
theorem MI.lt (h : MI w r b since seen last) : r < w.heap.size := (Array.getElem?_eq_some_iff.1 h).1
theorem MI.bel (h : MI w r b since seen last) (hb : Below w.heap.size w w') : MI w' r b since seen last := (hb.block r h.lt).trans h
theorem wl_rangeM {d : Nat} {x : Operand} {ty : TypeId} {pos : String} {aft : Array Edge} (ht : P.underlying t = some (.map kt e)) (hx : look L x = some (.map (some b))) (hm : Mp w b es clk) (hd : Nat.blt d N = true)
    (h : ∀ r w', w.heap.size ≤ r → MI w' r b clk [] clk → Below w.heap.size w w' → WL P N ops Q rest ((d, .pointer (some ⟨r, 0, none⟩)) :: L) w') :
    WL P N ops Q (⟨some d, .range t x, ty, pos, aft, none⟩ :: rest) L w := by
  have hg : (getObj b).run P w = .ok (.map (es.map toE).toArray clk) w := by simp [getObj, Sem.run, show w.heap[b]? = _ from hm]
  refine wl_val (v := .pointer (some ⟨w.heap.size, 0, none⟩)) (w' := w.alloc (.mapIter (some b) clk #[] clk)) (fun ρ o hρ ho _ => ?_) hd (h _ _ (Nat.le_refl _) (heap_alloc_new w _) ((Below.refl _ _).alloc (Nat.le_refl _) _))
  simp [execOp, ho, Instr.range, run_underlying ht, hρ x _ hx, hg]
/-- What is left to come. -/
def left (es : List ME) (seen : List Nat) : List ME := es.filter fun x => !seen.contains x.2.2
theorem wl_nextM {d : Nat} {x : Operand} {ty : TypeId} {pos : String} {aft : Array Edge} (hx : look L x = some (.pointer (some ⟨r, 0, none⟩))) (hi : MI w r b since seen last) (hm : Mp w b es clk) (hold : ∀ y ∈ es, y.2.2 < since) (hsc : since ≤ last) (hd : Nat.blt d N = true)
    (hend : left es seen = [] → WL P N ops Q rest ((d, .tuple #[.bool false]) :: L) w)
    (hone : ∀ y w', y ∈ left es seen → MI w' r b since (seen ++ [y.2.2]) clk → Gr w w' (some ⟨r, 0, none⟩) → w'.heap.size = w.heap.size → WL P N ops Q rest ((d, .tuple #[.bool true, str y.1, y.2.1]) :: L) w') :
    WL P N ops Q (⟨some d, .next x false, ty, pos, aft, none⟩ :: rest) L w := by
  have hl : (leftOf (es.map toE).toArray seen.toArray).toList = (left es seen).map toE := by
    simp only [leftOf, left, List.filter_toArray, List.filter_map]
    congr 1
    apply List.filter_congr
    intro x _
    show (!(seen.toArray.contains x.2.2)) = (!(seen.contains x.2.2))
    rw [List.contains_toArray]
  rcases run_next_at (P := P) w ty r b since last seen.toArray (es.map toE).toArray clk hi hm (fun x hx => by obtain ⟨y, hy, rfl⟩ := List.mem_map.1 (show x ∈ es.map toE by simpa using hx); exact hold y hy) hsc with ⟨h0, hrun⟩ | ⟨e, he, w1, hw1, hrun⟩
  · refine wl_val (v := _) (w' := w) (fun ρ o hρ ho hty => ?_) hd (hend ?_)
    · unfold execOp
      simp only [ho, hty, hρ x _ hx, Sem.run_bind, hrun]
      simp
    · have := congrArg List.length hl
      rw [Array.length_toList, h0] at this
      exact List.eq_nil_of_length_eq_zero (by simpa using this.symm)
  · rw [hl] at he
    obtain ⟨y, hy, rfl⟩ := List.mem_map.1 he
    have hr1 : r < w1.heap.size := by rcases hw1 with rfl | rfl <;> exact hi.lt
    obtain ⟨w3, hw3⟩ : ∃ w3, ChangeMaps.setBlock w1 r (.mapIter (some b) since (seen.toArray.push (toE y).born) clk) = w3 := ⟨_, rfl⟩
    rw [hw3] at hrun
    refine wl_val (v := _) (w' := w3) (fun ρ o hρ ho hty => ?_) hd (hone y w3 hy ?_ ⟨?_, ?_, ?_, ?_, fun j hj hne => ?_⟩ ?_)
    · unfold execOp
      simp only [ho, hty, hρ x _ hx, Sem.run_bind, hrun]
      simp
      exact ⟨rfl, rfl⟩
    · subst hw3; unfold MI ChangeMaps.setBlock
      simp [hr1, toE]
    · subst hw3; rcases hw1 with rfl | rfl <;> rfl
    · subst hw3; rcases hw1 with rfl | rfl <;> rfl
    · subst hw3; rcases hw1 with rfl | rfl <;> rfl
    · subst hw3; rcases hw1 with rfl | rfl <;> simp [ChangeMaps.setBlock]
    · subst hw3; rcases hw1 with rfl | rfl <;> (simp only [ChangeMaps.setBlock, Array.getElem?_setIfInBounds]; rw [if_neg (by simp at hne; exact fun h => hne h.symm)]; try rfl)
    · subst hw3; rcases hw1 with rfl | rfl <;> simp [ChangeMaps.setBlock]
/-- The entry that came out, read again. -/
theorem opv_entry {x : Operand} {ty : TypeId} {y : ME} (hx : look L x = some (.pointer (some ⟨r, 0, none⟩))) (hi : MI w r b since (seen ++ [y.2.2]) clk) (hm : Mp w b es clk) (hy : y ∈ es) (hn : (es.map fun x => x.2.2).Nodup) :
    OpV P (.entry x) ty L w (.tuple #[str y.1, y.2.1]) w := fun ρ o hρ ho _ => by
  have hi' : w.heap[r]? = some (.mapIter (some b) since (seen.toArray.push (toE y).born) clk) := by
    have : w.heap[r]? = _ := hi
    rw [this]; simp [toE]
  have hrun := run_entry_at (P := P) w r b since seen.toArray (es.map toE).toArray clk (toE y) hi' hm (by simp only [List.mem_map]; exact ⟨y, hy, rfl⟩) (by simpa [List.map_map, Function.comp_def, toE] using hn)
  unfold execOp
  simp only [ho, hρ x _ hx, Sem.run_bind, hrun]
  simp
  exact ⟨rfl, rfl⟩
end
end Go.Proofs.Ytcjiecclmepboaa
