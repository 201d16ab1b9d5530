/-
  The texts of this proof, joined: Zc, Iv, Ya, Je, Jf, Jg, Jh, Ji, Jj, Jk, Jp, Zd, Jq, Jr, Pe, Pf, Pg, Pd, Ba, Bb, Va.
-/
import Derived.Test.YtojncfdlddepdaaBstM2
import Derived.Test.YtojncfdlddepdaaBstM1
import Derived.Deep.MidRow
import Derived.Lib.Hide

/-
  The engine's rules for a region whose order Go leaves open and which stores at its end: up to the first store (number m, for which all others wait) operations that yield one value in every world of a class are taken first; from there on the class no longer counts. Nothing here names the program.
-/
namespace Go.Proofs.Ytojncfdlddepdaa
open Go.RowKit

def AnyM (P : Program) (ops : Array Oper) (Q : Exit → Act → World → Prop) (S : World → Prop) (m : Nat) : Nat → Array Bool → Act → World → Prop
  | 0, listed, a, w => Region.ready .any ops listed = [] ∧ Q .normal a w
  | fuel + 1, listed, a, w =>
    (Region.ready .any ops listed = [] → Q .normal a w) ∧
    ∀ i ∈ Region.ready .any ops listed, wpOp P ops Q i (fun a' w' => ((listed.setIfInBounds i true).getD m false = false → S w') ∧ AnyM P ops Q S m fuel (listed.setIfInBounds i true) a' w') a w
section
variable {P : Program} {ops : Array Oper} {Q : Exit → Act → World → Prop} {S : World → Prop} {m : Nat}
theorem any_of_M : ∀ (fuel : Nat) (listed : Array Bool) (a : Act) (w : World), AnyM P ops Q S m fuel listed a w → wpAny P .any ops Q fuel listed a w
  | 0, _, _, _, h => h
  | fuel + 1, _, _, _, h => ⟨h.1, fun i hi => wpOp_mono (fun a' w' h' => any_of_M fuel _ a' w' h'.2) (h.2 i hi)⟩
theorem anyM_first {i : Nat} {oi om : Oper} {v : Value} (hi : ops[i]? = some oi) (hsel : ∀ (j : Nat) (o : Oper) cs b, ops[j]? = some o → o.op ≠ .select cs b)
    (hQ : ∀ c a w, Q (.panic c) (a.put oi.dst v) w → Q (.panic c) a w) (hm : ops[m]? = some om) (hmi : m ≠ i) (hwait : ∃ e ∈ om.after, Region.binds .any e = true ∧ e.on = i) :
    ∀ (fuel : Nat) (listed : Array Bool) (a : Act) (w : World),
      (∀ j oj, ops[j]? = some oj → j ≠ i → listed.getD j true = false → (∀ e ∈ oj.after, Region.binds .any e = true → e.on ≠ i) → oi.apart ops oj = true) →
      i ∈ Region.ready .any ops listed → YieldsIf P ops S oi v a → S w → listed.getD m false = false →
      AnyM P ops Q S m fuel (listed.setIfInBounds i true) (a.put oi.dst v) w → AnyM P ops Q S m (fuel + 1) listed a w := by
  have hset : ∀ (l : Array Bool) (j : Nat), m ≠ j → (l.setIfInBounds j true).getD m false = l.getD m false := fun l j h => getD_set_ne false (Ne.symm h)
  intro fuel
  induction fuel with
  | zero =>
    intro listed a w _ hr hy hS hlm H
    refine ⟨fun h => (by rw [h] at hr; cases hr), fun j hj => ?_⟩
    by_cases hji : j = i
    · subst hji; exact hy.wpOp hi hS ⟨fun _ => hS, H⟩
    · have := ready_mono hj hji
      rw [H.1] at this
      cases this
  | succ fuel ih =>
    intro listed a w hfree hr hy hS hlm H
    refine ⟨fun h => (by rw [h] at hr; cases hr), fun j hj => ?_⟩
    by_cases hji : j = i
    · subst hji; exact hy.wpOp hi hS ⟨fun _ => hS, H⟩
    · have h1 := H.2 j (ready_mono hj hji)
      obtain ⟨hjun, oj, hoj, hall⟩ := mem_ready.1 hj
      have hnot : ∀ e ∈ oj.after, Region.binds .any e = true → e.on ≠ i := fun e he hb heq => by
        have h1 := hall e he hb
        have h0 := (mem_ready.1 hr).1
        rw [heq] at h1
        rcases Nat.lt_or_ge i listed.size with h' | h'
        · simp [h'] at h0 h1; rw [h0] at h1; cases h1
        · simp [Array.getElem?_eq_none h'] at h1
      have hjm : m ≠ j := by
        rintro rfl
        rw [hm] at hoj; cases hoj
        obtain ⟨e, he, hb, hon⟩ := hwait
        exact hnot e he hb hon
      have h2 := wpOp_putIf hoj (hfree j oj hoj hji hjun hnot) (fun cs b => hsel i oi cs b hi) (fun cs b => hsel j oj cs b hoj) hQ hy h1
      have hfree' : ∀ k ok, ops[k]? = some ok → k ≠ i → (listed.setIfInBounds j true).getD k true = false →
          (∀ e ∈ ok.after, Region.binds .any e = true → e.on ≠ i) → oi.apart ops ok = true := fun k ok hk hki hun hno => by
        refine hfree k ok hk hki ?_ hno
        by_cases hjk : j = k
        · subst hjk; exact hjun
        · rw [getD_set_ne true hjk] at hun; exact hun
      have hl2 : (listed.setIfInBounds j true).getD m false = false := by rw [hset _ _ hjm]; exact hlm
      refine wpOp_mono (fun a' w' h3 => ?_) h2
      have hSw : S w' := h3.2.1 (by rw [hset _ _ hjm, hset _ _ hmi]; exact hlm)
      refine ⟨fun _ => hSw, ih (listed.setIfInBounds j true) a' w' hfree' (ready_mono hr (Ne.symm hji)) h3.1 hSw hl2 ?_⟩
      rw [Array.setIfInBounds_comm _ _ hji]
      exact h3.2.2
theorem anyM_firstP {i : Nat} {oi : Oper} {v : Value} (hi : ops[i]? = some oi) (hsel : ∀ (j : Nat) (o : Oper) cs b, ops[j]? = some o → o.op ≠ .select cs b)
    (hQ : ∀ c a w, Q (.panic c) (a.put oi.dst v) w → Q (.panic c) a w) (hmi : m ≠ i) :
    ∀ (fuel : Nat) (listed : Array Bool) (a : Act) (w : World),
      (∀ j oj, ops[j]? = some oj → j ≠ i → listed.getD j true = false → (∀ e ∈ oj.after, Region.binds .any e = true → e.on ≠ i) → oi.apart ops oj = true) →
      i ∈ Region.ready .any ops listed → YieldsIf P ops (fun _ => True) oi v a → (listed.getD m false = false → S w) →
      AnyM P ops Q S m fuel (listed.setIfInBounds i true) (a.put oi.dst v) w → AnyM P ops Q S m (fuel + 1) listed a w := by
  have hset : ∀ (l : Array Bool) (j : Nat), m ≠ j → (l.setIfInBounds j true).getD m false = l.getD m false := fun l j h => getD_set_ne false (Ne.symm h)
  intro fuel
  induction fuel with
  | zero =>
    intro listed a w _ hr hy hS H
    refine ⟨fun h => (by rw [h] at hr; cases hr), fun j hj => ?_⟩
    by_cases hji : j = i
    · subst hji; exact hy.wpOp hi trivial ⟨fun h => hS (by rw [← hset _ _ hmi]; exact h), H⟩
    · have := ready_mono hj hji
      rw [H.1] at this
      cases this
  | succ fuel ih =>
    intro listed a w hfree hr hy hS H
    refine ⟨fun h => (by rw [h] at hr; cases hr), fun j hj => ?_⟩
    by_cases hji : j = i
    · subst hji; exact hy.wpOp hi trivial ⟨fun h => hS (by rw [← hset _ _ hmi]; exact h), H⟩
    · have h1 := H.2 j (ready_mono hj hji)
      obtain ⟨hjun, oj, hoj, hall⟩ := mem_ready.1 hj
      have hnot : ∀ e ∈ oj.after, Region.binds .any e = true → e.on ≠ i := fun e he hb heq => by
        have h1 := hall e he hb
        have h0 := (mem_ready.1 hr).1
        rw [heq] at h1
        rcases Nat.lt_or_ge i listed.size with h' | h'
        · simp [h'] at h0 h1; rw [h0] at h1; cases h1
        · simp [Array.getElem?_eq_none h'] at h1
      have h2 := wpOp_putIf hoj (hfree j oj hoj hji hjun hnot) (fun cs b => hsel i oi cs b hi) (fun cs b => hsel j oj cs b hoj) hQ hy h1
      have hfree' : ∀ k ok, ops[k]? = some ok → k ≠ i → (listed.setIfInBounds j true).getD k true = false →
          (∀ e ∈ ok.after, Region.binds .any e = true → e.on ≠ i) → oi.apart ops ok = true := fun k ok hk hki hun hno => by
        refine hfree k ok hk hki ?_ hno
        by_cases hjk : j = k
        · subst hjk; exact hjun
        · rw [getD_set_ne true hjk] at hun; exact hun
      refine wpOp_mono (fun a' w' h3 => ?_) h2
      have hSw : (listed.setIfInBounds j true).getD m false = false → S w' := fun h => h3.2.1 (by rw [Array.setIfInBounds_comm _ _ (Ne.symm hji), hset _ _ hmi]; exact h)
      refine ⟨hSw, ih (listed.setIfInBounds j true) a' w' hfree' (ready_mono hr (Ne.symm hji)) h3.1 hSw ?_⟩
      rw [Array.setIfInBounds_comm _ _ hji]
      exact h3.2.2
end

def waits (ops : Array Oper) (m i : Nat) : Bool := match ops[m]? with
  | some o => o.after.toList.any fun e => Region.binds .any e && Nat.beq e.on i
  | none => false
def okM (ops : Array Oper) (listed : Array Bool) (m i : Nat) : Bool := okAt ops listed i && (waits ops m i && (!Nat.beq m i && !listed.getD m false))
def WM (P : Program) (N : Nat) (ops : Array Oper) (Q : Exit → Act → World → Prop) (S : World → Prop) (m fuel : Nat) (listed : Array Bool) (L : FL) (w : World) : Prop :=
  ∀ a, Has N a L → AnyM P ops (NoPanic Q) S m fuel listed a w
def HeldM (P : Program) (ops : Array Oper) (Q : Exit → Act → World → Prop) (S : World → Prop) (m fuel : Nat) (listed : Array Bool) : Exit → Act → World → Prop :=
  Exit.then (fun a w => (listed.getD m false = false → S w) ∧ AnyM P ops (NoPanic Q) S m fuel listed a w) (NoPanic Q)
section
variable {P : Program} {N : Nat} {ops : Array Oper} {Q : Exit → Act → World → Prop} {S : World → Prop} {m fuel : Nat} {listed : Array Bool} {L : FL} {w : World}
theorem wc_heldM (m : Nat) {id : Nat} {l : List Oper} (hm : P.follows .mixedOrders = true) (h : ∀ w1, Below w.heap.size w w1 → WM P N l.toArray Q (Below w.heap.size w) m l.length (Array.replicate l.length false) L w1) : WC P N (.region id l.toArray true) Q L w := fun a ha =>
  wp_region_noPanic (wp_region_any hm (any_of_M (S := Below w.heap.size w) (m := m) _ _ _ _ (by simpa using h _ ((Below.refl _ _).drew) a ha)))
theorem okM_of {i : Nat} (h : okM ops listed m i = true) : okAt ops listed i = true ∧ (∃ om, ops[m]? = some om ∧ ∃ e ∈ om.after, Region.binds .any e = true ∧ e.on = i) ∧ m ≠ i ∧ listed.getD m false = false := by
  simp only [okM, Bool.and_eq_true, Bool.not_eq_true'] at h
  obtain ⟨h1, h2, h3, h4⟩ := h
  refine ⟨h1, ?_, Nat.ne_of_beq_eq_false h3, h4⟩
  unfold waits at h2
  split at h2
  · rename_i o ho
    obtain ⟨e, he, hb⟩ := List.any_eq_true.1 h2
    rw [Bool.and_eq_true] at hb
    exact ⟨o, ho, e, by simpa using he, hb.1, Nat.eq_of_beq_eq_true hb.2⟩
  · cases h2
theorem wm_done (hr : Region.ready .any ops listed = []) (h : WE N Q .normal L w) : WM P N ops Q S m fuel listed L w := fun a ha => by
  have hq : NoPanic Q .normal a w := NoPanic.normal (h a ha)
  cases fuel with
  | zero => exact ⟨hr, hq⟩
  | succ fuel => exact ⟨fun _ => hq, by rw [hr]; simp⟩
theorem anyM_take {i : Nat} {o : Oper} {v : Value} {a : Act} (hi : ops[i]? = some o) (hk : okM ops listed m i = true) (hS : S w) (hy : YieldsIf P ops S o v a)
    (h : AnyM P ops (NoPanic Q) S m fuel (listed.setIfInBounds i true) (a.put o.dst v) w) : AnyM P ops (NoPanic Q) S m (fuel + 1) listed a w := by
  obtain ⟨h1, ⟨om, h2, h3⟩, h4, h5⟩ := okM_of hk
  obtain ⟨k1, k2, k3⟩ := okAt_of h1
  exact anyM_first hi (Region.noSelect_spec k1) (fun _ _ _ h => np h) h2 h4 h3 fuel listed a w (Region.free_spec hi k2) (by simpa using k3) hy hS h5 h
theorem wm_take (i : Nat) {d : Nat} {op : Op} {ty : TypeId} {pos : String} {aft : Array Edge} {v : Value} (hi : ops[i]? = some ⟨some d, op, ty, pos, aft, none⟩) (hv : ∀ w, S w → OpV P op ty L w v w) (hd : Nat.blt d N = true) (hk : okM ops listed m i = true) (hS : S w)
    (h : WM P N ops Q S m fuel (listed.setIfInBounds i true) ((d, v) :: L) w) : WM P N ops Q S m (fuel + 1) listed L w := fun a ha =>
  anyM_take hi hk hS (.inl ⟨by simp [Region.wanted], fun w hw => hv w hw a.eval _ (fun x u hx => ha.eval hx) rfl rfl⟩) (h _ (ha.put hd v))
theorem wm_takeG (i : Nat) {d j g : Nat} {b want : Bool} {op : Op} {ty : TypeId} {pos : String} {aft : Array Edge} {v : Value} (hi : ops[i]? = some ⟨some d, op, ty, pos, aft, some (j, want)⟩)
    (hj : (ops[j]?).bind (·.dst) = some g) (hb : lookT L g = some (.bool b)) (hg : Nat.blt g N = true) (he : b = want) (hv : ∀ w, S w → OpV P op ty L w v w) (hd : Nat.blt d N = true) (hk : okM ops listed m i = true) (hS : S w)
    (h : WM P N ops Q S m fuel (listed.setIfInBounds i true) ((d, v) :: L) w) : WM P N ops Q S m (fuel + 1) listed L w := fun a ha => by
  have hy := yielded_of ha hj hb hg
  exact anyM_take hi hk hS (.inl ⟨by simp [Region.wanted, hy, he], fun w hw => hv w hw a.eval _ (fun x u hx => ha.eval hx) rfl rfl⟩) (h _ (ha.put hd v))
theorem wm_skipG (i : Nat) {d j g : Nat} {b want : Bool} {op : Op} {ty : TypeId} {pos : String} {aft : Array Edge} (hi : ops[i]? = some ⟨some d, op, ty, pos, aft, some (j, want)⟩)
    (hj : (ops[j]?).bind (·.dst) = some g) (hb : lookT L g = some (.bool b)) (hg : Nat.blt g N = true) (he : b = !want) (hd : Nat.blt d N = true) (hk : okM ops listed m i = true) (hS : S w)
    (h : WM P N ops Q S m fuel (listed.setIfInBounds i true) ((d, undef) :: L) w) : WM P N ops Q S m (fuel + 1) listed L w := fun a ha => by
  have hy := yielded_of ha hj hb hg
  exact anyM_take hi hk hS (.inr ⟨by simp [Region.wanted, hy, he], rfl⟩) (h _ (ha.put hd undef))
theorem wm_skipU (i : Nat) {d j g : Nat} {want : Bool} {op : Op} {ty : TypeId} {pos : String} {aft : Array Edge} (hi : ops[i]? = some ⟨some d, op, ty, pos, aft, some (j, want)⟩)
    (hj : (ops[j]?).bind (·.dst) = some g) (hb : lookT L g = some undef) (hg : Nat.blt g N = true) (hd : Nat.blt d N = true) (hk : okM ops listed m i = true) (hS : S w)
    (h : WM P N ops Q S m fuel (listed.setIfInBounds i true) ((d, undef) :: L) w) : WM P N ops Q S m (fuel + 1) listed L w := fun a ha => by
  have hy := yielded_undef ha hj hb hg
  exact anyM_take hi hk hS (.inr ⟨by simp [Region.wanted, hy], rfl⟩) (h _ (ha.put hd undef))
/-- The same of an operation that does not look at the world. -/
theorem wm_takeP (i : Nat) {d : Nat} {op : Op} {ty : TypeId} {pos : String} {aft : Array Edge} {v : Value} (hi : ops[i]? = some ⟨some d, op, ty, pos, aft, none⟩) (hv : ∀ w, OpV P op ty L w v w) (hd : Nat.blt d N = true) (hk : (okAt ops listed i && !Nat.beq m i) = true) (hS : listed.getD m false = false → S w)
    (h : WM P N ops Q S m fuel (listed.setIfInBounds i true) ((d, v) :: L) w) : WM P N ops Q S m (fuel + 1) listed L w := fun a ha => by
  rw [Bool.and_eq_true, Bool.not_eq_true'] at hk
  obtain ⟨k1, k2, k3⟩ := okAt_of hk.1
  exact anyM_firstP hi (Region.noSelect_spec k1) (fun _ _ _ h => np h) (Nat.ne_of_beq_eq_false hk.2) fuel listed a w (Region.free_spec hi k2) (by simpa using k3) (.inl ⟨by simp [Region.wanted], fun w _ => hv w a.eval _ (fun x u hx => ha.eval hx) rfl rfl⟩) hS (h _ (ha.put hd v))
/-- One operation alone may come up. -/
theorem wm_one (i : Nat) {o : Oper} (hr : Region.ready .any ops listed = [i]) (hi : ops[i]? = some o)
    (h : WL P N ops (HeldM P ops Q S m fuel (listed.setIfInBounds i true)) [o] L w) : WM P N ops Q S m (fuel + 1) listed L w := fun a ha => by
  refine ⟨fun h0 => absurd (hr ▸ h0) (by simp), hr ▸ fun i' hi' => ?_⟩
  obtain rfl : i' = i := by simpa using hi'
  have h' := h a ha
  unfold wpOp
  simp only [hi]
  unfold wpList at h'
  split
  · rename_i hw
    rw [if_pos hw] at h'
    rcases h' with h' | ⟨ha, a0, w0, h'⟩
    · exact .inl (upon_mono (fun a w h => h) (fun e a w he h => by cases e <;> first | exact absurd rfl he | exact h) h')
    · exact .inr ⟨ha, a0, w0, h'⟩
  · rename_i hw
    rw [if_neg hw] at h'
    exact h'
/-- Two may come up. -/
theorem wm_two (i j : Nat) {o o' : Oper} (hr : Region.ready .any ops listed = [i, j]) (hi : ops[i]? = some o) (hj : ops[j]? = some o')
    (h : WL P N ops (HeldM P ops Q S m fuel (listed.setIfInBounds i true)) [o] L w) (h' : WL P N ops (HeldM P ops Q S m fuel (listed.setIfInBounds j true)) [o'] L w) : WM P N ops Q S m (fuel + 1) listed L w := fun a ha => by
  have key : ∀ {i : Nat} {o : Oper}, ops[i]? = some o → WL P N ops (HeldM P ops Q S m fuel (listed.setIfInBounds i true)) [o] L w → wpOp P ops (NoPanic Q) i (fun a' w' => ((listed.setIfInBounds i true).getD m false = false → S w') ∧ AnyM P ops (NoPanic Q) S m fuel (listed.setIfInBounds i true) a' w') a w := by
    intro i o hi h
    have h' := h a ha
    unfold wpOp
    simp only [hi]
    unfold wpList at h'
    split
    · rename_i hw
      rw [if_pos hw] at h'
      rcases h' with h' | ⟨ha, a0, w0, h'⟩
      · exact .inl (upon_mono (fun a w h => h) (fun e a w he h => by cases e <;> first | exact absurd rfl he | exact h) h')
      · exact .inr ⟨ha, a0, w0, h'⟩
    · rename_i hw
      rw [if_neg hw] at h'
      exact h'
  refine ⟨fun h0 => absurd (hr ▸ h0) (by simp), hr ▸ fun i' hi' => ?_⟩
  rw [List.mem_cons, List.mem_singleton] at hi'
  rcases hi' with rfl | rfl
  · exact key hi h
  · exact key hj h'
theorem we_heldM (hS : listed.getD m false = false → S w) (h : WM P N ops Q S m fuel listed L w) : WE N (HeldM P ops Q S m fuel listed) .normal L w := fun a ha => ⟨hS, h a ha⟩
end
end Go.Proofs.Ytojncfdlddepdaa


/-
  The engine's rules for calls through an interface value, and for elements of rows that are known by their cells and are written in place. Nothing here names the program.
-/
namespace Go.Proofs.Ytojncfdlddepdaa
open Go.RowKit

theorem bin_quoN {P : Program} {t : TypeId} {a b : Nat} (hb : 0 < b) (ha : a ≤ 9223372036854775807) : BinV P .quo t (.int .i64 (a : Int)) (.int .i64 (b : Int)) (.int .i64 ((a / b : Nat) : Int)) := bin_quo hb (IntWalk.i64_in _ (by have := Nat.div_le_self a b; generalize a / b = q at this ⊢; omega))
theorem bin_addN1 {P : Program} {t : TypeId} {a : Nat} (h : a + 1 ≤ 9223372036854775807) : BinV P .add t (.int .i64 (a : Int)) (.int .i64 1) (.int .i64 ((a + 1 : Nat) : Int)) := bin_addN (b := 1) h
theorem bin_mulN2 {P : Program} {t : TypeId} {a : Nat} (h : 2 * a ≤ 9223372036854775807) : BinV P .mul t (.int .i64 2) (.int .i64 (a : Int)) (.int .i64 ((2 * a : Nat) : Int)) := bin_mulN (a := 2) h
theorem bin_quoN2 {P : Program} {t : TypeId} {a : Nat} (h : a ≤ 9223372036854775807) : BinV P .quo t (.int .i64 (a : Int)) (.int .i64 2) (.int .i64 ((a / 2 : Nat) : Int)) := bin_quoN (b := 2) (by decide) h
/-- In this world an interface value's method is function f, with this receiver. -/
def MethV (P : Program) (w : World) (t : TypeId) (v : Value) (name : String) (f : FuncId) (r : Value) : Prop := (method (P.types.size + Made.depth) t v name).run P w = .ok (f, r) w
section
variable {P : Program} {N : Nat} {ops : Array Oper} {Q : Exit → Act → World → Prop} {rest : List Oper} {L : FL} {w : World}
theorem exec_inv {ρ : Operand → Value} {o : Oper} {x : Operand} {name : String} {xs : List Operand} {vs : List Value} {ats : Array TypeId} {t : TypeId} {v r : Value} {f : FuncId} (ho : o.op = .call { callee := .invoke x name, args := xs.toArray, argTypes := ats })
    (hc : CallOk P f) (hm : MethV P w t v name f r) (hρ : ∀ x u, look L x = some u → ρ x = u) (hr : look L x = some (.iface t v)) (hx : Looks L xs vs) : (execOp ρ o).run P w = .ok (.enter f (r :: vs).toArray) w := by
  have hf : ρ x = .iface t v := hρ _ _ hr
  have hmp := Looks.map hρ hx
  have h0 : (#[Value.iface t v] ++ Array.map ρ xs.toArray)[0]? = some (Value.iface t v) := by simp
  have h1 : (#[Value.iface t v] ++ Array.map ρ xs.toArray).extract 1 (#[Value.iface t v] ++ Array.map ρ xs.toArray).size = vs.toArray := by
    rw [← hmp]; simp; exact List.take_of_length_le (by simp)
  unfold execOp
  simp only [ho, resolve, hf, Sem.run_bind, Sem.run_pure, Result.andThen_ok, invoke, h0, h1, callMethod]
  have hm' : (method (P.types.size + Made.depth) t v name).run P w = .ok (f, r) w := hm
  simp only [show ∀ w, (program).run P w = .ok P w from fun _ => rfl, Result.andThen_ok, hm']
  have h2 : (#[r] ++ vs.toArray : Array Value) = (r :: vs).toArray := by simp
  rw [h2]
  exact hc _ _
theorem wl_inv {d : Nat} {x : Operand} {name : String} {xs : List Operand} {ats : Array TypeId} {ty : TypeId} {pos : String} {aft : Array Edge} {vs : List Value} {t : TypeId} {v r : Value} {f : FuncId} {R : Value → World → Prop}
    (hc : CallOk P f) (hm : MethV P w t v name f r) (hr : CallsV P f (r :: vs).toArray w R) (hx0 : look L x = some (.iface t v)) (hx : Looks L xs vs) (hd : Nat.blt d N = true)
    (h : ∀ v w', R v w' → WL P N ops Q rest ((d, v) :: L) w') :
    WL P N ops Q (⟨some d, .call { callee := .invoke x name, args := xs.toArray, argTypes := ats }, ty, pos, aft, none⟩ :: rest) L w := fun a ha =>
  wpList_plain rfl fun K hK => by
    unfold Oper.wp
    rw [exec_inv rfl hc hm (fun x u hx => ha.eval hx) hx0 hx]
    refine Calls.mono hr ?_
    rintro _ w' ⟨v, rfl, hv⟩
    exact hK _ _ (h v w' hv _ (ha.put hd v))
end

/-! #### Rows that are known by their cells, written in place -/
def setN : List Value → Nat → List Value → List Value
  | xs, _, [] => xs
  | xs, o, v :: r => setN (xs.set o v) (o + 1) r
theorem setN_right (x : List Value) : ∀ (vs r : List Value) (o : Nat), setN (x ++ r) (x.length + o) vs = x ++ setN r o vs
  | [], r, o => rfl
  | v :: vs, r, o => by
    rw [setN, setN, List.set_append_right _ _ (by omega), show x.length + o - x.length = o by omega, Nat.add_assoc, setN_right x vs]
theorem setN_left : ∀ (vs x r : List Value), x.length = vs.length → setN (x ++ r) 0 vs = vs ++ r
  | [], [], r, _ => rfl
  | v :: vs, a :: x, r, h => by
    have := setN_right [v] vs (x ++ r) 0
    rw [setN]
    simp only [List.cons_append, List.set_cons_zero, Nat.zero_add]
    simp only [List.cons_append, List.nil_append, List.length_singleton, Nat.add_zero] at this
    rw [this, setN_left vs x r (by simpa using h)]
theorem flat_setN {k : Nat} {cs' : List Value} (hk' : cs'.length = k) : ∀ {css : List (List Value)} {i : Nat}, (∀ cs ∈ css, cs.length = k) → i < css.length → setN css.flatten (i * k) cs' = (css.set i cs').flatten
  | [], i, _, h => by simp at h
  | x :: css, 0, hk, _ => by
    rw [List.flatten_cons, Nat.zero_mul, setN_left cs' x _ (by rw [hk x List.mem_cons_self, hk'])]; rfl
  | x :: css, i + 1, hk, h => by
    have hx := hk x List.mem_cons_self
    rw [List.flatten_cons, show (i + 1) * k = x.length + i * k by rw [hx, Nat.add_mul]; omega, setN_right, flat_setN hk' (fun cs hc => hk cs (List.mem_cons_of_mem _ hc)) (by simpa using h)]
    rfl
theorem flat_set1 {k : Nat} {cs : List Value} {u : Value} {j : Nat} : ∀ {css : List (List Value)} {i : Nat}, (∀ cs ∈ css, cs.length = k) → css[i]? = some cs → j < k → css.flatten.set (i * k + j) u = (css.set i (cs.set j u)).flatten
  | [], i, _, h, _ => by simp at h
  | x :: css, 0, hk, h, hj => by
    simp at h; subst h
    rw [List.flatten_cons, Nat.zero_mul, Nat.zero_add, List.set_append_left _ _ (by rw [hk x List.mem_cons_self]; exact hj)]; rfl
  | x :: css, i + 1, hk, h, hj => by
    have hx := hk x List.mem_cons_self
    rw [List.flatten_cons, List.set_append_right _ _ (by rw [hx, Nat.add_mul]; omega), show (i + 1) * k + j - x.length = i * k + j by rw [hx, Nat.add_mul]; omega, flat_set1 (fun cs hc => hk cs (List.mem_cons_of_mem _ hc)) (by simpa using h) hj]
    rfl
theorem own_storedN {base : Nat} {e : TypeId} {size g n cap : Nat} : ∀ (vs : List Value) (j : Nat) {w : World} {xs : List Value}, w.ownsRow base e size (.slice (some ⟨g, 0, none⟩) n cap) n xs →
    (w.setCells g j vs).ownsRow base e size (.slice (some ⟨g, 0, none⟩) n cap) n (setN xs j vs) ∧ w.grownBy (w.setCells g j vs) (some g)
  | [], j, w, xs, h => ⟨h, rfl, rfl, rfl, Nat.le_refl _, fun _ _ _ => rfl⟩
  | v :: vs, j, w, xs, h => by
    obtain ⟨h1, h2⟩ := h.stored j v
    obtain ⟨h3, h4⟩ := own_storedN vs (j + 1) h1
    exact ⟨h3, h2.trans h4⟩
section
variable {P : Program} {N : Nat} {ops : Array Oper} {Q : Exit → Act → World → Prop} {rest : List Oper} {L : FL} {w0 w : World} {M : BS} {H : List Cd} {t e : TypeId} {g : Nat} {cs cs' : List Value} {z : Value} {bytes k : Nat}
theorem OwR.raw_mk {S : BS} {A : Option Addr} {base c : Nat} {css : List (List Value)} (hk : ∀ cs ∈ css, cs.length = k) (h : w.ownsRow base e k (.slice A css.length c) css.length css.flatten) : OwR k e w base S A c (css.map rawEl) :=
  ⟨css, grp_raw hk, by rw [List.length_map]; exact h⟩
/-- A row of the call's own that is known by its cells, where it has elements, lies at the start of a block. -/
theorem OwR.form {S : BS} {A : Option Addr} {base c : Nat} {els : List El} (h : OwR k e w base S A c els) (hn : 0 < els.length) : ∃ g, A = some ⟨g, 0, none⟩ := by
  obtain ⟨css, _, h2⟩ := h
  rcases h2.2 with ⟨hv, h0⟩ | ⟨g, cap, cur, hv, _⟩
  · omega
  · injection hv with hA; exact ⟨g, hA⟩
/-- One cell of an element is written. -/
theorem ws_stR {x y : Operand} {ty : TypeId} {pos : String} {aft : Array Edge} {e1 : TypeId} {A : Option Addr} {c p j kk : Nat} {u : Value} {css : List (List Value)} (hs : St M w0 w H) (i : Nat) (hx : look L x = some (.pointer (some ⟨g, kk, none⟩))) (hi : nthC H i = some (.rg k e A c (css.map rawEl))) (hA : A = some ⟨g, 0, none⟩) (E : Cell1 P e1)
    (hkk : kk = p * k + j) (hcs : css[p]? = some cs) (hj : j < k) (hy : look L y = some u) (h1 : u.oneCell' = true)
    (h : ∀ w', St M w0 w' (setC H i (.rg k e A c ((css.set p (cs.set j u)).map rawEl))) → WL P N ops Q rest L w') :
    WL P N ops Q (⟨none, .store e1 x y, ty, pos, aft, none⟩ :: rest) L w := by
  subst hA hkk
  obtain ⟨T, hc, hT, hK⟩ := hs.upd i hi
  obtain ⟨ho, hk⟩ := OwR.raw hc.2
  have hp := (List.getElem?_eq_some_iff.1 hcs).1
  have hl : p * k + j < css.length * k := by
    have : (p + 1) * k ≤ css.length * k := Nat.mul_le_mul_right _ hp
    rw [Nat.add_mul] at this; omega
  have hcell := ho.cellAt (p * k + j) hl
  have hlt : p * k + j < css.flatten.length := by rw [ho.1]; exact hl
  rw [List.getElem?_eq_getElem hlt] at hcell
  have hst := ho.stored (p * k + j) u
  refine wl_unitN (opu_storeC E hx hy h1 hcell (ho.frozenAt _)) (h _ (hK _ _ T (Mod.of_gr (A := some ⟨g, 0, none⟩) hst.2 fun a ha => hc.1 a ha) ⟨hc.1, ?_⟩ fun _ _ h => .inl h))
  have hl2 : (css.set p (cs.set j u)).length = css.length := List.length_set
  refine OwR.raw_mk (fun cs' hcs' => ?_) (by rw [hl2, ← flat_set1 hk hcs hj]; exact hst.1)
  rcases List.mem_or_eq_of_mem_set hcs' with h | rfl
  · exact hk _ h
  · rw [List.length_set]; exact hk _ (List.mem_of_getElem? hcs)
/-- A whole element is written. -/
theorem ws_stRS {x y : Operand} {ty : TypeId} {pos : String} {aft : Array Edge} {A : Option Addr} {c p kk : Nat} {css : List (List Value)} (hs : St M w0 w H) (i : Nat) (hx : look L x = some (.pointer (some ⟨g, kk, none⟩))) (hi : nthC H i = some (.rg k e A c (css.map rawEl))) (hA : A = some ⟨g, 0, none⟩) (S : StT P e k)
    (hkk : kk = p * k) (hp : p < css.length) (hy : look L y = some (.agg cs'.toArray)) (hl : cs'.length = k) (h1 : cs'.all (·.oneCell') = true)
    (h : ∀ w', St M w0 w' (setC H i (.rg k e A c ((css.set p cs').map rawEl))) → WL P N ops Q rest L w') :
    WL P N ops Q (⟨none, .store e x y, ty, pos, aft, none⟩ :: rest) L w := by
  subst hA hkk
  obtain ⟨T, hc, hT, hK⟩ := hs.upd i hi
  obtain ⟨ho, hk⟩ := OwR.raw hc.2
  have hst := own_storedN cs' (p * k) ho
  have hth : w.there g (p * k) cs'.toArray.size := fun j hj => by
    have hj' : j < k := by simpa [hl] using hj
    have hlt : p * k + j < css.length * k := by
      have : (p + 1) * k ≤ css.length * k := Nat.mul_le_mul_right _ hp
      rw [Nat.add_mul] at this; omega
    have hcell := ho.cellAt (p * k + j) hlt
    rw [List.getElem?_eq_getElem (by rw [ho.1]; exact hlt)] at hcell
    exact ⟨by rw [hcell]; rfl, ho.frozenAt _⟩
  refine wl_unitN (w' := w.setCells g (p * k) cs') (fun ρ o hρ ho' _ => ?_) (h _ (hK _ _ T (Mod.of_gr (A := some ⟨g, 0, none⟩) hst.2 fun a ha => hc.1 a ha) ⟨hc.1, ?_⟩ fun _ _ h => .inl h))
  · have := run_storeVar_mid (P := P) w g (p * k) e cs'.toArray hth (by simpa [hl] using S.size) (by simpa [Array.all_eq_true_iff_forall_mem] using h1)
    simp [execOp, ho', Instr.storeAt, Instr.sureAddr, hρ x _ hx, hρ y _ hy, this]
  have hl2 : (css.set p cs').length = css.length := List.length_set
  refine OwR.raw_mk (fun cs2 hcs' => ?_) (by rw [hl2, ← flat_setN hl hk hp]; exact hst.1)
  rcases List.mem_or_eq_of_mem_set hcs' with h | rfl
  · exact hk _ h
  · exact hl
end
/-- What the table of a dynamic type says of a method. -/
def methRow (P : Program) (t : TypeId) (name : String) : Option (Bool × Option (FuncId × Bool)) := (P.info? t).bind fun ti => (ti.methods.find? (·.name == name)).map fun m => (m.path.isEmpty, m.func)
theorem methRow_get {P : Program} {t : TypeId} {name : String} {f : FuncId} {b : Bool} (h : methRow P t name = some (true, some (f, b))) : ∃ ti m, P.info? t = some ti ∧ ti.methods.find? (·.name == name) = some m ∧ m.path = #[] ∧ m.func = some (f, b) := by
  unfold methRow at h
  cases hi : P.info? t with
  | none => rw [hi] at h; cases h
  | some ti =>
    rw [hi] at h
    simp only [Option.bind_some] at h
    cases hm : ti.methods.find? (·.name == name) with
    | none => rw [hm] at h; cases h
    | some m =>
      rw [hm] at h
      simp only [Option.map_some, Option.some.injEq, Prod.mk.injEq] at h
      exact ⟨ti, m, rfl, hm, Array.isEmpty_iff.1 h.1, h.2⟩
/-- A method of the value itself, called by its pointer. -/
theorem methV_val {P : Program} {w : World} {t et : TypeId} {name : String} {f : FuncId} {a : Addr} {u : Value} (h : methRow P t name = some (true, some (f, false))) (ht : P.underlying t = some (.pointer et)) (E : Cell1 P et) (hc : w.cell? a = some u) : MethV P w t (.pointer (some a)) name f u := by
  obtain ⟨ti, m, hi, hm, hp, hf⟩ := methRow_get h
  have hl : (loadVar et a).run P w = .ok u w := by simp [loadVar, E.agg, hc]
  unfold MethV
  obtain ⟨k, hk⟩ : ∃ k, P.types.size + Made.depth = k + 1 := ⟨P.types.size + 99, rfl⟩
  rw [hk, method]
  have hT : (typeInfo t).run P w = .ok ti w := by simp [typeInfo, hi]
  simp only [Sem.run_bind, hT, Result.andThen_ok, hm, hp, hf, follow, Sem.run_pure, receiverAt, run_underlying ht, Place.get]
  have hw : ∀ nm : String, (Builtin.ssaWrapNilChk_ #[t] t #[.pointer (some a), strVal "", strVal nm]).run P w = .ok (.pointer (some a)) w := fun _ => rfl
  simp [asAddr, hl, hw]
theorem methV_ptr {P : Program} {w : World} {t et : TypeId} {name : String} {f : FuncId} {v : Value} (h : methRow P t name = some (true, some (f, true))) (ht : P.underlying t = some (.pointer et)) : MethV P w t v name f v := by
  obtain ⟨ti, m, hi, hm, hp, hf⟩ := methRow_get h
  unfold MethV
  obtain ⟨k, hk⟩ : ∃ k, P.types.size + Made.depth = k + 1 := ⟨P.types.size + 99, rfl⟩
  rw [hk, method]
  have hT : (typeInfo t).run P w = .ok ti w := by simp [typeInfo, hi]
  simp only [Sem.run_bind, hT, Result.andThen_ok, hm, hp, hf, follow, Sem.run_pure, receiverAt, run_underlying ht, Place.get]
end Go.Proofs.Ytojncfdlddepdaa


/-
  Rows whose elements lie apart from one another; pieces told as one; bytes of one's own whose values are not known. Nothing here names the program.
-/
namespace Go.Proofs.Ytojncfdlddepdaa
open Go.RowKit

/-- Pieces told as one. -/
def packC (H : List Cd) : Ck := ⟨fun w S => Sat w H S, fun h hz hm => h.move hz hm⟩
/-- Elements and their cells, piece by piece. -/
def zipCe : List El → List (List Value) → List Cd
  | E :: els, cs :: css => .ce E cs :: zipCe els css
  | _, _ => []
/-- A row of the call's own whose elements lie apart. -/
def rsC (k : Nat) (e : TypeId) (A : Option Addr) (c : Nat) (els : List El) : Ck := ⟨fun w S => ∃ css : List (List Value), css.length = els.length ∧ Sat w (.rg k e A c (css.map rawEl) :: zipCe els css) S, fun ⟨css, hl, h⟩ hz hm => ⟨css, hl, h.move hz hm⟩⟩
theorem zipCe_app : ∀ {els els' : List El} {css css' : List (List Value)}, css.length = els.length → zipCe (els ++ els') (css ++ css') = zipCe els css ++ zipCe els' css'
  | [], _, [], _, _ => rfl
  | E :: els, els', cs :: css, css', h => by
    show _ :: zipCe (els ++ els') (css ++ css') = _ :: (zipCe els css ++ zipCe els' css')
    rw [zipCe_app (by simpa using h)]
  | [], _, _ :: _, _, h => by simp at h
  | _ :: _, _, [], _, h => by simp at h
theorem zipCe_grp {k : Nat} {w : World} : ∀ {els : List El} {css : List (List Value)} {S : BS}, Sat w (zipCe els css) S → css.length = els.length → (∀ cs ∈ css, cs.length = k) → Grp k w S els css
  | [], [], S, _, _, _ => Grp.nil _ _ _
  | E :: els, cs :: css, S, ⟨T, hT, hc, hr⟩, h, hk => by
    have h1 := zipCe_grp hr (by simpa using h) fun cs hcs => hk cs (List.mem_cons_of_mem _ hcs)
    exact (Grp.one (El.mono hc fun b _ h => hT b h) (hk cs List.mem_cons_self)).append (h1.mono fun b _ h => h.1)
  | [], _ :: _, _, _, h, _ => by simp at h
  | _ :: _, [], _, _, h, _ => by simp at h
section
variable {w0 w : World} {M : BS} {H H1 H2 : List Cd} {k : Nat} {e : TypeId} {A : Option Addr} {c : Nat} {els : List El}
theorem St.pk (hs : St M w0 w (H1 ++ H)) : St M w0 w (.ck (packC H1) :: H) := hs.pack (.ck (packC H1)) fun _ _ h => h
theorem St.unpk (hs : St M w0 w (.ck (packC H1) :: H)) : St M w0 w (H1 ++ H) := hs.unpack fun _ h => h
theorem Sat.permL {w : World} {H H' : List Cd} (p : H.Perm H') : ∀ {S : BS}, Sat w H S → Sat w H' S := by
  induction p with
  | nil => intro S h; exact h
  | cons c _ ih => rintro S ⟨T, hT, hc, hr⟩; exact ⟨T, hT, hc, ih hr⟩
  | swap a b H => intro S h; exact h.front (i := 1) rfl
  | trans _ _ ih1 ih2 => intro S h; exact ih2 (ih1 h)
theorem Sat.mapC {w : World} {c c' : Cd} {H : List Cd} {S : BS} (h : Sat w (c :: H) S) (hc : ∀ T, c.P w T → c'.P w T) : Sat w (c' :: H) S := by
  obtain ⟨T, hT, h1, h2⟩ := h
  exact ⟨T, hT, hc T h1, h2⟩
theorem Sat.dropC {w : World} {c : Cd} {H : List Cd} {S : BS} (h : Sat w (c :: H) S) : Sat w H S := by
  obtain ⟨T, hT, h1, h2⟩ := h
  exact h2.mono fun _ _ h => h.1
theorem Sat.mem {w : World} {c : Cd} : ∀ {H : List Cd} {S : BS}, Sat w H S → c ∈ H → ∃ T : BS, (∀ b, T b → S b) ∧ c.P w T
  | d :: H, S, ⟨T, hT, hd, hr⟩, h => by
    rw [List.mem_cons] at h
    rcases h with rfl | h
    · exact ⟨T, hT, hd⟩
    · obtain ⟨U, hU, hc⟩ := Sat.mem hr h
      exact ⟨U, fun b k => (hU b k).1, hc⟩
theorem Sat.packR {w : World} {X Y : List Cd} {c : Ck} {S : BS} (h : Sat w (X ++ Y) S) (hc : ∀ T, Sat w Y T → c.P w T) : Sat w (X ++ [.ck c]) S := by
  obtain ⟨T, hT, h1, h2⟩ := h.append
  exact Sat.join hT h1 ⟨_, fun _ h => h, hc _ h2, trivial⟩
/-- Where the elements lie apart, the row is a row of elements too. -/
theorem rs_rg {T : BS} (h : (rsC k e A c els).P w T) : (Cd.rg k e A c els).P w T := by
  obtain ⟨css, hl, T1, hT1, h1, h2⟩ := h
  obtain ⟨ho, hk⟩ := OwR.raw h1.2
  refine ⟨fun a ha => hT1 _ (h1.1 a ha), css, (zipCe_grp h2 hl hk).mono fun b _ h => ⟨h.1, fun a ha hb => h.2 (by rw [hb]; exact h1.1 a ha)⟩, by rw [← hl]; exact ho⟩
theorem St.rs (hs : St M w0 w H) (i : Nat) (hi : nthC H i = some (.ck (rsC k e A c els))) : OwR k e w 0 All A c els := by
  obtain ⟨T, hc, _⟩ := hs.get i hi
  exact (rs_rg hc).2.mono (Nat.le_refl _) fun _ _ _ => trivial
theorem St.weak (hs : St M w0 w (.ck (rsC k e A c els) :: H)) : St M w0 w (.rg k e A c els :: H) := hs.map fun _ h => h.mapC fun _ h => rs_rg h
theorem St.nilS (hs : St M w0 w H) (k : Nat) (e : TypeId) : St M w0 w (.ck (rsC k e none 0 []) :: H) := (hs.nilG k e).pack (H1 := [.rg k e none 0 []]) _ fun _ _ h => ⟨[], rfl, h⟩
theorem St.unrs (hs : St M w0 w (.ck (rsC k e A c els) :: H)) : ∃ css : List (List Value), css.length = els.length ∧ St M w0 w ((.rg k e A c (css.map rawEl) :: zipCe els css) ++ H) := by
  obtain ⟨⟨css, hl⟩, h⟩ := hs.unpackE (α := { css : List (List Value) // css.length = els.length }) (H1 := fun css => .rg k e A c (css.1.map rawEl) :: zipCe els css.1) fun T ⟨css, hl, h⟩ => ⟨⟨css, hl⟩, h⟩
  exact ⟨css, hl, h⟩
/-- A beginning of the row. -/
theorem St.preS {m : Nat} (hs : St M w0 w (.ck (rsC k e A c els) :: H)) (hm : m ≤ els.length) : St M w0 w (.ck (rsC k e A c (els.take m)) :: H) := by
  obtain ⟨css, hl, h⟩ := hs.unrs
  have h2 := St.pre (m := m) h (by simp; omega)
  rw [← List.map_take] at h2
  have e1 : zipCe els css = zipCe (els.take m) (css.take m) ++ zipCe (els.drop m) (css.drop m) := by
    rw [← zipCe_app (by simp; omega), List.take_append_drop, List.take_append_drop]
  rw [e1] at h2
  refine h2.map fun S h => ?_
  have h3 : Sat w ((.rg k e A c ((css.take m).map rawEl) :: zipCe (els.take m) (css.take m)) ++ (zipCe (els.drop m) (css.drop m) ++ H)) S := by simpa using h
  obtain ⟨T, hT, h4, h5⟩ := h3.append
  obtain ⟨U, hU, _, h6⟩ := h5.append
  exact ⟨T, hT, ⟨css.take m, by simp; omega, h4⟩, h6.mono fun b _ h => h.1⟩
end
section
variable {P : Program} {N : Nat} {ops : Array Oper} {Q : Exit → Act → World → Prop} {rest : List Oper} {L : FL} {w0 w : World} {M : BS} {H : List Cd} {t e : TypeId} {cs : List Value} {z : Value} {bytes k : Nat}
/-- An element, with the memory that is its own, goes into such a row. -/
theorem ws_pushS {d1 d2 : Nat} {x : Operand} {E : El} {s : Operand} {ty1 ty2 : TypeId} {p1 p2 : String} {f1 f2 : Array Edge} {A : Option Addr} {n c : Nat} {els : List El} (hs : St M w0 w (.ck (rsC k e A c els) :: .ce E cs :: H)) (T : RowK P t e k z bytes)
    (hs1 : ∀ p, look ((d1, p) :: L) s = some (.slice A n c)) (hn : els.length = n) (hx : ∃ v, look L x = some v ∧ v.cells = cs.toArray) (hl : cs.length = k) (h1 : cs.all (·.oneCell') = true) (hk : k ≤ 16777216)
    (hbytes : (n + 1) * bytes ≤ 140737488355328) (hmax : n + 1 ≤ maxLen) (hd1 : Nat.blt d1 N = true) (hd2 : Nat.blt d2 N = true)
    (h : ∀ p A' c' w', St M w0 w' (.ck (rsC k e A' c' (els ++ [E])) :: H) → WL P N ops Q rest ((d2, .slice A' (n + 1) c') :: (d1, p) :: L) w') :
    WL P N ops Q (⟨some d1, .buildSlice t 1 #[(0, x)], ty1, p1, f1, none⟩ :: ⟨some d2, .call { callee := .builtin .append, args := #[s, .tmp d1], argTypes := #[t, t] }, ty2, p2, f2, none⟩ :: rest) L w := by
  obtain ⟨css, hcl, hs⟩ := hs.unrs
  refine ws_pushR (cs := cs) hs 0 hs1 rfl T (by simpa [hcl] using hn) hx hl h1 hk hbytes hmax hd1 hd2 fun p A' c' w' hs => h p A' c' w' (hs.map fun S h => ?_)
  have h2 : Sat w' ((.rg k e A' c' ((css ++ [cs]).map rawEl) :: (zipCe els css ++ [.ce E cs])) ++ H) S := by simpa [setC] using h
  obtain ⟨T, hT, h3, h4⟩ := h2.append
  exact ⟨T, hT, ⟨css ++ [cs], by simp [hcl], by rw [zipCe_app hcl]; exact h3⟩, h4⟩
/-- append(s, x...) of such rows. -/
theorem ws_appS2 {d : Nat} {s x : Operand} {ty : TypeId} {pos : String} {aft : Array Edge} {A : Option Addr} {n c : Nat} {els els' : List El} {B : Option Addr} {m c' : Nat} (hs : St M w0 w (.ck (rsC k e A c els) :: .ck (rsC k e B c' els') :: H)) (hx0 : look L s = some (.slice A n c)) (T : RowK P t e k z bytes)
    (hn : els.length = n) (hx : look L x = some (.slice B m c')) (hm : els'.length = m) (h1 : ∀ css w S, Sat w (zipCe els' css) S → css.length = els'.length → ∀ u ∈ css.flatten, u.oneCell' = true)
    (hbytes : (n + m) * bytes ≤ 140737488355328) (hmax : n + m ≤ maxLen) (hd : Nat.blt d N = true)
    (h : ∀ A' c' w', St M w0 w' (.ck (rsC k e A' c' (els ++ els')) :: H) → WL P N ops Q rest ((d, .slice A' (n + m) c') :: L) w') :
    WL P N ops Q (⟨some d, .call { callee := .builtin .append, args := #[s, x], argTypes := #[t, t] }, ty, pos, aft, none⟩ :: rest) L w := by
  obtain ⟨css2, hcl2, hs⟩ := (hs.front 1 rfl).unrs
  replace hs : St M w0 w (.ck (rsC k e A c els) :: ((.rg k e B c' (css2.map rawEl) :: zipCe els' css2) ++ H)) := hs.map fun S h => Sat.permL List.perm_middle (by simpa [delC] using h)
  obtain ⟨css, hcl, hs⟩ := hs.unrs
  replace hs : St M w0 w (.rg k e A c (css.map rawEl) :: .rg k e B c' (css2.map rawEl) :: (zipCe els css ++ (zipCe els' css2 ++ H))) := hs.map fun S h => by
    have h : Sat w (.rg k e A c (css.map rawEl) :: (zipCe els css ++ .rg k e B c' (css2.map rawEl) :: (zipCe els' css2 ++ H))) S := by simpa using h
    exact Sat.permL (List.Perm.cons _ List.perm_middle) h
  have hone : ∀ u ∈ css2.flatten, u.oneCell' = true := by
    obtain ⟨_, h0⟩ := hs
    obtain ⟨T, _, h2⟩ := h0.dropC.dropC.append
    obtain ⟨T2, _, h3, _⟩ := h2.2.append
    exact h1 css2 w T2 h3 hcl2
  refine ws_appR (css := css2) hs 0 hx0 rfl T (by simpa [hcl] using hn) hx (OwR.rd (hs.rg 1 rfl)) (by rw [hcl2]; exact hm) hone hbytes hmax hd fun A' c2 w' hs => h A' c2 w' (hs.map fun S h => ?_)
  have h2 : Sat w' (.rg k e A' c2 ((css ++ css2).map rawEl) :: .rg k e B c' (css2.map rawEl) :: (zipCe els css ++ (zipCe els' css2 ++ H))) S := by simpa [setC] using h
  have h3 : Sat w' ((.rg k e A' c2 ((css ++ css2).map rawEl) :: (zipCe els css ++ zipCe els' css2)) ++ H) S := by
    have := (h2.front (i := 1) rfl).dropC
    simpa [delC] using this
  obtain ⟨T, hT, h4, h5⟩ := h3.append
  exact ⟨T, hT, ⟨css ++ css2, by simp [hcl, hcl2], by rw [zipCe_app hcl]; exact h4⟩, h5⟩
end
end Go.Proofs.Ytojncfdlddepdaa


/-
  Walks over twin and twins of the program.
-/
namespace Go.Proofs.Ytojncfdlddepdaa
open Go.RowKit

/-- An entry whose lists lie in memory of their own. -/
def enOw (x : En) (A : Option Addr) (c : Nat) (B : Option Addr) (d : Nat) : List Cd := [.ow 5 A x.key.length c (bvs x.key), .ow 5 B x.val.length d (bvs x.val)]
/-- An entry and where its lists lie. -/
structure EnA where
  x : En
  A : Option Addr
  c : Nat
  B : Option Addr
  d : Nat
def eaV (a : EnA) : List Value := enV a.x a.A a.c a.B a.d
def enM (a : EnA) : List Cd := enOw a.x a.A a.c a.B a.d
/-- An entry's cells, its lists in memory of their own that lies apart. -/
def oE (x : En) : El := ⟨fun w S cs => ∃ A c B d, cs = enV x A c B d ∧ Sat w (enOw x A c B d) S, fun ⟨A, c, B, d, h, h2⟩ hz hm => ⟨A, c, B, d, h, h2.move hz hm⟩⟩
def RetE2 (w : World) (x : En) (v : Value) (w' : World) : Prop := ∃ (A : Option Addr) (c : Nat) (B : Option Addr) (d : Nat), v = .agg (enV x A c B d).toArray ∧ St NoB w w' (enOw x A c B d)
theorem ow_cap {w : World} {A : Option Addr} {n c base : Nat} {e : TypeId} {xs : List Value} (h : Ow w base e A n c xs) : n ≤ c := by
  rcases h.2 with ⟨hv, hn⟩ | ⟨g, cap, cur, hv, _, _, hnc, _⟩
  · omega
  · injection hv with _ _ hc; omega
theorem byEl_of {w : World} {S : BS} {A : Option Addr} {c : Nat} {xs : List UInt8} (h : (Cd.ow 5 A xs.length c (bvs xs)).P w S) : (byEl xs).P w S [.slice A xs.length c] := ⟨A, c, rfl, ow_cap h.2, h.2.rd, fun a ha _ => h.1 a ha⟩
theorem enEl_of {x : En} {A B : Option Addr} {c d : Nat} (w : World) (S : BS) (h : Sat w (enOw x A c B d) S) : (Cd.ce (enEl x) (enV x A c B d)).P w S := by
  obtain ⟨T, hT, h1, U, hU, h2, _⟩ := h
  exact enEl.mk (El.mono (byEl_of h1) fun b _ h => hT b h) (El.mono (byEl_of h2) fun b _ h => (hU b h).1)
theorem oE_en {x : En} {w : World} {S : BS} {cs : List Value} (h : (oE x).P w S cs) : (enEl x).P w S cs := by
  obtain ⟨A, c, B, d, rfl, h⟩ := h
  exact enEl_of w S h
theorem oE_of {x : En} {A B : Option Addr} {c d : Nat} (w : World) (S : BS) (h : Sat w (enOw x A c B d) S) : (Cd.ce (oE x) (enV x A c B d)).P w S := ⟨A, c, B, d, rfl, h⟩
theorem grp_en {k : Nat} {w : World} {S : BS} {l : List En} {css : List (List Value)} (h : Grp k w S (l.map oE) css) : Grp k w S (l.map enEl) css := ⟨by rw [h.1]; simp, fun i cs hi => by
  obtain ⟨h1, E, h2, h3⟩ := h.2 i cs hi
  refine ⟨h1, ?_⟩
  rw [List.getElem?_map] at h2 ⊢
  cases hx : l[i]? with
  | none => rw [hx] at h2; cases h2
  | some x => rw [hx] at h2; cases h2; exact ⟨_, rfl, oE_en h3⟩⟩
theorem owr_en {k base c : Nat} {e : TypeId} {w : World} {S : BS} {A : Option Addr} {l : List En} (h : OwR k e w base S A c (l.map oE)) : OwR k e w base S A c (l.map enEl) := by
  obtain ⟨css, h1, h2⟩ := h
  exact ⟨css, grp_en h1, by simpa using h2⟩
/-- Rows of entries that lie apart, read. -/
theorem St.rsE {M : BS} {w0 w : World} {H : List Cd} {e : TypeId} {A : Option Addr} {c : Nat} {l : List En} (hs : St M w0 w H) (i : Nat) (hi : nthC H i = some (.ck (rsC 4 e A c (l.map oE)))) : OwR 4 e w 0 All A c (l.map enEl) := owr_en (hs.rs i hi)
theorem St.weakE {M : BS} {w0 w : World} {H : List Cd} {e : TypeId} {A : Option Addr} {c : Nat} {l : List En} (hs : St M w0 w (.ck (rsC 4 e A c (l.map oE)) :: H)) : St M w0 w (.rg 4 e A c (l.map enEl) :: H) := hs.map fun _ h => h.mapC fun _ h => ⟨(rs_rg h).1, owr_en (rs_rg h).2⟩
/-- A row of entries that lie apart, its entries told one by one. -/
theorem rs_es {e : TypeId} {A : Option Addr} {c : Nat} {l : List En} {w : World} {T : BS} (h : (rsC 4 e A c (l.map oE)).P w T) : ∃ es : List EnA, es.map (·.x) = l ∧ Sat w (.rg 4 e A c (es.map fun a => rawEl (eaV a)) :: es.flatMap enM) T := by
  obtain ⟨css, hl, U, hU, h1, h2⟩ := h
  have key : ∀ (l : List En) (css : List (List Value)) (S : BS), css.length = l.length → Sat w (zipCe (l.map oE) css) S → ∃ es : List EnA, es.map (·.x) = l ∧ es.map eaV = css ∧ Sat w (es.flatMap enM) S := by
    intro l
    induction l with
    | nil => intro css S h _; exact ⟨[], rfl, (List.eq_nil_of_length_eq_zero h).symm, trivial⟩
    | cons x l ih =>
      intro css S h hs
      cases css with
      | nil => simp at h
      | cons cs css =>
        obtain ⟨T, hT, ⟨A, c, B, d, hcs, he⟩, hr⟩ := hs
        obtain ⟨es, e1, e2, e3⟩ := ih css _ (by simpa using h) hr
        exact ⟨⟨x, A, c, B, d⟩ :: es, by simp [e1], by simp [e2, hcs, eaV], Sat.join hT he e3⟩
  obtain ⟨es, e1, e2, e3⟩ := key l css _ (by simpa using hl) h2
  refine ⟨es, e1, U, hU, ?_, e3⟩
  rw [show (es.map fun a => rawEl (eaV a)) = (es.map eaV).map rawEl by simp, e2]
  exact h1
theorem zip_one {l : List En} {css : List (List Value)} {w : World} {S : BS} (h : Sat w (zipCe (l.map oE) css) S) (hl : css.length = (l.map oE).length) : ∀ u ∈ css.flatten, u.oneCell' = true := by
  refine enE_one (w := w) (S := S) (grp_en (k := 4) (zipCe_grp h hl fun cs hcs => ?_))
  have key : ∀ (l : List En) (css : List (List Value)) (S : BS), css.length = l.length → Sat w (zipCe (l.map oE) css) S → ∀ cs ∈ css, cs.length = 4 := by
    intro l
    induction l with
    | nil => intro css S h _; have := List.eq_nil_of_length_eq_zero h; subst this; simp
    | cons x l ih =>
      intro css S h hs
      cases css with
      | nil => simp at h
      | cons cs css =>
        obtain ⟨T, hT, ⟨A, c, B, d, hcs, he⟩, hr⟩ := hs
        intro cs' h'
        rcases List.mem_cons.1 h' with rfl | h'
        · rw [hcs]; rfl
        · exact ih css _ (by simpa using h) hr cs' h'
  exact key l css S (by simpa using hl) h cs hcs
end Go.Proofs.Ytojncfdlddepdaa


/-
  Walks over few, at, runs, Sorted of lists of entries.
-/
namespace Go.Proofs.Ytojncfdlddepdaa
open Go.RowKit

theorem natc_succ {k : Nat} : (k : Int) + 1 = ((k + 1 : Nat) : Int) := by omega
theorem cutK_zero (A : Option Addr) (c k : Nat) : cutK A c 0 k = A := by
  unfold cutK
  split
  · rfl
  · cases A with
    | none => rfl
    | some a => simp [Addr.add]
theorem take_rdr {w : World} {S : BS} {A : Option Addr} {l : List En} {c m : Nat} (h : RdR 4 w S A (l.map enEl)) (hc : l.length ≤ c) : RdR 4 w S A ((l.take m).map enEl) := by
  rcases Nat.lt_or_ge m l.length with h1 | h1
  · have := RdR.cut h (by simp) (Nat.zero_le m) (Nat.le_of_lt h1) hc
    rw [cutK_zero, List.drop_zero, ← List.map_take] at this
    exact this
  · rw [List.take_of_length_le h1]; exact h
/-- The first that isn't above a moment. -/
def atE (run : List En) (m : Nat) : Option Nat := run.findIdx? fun x => decide (x.seq ≤ m)
def atV (o : Option Nat) : Int := match o with | some i => (i : Int) | none => -1
theorem findIdx_at {α : Type} {p : α → Bool} {l : List α} {k : Nat} {x : α} (h : l[k]? = some x) (hn : ∀ i y, i < k → l[i]? = some y → p y = false) (hp : p x = true) : l.findIdx? p = some k := by
  rw [List.findIdx?_eq_some_iff_getElem]
  obtain ⟨hk, rfl⟩ := List.getElem?_eq_some_iff.1 h
  exact ⟨hk, hp, fun j hj => by simp [hn j l[j] hj (List.getElem?_eq_getElem (by omega))]⟩
theorem beq_any {A B : Option Addr} {n m c d : Nat} {xs ys : List UInt8} {w : World} (hx : RdB w A xs) (hy : RdB w B ys) (hn : xs.length = n) (hm : ys.length = m) :
    CallsV Try.prog 34 #[.slice A n c, .slice B m d] w fun v w' => v = .bool (decide (xs = ys)) ∧ w = w' := by
  subst hn hm
  refine calls_in (N := _) Try.func34 rfl Try.ntmps34 rfl ?_; show WC _ _ _ _ _ _
  refine wc_sr ?_; refine wl_as rfl rfl ?_; refine wl_ns ?_; refine wc_sr ?_; refine wl_mv rfl rfl ?_
  refine wl_val (opv_ofBytes Try.underlying25 Try.underlying5 Try.underlying9 rfl hx) rfl ?_
  refine wl_mv rfl rfl ?_
  refine wl_val (opv_ofBytes Try.underlying25 Try.underlying5 Try.underlying9 rfl hy) rfl ?_
  refine wl_bin rfl rfl bin_eqlS rfl ?_; refine wl_as rfl rfl ?_; refine wl_ns ?_; refine wc_ret ?_
  exact we_ret1 rfl rfl ⟨_, rfl, rfl, rfl⟩
/-- The runs of one key, cut out of a list: where they begin. -/
def runsF : List En → List En → List (List En)
  | [], _ => []
  | [x], acc => [acc ++ [x]]
  | x :: y :: l, acc => if x.key = y.key then runsF (y :: l) (acc ++ [x]) else (acc ++ [x]) :: runsF (y :: l) []
def runsE (l : List En) : List (List En) := runsF l []
end Go.Proofs.Ytojncfdlddepdaa


/-
  Walks over Sorted, and over the checks of many lists, of the program and of the document.
-/
namespace Go.Proofs.Ytojncfdlddepdaa
open Go.RowKit

/-- Blocks of a set, or new ones. -/
def Ab (S : BS) (w : World) : BS := fun b => S b ∨ w.heap.size ≤ b
def RetL (w : World) (S : BS) (l : List En) (v : Value) (w' : World) : Prop := ∃ (P : Option Addr) (cp : Nat), v = .slice P l.length cp ∧ l.length ≤ cp ∧ RdR 4 w' (Ab S w) P (l.map enEl) ∧ Below w.heap.size w w'
theorem RdR.below' {k : Nat} {w w' : World} {S : BS} {A : Option Addr} {els : List El} (h : RdR k w S A els) (hb : Below w.heap.size w w') : RdR k w' S A els := RdR.below h hb
theorem RdR.mono {k : Nat} (hk : 0 < k) {w : World} {S S' : BS} {A : Option Addr} {els : List El} (h : RdR k w S A els) (hs : ∀ b, b < w.heap.size → S b → S' b) : RdR k w S' A els := RdR.move hk h (Nat.le_refl _) fun b hb h => ⟨hs b hb h, rfl⟩
theorem OwR.ab {k base c : Nat} {e : TypeId} {w w0 : World} {S : BS} {A : Option Addr} {els : List El} (h : OwR k e w base S A c els) (hb : w0.heap.size ≤ base) : RdR k w (Ab S w0) A els := by
  have hl := OwR.lt h
  obtain ⟨css, h1, h2⟩ := h
  exact ⟨css, h1.mono fun b _ hb => .inl hb.1, own_rd h2, fun a ha _ => .inr (Nat.le_trans hb (hl a ha).1)⟩
def addE (out : List En) (x : En) : List En := if checkE [x] = 0 ∧ inE out x = false then insE out x else out
def sortedE (l : List En) : List En := l.foldl addE []
theorem addE_len (out : List En) (x : En) : (addE out x).length ≤ out.length + 1 := by
  unfold addE; split
  · rw [insE_length]; omega
  · omega
theorem addE_ok {p : En → Prop} {out : List En} {x : En} (h : ∀ y ∈ out, p y) (hx : p x) : ∀ y ∈ addE out x, p y := by
  unfold addE; split
  · intro y hy
    rw [insE, List.mem_append, List.mem_append] at hy
    rcases hy with (hy | hy) | hy
    · exact h y (List.mem_of_mem_take hy)
    · simp at hy; subst hy; exact hx
    · exact h y (List.mem_of_mem_drop hy)
  · exact h
theorem foldl_take {α β : Type} {f : β → α → β} {b : β} {l : List α} {k : Nat} {x : α} (h : l[k]? = some x) : (l.take (k + 1)).foldl f b = f ((l.take k).foldl f b) x := by
  rw [take_getR h, List.foldl_append]; rfl
theorem fold_facts {p : En → Prop} {l : List En} (h : ∀ y ∈ l, p y) : ∀ k, ((l.take k).foldl addE []).length ≤ k ∧ ∀ y ∈ (l.take k).foldl addE [], p y := by
  intro k
  induction k with
  | zero => simp
  | succ k ih =>
    cases hx : l[k]? with
    | none => rw [List.take_of_length_le (by have := List.getElem?_eq_none_iff.1 hx; omega)]; rw [List.take_of_length_le (by have := List.getElem?_eq_none_iff.1 hx; omega)] at ih; exact ⟨by omega, ih.2⟩
    | some x =>
      rw [foldl_take hx]
      exact ⟨by have := addE_len ((l.take k).foldl addE []) x; omega, addE_ok ih.2 (h x (List.mem_of_getElem? hx))⟩
theorem ext_len {l l' : List En} (h : l = l') : l.length = l'.length := by rw [h]
set_option maxRecDepth 4000 in
theorem sorted_any {S : BS} {A : Option Addr} {n c : Nat} {l : List En} {w : World} (hr : RdR 4 w S A (l.map enEl)) (hn : l.length = n) (hok : ∀ x ∈ l, x.key.length ≤ maxLen ∧ x.val.length ≤ maxLen) (hl : l.length ≤ 1048576) :
    CallsV Try.prog 9 #[.slice A n c] w (RetL w S (sortedE l)) := by
  subst hn
  have hmax : maxLen = 9223372036854775807 := rfl
  have hs := St.init w
  refine calls_in (N := _) Try.func9 rfl Try.ntmps9 rfl ?_; show WC _ _ _ _ _ _
  refine wc_sr ?_; refine wl_as rfl rfl ?_; refine wl_ns ?_; refine wc_sr ?_; refine wl_as rfl rfl ?_; refine wl_ns ?_; refine wc_seq ?_; refine wc_sr ?_; refine wl_as rfl rfl ?_; refine wl_ns ?_; refine wc_block ?_
  refine wc_loop (fun L wr mm => ∃ (k : Nat) (P : Option Addr) (cp : Nat) (out : List En), L = [(0, .slice A l.length c), (3, .slice P out.length cp), (4, .int .i64 (k : Int))] ∧ k ≤ l.length ∧ (l.take k).foldl addE [] = out ∧ out.length ≤ cp ∧ RdR 4 wr (Ab S w) P (out.map enEl) ∧ St NoB w wr [] ∧ mm = l.length - k)
    [(0, .slice A l.length c), (3, .slice none 0 0), (4, .int .i64 (0 : Nat))] l.length ⟨0, none, 0, [], rfl, by omega, rfl, by simp, RdR.nil _, hs, rfl⟩ ⟨rfl, rfl, rfl, trivial⟩ ?_
  clear hs
  rintro _ w1 mm ⟨k, P, cp, out, rfl, hk, hout, hcp, hro, hs, rfl⟩
  refine wc_seq ?_; refine wc_sr ?_; refine wl_mv rfl rfl ?_; refine wl_mv rfl rfl ?_; apply wl_val; apply opv_len; exact rfl; exact tkE.sl; exact rfl; refine wl_bin rfl rfl bin_lss rfl ?_; refine wl_ns ?_
  refine wc_cond rfl (fun h1 => ?_) (fun h1 => ?_)
  · obtain ⟨x, hx⟩ : ∃ x, l[k]? = some x := ⟨_, List.getElem?_eq_getElem (by omega)⟩
    have hox := hok x (List.mem_of_getElem? hx)
    have hf := fold_facts (p := fun x => x.key.length ≤ maxLen) (fun y hy => (hok y hy).1) k
    rw [hout] at hf
    have hstep := foldl_take (f := addE) (b := []) hx
    rw [hout, addE] at hstep
    obtain ⟨b, o, cs, rfl, _, _, hp, i1⟩ := RdR.at (k := 4) (by decide) hr (E := enEl x) (i := k) (by rw [List.getElem?_map, hx]; rfl)
    obtain ⟨X, cx, X2, cx2, rfl, rx, _, rx2, _⟩ := enEl.rd (El.all hp)
    have hi := i1.below hs.bel
    have hpw := El.below (El.all hp) hs.bel
    refine wc_skip ?_; refine we_seq ?_; refine wc_seq ?_; refine wc_block ?_; refine wc_sr ?_; refine wl_mv rfl rfl ?_; refine wl_mv rfl rfl ?_; apply wl_val; apply opv_idxG tkE; exact rfl; exact rfl; exact rfl; omega; exact rfl; apply wl_val; apply opv_ldG; exact rfl; assumption; exact sE; exact rfl
    refine wl_bsG (css := [enV x X cx X2 cx2]) tkE ⟨rfl, ⟨_, rfl, rfl⟩, rfl, trivial⟩ (els := [enEl x]) rfl (by decide) (by decide) (Grp.one hpw rfl) rfl fun R w2 hR hbx _ => ?_
    replace hro := hro.below hbx
    replace hs := hs.below hbx
    replace hi := hi.below hbx
    skip
    refine wl_call ok_caissonref07_Check (refCheck_any (l := [x]) (OwR.rd hR) rfl (by simp [maxLen])) ⟨rfl, trivial⟩ rfl ?_; rintro _ _ ⟨rfl, hbx2⟩; replace hs := hs.below hbx2; try dsimp only [List.cons_append, List.nil_append, setC, delC] at hs
    replace hro := hro.below hbx2
    replace hi := hi.below hbx2
    refine wl_cutE (fun L' w' => ∃ t : Bool, L' = [(0, .slice (some ⟨b, o, none⟩) l.length c), (3, .slice P out.length cp), (4, .int .i64 (k : Int)), (26, .bool t)] ∧ St NoB w w' [] ∧ RdR 4 w' (Ab S w) P (out.map enEl) ∧ (t = true ↔ (checkE [x] = 0 ∧ inE out x = false))) ?_ ?_
    · by_cases h2 : checkE [x] = 0
      · have h2' : ((checkE [x] : Nat) : Int) = 0 := by omega
        refine wl_bin rfl rfl bin_eql rfl ?_; refine wl_mv rfl rfl ?_; apply wl_take; exact rfl; exact rfl; exact rfl; refine bT ?_; (with_reducible assumption); refine wl_mv rfl rfl ?_; apply wl_take; exact rfl; exact rfl; exact rfl; refine bT ?_; (with_reducible assumption); refine wl_mv rfl rfl ?_; apply wl_take; exact rfl; exact rfl; exact rfl; refine bT ?_; (with_reducible assumption); refine wl_mv rfl rfl ?_; apply wl_take; exact rfl; exact rfl; exact rfl; refine bT ?_; (with_reducible assumption); apply wl_val; apply opv_idxG tkE; exact rfl; exact rfl; exact rfl; omega; exact rfl; apply wl_take; exact rfl; exact rfl; exact rfl; refine bT ?_; (with_reducible assumption); apply wl_val; apply opv_ldG; exact rfl; assumption; exact sE; exact rfl; apply wl_take; exact rfl; exact rfl; exact rfl; refine bT ?_; (with_reducible assumption)
        refine wl_call ok_caissonref07_In (in_any (e := x) hro.all rfl (rx.below hs.bel) hf.2 (by omega)) ⟨rfl, rfl, trivial⟩ rfl ?_; rintro _ _ ⟨rfl, hbx3⟩; replace hs := hs.below hbx3; try dsimp only [List.cons_append, List.nil_append, setC, delC] at hs
        replace hro := hro.below hbx3
        apply wl_take; exact rfl; exact rfl; exact rfl; refine bT ?_; (with_reducible assumption); apply wl_val; apply opv_not; exact rfl; exact rfl; apply wl_val; apply opv_pickT; exact rfl; refine bT ?_; (with_reducible assumption); exact rfl; exact rfl; refine wl_nil ?_
        refine we_cut _ ⟨!inE out x, rfl, hs, hro, ?_⟩ ⟨rfl, rfl, rfl, rfl, trivial⟩
        simp [h2]
      · have h2' : ¬ ((checkE [x] : Nat) : Int) = 0 := by omega
        refine wl_bin rfl rfl bin_eql rfl ?_; refine wl_mv rfl rfl ?_; apply wl_skip; exact rfl; exact rfl; exact rfl; refine bFn ?_; (with_reducible assumption); exact rfl; apply wl_skip; exact rfl; exact rfl; exact rfl; refine bFn ?_; (with_reducible assumption); exact rfl; apply wl_skip; exact rfl; exact rfl; exact rfl; refine bFn ?_; (with_reducible assumption); exact rfl; apply wl_skip; exact rfl; exact rfl; exact rfl; refine bFn ?_; (with_reducible assumption); exact rfl; apply wl_skip; exact rfl; exact rfl; exact rfl; refine bFn ?_; (with_reducible assumption); exact rfl; apply wl_skip; exact rfl; exact rfl; exact rfl; refine bFn ?_; (with_reducible assumption); exact rfl; apply wl_skip; exact rfl; exact rfl; exact rfl; refine bFn ?_; (with_reducible assumption); exact rfl; apply wl_val; apply opv_pickF; exact rfl; refine bF ?_; (with_reducible assumption); exact rfl; exact rfl; refine wl_nil ?_
        refine we_cut _ ⟨false, rfl, hs, hro, ?_⟩ ⟨rfl, rfl, rfl, rfl, trivial⟩
        simp [h2]
    clear hs hi hro
    rintro _ w4 ⟨t, rfl, hs, hro, ht⟩
    replace hpw := El.below hp hs.bel
    have hi := i1.below hs.bel
    cases t with
    | true =>
      rw [if_pos (ht.1 rfl)] at hstep
      refine we_seq ?_; apply wc_condTb; exact rfl; exact rfl; refine wc_region ?_; refine wl_mv rfl rfl ?_; refine wl_mv rfl rfl ?_; refine wl_mv rfl rfl ?_; apply wl_val; apply opv_idxG tkE; exact rfl; exact rfl; exact rfl; omega; exact rfl; apply wl_val; apply opv_ldG; exact rfl; assumption; exact sE; exact rfl
      refine wl_call ok_caissonref07_Insert (insert_any (e := x) (S := Ab S w) hro rfl hcp (El.mono hpw fun b _ h => .inl h) hf.2 hox.1 (by omega)) ⟨rfl, rfl, trivial⟩ rfl ?_
      rintro _ w5 ⟨P2, cp2, rfl, ho2, hbx4⟩
      have hz4 := hs.size
      replace hs := hs.below hbx4
      refine wl_as rfl rfl ?_; refine wl_nil ?_; refine we_block_norm ?_; refine we_seq ?_; refine wc_region ?_; refine wl_mv rfl rfl ?_; apply wl_val; apply opv_bin; exact rfl; exact rfl; exact bin_add64 (by omega); exact rfl; refine wl_as rfl rfl ?_; refine wl_nil ?_
      refine we_loop _ (l.length - (k + 1)) ⟨k + 1, P2, cp2, insE out x, rfl, by omega, hstep, by have := OwR.len_le ho2; simpa using this, (OwR.ab ho2 (Nat.le_refl _)).mono (by decide) fun b _ h => ?_, hs, rfl⟩ (by omega) ⟨rfl, rfl, by simp [lookT], trivial⟩
      rcases h with h | h
      · exact h
      · exact .inr (by omega)
    | false =>
      rw [if_neg (fun h => by have := ht.2 h; cases this)] at hstep
      refine we_seq ?_; apply wc_condFb; exact rfl; exact rfl; refine wc_skip ?_; refine we_block_norm ?_; refine we_seq ?_; refine wc_region ?_; refine wl_mv rfl rfl ?_; apply wl_val; apply opv_bin; exact rfl; exact rfl; exact bin_add64 (by omega); exact rfl; refine wl_as rfl rfl ?_; refine wl_nil ?_
      refine we_loop _ (l.length - (k + 1)) ⟨k + 1, P, cp, out, rfl, by omega, hstep, hcp, hro, hs, rfl⟩ (by omega) ⟨rfl, rfl, by simp [lookT], trivial⟩
  · obtain rfl : k = l.length := by omega
    rw [List.take_length] at hout
    refine wc_exit ?_; refine we_seq_exit ?_; refine we_loop_exit ?_; refine we_block_exit ?_; refine we_seq ?_; refine wc_sr ?_; refine wl_mv rfl rfl ?_; refine wl_as rfl rfl ?_; refine wl_ns ?_; refine wc_ret ?_
    exact we_ret1 rfl rfl ⟨_, rfl, P, cp, by rw [sortedE, hout], by rw [sortedE, hout]; exact hcp, by rw [sortedE, hout]; exact hro, hs.bel⟩
end Go.Proofs.Ytojncfdlddepdaa


/-
  Walks over the checks of many lists, of the program and of the document.
-/
namespace Go.Proofs.Ytojncfdlddepdaa
open Go.RowKit

abbrev rowsE (lists : List (List En)) : List El := lists.map fun l => rowEl 4 (l.map enEl)
theorem rowsE_at {w : World} {S : BS} {A : Option Addr} {lists : List (List En)} {k : Nat} {l : List En} (hr : RdR 1 w S A (rowsE lists)) (hx : lists[k]? = some l) :
    ∃ b o X cx, A = some ⟨b, o, none⟩ ∧ l.length ≤ cx ∧ RdR 4 w S X (l.map enEl) ∧ Wi w b (o + k * 1) [.slice X l.length cx] := by
  obtain ⟨b, o, cs, hA, _, _, hp, hi⟩ := RdR.at (k := 1) (by decide) hr (E := rowEl 4 (l.map enEl)) (i := k) (by rw [List.getElem?_map, hx]; rfl)
  obtain ⟨X, cx, rfl, hc, h, _⟩ := hp
  rw [List.length_map] at hc hi
  exact ⟨b, o, X, cx, hA, hc, h, hi⟩
def errE (l : List En) : Nat := if checkE l = 0 ∧ ordE l = false then 3 else checkE l
def stepW (worst : Nat) (l : List En) : Nat := if errE l ≠ 0 ∧ (worst = 0 ∨ errE l < worst) then errE l else worst
def worstE (lists : List (List En)) : Nat := lists.foldl stepW 0
theorem checkE_le (l : List En) : checkE l = 0 ∨ checkE l = 2 ∨ checkE l = 3 := by
  unfold checkE; split
  · exact .inr (.inl rfl)
  · split
    · exact .inr (.inr rfl)
    · exact .inl rfl
theorem stepW_le {worst : Nat} {l : List En} (h : worst ≤ 3) : stepW worst l ≤ 3 := by
  have := checkE_le l
  have he : errE l ≤ 3 := by unfold errE; split <;> omega
  unfold stepW
  split
  · exact he
  · exact h
theorem foldW_le {lists : List (List En)} : ∀ {w : Nat}, w ≤ 3 → lists.foldl stepW w ≤ 3 := by
  induction lists with
  | nil => intro w h; exact h
  | cons l lists ih => intro w h; exact ih (stepW_le h)
theorem worstE_take {lists : List (List En)} {k : Nat} {l : List En} (h : lists[k]? = some l) : worstE (lists.take (k + 1)) = stepW (worstE (lists.take k)) l := by
  rw [worstE, worstE, take_getR h, List.foldl_append]; rfl
/-- The first so many neighbours stand in order. -/
def okTo (l : List En) (j : Nat) : Bool := (List.range j).all fun i => match l[i]?, l[i + 1]? with | some x, some y => lessE x y | _, _ => true
theorem okTo_succ {l : List En} {j : Nat} {x y : En} (hx : l[j]? = some x) (hy : l[j + 1]? = some y) : okTo l (j + 1) = (okTo l j && lessE x y) := by
  unfold okTo; rw [List.range_succ, List.all_append]; simp [hx, hy]
theorem okTo_all {l : List En} {j : Nat} (hj : l.length ≤ j + 1) : okTo l j = ordE l := by
  rw [Bool.eq_iff_iff, ordE_iff]
  unfold okTo
  rw [List.all_eq_true]
  constructor
  · intro h i x y hx hy
    have := h i (List.mem_range.2 (by have := (List.getElem?_eq_some_iff.1 hy).1; omega))
    simpa [hx, hy] using this
  · intro h i _
    split
    · rename_i x y hx hy; exact h i x y hx hy
    · rfl
def wv (w1 : Nat) (b : Bool) : Nat := if w1 = 0 ∧ b = false then 3 else w1
theorem wv_step {worst : Nat} {l : List En} (h : worst ≤ 3) : wv (if checkE l ≠ 0 ∧ (worst = 0 ∨ checkE l < worst) then checkE l else worst) (ordE l) = stepW worst l := by
  unfold wv stepW errE
  rcases checkE_le l with h0 | h0 | h0 <;> rw [h0] <;> cases ordE l <;> simp <;> split <;> (try split) <;> (try split) <;> omega
end Go.Proofs.Ytojncfdlddepdaa


/-
  Walks over Visible, of the program and of the document.
-/
namespace Go.Proofs.Ytojncfdlddepdaa
open Go.RowKit

theorem Mod.rebase {M : BS} {w0 w1 w : World} (hb : Below w0.heap.size w0 w1) (h : Mod M w1 w) (hM : ∀ b, M b → w0.heap.size ≤ b) : Mod NoB w0 w := (Mod.of_below hb NoB).trans h fun b hb h => by have := hM b h; omega
/-- What began later. -/
theorem St.rebase {w0 w1 w : World} {H : List Cd} (hs : St NoB w1 w H) (hb : Below w0.heap.size w0 w1) : St NoB w0 w H :=
  ⟨Mod.rebase hb hs.1 fun b h => h.elim, hs.2.mono fun b _ h => h.elim (fun k => k.elim) fun k => .inr (Nat.le_trans hb.size k)⟩
/-- Entries with memory of their own, and a code. -/
def RetLE (w : World) (l : List En) (e : Nat) (v : Value) (w' : World) : Prop := ∃ (P : Option Addr) (cp : Nat), v = .tuple #[.slice P l.length cp, .int .i64 (e : Int)] ∧ St NoB w w' [.ck (rsC 4 38 P cp (l.map oE))]
def visR (m : Nat) (run : List En) : Option En := (atE run m).bind fun i => (run[i]?).filter fun x => decide (x.kind = 1)
def visE (l : List En) (m : Nat) : List En := (runsE l).filterMap (visR m)
theorem runsF_len : ∀ (l acc : List En), (runsF l acc).length ≤ l.length ∧ ∀ r ∈ runsF l acc, r ≠ [] ∧ (∀ x ∈ r, x ∈ acc ∨ x ∈ l) ∧ r.length ≤ acc.length + l.length
  | [], acc => by simp [runsF]
  | [x], acc => by simp [runsF]
  | x :: y :: l, acc => by
    rw [runsF]
    split
    · obtain ⟨h1, h2⟩ := runsF_len (y :: l) (acc ++ [x])
      refine ⟨by simp at h1 ⊢; omega, fun r hr => ?_⟩
      obtain ⟨h3, h4, h5⟩ := h2 r hr
      refine ⟨h3, fun z hz => ?_, by simp at h5 ⊢; omega⟩
      rcases h4 z hz with h | h
      · rw [List.mem_append] at h
        rcases h with h | h
        · exact .inl h
        · simp at h; subst h; simp
      · exact .inr (List.mem_cons_of_mem _ h)
    · obtain ⟨h1, h2⟩ := runsF_len (y :: l) []
      refine ⟨by simp at h1 ⊢; omega, fun r hr => ?_⟩
      rw [List.mem_cons] at hr
      rcases hr with rfl | hr
      · refine ⟨by simp, fun z hz => ?_, by simp⟩
        rw [List.mem_append] at hz
        rcases hz with h | h
        · exact .inl h
        · simp at h; subst h; simp
      · obtain ⟨h3, h4, h5⟩ := h2 r hr
        refine ⟨h3, fun z hz => ?_, by simp at h5 ⊢; omega⟩
        rcases h4 z hz with h | h
        · simp at h
        · exact .inr (List.mem_cons_of_mem _ h)
theorem runsE_facts (l : List En) : (runsE l).length ≤ l.length ∧ ∀ r ∈ runsE l, r ≠ [] ∧ (∀ x ∈ r, x ∈ l) ∧ r.length ≤ l.length := by
  obtain ⟨h1, h2⟩ := runsF_len l []
  refine ⟨h1, fun r hr => ?_⟩
  obtain ⟨h3, h4, h5⟩ := h2 r hr
  exact ⟨h3, fun x hx => (h4 x hx).resolve_left (by simp), by simpa using h5⟩
theorem filterMap_take {α β : Type} {f : α → Option β} {l : List α} {k : Nat} {x : α} (h : l[k]? = some x) : (l.take (k + 1)).filterMap f = (l.take k).filterMap f ++ (f x).toList := by
  rw [take_getR h, List.filterMap_append]; cases hf : f x <;> simp [List.filterMap_cons, hf]
theorem filterMap_len {α β : Type} (f : α → Option β) (l : List α) : (l.filterMap f).length ≤ l.length := List.length_filterMap_le f l
def visP (l : List En) (m : Nat) (x : En) : Bool := match getE l x.key m with | some v => decide (v.seq = x.seq ∧ v.kind = 1) | none => false
def refVis (l : List En) (m : Nat) : List En := l.filter (visP l m)
theorem filter_take {α : Type} {p : α → Bool} {l : List α} {k : Nat} {x : α} (h : l[k]? = some x) : (l.take (k + 1)).filter p = (l.take k).filter p ++ (if p x then [x] else []) := by
  rw [take_getR h, List.filter_append]; cases hp : p x <;> simp [List.filter_cons, hp]
end Go.Proofs.Ytojncfdlddepdaa


/-
  Walks over needed and Keep of the program.
-/
namespace Go.Proofs.Ytojncfdlddepdaa
open Go.RowKit

theorem tyQ : Row1 Try.prog 46 33 (.int .u64 0) 8 := ⟨Try.underlying46, by kernel_rfl, rfl, by rw [Try.underlying33]⟩
def u64s (ms : List Nat) : List Value := ms.map fun (m : Nat) => .int .u64 (m : Int)
theorem u64s_get {ms : List Nat} {k m : Nat} (h : ms[k]? = some m) : (u64s ms)[k]? = some (.int .u64 (m : Int)) := by simp [u64s, h]
/-- Whether place i of a run is needed. -/
def ndP (run : List En) (ms : List Nat) (i : Nat) : Bool := decide (i = 0) || ms.any fun m => decide (atE run m = some i)
def pick (run : List En) (ms : List Nat) (i : Nat) : Option En := if ndP run ms i then run[i]? else none
def needE (run : List En) (ms : List Nat) : List En := (List.range run.length).filterMap (pick run ms)
def ndV (run : List En) (ms : List Nat) : List Value := (List.range run.length).map fun i => .bool (ndP run ms i)
theorem ndV_get {run : List En} {ms : List Nat} {i : Nat} (h : i < run.length) : (ndV run ms)[i]? = some (.bool (ndP run ms i)) := by simp [ndV, h]
theorem ndV_len (run : List En) (ms : List Nat) : (ndV run ms).length = run.length := by simp [ndV]
theorem ndV_nil {run : List En} (h : 0 < run.length) : (List.replicate run.length (Value.bool false)).set 0 (.bool true) = ndV run [] := by
  apply List.ext_getElem?
  intro i
  rw [List.getElem?_set, List.getElem?_replicate]
  by_cases h1 : i < run.length
  · rw [ndV_get h1, ndP]
    cases i with
    | zero => simp [h]
    | succ i => simp [h1]
  · rw [List.getElem?_eq_none (by rw [ndV_len]; omega), if_neg (by omega), if_neg h1]
theorem ndV_set {run : List En} {ms : List Nat} {m i : Nat} (h : i < run.length) (ha : atE run m = some i) : (ndV run ms).set i (.bool true) = ndV run (ms ++ [m]) := by
  apply List.ext_getElem?
  intro j
  rw [List.getElem?_set, ndV_len]
  by_cases h1 : j < run.length
  · rw [ndV_get h1, ndV_get h1, ndP, ndP, List.any_append]
    by_cases h2 : i = j
    · subst h2; simp [h, ha]
    · have : ¬ atE run m = some j := by rw [ha]; simpa using h2
      simp [h2, this]
  · rw [List.getElem?_eq_none (by rw [ndV_len]; omega), if_neg (by omega), List.getElem?_eq_none (by rw [ndV_len]; omega)]
theorem ndV_none {run : List En} {ms : List Nat} {m : Nat} (ha : atE run m = none) : ndV run ms = ndV run (ms ++ [m]) := by
  unfold ndV ndP; simp [List.any_append, ha]
theorem ndV_one (run : List En) (ms : List Nat) : ∀ u ∈ ndV run ms, u.oneCell' = true := by
  intro u hu; simp [ndV] at hu; obtain ⟨_, _, rfl⟩ := hu; rfl
theorem needE_take {run : List En} {ms : List Nat} {k : Nat} : (List.range (k + 1)).filterMap (pick run ms) = (List.range k).filterMap (pick run ms) ++ (pick run ms k).toList := by
  rw [List.range_succ, List.filterMap_append]; cases h : pick run ms k <;> simp [h]
/-- How many stay when what is deleted at the end goes. -/
def trimN (s : List En) : Nat → Nat
  | 0 => 0
  | n + 1 => match s[n]? with
    | some x => if x.kind = 2 then trimN s n else n + 1
    | none => n + 1
theorem trimN_le (s : List En) : ∀ n, trimN s n ≤ n
  | 0 => Nat.le_refl _
  | n + 1 => by
    rw [trimN]
    have := trimN_le s n
    split
    · split <;> omega
    · omega
def keepR (bottom : Bool) (ms : List Nat) (run : List En) : List En := (needE run ms).take (if bottom then trimN (needE run ms) (needE run ms).length else (needE run ms).length)
def keepE (l : List En) (bottom : Bool) (ms : List Nat) : List En := (runsE l).flatMap (keepR bottom ms)
theorem flatMap_take {α β : Type} {f : α → List β} {l : List α} {k : Nat} {x : α} (h : l[k]? = some x) : (l.take (k + 1)).flatMap f = (l.take k).flatMap f ++ f x := by
  rw [take_getR h, List.flatMap_append]; simp
theorem needE_len (run : List En) (ms : List Nat) : (needE run ms).length ≤ run.length := by
  have := filterMap_len (pick run ms) (List.range run.length); rw [List.length_range] at this; exact this
theorem keepR_len (b : Bool) (ms : List Nat) (run : List En) : (keepR b ms run).length ≤ run.length := by
  have := needE_len run ms
  unfold keepR; rw [List.length_take]; omega
theorem flat_len {f : List En → List En} (hf : ∀ r, (f r).length ≤ r.length) : ∀ (rs : List (List En)), (rs.flatMap f).length ≤ (rs.map List.length).sum
  | [] => by simp
  | r :: rs => by
    have := flat_len hf rs
    have := hf r
    rw [List.flatMap_cons, List.length_append, List.map_cons, List.sum_cons]; omega
theorem runsF_sum : ∀ (l acc : List En), l ≠ [] → ((runsF l acc).map List.length).sum = acc.length + l.length
  | [], _, h => absurd rfl h
  | [x], acc, _ => by simp [runsF]
  | x :: y :: l, acc, _ => by
    rw [runsF]
    split
    · rw [runsF_sum (y :: l) (acc ++ [x]) (by simp)]; simp; omega
    · rw [List.map_cons, List.sum_cons, runsF_sum (y :: l) [] (by simp)]; simp; omega
theorem runs_sum (l : List En) : ((runsE l).map List.length).sum = l.length := by
  cases l with
  | nil => simp [runsE, runsF]
  | cons x l => rw [runsE, runsF_sum _ _ (by simp)]; simp
theorem take_sum {rs : List (List En)} (k : Nat) : ((rs.take k).map List.length).sum ≤ (rs.map List.length).sum := by
  conv => rhs; rw [← List.take_append_drop k rs, List.map_append, List.sum_append]
  omega
end Go.Proofs.Ytojncfdlddepdaa


/-
  Walks over need and Keep of the document.
-/
namespace Go.Proofs.Ytojncfdlddepdaa
open Go.RowKit

def z0 : En := ⟨[], 0, 0, []⟩
theorem get2_any {A K : Option Addr} {n c kc kn at' : Nat} {l : List En} {key : List UInt8} {w : World} (hr : RdR 4 w All A (l.map enEl)) (hn : l.length = n) (rk : RdB w K key) (hkn : key.length = kn) (hok : ∀ x ∈ l, x.key.length ≤ maxLen) (hl : l.length ≤ 4294967296) :
    CallsV Try.prog 18 #[.slice A n c, .slice K kn kc, .int .u64 (at' : Int)] w fun v w' => (∃ Y cy Y2 cy2, v = .tuple #[.agg (enV ((getE l key at').getD z0) Y cy Y2 cy2).toArray, .bool (getE l key at').isSome]) ∧ Below w.heap.size w w' :=
  (get_any hr hn rk hkn hok hl).mono fun v w' ⟨h1, h2⟩ => ⟨by
    cases hg : getE l key at' with
    | none => rw [hg] at h1; exact ⟨none, 0, none, 0, h1⟩
    | some y => rw [hg] at h1; obtain ⟨Y, cy, Y2, cy2, h⟩ := h1; exact ⟨Y, cy, Y2, cy2, h⟩, h2⟩
def seqIs (o : Option En) (x : En) : Bool := o.isSome && decide ((o.getD z0).seq = x.seq)
def newest (l : List En) (x : En) : Bool := decide (((getE l x.key 18446744073709551615).getD z0).seq = x.seq)
def refNeed (l : List En) (ms : List Nat) (x : En) : Bool := newest l x || ms.any fun m => seqIs (getE l x.key m) x
def putP (x y : En) : Bool := decide (y.key = x.key ∧ y.kind = 1)
def putsP (l : List En) (i : Nat) : Option En := match l[i]? with | some x => if decide (x.kind = 1) || (l.drop (i + 1)).any (putP x) then some x else none | none => none
def putsE (l : List En) : List En := (List.range l.length).filterMap (putsP l)
def refKeep (l : List En) (bt : Bool) (ms : List Nat) : List En := if bt then putsE (l.filter (refNeed l ms)) else l.filter (refNeed l ms)
theorem range_filterMap {α : Type} {f : Nat → Option α} {k : Nat} : (List.range (k + 1)).filterMap f = (List.range k).filterMap f ++ (f k).toList := by
  rw [List.range_succ, List.filterMap_append]; cases h : f k <;> simp [h]
theorem any_drop {α : Type} {p : α → Bool} {l : List α} {i k : Nat} {x : α} (hi : i ≤ k) (h : l[k]? = some x) : ((l.take (k + 1)).drop i).any p = (((l.take k).drop i).any p || p x) := by
  rw [take_getR h, List.drop_append_of_le_length (by have := (List.getElem?_eq_some_iff.1 h).1; simp; omega)]; simp
end Go.Proofs.Ytojncfdlddepdaa


/-
  The plain laws of lists of entries: what the program's Visible and Keep make is what the document's make. No program in sight.
-/
namespace Go.Proofs.Ytojncfdlddepdaa

theorem cmp_trans : ∀ {a b c : List UInt8}, cmpB a b < 0 → cmpB b c < 0 → cmpB a c < 0
  | [], [], _, h, _ => by simp [cmpB] at h
  | [], _ :: _, [], _, h => by simp [cmpB] at h
  | [], _ :: _, _ :: _, _, _ => by simp [cmpB]
  | _ :: _, [], _, h, _ => by simp [cmpB] at h
  | _ :: _, _ :: _, [], _, h => by simp [cmpB] at h
  | x :: xs, y :: ys, z :: zs, h, k => by
    rcases Nat.lt_trichotomy x.toNat y.toNat with h1 | h1 | h1
    · rcases Nat.lt_trichotomy y.toNat z.toNat with h2 | h2 | h2
      · rw [cmp_lt (UInt8.lt_iff_toNat_lt.2 (by omega))]; decide
      · rw [cmp_lt (UInt8.lt_iff_toNat_lt.2 (by omega))]; decide
      · rw [cmp_gt (UInt8.lt_iff_toNat_lt.2 h2)] at k; simp at k
    · obtain rfl := UInt8.toNat_inj.1 h1
      rcases Nat.lt_trichotomy x.toNat z.toNat with h2 | h2 | h2
      · rw [cmp_lt (UInt8.lt_iff_toNat_lt.2 h2)]; decide
      · obtain rfl := UInt8.toNat_inj.1 h2
        rw [cmp_same] at h k ⊢
        exact cmp_trans h k
      · rw [cmp_gt (UInt8.lt_iff_toNat_lt.2 h2)] at k; simp at k
    · rw [cmp_gt (UInt8.lt_iff_toNat_lt.2 h1)] at h; simp at h
theorem lessE_iff {a b : En} : lessE a b = true ↔ cmpB a.key b.key < 0 ∨ (a.key = b.key ∧ b.seq < a.seq) := by
  rw [lessE, decide_eq_true_eq]
  constructor
  · rintro (h | ⟨h, h'⟩)
    · exact .inl h
    · exact .inr ⟨cmp_zero h, h'⟩
  · rintro (h | ⟨h, h'⟩)
    · exact .inl h
    · exact .inr ⟨by rw [h]; exact cmp_refl _, h'⟩
theorem lessE_trans {a b c : En} (h : lessE a b = true) (k : lessE b c = true) : lessE a c = true := by
  rw [lessE_iff] at h k ⊢
  rcases h with h | ⟨h, h'⟩
  · rcases k with k | ⟨k, k'⟩
    · exact .inl (cmp_trans h k)
    · rw [← k]; exact .inl h
  · rcases k with k | ⟨k, k'⟩
    · rw [h]; exact .inl k
    · exact .inr ⟨h.trans k, by omega⟩
theorem lessE_irr (a : En) : lessE a a = false := by
  rw [← Bool.not_eq_true, lessE_iff, cmp_refl]; simp
theorem lessE_tri (a b : En) : lessE a b = true ∨ (a.key = b.key ∧ a.seq = b.seq) ∨ lessE b a = true := by
  rw [lessE_iff, lessE_iff, cmp_neg a.key b.key]
  rcases cmp_range a.key b.key with h | h | h
  · exact .inl (.inl (by omega))
  · have hk := cmp_zero h
    rcases Nat.lt_trichotomy a.seq b.seq with h1 | h1 | h1
    · exact .inr (.inr (.inr ⟨hk.symm, h1⟩))
    · exact .inr (.inl ⟨hk, h1⟩)
    · exact .inl (.inr ⟨hk, h1⟩)
  · exact .inr (.inr (.inl (by omega)))
/-- In order. -/
abbrev Ord (l : List En) : Prop := l.Pairwise fun a b => lessE a b = true
theorem ord_of : ∀ {l : List En}, ordE l = true → Ord l
  | [], _ => .nil
  | [a], _ => by simp [Ord]
  | a :: b :: l, h => by
    rw [ordE, Bool.and_eq_true] at h
    have ih := ord_of h.2
    refine List.pairwise_cons.2 ⟨fun x hx => ?_, ih⟩
    rw [List.mem_cons] at hx
    rcases hx with rfl | hx
    · exact h.1
    · exact lessE_trans h.1 ((List.pairwise_cons.1 ih).1 x hx)
theorem ordE_of : ∀ {l : List En}, Ord l → ordE l = true
  | [], _ => rfl
  | [a], _ => rfl
  | a :: b :: l, h => by
    obtain ⟨h1, h2⟩ := List.pairwise_cons.1 h
    rw [ordE, h1 b List.mem_cons_self, ordE_of h2]; rfl
theorem ord_key {a b : En} (h : lessE a b = true) (hne : ¬ a.key = b.key) {c : En} (hc : lessE b c = true) : ¬ a.key = c.key := by
  rw [lessE_iff] at h hc
  have h1 : cmpB a.key b.key < 0 := h.resolve_right fun k => hne k.1
  intro he
  rcases hc with hc | ⟨hc, _⟩
  · have := cmp_trans h1 hc
    rw [he, cmp_refl] at this; omega
  · exact hne (he.trans hc.symm)
/-- A list cut into runs. -/
structure Runs (rs : List (List En)) : Prop where
  some : ∀ r ∈ rs, r ≠ []
  same : ∀ r ∈ rs, ∀ x ∈ r, ∀ y ∈ r, x.key = y.key
  diff : rs.Pairwise fun r r' => ∀ x ∈ r, ∀ y ∈ r', ¬ x.key = y.key
theorem runsF_spec : ∀ (x : En) (l acc : List En), Ord (x :: l) → (∀ y ∈ acc, y.key = x.key) → (runsF (x :: l) acc).flatten = acc ++ x :: l ∧ Runs (runsF (x :: l) acc)
  | x, [], acc, _, ha => by
    rw [runsF]
    refine ⟨by simp, ⟨by simp, ?_, by simp⟩⟩
    intro r hr y hy z hz
    simp at hr; subst hr
    have key : ∀ y ∈ acc ++ [x], y.key = x.key := fun y hy => by
      rw [List.mem_append] at hy
      rcases hy with h | h
      · exact ha y h
      · simp at h; rw [h]
    rw [key y hy, key z hz]
  | x, y :: l, acc, ho, ha => by
    obtain ⟨h1, h2⟩ := List.pairwise_cons.1 ho
    have key : ∀ z ∈ acc ++ [x], z.key = x.key := fun z hz => by
      rw [List.mem_append] at hz
      rcases hz with h | h
      · exact ha z h
      · simp at h; rw [h]
    rw [runsF]
    by_cases hk : x.key = y.key
    · rw [if_pos hk]
      obtain ⟨f1, f2⟩ := runsF_spec y l (acc ++ [x]) h2 fun z hz => (key z hz).trans hk
      exact ⟨by rw [f1]; simp, f2⟩
    · rw [if_neg hk]
      obtain ⟨f1, f2⟩ := runsF_spec y l [] h2 (by simp)
      refine ⟨by rw [List.flatten_cons, f1]; simp, ⟨?_, ?_, ?_⟩⟩
      · intro r hr
        rw [List.mem_cons] at hr
        rcases hr with rfl | hr
        · simp
        · exact f2.some r hr
      · intro r hr
        rw [List.mem_cons] at hr
        rcases hr with rfl | hr
        · exact fun u hu v hv => by rw [key u hu, key v hv]
        · exact f2.same r hr
      · refine List.pairwise_cons.2 ⟨fun r hr u hu v hv => ?_, f2.diff⟩
        have hv' : v ∈ y :: l := by
          have : v ∈ (runsF (y :: l) []).flatten := List.mem_flatten.2 ⟨r, hr, hv⟩
          rw [f1] at this; simpa using this
        rw [key u hu]
        rw [List.mem_cons] at hv'
        rcases hv' with rfl | hv'
        · exact hk
        · exact ord_key (h1 y List.mem_cons_self) hk ((List.pairwise_cons.1 h2).1 v hv')
theorem runs_spec {l : List En} (h : Ord l) : (runsE l).flatten = l ∧ Runs (runsE l) := by
  cases l with
  | nil => exact ⟨rfl, ⟨by simp [runsE, runsF], by simp [runsE, runsF], by simp [runsE, runsF]⟩⟩
  | cons x l => have := runsF_spec x l [] h (by simp); exact ⟨by rw [runsE, this.1]; rfl, this.2⟩
/-- The first of a run that isn't above a moment. -/
def fstE (r : List En) (m : Nat) : Option En := r.find? fun x => decide (x.seq ≤ m)
theorem find_findIdx {α : Type} (p : α → Bool) : ∀ (r : List α), r.find? p = (r.findIdx? p).bind fun i => r[i]?
  | [] => rfl
  | x :: r => by
    rw [List.find?_cons, List.findIdx?_cons]
    cases h : p x with
    | true => rfl
    | false =>
      rw [find_findIdx p r]
      cases r.findIdx? p <;> simp
theorem visR_eq (m : Nat) (r : List En) : visR m r = (fstE r m).filter fun x => decide (x.kind = 1) := by
  rw [visR, fstE, find_findIdx, atE]
  cases r.findIdx? _ <;> rfl
/-- Of a run the numbers fall. -/
abbrev Fall (r : List En) : Prop := r.Pairwise fun a b => b.seq < a.seq
theorem find_runs {p q : En → Bool} : ∀ {rs : List (List En)} {r : List En}, Runs rs → r ∈ rs → ∀ {x : En}, x ∈ r → (∀ y, p y = (decide (y.key = x.key) && q y)) → rs.flatten.find? p = r.find? q
  | [], r, _, h, _, _, _ => by simp at h
  | r0 :: rs, r, hR, hr, x, hx, hp => by
    obtain ⟨hd, hd2⟩ := List.pairwise_cons.1 hR.diff
    have hR2 : Runs rs := ⟨fun r h => hR.some r (List.mem_cons_of_mem _ h), fun r h => hR.same r (List.mem_cons_of_mem _ h), hd2⟩
    rw [List.flatten_cons, List.find?_append]
    rw [List.mem_cons] at hr
    rcases hr with rfl | hr
    · have h1 : rs.flatten.find? p = none := by
        rw [List.find?_eq_none]
        intro y hy
        obtain ⟨r', hr', hy'⟩ := List.mem_flatten.1 hy
        rw [hp, decide_eq_false fun h => hd r' hr' x hx y hy' h.symm]; simp
      have h2 : r.find? p = r.find? q := by
        have hc : ∀ (l : List En), (∀ y ∈ l, p y = q y) → l.find? p = l.find? q := by
          intro l
          induction l with
          | nil => intro _; rfl
          | cons a l ih => intro h; rw [List.find?_cons, List.find?_cons, h a List.mem_cons_self, ih fun y hy => h y (List.mem_cons_of_mem _ hy)]
        exact hc r fun y hy => by rw [hp, decide_eq_true (hR.same r List.mem_cons_self y hy x hx)]; simp
      rw [h1, h2]; simp
    · have h1 : r0.find? p = none := by
        rw [List.find?_eq_none]
        intro y hy
        rw [hp, decide_eq_false fun h => hd r hr y hy x hx h]; simp
      rw [h1, Option.none_or]
      exact find_runs hR2 hr hx hp
theorem get_run {rs : List (List En)} {r : List En} (hR : Runs rs) (hr : r ∈ rs) {x : En} (hx : x ∈ r) (m : Nat) : getE rs.flatten x.key m = fstE r m :=
  find_runs hR hr hx fun y => by rw [Bool.decide_and]
theorem fall_of {l : List En} (ho : Ord l) {r : List En} (hR : Runs (runsE l)) (hr : r ∈ runsE l) : Fall r := by
  have hs : r.Sublist l := by
    have := (runs_spec ho).1
    rw [← this]
    exact List.sublist_flatten_of_mem hr
  refine (ho.sublist hs).imp_of_mem fun {a b} ha hb h => ?_
  rw [lessE_iff, hR.same r hr a ha b hb, cmp_refl] at h
  rcases h with h | h
  · omega
  · exact h.2
theorem filter_one : ∀ {r : List En}, Fall r → ∀ {v : En}, v ∈ r → r.filter (fun x => decide (v.seq = x.seq)) = [v]
  | [], _, _, h => by simp at h
  | a :: r, hf, v, h => by
    obtain ⟨h1, h2⟩ := List.pairwise_cons.1 hf
    rw [List.mem_cons] at h
    rcases h with rfl | h
    · rw [List.filter_cons, if_pos (by simp)]
      congr 1
      rw [List.filter_eq_nil_iff]
      intro x hx
      have := h1 x hx
      simp; omega
    · have := h1 v h
      rw [List.filter_cons, if_neg (by simp; omega), filter_one h2 h]
theorem filter_flat {α : Type} (p : α → Bool) : ∀ (rs : List (List α)), rs.flatten.filter p = rs.flatMap (List.filter p)
  | [] => rfl
  | r :: rs => by rw [List.flatten_cons, List.filter_append, filter_flat p rs, List.flatMap_cons]
theorem flatMap_congr {α β : Type} {f g : α → List β} : ∀ {l : List α}, (∀ x ∈ l, f x = g x) → l.flatMap f = l.flatMap g
  | [], _ => rfl
  | x :: l, h => by rw [List.flatMap_cons, List.flatMap_cons, h x List.mem_cons_self, flatMap_congr fun y hy => h y (List.mem_cons_of_mem _ hy)]
theorem filterMap_flat {α β : Type} (f : α → Option β) : ∀ (l : List α), l.filterMap f = l.flatMap fun x => (f x).toList
  | [] => rfl
  | x :: l => by rw [List.flatMap_cons, ← filterMap_flat f l, List.filterMap_cons]; cases f x <;> rfl
/-- What one sees is what the document says. -/
theorem vis_eq {l : List En} (ho : Ord l) (m : Nat) : visE l m = refVis l m := by
  obtain ⟨hf, hR⟩ := runs_spec ho
  have hfall := fun r hr => fall_of ho (r := r) hR hr
  rw [visE, refVis]
  conv => rhs; rw [← hf]
  rw [filter_flat, filterMap_flat]
  refine flatMap_congr fun r hr => ?_
  have hp : ∀ x ∈ r, visP (runsE l).flatten m x = match fstE r m with | some v => decide (v.seq = x.seq ∧ v.kind = 1) | none => false := fun x hx => by rw [visP, get_run hR hr hx] <;> rfl
  rw [List.filter_congr (q := fun x => match fstE r m with | some v => decide (v.seq = x.seq ∧ v.kind = 1) | none => false) hp, visR_eq]
  cases hv : fstE r m with
  | none => simp
  | some v =>
    have hvr : v ∈ r := List.mem_of_find?_eq_some hv
    by_cases hk : v.kind = 1
    · simp only [hk, and_true]
      rw [filter_one (hfall r hr) hvr]; simp [hk]
    · have h0 : r.filter (fun x => decide (v.seq = x.seq ∧ v.kind = 1)) = [] := List.filter_eq_nil_iff.2 (by simp [hk])
      rw [h0]; simp [hk, Option.filter]
/-- Whether an entry of a run is needed. -/
def nd (r : List En) (ms : List Nat) (x : En) : Bool := decide (r[0]? = some x) || ms.any fun m => decide (fstE r m = some x)
theorem fall_inj {r : List En} (hf : Fall r) {i j : Nat} {x y : En} (hi : r[i]? = some x) (hj : r[j]? = some y) (h : x.seq = y.seq) : i = j := by
  obtain ⟨hi', rfl⟩ := List.getElem?_eq_some_iff.1 hi
  obtain ⟨hj', rfl⟩ := List.getElem?_eq_some_iff.1 hj
  rcases Nat.lt_trichotomy i j with h1 | h1 | h1
  · have := (List.pairwise_iff_getElem.1 hf) i j hi' hj' h1; omega
  · exact h1
  · have := (List.pairwise_iff_getElem.1 hf) j i hj' hi' h1; omega
theorem fst_at {r : List En} {m i : Nat} (h : atE r m = some i) : fstE r m = r[i]? := by rw [fstE, find_findIdx]; rw [atE] at h; rw [h]; rfl
theorem fst_iff {r : List En} (hf : Fall r) {m i : Nat} {x : En} (hx : r[i]? = some x) : fstE r m = some x ↔ atE r m = some i := by
  constructor
  · intro h
    cases ha : atE r m with
    | none => rw [fstE, find_findIdx] at h; rw [atE] at ha; rw [ha] at h; cases h
    | some j => rw [fst_at ha] at h; rw [fall_inj hf h hx rfl]
  · intro h; rw [fst_at h, hx]
theorem nd_at {r : List En} (hf : Fall r) (ms : List Nat) {i : Nat} {x : En} (hx : r[i]? = some x) : nd r ms x = ndP r ms i := by
  rw [nd, ndP]
  congr 1
  · refine decide_eq_decide.2 ⟨fun h => fall_inj hf hx h rfl, ?_⟩
    rintro rfl; exact hx
  · refine congrArg (fun f => ms.any f) (funext fun m => decide_eq_decide.2 (fst_iff hf hx))
theorem need_filter {r : List En} (hf : Fall r) (ms : List Nat) : needE r ms = r.filter (nd r ms) := by
  have key : ∀ k, k ≤ r.length → (List.range k).filterMap (pick r ms) = (r.take k).filter (nd r ms) := by
    intro k
    induction k with
    | zero => intro _; rfl
    | succ k ih =>
      intro hk
      have hx : r[k]? = some (r[k]'(by omega)) := List.getElem?_eq_getElem (by omega)
      rw [needE_take, filter_take hx, ih (by omega), pick, ← nd_at hf ms hx, hx]
      cases nd r ms _ <;> rfl
  rw [needE, key _ (Nat.le_refl _), List.take_length]
theorem refNeed_run {l : List En} (ho : Ord l) (hsq : ∀ x ∈ l, x.seq < 2 ^ 64) (ms : List Nat) {r : List En} (hr : r ∈ runsE l) {x : En} (hx : x ∈ r) : refNeed l ms x = nd r ms x := by
  obtain ⟨hf, hR⟩ := runs_spec ho
  have hfall := fall_of ho hR hr
  have hg : ∀ m, getE l x.key m = fstE r m := fun m => by rw [← get_run hR hr hx m, hf]
  have hmem : ∀ y ∈ r, y ∈ l := fun y hy => by rw [← hf]; exact List.mem_flatten.2 ⟨r, hr, hy⟩
  obtain ⟨i, hi, hix⟩ := List.getElem_of_mem hx
  have hix' : r[i]? = some x := by rw [← hix]; exact List.getElem?_eq_getElem hi
  have hseq : ∀ m, seqIs (fstE r m) x = decide (fstE r m = some x) := fun m => by
    cases hv : fstE r m with
    | none => simp [seqIs]
    | some v =>
      obtain ⟨j, hj, hjv⟩ := List.getElem_of_mem (List.mem_of_find?_eq_some hv)
      have hjv' : r[j]? = some v := by rw [← hjv]; exact List.getElem?_eq_getElem hj
      rw [seqIs]
      simp only [Option.isSome_some, Bool.true_and, Option.getD_some, Option.some.injEq]
      refine decide_eq_decide.2 ⟨fun h => ?_, fun h => by rw [h]⟩
      have := fall_inj hfall hjv' hix' h
      subst this; rw [hjv'] at hix'; exact Option.some.inj hix'
  rw [refNeed, newest, nd]
  congr 1
  · obtain ⟨y, hy⟩ : ∃ y, r[0]? = some y := ⟨_, List.getElem?_eq_getElem (by omega : 0 < r.length)⟩
    have h0 : fstE r 18446744073709551615 = some y := by
      rw [fst_iff hfall hy, atE, findIdx_at hy (fun i y hi => by omega)]
      have := hsq y (hmem y (List.mem_of_getElem? hy))
      exact decide_eq_true (by omega)
    rw [hg, h0, hy]
    simp only [Option.getD_some, Option.some.injEq]
    refine decide_eq_decide.2 ⟨fun h => ?_, fun h => by rw [h]⟩
    have := fall_inj hfall hy hix' h
    subst this; rw [hy] at hix'; exact Option.some.inj hix'
  · exact congrArg (fun f => ms.any f) (funext fun m => by rw [hg, hseq])
/-- The document's last cut, from the front. -/
def putsL : List En → List En
  | [] => []
  | x :: l => if decide (x.kind = 1) || l.any (putP x) then x :: putsL l else putsL l
theorem putsE_eq : ∀ (l : List En), putsE l = putsL l
  | [] => rfl
  | x :: l => by
    have ih := putsE_eq l
    rw [putsE] at ih ⊢
    rw [List.length_cons, List.range_succ_eq_map, List.filterMap_cons, List.filterMap_map]
    have h0 : (putsP (x :: l)) ∘ Nat.succ = putsP l := by
      funext i; simp [putsP]
    rw [h0, ih, putsL, putsP]
    simp only [List.getElem?_cons_zero, Nat.zero_add, List.drop_succ_cons, List.drop_zero]
    cases decide (x.kind = 1) || l.any (putP x) <;> rfl
theorem putsL_app : ∀ (s t : List En), (∀ x ∈ s, ∀ y ∈ t, ¬ x.key = y.key) → putsL (s ++ t) = putsL s ++ putsL t
  | [], _, _ => rfl
  | x :: s, t, h => by
    have ih := putsL_app s t fun a ha b hb => h a (List.mem_cons_of_mem _ ha) b hb
    have h0 : t.any (putP x) = false := List.any_eq_false.2 fun y hy => by rw [putP, decide_eq_false fun k => h x List.mem_cons_self y hy k.1.symm]; simp
    rw [List.cons_append, putsL, putsL, List.any_append, h0, Bool.or_false, ih]
    split <;> rfl
theorem putsL_flat {f : List En → List En} (hf : ∀ r x, x ∈ f r → x ∈ r) : ∀ {rs : List (List En)}, Runs rs → putsL (rs.flatMap f) = rs.flatMap fun r => putsL (f r)
  | [], _ => rfl
  | r :: rs, hR => by
    obtain ⟨hd, hd2⟩ := List.pairwise_cons.1 hR.diff
    have hR2 : Runs rs := ⟨fun r h => hR.some r (List.mem_cons_of_mem _ h), fun r h => hR.same r (List.mem_cons_of_mem _ h), hd2⟩
    rw [List.flatMap_cons, List.flatMap_cons, putsL_app, putsL_flat hf hR2]
    intro x hx y hy
    obtain ⟨r', hr', hy'⟩ := List.mem_flatMap.1 hy
    exact hd r' hr' x (hf r x hx) y (hf r' y hy')
theorem trim_spec (s : List En) : ∀ n, n ≤ s.length → (∀ i x, trimN s n ≤ i → i < n → s[i]? = some x → x.kind = 2) ∧ (trimN s n = 0 ∨ ∃ x, s[trimN s n - 1]? = some x ∧ ¬ x.kind = 2 ∧ 0 < trimN s n)
  | 0, _ => ⟨by omega, .inl rfl⟩
  | n + 1, h => by
    have hx : s[n]? = some (s[n]'(by omega)) := List.getElem?_eq_getElem (by omega)
    rw [trimN, hx]
    simp only
    by_cases h2 : (s[n]'(by omega)).kind = 2
    · rw [if_pos h2]
      obtain ⟨h3, h4⟩ := trim_spec s n (by omega)
      refine ⟨fun i x hi hin hxi => ?_, h4⟩
      rcases Nat.lt_or_ge i n with h5 | h5
      · exact h3 i x hi h5 hxi
      · obtain rfl : i = n := by omega
        rw [hx] at hxi; cases hxi; exact h2
    · rw [if_neg h2]
      exact ⟨by omega, .inr ⟨_, hx, h2, by omega⟩⟩
theorem puts_take : ∀ {s : List En} {t : Nat}, (∀ x ∈ s, ∀ y ∈ s, x.key = y.key) → (∀ x ∈ s, x.kind = 1 ∨ x.kind = 2) → t ≤ s.length → (∀ i x, t ≤ i → s[i]? = some x → x.kind = 2) → (t = 0 ∨ ∃ x, s[t - 1]? = some x ∧ ¬ x.kind = 2 ∧ 0 < t) → putsL s = s.take t
  | [], t, _, _, _, _, _ => by simp [putsL]
  | x :: s, t, hk, hc, ht, h2, h1 => by
    have hk' : ∀ a ∈ s, ∀ b ∈ s, a.key = b.key := fun a ha b hb => hk a (List.mem_cons_of_mem _ ha) b (List.mem_cons_of_mem _ hb)
    have hc' : ∀ a ∈ s, a.kind = 1 ∨ a.kind = 2 := fun a ha => hc a (List.mem_cons_of_mem _ ha)
    cases t with
    | zero =>
      have ih := puts_take (t := 0) hk' hc' (by omega) (fun i y _ hy => h2 (i + 1) y (by omega) (by simpa using hy)) (.inl rfl)
      have hx : x.kind = 2 := h2 0 x (by omega) rfl
      have hs : s.any (putP x) = false := List.any_eq_false.2 fun y hy => by
        obtain ⟨i, hi, rfl⟩ := List.getElem_of_mem hy
        have := h2 (i + 1) s[i] (by omega) (by simp [hi])
        simp [putP, this]
      rw [putsL, hs, decide_eq_false (by rw [hx]; decide), ih]; rfl
    | succ t =>
      rcases h1 with h1 | ⟨y, hy, hy2, _⟩
      · omega
      · have ih := puts_take (s := s) (t := t) hk' hc' (by simp at ht; omega) (fun i z hi hz => h2 (i + 1) z (by omega) (by simpa using hz)) (by
          cases t with
          | zero => exact .inl rfl
          | succ t => exact .inr ⟨y, by simpa using hy, hy2, by omega⟩)
        have hkeep : (decide (x.kind = 1) || s.any (putP x)) = true := by
          rw [Bool.or_eq_true]
          have hmy : y ∈ x :: s := List.mem_of_getElem? hy
          have hy1 : y.kind = 1 := (hc y hmy).resolve_right hy2
          rw [List.mem_cons] at hmy
          rcases hmy with rfl | hmy
          · exact .inl (decide_eq_true hy1)
          · exact .inr (List.any_eq_true.2 ⟨y, hmy, decide_eq_true ⟨hk y (List.mem_cons_of_mem _ hmy) x List.mem_cons_self, hy1⟩⟩)
        rw [putsL, if_pos hkeep, ih, List.take_succ_cons]
/-- What is kept is what the document says. -/
theorem keep_eq {l : List En} (ho : Ord l) (hsq : ∀ x ∈ l, x.seq < 2 ^ 64) (hc : ∀ x ∈ l, x.kind = 1 ∨ x.kind = 2) (bt : Bool) (ms : List Nat) : keepE l bt ms = refKeep l bt ms := by
  obtain ⟨hf, hR⟩ := runs_spec ho
  have hmem : ∀ r ∈ runsE l, ∀ y ∈ r, y ∈ l := fun r hr y hy => by rw [← hf]; exact List.mem_flatten.2 ⟨r, hr, hy⟩
  have hflt : l.filter (refNeed l ms) = (runsE l).flatMap fun r => needE r ms := by
    conv => lhs; arg 2; rw [← hf]
    rw [filter_flat]
    exact flatMap_congr fun r hr => by rw [need_filter (fall_of ho hR hr), List.filter_congr fun x hx => refNeed_run ho hsq ms hr hx]
  rw [keepE, refKeep, hflt]
  cases bt with
  | false => exact flatMap_congr fun r hr => by rw [keepR, if_neg (by decide), List.take_length]
  | true =>
    rw [if_pos rfl, putsE_eq, putsL_flat (fun r x hx => by
      rw [needE, List.mem_filterMap] at hx
      obtain ⟨i, _, hi⟩ := hx
      rw [pick] at hi
      split at hi
      · exact List.mem_of_getElem? hi
      · cases hi) hR]
    refine flatMap_congr fun r hr => ?_
    have hn : ∀ x ∈ needE r ms, x ∈ r := fun x hx => by rw [need_filter (fall_of ho hR hr)] at hx; exact (List.mem_filter.1 hx).1
    obtain ⟨h1, h2⟩ := trim_spec (needE r ms) _ (Nat.le_refl _)
    rw [keepR, if_pos rfl]
    exact (puts_take (fun x hx y hy => hR.same r hr x (hn x hx) y (hn y hy)) (fun x hx => hc x (hmem r hr x (hn x hx))) (trimN_le _ _) (fun i x hi hx => h1 i x hi (List.getElem?_eq_some_iff.1 hx).1 hx) h2).symm
end Go.Proofs.Ytojncfdlddepdaa


/-
  The bytes of a constant string, over pieces: made, marked, and read from then on. Nothing here names the program.
-/
namespace Go.Proofs.Ytojncfdlddepdaa
open Go.RowKit

theorem zell_freeze (w : World) (a : Addr) (n : Nat) (p : Addr) : (w.freeze a n).cell? p = w.cell? p := by
  unfold World.freeze
  split
  · rfl
  · unfold World.cell?
    simp only [Array.getElem?_modify]
    by_cases h : a.block = p.block
    · rw [if_pos h]
      cases w.heap[p.block]? with
      | none => rfl
      | some o => cases o <;> rfl
    · rw [if_neg h]
theorem zelow_freeze {B : Nat} (w : World) (a : Addr) (n : Nat) (h : B ≤ a.block) : Below B w (w.freeze a n) := by
  unfold World.freeze
  split
  · exact Below.refl _ _
  · refine ⟨rfl, rfl, rfl, by simp, fun j hj => ?_⟩
    simp only [Array.getElem?_modify]
    rw [if_neg (by omega)]
section
variable {P : Program} {N : Nat} {ops : Array Oper} {Q : Exit → Act → World → Prop} {rest : List Oper} {L : FL} {w0 w : World} {M : BS} {H : List Cd} {t e : TypeId} {bytes : Nat}
theorem ws_lit {d1 d2 len : Nat} {ps : List (Nat × Operand)} {ty1 ty2 : TypeId} {p1 p2 : String} {f1 f2 : Array Edge} (hs : St M w0 w H) (xs : List UInt8) (T : Row1 P t e (.int .u8 0) bytes) (he : P.underlying e = some (.int .u8)) (hp : PLooks L 0 ps (bvs xs)) (hl : xs.length = len) (hle : len ≤ 16777216) (h0 : 0 < len) (hd1 : Nat.blt d1 N = true) (hd2 : Nat.blt d2 N = true)
    (h : ∀ p A w', St M w0 w' (.ce (byEl xs) [.slice A xs.length xs.length] :: H) → WL P N ops Q rest ((d2, .slice A xs.length xs.length) :: (d1, p) :: L) w') :
    WL P N ops Q (⟨some d1, .buildSlice t len ps.toArray, ty1, p1, f1, none⟩ :: ⟨some d2, .convert t t (.tmp d1), ty2, p2, f2, none⟩ :: rest) L w := by
  subst hl
  refine wl_bs T hp (bvs_length xs) hle hd1 fun A w1 ho hb _ => ?_
  have hr : RdR 1 w1 All A [] := RdR.nil _
  have hr : Rd w1 A xs.length (bvs xs) := ho.rd
  obtain ⟨b, o, rfl, hb1, hc⟩ := hr.2 h0
  have hlen : 0 < (bvs xs).length := by rw [bvs_length]; exact h0
  have h0c := hc 0 (bvs xs)[0] (List.getElem?_eq_getElem hlen)
  obtain ⟨k, hk⟩ : ∃ k, w1.shape? b = some k := by
    unfold World.cell? at h0c
    unfold World.shape?
    simp only at h0c
    cases hh : w1.heap[b]? with
    | none => rw [hh] at h0c; cases h0c
    | some ob => cases ob <;> first | exact ⟨_, rfl⟩ | (rw [hh] at h0c; cases h0c)
  have hge : w.heap.size ≤ b := (Ow.lt ho _ rfl).1
  have hbf : Below w.heap.size w (w1.freeze ⟨b, k.2, none⟩ 1) := hb.trans (zelow_freeze _ _ _ hge)
  refine wl_val (v := .slice (some ⟨b, o, none⟩) xs.length xs.length) (w' := w1.freeze ⟨b, k.2, none⟩ 1) (fun ρ op hρ ho _ => ?_) hd2 (h _ _ _ ?_)
  · unfold execOp
    simp only [ho, hρ (.tmp d1) (.slice (some ⟨b, o, none⟩) xs.length xs.length) (by simp [look, lookT]), convert, Sem.run_bind, run_underlying T.sl, Result.andThen_ok]
    simp [run_underlying he, markStringish, hk]
  · refine hs.new (T := fun b => w.heap.size ≤ b) (c := .ce (byEl xs) [.slice (some ⟨b, o, none⟩) xs.length xs.length]) hbf ?_ fun _ _ h => h
    refine byEl.mk ⟨hr.1, fun _ => ⟨b, o, rfl, ?_, fun j u hu => by rw [zell_freeze]; exact hc j u hu⟩⟩ (Nat.le_refl _) fun a ha _ => by cases ha; exact hge
    unfold World.freeze; simp; exact hb1
end
end Go.Proofs.Ytojncfdlddepdaa


/-
  How arguments that are entries, or lists of them, are read; walks over awake and over the laws MergeSees and MergeKeeps.
-/
namespace Go.Proofs.Ytojncfdlddepdaa
open Go.RowKit Go.ChangeShapes Go.WideShapes Go.ChangeAt Go.Deep

theorem open_boolV {H : Type} {enc : TypeId × Value → H} {P : Program} {w : World} {base : Nat} {spare : Nat → Bool} {held : Bool} {t : TypeId} {b : Bool} {d : DataW H} {ps : List MemPlace} (ht : P.underlying t = some .bool) (hd : DataW.Trod enc P w base spare held t (.bool b) d ps) : d = .lit (.bool b) ∧ ps = [] := by
  obtain ⟨fuel, hf⟩ := hd
  obtain ⟨b', h, hx⟩ := DataW.trod_bool ht hf
  simp [Value.cells] at h
  subst h
  simp only [Prod.mk.injEq] at hx
  exact hx
def enB (x : En) : Nat := x.key.length + x.val.length
theorem opens_entry : Opens Try.prog 38 enEl 4 enB (fun x => x.seq < 2 ^ 64) := fun {H} enc W fuel cs x h => by
  obtain ⟨xs, n, rfl, rfl, hl, hx, hf⟩ := DataW.trod_struct Try.underlying38 h
  replace hl : cs.length = 4 := hl.trans (by kernel_rfl)
  obtain ⟨c0, c1, c2, c3, rfl⟩ := len4 hl
  obtain ⟨y0, y1, y2, y3, rfl⟩ := len4 hx
  obtain ⟨a0, h0, _, k0, b0⟩ := opens_bytes enc W n [c0] y0 (field_at hf (i := 0) (off := 0) (k := 1) (t := 25) rfl rfl rfl (by kernel_rfl))
  obtain ⟨a1, h1, _, k1, b1⟩ := opens_int Try.underlying33 enc W n [c1] y1 (field_at hf (i := 1) (off := 1) (k := 1) (t := 33) rfl rfl rfl (by kernel_rfl))
  obtain ⟨a2, h2, _, k2, b2⟩ := opens_int Try.underlying5 enc W n [c2] y2 (field_at hf (i := 2) (off := 2) (k := 1) (t := 5) rfl rfl rfl (by kernel_rfl))
  obtain ⟨a3, h3, _, k3, b3⟩ := opens_bytes enc W n [c3] y3 (field_at hf (i := 3) (off := 3) (k := 1) (t := 25) rfl rfl rfl (by kernel_rfl))
  obtain rfl : c1 = .int .u64 a1 := by simpa [vEl] using h1
  obtain rfl : c2 = .int .u8 a2 := by simpa [vEl] using h2
  have k1' : 0 ≤ a1 ∧ a1 ≤ 18446744073709551615 := by simpa [Lit.wf, IntKind.min, IntKind.max, IntKind.signed, IntKind.bits] using k1
  have k2' : 0 ≤ a2 ∧ a2 ≤ 255 := by simpa [Lit.wf, IntKind.min, IntKind.max, IntKind.signed, IntKind.bits] using k2
  obtain ⟨s, rfl⟩ := Int.eq_ofNat_of_zero_le k1'.1
  obtain ⟨q, rfl⟩ := Int.eq_ofNat_of_zero_le k2'.1
  have h0' := h0
  have h3' := h3
  obtain ⟨A, c, e0, _⟩ := h0
  obtain ⟨B, d, e3, _⟩ := h3
  obtain rfl : c0 = .slice A a0.length c := by simpa using e0
  obtain rfl : c3 = .slice B a3.length d := by simpa using e3
  refine ⟨⟨a0, s, UInt8.ofNat q, a3⟩, ⟨A, c, B, d, ?_, h0', h3'⟩, rfl, ?_, ?_⟩
  · have : (UInt8.ofNat q).toNat = q := by rw [UInt8.toNat_ofNat', Nat.mod_eq_of_lt (by omega)]
    simp [enV, this]
  · show s < 2 ^ 64; omega
  · replace b0 : a0.length + 1 ≤ _ := b0
    replace b3 : a3.length + 1 ≤ _ := b3
    simp only [enB, Rows.uptoBulk, Rows.uptoBulkAll, List.map_cons, List.map_nil]
    omega
abbrev uEl (m : Nat) : El := vEl (.int .u64 (m : Int))
theorem opens_u64 : Opens Try.prog 33 uEl 1 (fun _ => 0) (fun m => m < 2 ^ 64) := fun {H} enc W fuel cs x h => by
  obtain ⟨a, h1, h2, k, b⟩ := opens_int Try.underlying33 enc W fuel cs x h
  have k' : 0 ≤ a ∧ a ≤ 18446744073709551615 := by simpa [Lit.wf, IntKind.min, IntKind.max, IntKind.signed, IntKind.bits] using k
  obtain ⟨s, rfl⟩ := Int.eq_ofNat_of_zero_le k'.1
  exact ⟨s, h1, h2, by omega, b⟩
theorem tkU : RowK Try.prog 46 33 1 (.int .u64 0) 8 := ⟨Try.underlying46, by kernel_rfl, rfl, by decide⟩
theorem opens_entries : Opens Try.prog 22 (fun l : List En => rowEl 4 (l.map enEl)) 1 (sumB enB) (fun l => ∀ x ∈ l, x.seq < 2 ^ 64) := opens_slice tkE (by kernel_rfl) opens_entry
theorem opens_u64s : Opens Try.prog 46 (fun l : List Nat => rowEl 1 (l.map uEl)) 1 (sumB fun _ => 0) (fun l => ∀ m ∈ l, m < 2 ^ 64) := opens_slice tkU (by kernel_rfl) opens_u64
theorem flat_u64s : ∀ (ms : List Nat), (ms.map fun (m : Nat) => [Value.int .u64 (m : Int)]).flatten = u64s ms
  | [] => rfl
  | m :: ms => by rw [List.map_cons, List.flatten_cons, flat_u64s ms]; rfl
theorem rd_u64s {w : World} {S : BS} {A : Option Addr} {ms : List Nat} (h : RdR 1 w S A (ms.map uEl)) : Rd w A ms.length (u64s ms) := by
  obtain ⟨css, h1, h2, _⟩ := h
  have he : css.flatten = u64s ms := by
    have hl := h1.1
    rw [List.length_map] at hl
    have : css = ms.map fun (m : Nat) => [Value.int .u64 (m : Int)] := by
      apply List.ext_getElem?
      intro i
      cases hi : css[i]? with
      | none => rw [List.getElem?_eq_none]; have := List.getElem?_eq_none_iff.1 hi; simp; omega
      | some cs =>
        obtain ⟨_, E, hE, hp⟩ := h1.2 i cs hi
        rw [List.getElem?_map] at hE ⊢
        cases hm : ms[i]? with
        | none => rw [hm] at hE; cases hE
        | some m => rw [hm] at hE; cases hE; exact congrArg some hp
    rw [this, flat_u64s]
  rw [he, List.length_map, Nat.mul_one] at h2
  exact h2
theorem ent_small {l : List En} (h : sumB enB l ≤ 1048576) : l.length ≤ 1048576 ∧ ∀ x ∈ l, x.key.length ≤ 1048576 ∧ x.val.length ≤ 1048576 := by
  have h1 := sumB_len (bulk := enB) l
  refine ⟨by omega, fun x hx => ?_⟩
  have h2 := sumB_mem (bulk := enB) hx
  have h3 : enB x = x.key.length + x.val.length := rfl
  omega
theorem w_ok {l : List En} (h : worstE [l] = 0) : checkE l = 0 ∧ Ord l := by
  have h1 : stepW 0 l = 0 := h
  unfold stepW errE at h1
  rcases checkE_le l with h0 | h0 | h0
  · cases ho : ordE l with
    | true => exact ⟨h0, ord_of ho⟩
    | false => rw [h0, ho] at h1; simp at h1
  · rw [h0] at h1; simp at h1
  · rw [h0] at h1; simp at h1
theorem check_ok {l : List En} (h : checkE l = 0) : ∀ x ∈ l, bigE x = false ∧ badE x = false := by
  intro x hx
  unfold checkE at h
  split at h
  · cases h
  · rename_i h1
    split at h
    · cases h
    · rename_i h2
      simp only [Bool.not_eq_true] at h1 h2
      have h1' := List.any_eq_false.1 h1 x hx
      have h2' := List.any_eq_false.1 h2 x hx
      simp only [Bool.not_eq_true] at h1' h2'
      exact ⟨h1', h2'⟩
theorem kind_ok {x : En} (h : badE x = false) : x.kind = 1 ∨ x.kind = 2 := by
  have := of_decide_eq_false h
  rcases Decidable.not_not.1 this with h | ⟨h, _⟩
  · exact .inl h
  · exact .inr h
theorem few_mem {l : List En} {n : Nat} {x : En} (h : x ∈ l.take n) : x ∈ l := List.mem_of_mem_take h
/-- The program's own list, of one key. -/
def awakeL : List En := [⟨[107], 9, 1, []⟩, ⟨[107], 7, 1, []⟩, ⟨[107], 5, 1, []⟩, ⟨[107], 3, 1, []⟩]
theorem awake_keep : worstE [awakeL] = 0 ∧ keepE awakeL false [6] = [⟨[107], 9, 1, []⟩, ⟨[107], 5, 1, []⟩] := by decide
abbrev RetTr (w : World) (v : Value) (w' : World) : Prop := v = .bool true ∧ Below w.heap.size w w'
theorem rows_one {w : World} {A : Option Addr} {n c : Nat} {l : List En} (hr : RdR 4 w All A (l.map enEl)) (hn : l.length = n) (hc : n ≤ c) : Grp 1 w All (rowsE [l]) [[.slice A n c]] :=
  Grp.one (by subst hn; have := rowEl.mk hr (c := c) (by simpa using hc) (by decide); simpa using this) rfl
theorem u64s_one (ms : List Nat) : ∀ u ∈ u64s ms, u.oneCell' = true := by
  intro u hu; simp [u64s] at hu; obtain ⟨_, _, rfl⟩ := hu; rfl
end Go.Proofs.Ytojncfdlddepdaa


/-
  The plain law of MergeSame: a sorted list is in order and in form; what is kept of it looks the same at each moment that counts, and is kept again whole. No program in sight.
-/
namespace Go.Proofs.Ytojncfdlddepdaa

theorem pos_spec (l : List En) (e : En) : ∀ n, n ≤ l.length → (∀ i x, posE l e n ≤ i → i < n → l[i]? = some x → lessE e x = true) ∧ (posE l e n = 0 ∨ ∃ x, l[posE l e n - 1]? = some x ∧ lessE e x = false ∧ 0 < posE l e n)
  | 0, _ => ⟨by omega, .inl rfl⟩
  | n + 1, h => by
    have hx : l[n]? = some (l[n]'(by omega)) := List.getElem?_eq_getElem (by omega)
    rw [posE, hx]
    simp only
    cases h2 : lessE e (l[n]'(by omega)) with
    | true =>
      rw [if_pos rfl]
      obtain ⟨h3, h4⟩ := pos_spec l e n (by omega)
      refine ⟨fun i x hi hin hxi => ?_, h4⟩
      rcases Nat.lt_or_ge i n with h5 | h5
      · exact h3 i x hi h5 hxi
      · obtain rfl : i = n := by omega
        rw [hx] at hxi; cases hxi; exact h2
    | false =>
      rw [if_neg (by decide)]
      exact ⟨by omega, .inr ⟨_, hx, h2, by omega⟩⟩
theorem inE_false {l : List En} {e : En} (h : inE l e = false) : ∀ x ∈ l, ¬ (x.key = e.key ∧ x.seq = e.seq) := fun x hx => by
  have := List.any_eq_false.1 h x hx
  simpa using this
theorem ins_ord {l : List En} {e : En} (ho : Ord l) (hn : inE l e = false) : Ord (insE l e) := by
  obtain ⟨h1, h2⟩ := pos_spec l e l.length (Nat.le_refl _)
  have hp := posE_le l e l.length
  obtain ⟨p, hpd⟩ : ∃ q, posE l e l.length = q := ⟨_, rfl⟩
  rw [hpd] at h1 h2 hp
  rw [insE, hpd]
  have hlow : ∀ x ∈ l.take p, lessE x e = true := fun x hx => by
    obtain ⟨i, hi, rfl⟩ := List.getElem_of_mem hx
    rw [List.length_take] at hi
    rcases h2 with h2 | ⟨y, hy, hye, hpos⟩
    · omega
    · have hyl : lessE y e = true := by
        rcases lessE_tri e y with h | h | h
        · rw [hye] at h; cases h
        · exact absurd ⟨h.1.symm, h.2.symm⟩ (inE_false hn y (List.mem_of_getElem? hy))
        · exact h
      obtain ⟨hj, hjy⟩ := List.getElem?_eq_some_iff.1 hy
      rw [List.getElem_take]
      rcases Nat.lt_or_ge i (p - 1) with h3 | h3
      · have := (List.pairwise_iff_getElem.1 ho) i (p - 1) (by omega) hj h3
        rw [hjy] at this
        exact lessE_trans this hyl
      · obtain rfl : i = p - 1 := by omega
        rw [hjy]; exact hyl
  have hhigh : ∀ x ∈ l.drop p, lessE e x = true := fun x hx => by
    obtain ⟨i, hi, rfl⟩ := List.getElem_of_mem hx
    rw [List.length_drop] at hi
    exact h1 (p + i) _ (by omega) (by omega) (by rw [List.getElem_drop]; exact List.getElem?_eq_getElem _)
  refine List.pairwise_append.2 ⟨List.pairwise_append.2 ⟨ho.sublist (List.take_sublist _ _), by simp, fun a ha b hb => ?_⟩, ho.sublist (List.drop_sublist _ _), fun a ha b hb => ?_⟩
  · simp at hb; subst hb; exact hlow a ha
  · rw [List.mem_append] at ha
    rcases ha with ha | ha
    · exact lessE_trans (hlow a ha) (hhigh b hb)
    · simp at ha; subst ha; exact hhigh b hb
theorem check_one {x : En} (h : checkE [x] = 0) : bigE x = false ∧ badE x = false := by
  unfold checkE at h
  simp only [List.any_cons, List.any_nil, Bool.or_false] at h
  cases hb : bigE x with
  | true => rw [hb] at h; simp at h
  | false => cases hd : badE x with
    | true => rw [hb, hd] at h; simp at h
    | false => exact ⟨rfl, rfl⟩
theorem check_of {l : List En} (h : ∀ x ∈ l, bigE x = false ∧ badE x = false) : checkE l = 0 := by
  have h1 : l.any bigE = false := List.any_eq_false.2 fun x hx => by rw [(h x hx).1]; simp
  have h2 : l.any badE = false := List.any_eq_false.2 fun x hx => by rw [(h x hx).2]; simp
  rw [checkE, h1, h2]; rfl
theorem worst_of {l : List En} (ho : Ord l) (h : ∀ x ∈ l, bigE x = false ∧ badE x = false) : worstE [l] = 0 := by
  show stepW 0 l = 0
  rw [stepW, errE, check_of h, ordE_of ho]; rfl
theorem sorted_ok (l : List En) : Ord (sortedE l) ∧ ∀ x ∈ sortedE l, bigE x = false ∧ badE x = false := by
  have key : ∀ (l out : List En), Ord out → (∀ x ∈ out, bigE x = false ∧ badE x = false) → Ord (l.foldl addE out) ∧ ∀ x ∈ l.foldl addE out, bigE x = false ∧ badE x = false := by
    intro l
    induction l with
    | nil => intro out h1 h2; exact ⟨h1, h2⟩
    | cons x l ih =>
      intro out h1 h2
      rw [List.foldl_cons]
      by_cases h : checkE [x] = 0 ∧ inE out x = false
      · have ha : addE out x = insE out x := by rw [addE, if_pos h]
        rw [ha]
        exact ih _ (ins_ord h1 h.2) fun y hy => by
          have := addE_ok (p := fun x => bigE x = false ∧ badE x = false) h2 (check_one h.1) y (by rw [ha]; exact hy)
          exact this
      · have ha : addE out x = out := by rw [addE, if_neg h]
        rw [ha]; exact ih _ h1 h2
  exact key l [] (by simp [Ord]) (by simp)
/-- What is kept of a run. -/
def keptR (bt : Bool) (ms : List Nat) (r : List En) : Nat := if bt then trimN (needE r ms) (needE r ms).length else (needE r ms).length
theorem keepR_eq (bt : Bool) (ms : List Nat) (r : List En) : keepR bt ms r = (needE r ms).take (keptR bt ms r) := rfl
theorem keepR_sub {r : List En} (hf : Fall r) (bt : Bool) (ms : List Nat) : (keepR bt ms r).Sublist r := by
  rw [keepR_eq, need_filter hf]
  exact (List.take_sublist _ _).trans List.filter_sublist
theorem kept_high {r : List En} (bt : Bool) (ms : List Nat) : ∀ x ∈ (needE r ms).drop (keptR bt ms r), x.kind = 2 := fun x hx => by
  obtain ⟨i, hi, rfl⟩ := List.getElem_of_mem hx
  rw [List.length_drop] at hi
  rw [List.getElem_drop]
  cases bt with
  | false => simp [keptR] at hi
  | true => exact (trim_spec (needE r ms) _ (Nat.le_refl _)).1 _ _ (Nat.le_add_right _ _) (by have hk : keptR true ms r = trimN (needE r ms) (needE r ms).length := rfl; omega) (List.getElem?_eq_getElem _)
theorem find_filter {α : Type} {p q : α → Bool} : ∀ {r : List α}, (∀ v, r.find? q = some v → p v = true) → (r.filter p).find? q = r.find? q
  | [], _ => rfl
  | x :: r, h => by
    rw [List.find?_cons]
    cases hq : q x with
    | true =>
      have hp : p x = true := h x (by rw [List.find?_cons, hq])
      rw [List.filter_cons, if_pos hp, List.find?_cons, hq]
    | false =>
      have ih := find_filter (r := r) fun v hv => h v (by rw [List.find?_cons, hq]; exact hv)
      simp only
      rw [List.filter_cons]
      split
      · rw [List.find?_cons, hq]; exact ih
      · exact ih
/-- At a moment that counts for it a run's part is seen as the run is. -/
def good (r : List En) (ms : List Nat) (m : Nat) : Prop := ∀ v, fstE r m = some v → nd r ms v = true
theorem good_mem {r : List En} {ms : List Nat} {m : Nat} (h : m ∈ ms) : good r ms m := fun v hv => by
  rw [nd, Bool.or_eq_true]; exact .inr (List.any_eq_true.2 ⟨m, h, decide_eq_true hv⟩)
theorem good_all {r : List En} {ms : List Nat} {m : Nat} (h : ∀ x ∈ r, x.seq ≤ m) : good r ms m := fun v hv => by
  cases r with
  | nil => cases hv
  | cons x r =>
    rw [fstE, List.find?_cons, decide_eq_true (h x List.mem_cons_self)] at hv
    cases hv
    rw [nd, Bool.or_eq_true]; exact .inl (by simp)
theorem fst_need {r : List En} (hf : Fall r) {ms : List Nat} {m : Nat} (hg : good r ms m) : fstE (needE r ms) m = fstE r m := by
  rw [need_filter hf]; exact find_filter hg
theorem fst_split (s : List En) (t m : Nat) : fstE s m = (fstE (s.take t) m).or (fstE (s.drop t) m) := by
  conv => lhs; rw [← List.take_append_drop t s]
  rw [fstE, List.find?_append]; rfl
theorem vis_kept {r : List En} (hf : Fall r) {bt : Bool} {ms : List Nat} {m : Nat} (hg : good r ms m) : visR m (keepR bt ms r) = visR m r := by
  rw [visR_eq, visR_eq, ← fst_need hf hg, fst_split (needE r ms) (keptR bt ms r), ← keepR_eq]
  cases hv : fstE (keepR bt ms r) m with
  | some v => rfl
  | none =>
    rw [Option.none_or]
    cases hw : fstE ((needE r ms).drop (keptR bt ms r)) m with
    | none => rfl
    | some w =>
      have hk := kept_high bt ms w (List.mem_of_find?_eq_some hw)
      rw [Option.filter_some_neg (by rw [hk]; decide)]; rfl
theorem fst_in {r : List En} {m : Nat} {v : En} (h : fstE r m = some v) : v.seq ≤ m := by
  have := List.find?_some h
  simpa using this
theorem kept_nd {r : List En} (hf : Fall r) (bt : Bool) (ms : List Nat) : ∀ x ∈ keepR bt ms r, nd (keepR bt ms r) ms x = true := fun x hx => by
  have hxs : x ∈ needE r ms := List.mem_of_mem_take hx
  have hnd : nd r ms x = true := by rw [need_filter hf] at hxs; exact (List.mem_filter.1 hxs).2
  rw [nd, Bool.or_eq_true] at hnd ⊢
  rcases hnd with h | h
  · refine .inl (decide_eq_true ?_)
    have h0 := of_decide_eq_true h
    cases r with
    | nil => simp at h0
    | cons y r =>
      simp at h0; subst h0
      have hny : nd (y :: r) ms y = true := by rw [nd, Bool.or_eq_true]; exact .inl (by simp)
      have hs : needE (y :: r) ms = y :: r.filter (nd (y :: r) ms) := by rw [need_filter hf, List.filter_cons, if_pos hny]
      rw [keepR_eq, hs] at hx ⊢
      cases ht : keptR bt ms (y :: r) with
      | zero => rw [ht] at hx; simp at hx
      | succ t => rfl
  · obtain ⟨m, hm, hv⟩ := List.any_eq_true.1 h
    have hv := of_decide_eq_true hv
    refine .inr (List.any_eq_true.2 ⟨m, hm, decide_eq_true ?_⟩)
    have h1 := fst_need hf (good_mem (r := r) hm)
    rw [hv, fst_split (needE r ms) (keptR bt ms r), ← keepR_eq] at h1
    cases hw : fstE (keepR bt ms r) m with
    | some w => rw [hw] at h1; simpa using h1
    | none =>
      have := List.find?_eq_none.1 hw x hx
      have hle := fst_in hv
      simp at this; omega
theorem kept_again {r : List En} (hf : Fall r) (bt : Bool) (ms : List Nat) : keepR bt ms (keepR bt ms r) = keepR bt ms r := by
  have hf2 : Fall (keepR bt ms r) := List.Pairwise.sublist (keepR_sub hf bt ms) hf
  have hn : needE (keepR bt ms r) ms = keepR bt ms r := by
    rw [need_filter hf2]; exact List.filter_eq_self.2 (kept_nd hf bt ms)
  rw [keepR_eq bt ms (keepR bt ms r), hn]
  refine List.take_of_length_le ?_
  unfold keptR
  rw [hn]
  cases bt with
  | false => simp
  | true =>
    rw [if_pos rfl]
    obtain ⟨_, h2⟩ := trim_spec (needE r ms) _ (Nat.le_refl _)
    have hk : keptR true ms r = trimN (needE r ms) (needE r ms).length := rfl
    rw [← hk] at h2
    have hle : keptR true ms r ≤ (needE r ms).length := trimN_le _ _
    have hl : (keepR true ms r).length = keptR true ms r := by rw [keepR_eq, List.length_take]; omega
    rcases h2 with h2 | ⟨x, hx, hx2, hpos⟩
    · rw [hl, h2]; exact Nat.zero_le _
    · obtain ⟨t, ht⟩ : ∃ t, keptR true ms r = t + 1 := ⟨keptR true ms r - 1, by omega⟩
      have hx' : (keepR true ms r)[t]? = some x := by
        rw [keepR_eq, List.getElem?_take, if_pos (by omega)]
        rw [ht] at hx; simpa using hx
      rw [hl, ht, trimN, hx']
      simp [hx2]
theorem runsF_cat : ∀ (r rest acc : List En), r ≠ [] → (∀ x ∈ r, ∀ y ∈ r, x.key = y.key) → (∀ x ∈ r, ∀ y ∈ rest, ¬ x.key = y.key) → runsF (r ++ rest) acc = (acc ++ r) :: runsF rest []
  | [], _, _, h, _, _ => absurd rfl h
  | [x], [], acc, _, _, _ => by simp [runsF]
  | [x], y :: rest, acc, _, _, h => by
    have := h x (by simp) y (by simp)
    simp [runsF, this]
  | x :: x2 :: r, rest, acc, _, hs, h => by
    have hk := hs x (by simp) x2 (by simp)
    have ih := runsF_cat (x2 :: r) rest (acc ++ [x]) (by simp) (fun a ha b hb => hs a (List.mem_cons_of_mem _ ha) b (List.mem_cons_of_mem _ hb)) (fun a ha => h a (List.mem_cons_of_mem _ ha))
    rw [List.cons_append, List.cons_append, runsF, if_pos hk, ← List.cons_append, ih]
    simp
theorem runs_cat : ∀ {rs : List (List En)}, Runs rs → runsE rs.flatten = rs
  | [], _ => rfl
  | r :: rs, hR => by
    obtain ⟨hd, hd2⟩ := List.pairwise_cons.1 hR.diff
    have hR2 : Runs rs := ⟨fun r h => hR.some r (List.mem_cons_of_mem _ h), fun r h => hR.same r (List.mem_cons_of_mem _ h), hd2⟩
    rw [List.flatten_cons, runsE, runsF_cat r rs.flatten [] (hR.some r List.mem_cons_self) (hR.same r List.mem_cons_self) fun x hx y hy => by
      obtain ⟨r', hr', hy'⟩ := List.mem_flatten.1 hy
      exact hd r' hr' x hx y hy', List.nil_append]
    have ih := runs_cat hR2
    rw [runsE] at ih
    rw [ih]
/-- What of each run is kept, without empty partsR. -/
def partsR (bt : Bool) (ms : List Nat) (rs : List (List En)) : List (List En) := (rs.map (keepR bt ms)).filter fun r => !r.isEmpty
theorem partsR_flat (bt : Bool) (ms : List Nat) : ∀ (rs : List (List En)), (partsR bt ms rs).flatten = rs.flatMap (keepR bt ms)
  | [] => rfl
  | r :: rs => by
    have ih := partsR_flat bt ms rs
    rw [partsR] at ih ⊢
    rw [List.map_cons, List.filter_cons, List.flatMap_cons, ← ih]
    cases h : keepR bt ms r with
    | nil => rfl
    | cons x l => rfl
theorem partsR_runs {bt : Bool} {ms : List Nat} {rs : List (List En)} (hR : Runs rs) (hf : ∀ r ∈ rs, Fall r) : Runs (partsR bt ms rs) := by
  refine ⟨fun r hr => ?_, fun r hr => ?_, ?_⟩
  · have := (List.mem_filter.1 hr).2
    rintro rfl; simp at this
  · obtain ⟨r0, hr0, rfl⟩ := List.mem_map.1 (List.mem_filter.1 hr).1
    have hs := keepR_sub (hf r0 hr0) bt ms
    exact fun x hx y hy => hR.same r0 hr0 x (hs.subset hx) y (hs.subset hy)
  · refine List.Pairwise.filter _ (List.pairwise_map.2 (hR.diff.imp_of_mem fun {a b} ha hb h => fun x hx y hy => h x ((keepR_sub (hf a ha) bt ms).subset hx) y ((keepR_sub (hf b hb) bt ms).subset hy)))
theorem vis_nil (m : Nat) : visR m [] = none := rfl
theorem vis_parts {m : Nat} {bt : Bool} {ms : List Nat} : ∀ {rs : List (List En)}, (∀ r ∈ rs, Fall r) → (∀ r ∈ rs, good r ms m) → (partsR bt ms rs).filterMap (visR m) = rs.filterMap (visR m)
  | [], _, _ => rfl
  | r :: rs, hf, hg => by
    have ih := vis_parts (bt := bt) (fun r h => hf r (List.mem_cons_of_mem _ h)) (fun r h => hg r (List.mem_cons_of_mem _ h))
    have hv := vis_kept (hf r List.mem_cons_self) (bt := bt) (hg r List.mem_cons_self)
    rw [partsR] at ih ⊢
    rw [List.map_cons, List.filter_cons, List.filterMap_cons, ← hv]
    cases h : keepR bt ms r with
    | nil => rw [vis_nil]; exact ih
    | cons x l =>
      rw [if_pos (by simp), List.filterMap_cons]
      cases visR m (x :: l) with
      | none => exact ih
      | some v => simp only; rw [ih]
/-- What is kept of a list in order. -/
theorem same_law {l : List En} (ho : Ord l) (hc : ∀ x ∈ l, bigE x = false ∧ badE x = false) (bt : Bool) (ms : List Nat) :
    (keepE l bt ms).Sublist l ∧ worstE [keepE l bt ms] = 0 ∧ keepE (keepE l bt ms) bt ms = keepE l bt ms ∧ ∀ m, (m ∈ ms ∨ ∀ x ∈ l, x.seq ≤ m) → visE (keepE l bt ms) m = visE l m := by
  obtain ⟨hf, hR⟩ := runs_spec ho
  have hfall := fun r hr => fall_of ho (r := r) hR hr
  have hmem : ∀ r ∈ runsE l, ∀ y ∈ r, y ∈ l := fun r hr y hy => by rw [← hf]; exact List.mem_flatten.2 ⟨r, hr, hy⟩
  have hP := partsR_runs (bt := bt) (ms := ms) hR hfall
  have hk : keepE l bt ms = (partsR bt ms (runsE l)).flatten := (partsR_flat bt ms _).symm
  have hrk : runsE (keepE l bt ms) = partsR bt ms (runsE l) := by rw [hk]; exact runs_cat hP
  have hsub : (keepE l bt ms).Sublist l := by
    have key : ∀ (rs : List (List En)), (∀ r ∈ rs, Fall r) → (rs.flatMap (keepR bt ms)).Sublist rs.flatten := by
      intro rs
      induction rs with
      | nil => intro _; exact List.Sublist.refl _
      | cons r rs ih =>
        intro h
        rw [List.flatMap_cons, List.flatten_cons]
        exact (keepR_sub (h r List.mem_cons_self) bt ms).append (ih fun r hr => h r (List.mem_cons_of_mem _ hr))
    have := key _ hfall
    rwa [hf] at this
  refine ⟨hsub, worst_of (ho.sublist hsub) fun x hx => hc x (hsub.subset hx), ?_, fun m hm => ?_⟩
  · show (runsE (keepE l bt ms)).flatMap (keepR bt ms) = _
    rw [hrk, hk, flatMap_congr (g := id) fun r hr => by
      obtain ⟨r0, hr0, rfl⟩ := List.mem_map.1 (List.mem_filter.1 hr).1
      exact kept_again (hfall r0 hr0) bt ms]
    simp [List.flatMap_id]
  · rw [visE, hrk, visE, vis_parts hfall fun r hr => hm.elim good_mem fun h => good_all fun x hx => h x (hmem r hr x hx)]
end Go.Proofs.Ytojncfdlddepdaa


/-
  Plain laws of numbers written in eight bytes, the greatest first. No program in sight.
-/
namespace Go.Proofs.Ytojncfdlddepdaa

/-- The lowest k bytes of a number, the greatest first. -/
def ordK : Nat → Nat → List UInt8
  | 0, _ => []
  | k + 1, n => ordK k (n / 256) ++ [UInt8.ofNat n]
def ordU (n : Nat) : List UInt8 := ordK 8 n
def numB (l : List UInt8) : Nat := l.foldl (fun n x => n * 256 + x.toNat) 0
def getOrdU (b : List UInt8) (p : Int) : Nat × Int × Nat :=
  if p < 0 ∨ (b.length : Int) < p then (0, 0, 1)
  else if (b.length : Int) - p < 8 then (0, 0, 5)
  else (numB ((b.drop p.toNat).take 8), p + 8, 0)

theorem ordK_length : ∀ (k n : Nat), (ordK k n).length = k
  | 0, _ => rfl
  | k + 1, n => by simp [ordK, ordK_length k]
theorem ordU_length (n : Nat) : (ordU n).length = 8 := ordK_length 8 n
theorem numB_snoc (l : List UInt8) (x : UInt8) : numB (l ++ [x]) = numB l * 256 + x.toNat := by simp [numB]
theorem numB_ordK : ∀ (k n : Nat), numB (ordK k n) = n % 256 ^ k
  | 0, n => by simp [ordK, numB, Nat.mod_one]
  | k + 1, n => by
    rw [ordK, numB_snoc, numB_ordK k]
    rw [Nat.pow_succ, Nat.mul_comm (256 ^ k) 256, Nat.mod_mul]
    simp
    omega
theorem numB_ordU {n : Nat} (h : n < 2 ^ 64) : numB (ordU n) = n := by
  rw [ordU, numB_ordK]; exact Nat.mod_eq_of_lt h
theorem ordK_numB : ∀ (k : Nat) (l : List UInt8), l.length = k → ordK k (numB l) = l
  | 0, l, h => by simp [ordK, List.length_eq_zero_iff.1 h]
  | k + 1, l, h => by
    have hne : l ≠ [] := by rintro rfl; simp at h
    have e := List.dropLast_concat_getLast hne
    rw [← e, numB_snoc, ordK]
    have hx := (l.getLast hne).toNat_lt
    have e1 : (numB l.dropLast * 256 + (l.getLast hne).toNat) / 256 = numB l.dropLast := by omega
    rw [e1, ordK_numB k _ (by simp [h])]
    congr 2
    apply UInt8.toNat_inj.1
    simp
theorem ordU_numB {l : List UInt8} (h : l.length = 8) : ordU (numB l) = l := ordK_numB 8 l h
theorem numB_cons : ∀ (l : List UInt8) (a : Nat), l.foldl (fun n x => n * 256 + x.toNat) a = a * 256 ^ l.length + numB l
  | [], a => by simp [numB]
  | x :: l, a => by
    have h1 := numB_cons l (a * 256 + x.toNat)
    have h2 := numB_cons l (0 * 256 + x.toNat)
    simp only [numB, List.foldl_cons, List.length_cons] at h1 h2 ⊢
    rw [h1, h2, Nat.pow_succ]
    simp only [Nat.add_mul, Nat.mul_assoc, Nat.zero_mul, Nat.zero_add]
    rw [Nat.mul_comm 256 (256 ^ l.length)]
    omega
theorem numB_lt (l : List UInt8) : numB l < 256 ^ l.length := by
  have h := numB_ordK l.length (numB l)
  rw [ordK_numB _ l rfl] at h
  rw [h]; exact Nat.mod_lt _ (Nat.pow_pos (by decide))
theorem cmp_num : ∀ (a b : List UInt8), a.length = b.length → (cmpB a b < 0 ↔ numB a < numB b)
  | [], [], _ => by simp [cmpB, numB]
  | [], _ :: _, h => by simp at h
  | _ :: _, [], h => by simp at h
  | x :: a, y :: b, h => by
    simp only [List.length_cons, Nat.add_right_cancel_iff] at h
    have ha : numB (x :: a) = x.toNat * 256 ^ a.length + numB a := by
      have := numB_cons a (0 * 256 + x.toNat); simp only [numB, List.foldl_cons] at this ⊢; rw [this]; simp
    have hb : numB (y :: b) = y.toNat * 256 ^ a.length + numB b := by
      have := numB_cons b (0 * 256 + y.toNat); simp only [numB, List.foldl_cons] at this ⊢; rw [this, h]; simp
    have la := numB_lt a
    have lb := numB_lt b
    rw [← h] at lb
    rw [ha, hb]
    by_cases h1 : x < y
    · rw [cmp_lt h1]
      rw [UInt8.lt_iff_toNat_lt] at h1
      have := Nat.mul_le_mul_right (256 ^ a.length) (show x.toNat + 1 ≤ y.toNat from h1)
      rw [Nat.add_mul, Nat.one_mul] at this
      constructor
      · intro _; omega
      · intro _; decide
    · by_cases h2 : y < x
      · rw [cmp_gt h2]
        rw [UInt8.lt_iff_toNat_lt] at h2
        have := Nat.mul_le_mul_right (256 ^ a.length) (show y.toNat + 1 ≤ x.toNat from h2)
        rw [Nat.add_mul, Nat.one_mul] at this
        constructor
        · intro h; omega
        · intro h; omega
      · have e : x = y := UInt8.le_antisymm (UInt8.not_lt.1 h2) (UInt8.not_lt.1 h1)
        subst e
        rw [cmp_same, cmp_num a b h]
        omega
theorem cmp_ordU {n m : Nat} (hn : n < 2 ^ 64) (hm : m < 2 ^ 64) : (cmpB (ordU n) (ordU m) < 0) = (n < m) := by
  rw [cmp_num _ _ (by rw [ordU_length, ordU_length]), numB_ordU hn, numB_ordU hm]
theorem ordK_get : ∀ (k n i : Nat), i < k → (ordK k n)[i]? = some (UInt8.ofNat (n / 256 ^ (k - 1 - i)))
  | 0, _, _, h => by omega
  | k + 1, n, i, h => by
    rw [ordK]
    by_cases hi : i < k
    · rw [List.getElem?_append_left (by rw [ordK_length]; exact hi), ordK_get k _ i hi, Nat.div_div_eq_div_mul]
      have e : 256 * 256 ^ (k - 1 - i) = 256 ^ (k + 1 - 1 - i) := by
        rw [show k + 1 - 1 - i = (k - 1 - i) + 1 by omega, Nat.pow_succ, Nat.mul_comm]
      rw [e]
    · have : i = k := by omega
      subst this
      rw [List.getElem?_append_right (by rw [ordK_length]; omega), ordK_length]
      simp
theorem numB_step {l : List UInt8} {k : Nat} {x : UInt8} (h : l[k]? = some x) : numB (l.take (k + 1)) = numB (l.take k) * 256 + x.toNat := by
  rw [take_getR h, numB_snoc]
theorem xor_top {u : Nat} (h : u < 2 ^ 64) : u ^^^ 9223372036854775808 = (u + 9223372036854775808) % 18446744073709551616 := by
  rw [show 9223372036854775808 = 2 ^ 63 from rfl, show 18446744073709551616 = 2 ^ 64 from rfl]
  apply Nat.eq_of_testBit_eq
  intro j
  rw [Nat.testBit_xor, Nat.testBit_mod_two_pow, Nat.add_comm]
  rcases Nat.lt_trichotomy j 63 with hj | hj | hj
  · rw [Nat.testBit_two_pow_of_ne (by omega), Nat.testBit_two_pow_add_gt hj]
    have : j < 64 := by omega
    simp [this]
  · subst hj
    rw [Nat.testBit_two_pow_self, Nat.testBit_two_pow_add_eq]
    simp
  · rw [Nat.testBit_two_pow_of_ne (by omega), Nat.testBit_lt_two_pow (Nat.lt_of_lt_of_le h (Nat.pow_le_pow_right (by decide) (by omega)))]
    have : ¬ j < 64 := by omega
    simp [this]
theorem getOrdU_arg {b : List UInt8} {p : Int} (h : ¬ (0 ≤ p ∧ p ≤ b.length)) : getOrdU b p = (0, 0, 1) := by
  rw [getOrdU, if_pos (by omega)]
theorem getOrdU_end {b : List UInt8} {p : Int} (h : 0 ≤ p ∧ p ≤ b.length) (h8 : (b.length : Int) - p < 8) : getOrdU b p = (0, 0, 5) := by
  rw [getOrdU, if_neg (by omega), if_pos h8]
theorem getOrdU_ok {b : List UInt8} {q : Nat} (h : q + 8 ≤ b.length) : getOrdU b q = (numB ((b.drop q).take 8), (q : Int) + 8, 0) := by
  rw [getOrdU, if_neg (by omega), if_neg (by omega)]; simp
theorem getOrdU_cases (b : List UInt8) (p : Int) : (∃ e : Nat, ¬ e = 0 ∧ getOrdU b p = (0, 0, e)) ∨ ∃ q : Nat, p = q ∧ q + 8 ≤ b.length ∧ getOrdU b p = (numB ((b.drop q).take 8), (q : Int) + 8, 0) := by
  by_cases h : 0 ≤ p ∧ p ≤ b.length
  · by_cases h8 : (b.length : Int) - p < 8
    · exact .inl ⟨5, by decide, getOrdU_end h h8⟩
    · obtain ⟨q, rfl⟩ := Int.eq_ofNat_of_zero_le h.1
      exact .inr ⟨q, rfl, by omega, getOrdU_ok (by omega)⟩
  · exact .inl ⟨1, by decide, getOrdU_arg h⟩
end Go.Proofs.Ytojncfdlddepdaa


/-
  Plain laws of the sum: what a step of the division does, that it keeps differences, and that no change within 32 bits of one another goes unseen. No program in sight.
-/
namespace Go.Proofs.Ytojncfdlddepdaa

def stepC (x : Nat) : Nat := if x % 2 = 1 then (x / 2) ^^^ 3988292384 else x / 2
def stepsC : Nat → Nat → Nat
  | 0, x => x
  | k + 1, x => stepsC k (stepC x)
def eightC (x : Nat) : Nat := stepsC 8 x
def crcRaw (x : Nat) (l : List UInt8) : Nat := l.foldl (fun x b => eightC (x ^^^ b.toNat)) x
def crcOf (l : List UInt8) : Nat := 4294967295 - crcRaw 4294967295 l

theorem stepC_odd {x : Nat} (h : x % 2 = 1) : stepC x = (x / 2) ^^^ 3988292384 := by rw [stepC, if_pos h]
theorem stepC_even {x : Nat} (h : ¬ x % 2 = 1) : stepC x = x / 2 := by rw [stepC, if_neg h]
theorem xor_div2 (a b : Nat) : (a ^^^ b) / 2 = a / 2 ^^^ b / 2 := by
  have := Nat.shiftRight_xor_distrib (a := a) (b := b) (i := 1)
  simpa [Nat.shiftRight_succ] using this
theorem xor_mod2 (a b : Nat) : (a ^^^ b) % 2 = (a + b) % 2 := by
  have h := Nat.testBit_xor a b 0
  simp only [Nat.testBit_zero] at h
  rcases Nat.mod_two_eq_zero_or_one a with ha | ha <;> rcases Nat.mod_two_eq_zero_or_one b with hb | hb <;> rcases Nat.mod_two_eq_zero_or_one (a ^^^ b) with hc | hc <;> simp [ha, hb, hc] at h <;> omega
theorem step_xor (a b : Nat) : stepC (a ^^^ b) = stepC a ^^^ stepC b := by
  have hm := xor_mod2 a b
  have hd := xor_div2 a b
  by_cases ha : a % 2 = 1
  · by_cases hb : b % 2 = 1
    · rw [stepC_even (by omega), stepC_odd ha, stepC_odd hb, hd]
      rw [Nat.xor_assoc, Nat.xor_comm 3988292384 (b / 2 ^^^ 3988292384), Nat.xor_assoc, Nat.xor_self, Nat.xor_zero]
    · rw [stepC_odd (by omega), stepC_odd ha, stepC_even hb, hd]
      rw [Nat.xor_assoc, Nat.xor_assoc, Nat.xor_comm (b / 2)]
  · by_cases hb : b % 2 = 1
    · rw [stepC_odd (by omega), stepC_even ha, stepC_odd hb, hd, Nat.xor_assoc]
    · rw [stepC_even (by omega), stepC_even ha, stepC_even hb, hd]
theorem steps_xor : ∀ (k a b : Nat), stepsC k (a ^^^ b) = stepsC k a ^^^ stepsC k b
  | 0, _, _ => rfl
  | k + 1, a, b => by simp only [stepsC]; rw [step_xor, steps_xor k]
theorem steps_add : ∀ (k m a : Nat), stepsC (k + m) a = stepsC m (stepsC k a)
  | 0, m, a => by rw [Nat.zero_add]; rfl
  | k + 1, m, a => by rw [show k + 1 + m = (k + m) + 1 by omega]; simp only [stepsC]; rw [steps_add k m]
theorem steps_zero : ∀ (k : Nat), stepsC k 0 = 0
  | 0 => rfl
  | k + 1 => by simp only [stepsC]; rw [show stepC 0 = 0 from rfl, steps_zero k]
theorem step_lt {x : Nat} (h : x < 4294967296) : stepC x < 4294967296 := by
  unfold stepC
  split
  · exact Nat.xor_lt_two_pow (n := 32) (by omega) (by decide)
  · omega
theorem steps_lt : ∀ (k : Nat) {x : Nat}, x < 4294967296 → stepsC k x < 4294967296
  | 0, _, h => h
  | k + 1, _, h => steps_lt k (step_lt h)
theorem steps_shift : ∀ (k m : Nat), stepsC k (m * 2 ^ k) = m
  | 0, m => by simp [stepsC]
  | k + 1, m => by
    have e : m * 2 ^ (k + 1) = 2 * (m * 2 ^ k) := by rw [Nat.pow_succ, ← Nat.mul_assoc, Nat.mul_comm]
    simp only [stepsC]
    rw [e, stepC_even (by omega), Nat.mul_div_cancel_left _ (by decide), steps_shift k]
theorem step_ne {x : Nat} (h : x < 4294967296) (h0 : x ≠ 0) : stepC x ≠ 0 := by
  intro hc
  by_cases ho : x % 2 = 1
  · rw [stepC_odd ho] at hc
    have e : x / 2 = 3988292384 := by
      have := congrArg (· ^^^ 3988292384) hc
      simpa [Nat.xor_assoc] using this
    omega
  · rw [stepC_even ho] at hc; omega
theorem steps_ne : ∀ (k : Nat) {x : Nat}, x < 4294967296 → x ≠ 0 → stepsC k x ≠ 0
  | 0, _, _, h => h
  | k + 1, _, h, h0 => steps_ne k (step_lt h) (step_ne h h0)
/-- A burst of 32 bits, wherever it begins, is never lost. -/
theorem burst_ne {n a d : Nat} (hd : d < 4294967296) (h0 : d ≠ 0) (ha : a ≤ n) : stepsC n (d * 2 ^ a) ≠ 0 := by
  obtain ⟨m, rfl⟩ := Nat.exists_eq_add_of_le ha
  rw [steps_add, steps_shift]
  exact steps_ne m hd h0
theorem xor_low (q r : Nat) (hr : r < 256) : q * 256 ^^^ r = q * 256 + r := by
  have h1 : (q * 256 ^^^ r) / 256 = q := by
    have := Nat.shiftRight_xor_distrib (a := q * 256) (b := r) (i := 8)
    simp only [Nat.shiftRight_eq_div_pow] at this
    rw [show (2 : Nat) ^ 8 = 256 from rfl, Nat.mul_div_cancel _ (by decide), Nat.div_eq_of_lt hr, Nat.xor_zero] at this
    exact this
  have h2 : (q * 256 ^^^ r) % 256 = r := by
    have := Nat.xor_mod_two_pow (a := q * 256) (b := r) (n := 8)
    rw [show (2 : Nat) ^ 8 = 256 from rfl, Nat.mul_mod_left, Nat.zero_xor, Nat.mod_eq_of_lt hr] at this
    exact this
  omega
theorem eight_high (q : Nat) : eightC (q * 256) = q := steps_shift 8 q
/-- A byte's entry does for it. -/
theorem eight_split (x : Nat) (b : UInt8) : eightC (x ^^^ b.toNat) = x / 256 ^^^ eightC (x % 256 ^^^ b.toNat) := by
  have e : x = x / 256 * 256 ^^^ x % 256 := by rw [xor_low _ _ (Nat.mod_lt _ (by decide))]; omega
  have e2 : eightC (x ^^^ b.toNat) = eightC (x / 256 * 256 ^^^ (x % 256 ^^^ b.toNat)) := by
    rw [← Nat.xor_assoc, ← e]
  rw [e2]
  unfold eightC
  rw [steps_xor]
  congr 1
  exact eight_high (x / 256)
theorem eight_lt {x : Nat} (h : x < 4294967296) : eightC x < 4294967296 := steps_lt 8 h
theorem xorb_lt {x : Nat} (h : x < 4294967296) (b : UInt8) : x ^^^ b.toNat < 4294967296 :=
  Nat.xor_lt_two_pow (n := 32) h (Nat.lt_trans b.toNat_lt (by decide))
theorem raw_cons (x : Nat) (b : UInt8) (l : List UInt8) : crcRaw x (b :: l) = crcRaw (eightC (x ^^^ b.toNat)) l := rfl
theorem raw_snoc (x : Nat) (b : UInt8) (l : List UInt8) : crcRaw x (l ++ [b]) = eightC (crcRaw x l ^^^ b.toNat) := by simp [crcRaw]
theorem raw_append (x : Nat) (l m : List UInt8) : crcRaw x (l ++ m) = crcRaw (crcRaw x l) m := by simp [crcRaw]
theorem raw_lt : ∀ (l : List UInt8) {x : Nat}, x < 4294967296 → crcRaw x l < 4294967296
  | [], _, h => h
  | b :: l, _, h => raw_lt l (eight_lt (xorb_lt h b))
theorem crcOf_lt (l : List UInt8) : crcOf l < 4294967296 := by unfold crcOf; omega

/-- Bytes as one number, the lowest first. -/
def low : List UInt8 → Nat
  | [] => 0
  | b :: l => low l * 256 + b.toNat
theorem raw_low : ∀ (l : List UInt8) (x : Nat), crcRaw x l = stepsC (8 * l.length) (x ^^^ low l)
  | [], x => by simp [crcRaw, low, stepsC]
  | b :: l, x => by
    have hb := b.toNat_lt
    rw [raw_cons, raw_low l, List.length_cons, show 8 * (l.length + 1) = 8 + 8 * l.length by omega, steps_add]
    congr 1
    rw [low, ← xor_low _ _ hb, Nat.xor_comm (low l * 256), ← Nat.xor_assoc, steps_xor]
    congr 1
    exact (eight_high _).symm
theorem raw_diff (x : Nat) {l m : List UInt8} (h : l.length = m.length) : crcRaw x l ^^^ crcRaw x m = stepsC (8 * l.length) (low l ^^^ low m) := by
  rw [raw_low, raw_low, ← h, ← steps_xor]
  congr 1
  rw [Nat.xor_comm x (low l), Nat.xor_assoc, ← Nat.xor_assoc x x, Nat.xor_self, Nat.zero_xor]
theorem low_set : ∀ (l : List UInt8) (i j : Nat) (x : UInt8), l[i]? = some x → j < 8 → low (l.set i (UInt8.ofNat (x.toNat ^^^ 2 ^ j))) = low l ^^^ 2 ^ (8 * i + j)
  | [], _, _, _, h, _ => by simp at h
  | b :: l, 0, j, x, h, hj => by
    simp only [List.getElem?_cons_zero, Option.some.injEq] at h
    subst h
    have hp : 2 ^ j < 256 := Nat.lt_of_lt_of_le (Nat.pow_lt_pow_right (by decide) hj) (by decide)
    have hx : b.toNat ^^^ 2 ^ j < 256 := Nat.xor_lt_two_pow (n := 8) b.toNat_lt hp
    simp only [List.set_cons_zero, low]
    have ex : (UInt8.ofNat (b.toNat ^^^ 2 ^ j)).toNat = b.toNat ^^^ 2 ^ j := by rw [UInt8.toNat_ofNat']; exact Nat.mod_eq_of_lt hx
    rw [ex, ← xor_low _ _ hx, ← xor_low _ _ b.toNat_lt, Nat.xor_assoc]
    simp
  | b :: l, i + 1, j, x, h, hj => by
    simp only [List.getElem?_cons_succ] at h
    simp only [List.set_cons_succ, low]
    rw [low_set l i j x h hj, ← xor_low _ _ b.toNat_lt, ← xor_low _ _ b.toNat_lt]
    have e : (low l ^^^ 2 ^ (8 * i + j)) * 256 = low l * 256 ^^^ 2 ^ (8 * (i + 1) + j) := by
      have h1 : ∀ a b : Nat, (a ^^^ b) * 256 = a * 256 ^^^ b * 256 := fun a b => by
        have := Nat.shiftLeft_xor_distrib (a := a) (b := b) (i := 8)
        simpa only [Nat.shiftLeft_eq] using this
      rw [h1, show 8 * (i + 1) + j = (8 * i + j) + 8 by omega, Nat.pow_add 2 (8 * i + j) 8]
    rw [e, Nat.xor_assoc, Nat.xor_comm (2 ^ (8 * (i + 1) + j)), ← Nat.xor_assoc]
end Go.Proofs.Ytojncfdlddepdaa


/-
  Plain laws of sealed records. No program in sight.
-/
namespace Go.Proofs.Ytojncfdlddepdaa

/-- Four bytes, the greatest first. -/
def four (n : Nat) : List UInt8 := ordK 4 n
theorem four_length (n : Nat) : (four n).length = 4 := ordK_length 4 n
theorem ordU_four (n : Nat) : (ordU n).drop 4 = four n := by
  have e : ordU n = ordK 4 (n / 256 / 256 / 256 / 256) ++ four n := by
    show ordK 8 n = _
    simp [ordK, four]
  rw [e, List.drop_append_of_le_length (by rw [ordK_length]; omega), List.drop_of_length_le (by rw [ordK_length]; omega)]
  rfl
theorem four_list (n : Nat) : four n = [UInt8.ofNat (n / 16777216), UInt8.ofNat (n / 65536), UInt8.ofNat (n / 256), UInt8.ofNat n] := by
  simp [four, ordK, Nat.div_div_eq_div_mul]
theorem numB_four {n : Nat} (h : n < 4294967296) : numB (four n) = n := by
  rw [four, numB_ordK]; exact Nat.mod_eq_of_lt h
theorem four_numB {l : List UInt8} (h : l.length = 4) : four (numB l) = l := ordK_numB 4 l h
theorem numB_lt4 {l : List UInt8} (h : l.length = 4) : numB l < 4294967296 := by
  have := numB_lt l; rw [h] at this; exact this

def crcRec (b : List UInt8) : List UInt8 := four b.length ++ (four (crcOf (four b.length ++ b)) ++ b)
theorem crcRec_length (b : List UInt8) : (crcRec b).length = 8 + b.length := by simp [crcRec, four_length]; omega
def sealB (b : List UInt8) : List UInt8 × Nat := if 1048576 < b.length then ([], 2) else (crcRec b, 0)
/-- What is sealed at the head of a list: the body, and the error. -/
def openH (y : List UInt8) : List UInt8 × Nat :=
  if y.length < 8 then ([], 5)
  else if 1048576 < numB (y.take 4) then ([], 2)
  else if y.length < 8 + numB (y.take 4) then ([], 5)
  else if crcOf (y.take 4 ++ (y.take (8 + numB (y.take 4))).drop 8) = numB ((y.drop 4).take 4) then ((y.take (8 + numB (y.take 4))).drop 8, 0) else ([], 4)
/-- At a place: the body, what stands behind it, and the error. -/
def openB (xs : List UInt8) (p : Int) : List UInt8 × Nat × Nat :=
  if p < 0 ∨ (xs.length : Int) < p then ([], 0, 1)
  else if (openH (xs.drop p.toNat)).2 = 0 then ((openH (xs.drop p.toNat)).1, p.toNat + 8 + (openH (xs.drop p.toNat)).1.length, 0)
  else ([], 0, (openH (xs.drop p.toNat)).2)
theorem openH_short {y : List UInt8} (h : y.length < 8) : openH y = ([], 5) := by rw [openH, if_pos h]
theorem openH_size {y : List UInt8} (h : ¬ y.length < 8) (h2 : 1048576 < numB (y.take 4)) : openH y = ([], 2) := by rw [openH, if_neg h, if_pos h2]
theorem openH_end {y : List UInt8} (h : ¬ y.length < 8) (h2 : ¬ 1048576 < numB (y.take 4)) (h3 : y.length < 8 + numB (y.take 4)) : openH y = ([], 5) := by rw [openH, if_neg h, if_neg h2, if_pos h3]
theorem openH_sum {y : List UInt8} (h : ¬ y.length < 8) (h2 : ¬ 1048576 < numB (y.take 4)) (h3 : ¬ y.length < 8 + numB (y.take 4)) (h4 : ¬ crcOf (y.take 4 ++ (y.take (8 + numB (y.take 4))).drop 8) = numB ((y.drop 4).take 4)) : openH y = ([], 4) := by
  rw [openH, if_neg h, if_neg h2, if_neg h3, if_neg h4]
theorem openH_ok {y : List UInt8} (h : ¬ y.length < 8) (h2 : ¬ 1048576 < numB (y.take 4)) (h3 : ¬ y.length < 8 + numB (y.take 4)) (h4 : crcOf (y.take 4 ++ (y.take (8 + numB (y.take 4))).drop 8) = numB ((y.drop 4).take 4)) : openH y = ((y.take (8 + numB (y.take 4))).drop 8, 0) := by
  rw [openH, if_neg h, if_neg h2, if_neg h3, if_pos h4]
theorem openB_arg {xs : List UInt8} {p : Int} (h : ¬ (0 ≤ p ∧ p ≤ xs.length)) : openB xs p = ([], 0, 1) := by rw [openB, if_pos (by omega)]
theorem openB_at {xs : List UInt8} {q : Nat} (h : q ≤ xs.length) {r : List UInt8} {e : Nat} (ho : openH (xs.drop q) = (r, e)) : openB xs q = if e = 0 then (r, q + 8 + r.length, 0) else ([], 0, e) := by
  rw [openB, if_neg (by omega), Int.toNat_natCast, ho]
theorem openB_ok {xs : List UInt8} {q : Nat} (h : q ≤ xs.length) {r : List UInt8} (ho : openH (xs.drop q) = (r, 0)) : openB xs q = (r, q + 8 + r.length, 0) := by rw [openB_at h ho, if_pos rfl]
theorem openB_err {xs : List UInt8} {q : Nat} (h : q ≤ xs.length) {r : List UInt8} {e : Nat} (ho : openH (xs.drop q) = (r, e)) (he : ¬ e = 0) : openB xs q = ([], 0, e) := by rw [openB_at h ho, if_neg he]
theorem openH_len {y r : List UInt8} (h : openH y = (r, 0)) : 8 + r.length ≤ y.length ∧ r.length ≤ 1048576 := by
  unfold openH at h
  split at h
  · simp at h
  · split at h
    · simp at h
    · split at h
      · simp at h
      · split at h
        · simp only [Prod.mk.injEq, and_true] at h
          subst h
          simp; omega
        · simp at h
theorem openB_inv {xs r : List UInt8} {q x : Nat} (hq : q ≤ xs.length) (h : openB xs q = (r, x, 0)) : x = q + 8 + r.length ∧ x ≤ xs.length ∧ r.length ≤ 1048576 := by
  obtain ⟨s, e, ho⟩ : ∃ s e, openH (xs.drop q) = (s, e) := ⟨_, _, rfl⟩
  rw [openB_at hq ho] at h
  split at h
  · rename_i he
    subst he
    simp only [Prod.mk.injEq, and_true] at h
    obtain ⟨rfl, rfl⟩ := h
    have := openH_len ho
    rw [List.length_drop] at this
    omega
  · simp only [Prod.mk.injEq] at h
    omega
theorem openB_err' {xs r : List UInt8} {p : Int} {x e : Nat} (h : openB xs p = (r, x, e)) (he : ¬ e = 0) : r = [] ∧ x = 0 := by
  unfold openB at h
  split at h
  · simp only [Prod.mk.injEq] at h; exact ⟨h.1.symm, h.2.1.symm⟩
  · split at h
    · simp only [Prod.mk.injEq] at h; omega
    · simp only [Prod.mk.injEq] at h; exact ⟨h.1.symm, h.2.1.symm⟩
/-- What is sealed opens to what it was. -/
theorem openH_rec {b : List UInt8} (h : b.length ≤ 1048576) (rest : List UInt8) : openH (crcRec b ++ rest) = (b, 0) := by
  have e1 : (crcRec b ++ rest).take 4 = four b.length := by
    unfold crcRec; rw [List.append_assoc, List.take_append_of_le_length (by rw [four_length]; omega), List.take_of_length_le (by rw [four_length]; omega)]
  have e2 : numB ((crcRec b ++ rest).take 4) = b.length := by rw [e1, numB_four (by omega)]
  have e3 : ((crcRec b ++ rest).drop 4).take 4 = four (crcOf (four b.length ++ b)) := by
    unfold crcRec
    rw [List.append_assoc, List.drop_append_of_le_length (by rw [four_length]; omega), List.drop_of_length_le (by rw [four_length]; omega), List.nil_append, List.append_assoc,
      List.take_append_of_le_length (by rw [four_length]; omega), List.take_of_length_le (by rw [four_length]; omega)]
  have e4 : ((crcRec b ++ rest).take (8 + b.length)).drop 8 = b := by
    rw [List.take_append_of_le_length (by rw [crcRec_length]; omega), List.take_of_length_le (by rw [crcRec_length]; omega)]
    unfold crcRec
    rw [← List.append_assoc, List.drop_append_of_le_length (by simp [four_length]), List.drop_of_length_le (by simp [four_length]), List.nil_append]
  have hl : (crcRec b ++ rest).length = 8 + b.length + rest.length := by rw [List.length_append, crcRec_length]
  rw [openH_ok (by omega) (by omega) (by omega) (by rw [e2, e3, e4, e1, numB_four (crcOf_lt _)]), e2, e4]
theorem openB_rec {b : List UInt8} (h : b.length ≤ 1048576) : openB (crcRec b) 0 = (b, (crcRec b).length, 0) := by
  have := openH_rec h []
  rw [List.append_nil] at this
  have := openB_ok (q := 0) (xs := crcRec b) (by omega) this
  rw [crcRec_length]
  simpa using this
/-- The reference's test: a record is what would be sealed of its body. -/
theorem rec_iff {y : List UInt8} (h : ¬ y.length < 8) (h3 : ¬ y.length < 8 + numB (y.take 4)) :
    (crcRec ((y.take (8 + numB (y.take 4))).drop 8) = y.take (8 + numB (y.take 4))) = (crcOf (y.take 4 ++ (y.take (8 + numB (y.take 4))).drop 8) = numB ((y.drop 4).take 4)) := by
  obtain ⟨n, hn⟩ : ∃ n, numB (y.take 4) = n := ⟨_, rfl⟩
  rw [hn] at h3 ⊢
  have hl : ((y.take (8 + n)).drop 8).length = n := by simp; omega
  have h4 : (y.take 4).length = 4 := by simp; omega
  have e4 : four n = y.take 4 := by rw [← hn, four_numB h4]
  have es : y.take (8 + n) = y.take 4 ++ ((y.drop 4).take 4 ++ (y.take (8 + n)).drop 8) := by
    have a1 : y.take (8 + n) = (y.take (8 + n)).take 4 ++ ((y.take (8 + n)).drop 4) := (List.take_append_drop 4 _).symm
    have a2 : (y.take (8 + n)).drop 4 = ((y.take (8 + n)).drop 4).take 4 ++ ((y.take (8 + n)).drop 4).drop 4 := (List.take_append_drop 4 _).symm
    rw [List.drop_drop] at a2
    rw [a2] at a1
    rw [List.take_take, Nat.min_eq_left (by omega)] at a1
    rw [show ((y.take (8 + n)).drop 4).take 4 = (y.drop 4).take 4 by rw [List.drop_take, List.take_take, Nat.min_eq_left (by omega)]] at a1
    exact a1
  unfold crcRec
  rw [hl, e4]
  apply propext
  constructor
  · intro h
    rw [es] at h
    have h1 := (List.append_inj h rfl).2
    have h2 := (List.append_inj h1 (by simp [four_length]; omega)).1
    have := congrArg numB h2
    rw [← es] at this
    rw [numB_four (crcOf_lt _)] at this
    exact this
  · intro h
    rw [h, four_numB (by simp; omega)]
    exact es.symm

/-- All records, up to the first that doesn't open. -/
def openAllF : Nat → List UInt8 → Nat → List (List UInt8) → List (List UInt8) × Nat
  | 0, _, q, out => (out, q)
  | f + 1, b, q, out =>
    if b.length ≤ q then (out, q)
    else if (openB b q).2.2 = 0 then openAllF f b (openB b q).2.1 (out ++ [(openB b q).1])
    else (out, q)
def openAll (b : List UInt8) : List (List UInt8) × Nat := openAllF b.length b 0 []
theorem openAllF_end {f : Nat} {b : List UInt8} {q : Nat} {out : List (List UInt8)} (h : b.length ≤ q) : openAllF f b q out = (out, q) := by
  cases f with
  | zero => rfl
  | succ f => rw [openAllF, if_pos h]
theorem openAllF_err {f : Nat} {b r : List UInt8} {q x e : Nat} {out : List (List UInt8)} (hu : openB b q = (r, x, e)) (he : ¬ e = 0) : openAllF f b q out = (out, q) := by
  cases f with
  | zero => rfl
  | succ f =>
    by_cases h : b.length ≤ q
    · exact openAllF_end h
    · rw [openAllF, if_neg h, hu, if_neg he]
theorem openAllF_step {f : Nat} {b r : List UInt8} {q x : Nat} {out : List (List UInt8)} (h : ¬ b.length ≤ q) (hu : openB b q = (r, x, 0)) : openAllF (f + 1) b q out = openAllF f b x (out ++ [r]) := by
  rw [openAllF, if_neg h, hu, if_pos rfl]
theorem openAllF_size : ∀ (f : Nat) (b : List UInt8) (q : Nat) (out : List (List UInt8)), q ≤ b.length → out.length * 8 + out.flatten.length ≤ q → (openAllF f b q out).2 ≤ b.length ∧ (openAllF f b q out).1.length * 8 + (openAllF f b q out).1.flatten.length ≤ b.length
  | 0, b, q, out, hq, h => by simp only [openAllF]; omega
  | f + 1, b, q, out, hq, h => by
    by_cases h1 : b.length ≤ q
    · rw [openAllF_end h1]; exact ⟨hq, Nat.le_trans h hq⟩
    · obtain ⟨r, x, e, hu⟩ : ∃ r x e, openB b q = (r, x, e) := ⟨_, _, _, rfl⟩
      by_cases he : e = 0
      · subst he
        obtain ⟨h2, h3, _⟩ := openB_inv hq hu
        rw [openAllF_step h1 hu]
        refine openAllF_size f b _ _ h3 ?_
        simp only [List.flatten_append, List.flatten_cons, List.flatten_nil, List.length_append, List.length_cons, List.length_nil]
        omega
      · rw [openAllF_err hu he]; exact ⟨hq, Nat.le_trans h hq⟩
end Go.Proofs.Ytojncfdlddepdaa


/-
  Plain laws of frames. No program in sight.
-/
namespace Go.Proofs.Ytojncfdlddepdaa

def framed (l : List (List UInt8)) : List UInt8 := l.flatMap fun r => putU r.length ++ r
/-- The parts behind place q; out: those ahead of it. -/
def partsF : Nat → List UInt8 → Nat → List (List UInt8) → List (List UInt8) × Nat
  | 0, _, _, out => (out, 0)
  | f + 1, b, q, out =>
    if b.length ≤ q then (out, 0)
    else if (getU b q).2.2 = 0 then
      if b.length < (getU b q).2.1.toNat + (getU b q).1 then ([], 5)
      else partsF f b ((getU b q).2.1.toNat + (getU b q).1) (out ++ [(b.take ((getU b q).2.1.toNat + (getU b q).1)).drop (getU b q).2.1.toNat])
    else ([], (getU b q).2.2)
def parts (b : List UInt8) : List (List UInt8) × Nat := partsF b.length b 0 []

theorem putU_pos (n : Nat) : 0 < (putU n).length := by
  rw [putU]; split <;> simp
theorem getU_next {b : List UInt8} {q n : Nat} {x : Int} (h : getU b q = (n, x, 0)) : ∃ k : Nat, x = k ∧ q < k ∧ k ≤ b.length := by
  obtain ⟨q', k, hq, rfl, h1, h2, h3, _⟩ := getU_inv h
  obtain rfl : q = q' := by omega
  have := congrArg List.length h3
  have hp := putU_pos n
  refine ⟨k, rfl, ?_, h2⟩
  simp at this; omega
theorem partsF_end {f : Nat} {b : List UInt8} {q : Nat} {out : List (List UInt8)} (h : b.length ≤ q) : partsF f b q out = (out, 0) := by
  cases f with
  | zero => rfl
  | succ f => rw [partsF, if_pos h]
theorem partsF_err {f : Nat} {b : List UInt8} {q n e : Nat} {x : Int} {out : List (List UInt8)} (h : ¬ b.length ≤ q) (hu : getU b q = (n, x, e)) (he : ¬ e = 0) : partsF (f + 1) b q out = ([], e) := by
  rw [partsF, if_neg h, hu, if_neg he]
theorem partsF_short {f : Nat} {b : List UInt8} {q n k : Nat} {out : List (List UInt8)} (h : ¬ b.length ≤ q) (hu : getU b q = (n, (k : Int), 0)) (hs : b.length < k + n) : partsF (f + 1) b q out = ([], 5) := by
  rw [partsF, if_neg h, hu, if_pos rfl]
  simp only [Int.toNat_natCast]
  rw [if_pos hs]
theorem partsF_step {f : Nat} {b : List UInt8} {q n k : Nat} {out : List (List UInt8)} (h : ¬ b.length ≤ q) (hu : getU b q = (n, (k : Int), 0)) (hs : ¬ b.length < k + n) : partsF (f + 1) b q out = partsF f b (k + n) (out ++ [(b.take (k + n)).drop k]) := by
  rw [partsF, if_neg h, hu, if_pos rfl]
  simp only [Int.toNat_natCast]
  rw [if_neg hs]
/-- How much a list's parts hold, and what error there is. -/
theorem partsF_size : ∀ (f : Nat) (b : List UInt8) (q : Nat) (out : List (List UInt8)), q ≤ b.length → out.length + out.flatten.length ≤ q → (partsF f b q out).1.length + (partsF f b q out).1.flatten.length ≤ b.length
  | 0, b, q, out, hq, h => by simp only [partsF]; omega
  | f + 1, b, q, out, hq, h => by
    by_cases h1 : b.length ≤ q
    · rw [partsF_end h1]; exact Nat.le_trans h hq
    · obtain ⟨n, x, e, hu⟩ : ∃ n x e, getU b q = (n, x, e) := ⟨_, _, _, rfl⟩
      by_cases he : e = 0
      · subst he
        obtain ⟨k, rfl, h2, h3⟩ := getU_next hu
        by_cases hs : b.length < k + n
        · rw [partsF_short h1 hu hs]; simp
        · rw [partsF_step h1 hu hs]
          refine partsF_size f b _ _ (by omega) ?_
          simp only [List.flatten_append, List.flatten_cons, List.flatten_nil, List.length_append, List.length_cons, List.length_nil, List.length_drop, List.length_take]
          omega
      · rw [partsF_err h1 hu he]; simp
theorem getU_mid {pre rest : List UInt8} {n : Nat} (hn : n < 2 ^ 64) : getU (pre ++ (putU n ++ rest)) pre.length = (n, ((pre.length + (putU n).length : Nat) : Int), 0) := by
  have h := getAux_putU rest n 0 0 (by decide) hn (by omega) (.inl rfl)
  have := getU_ok (b := pre ++ (putU n ++ rest)) (q := pre.length) (n := n) (k := (putU n).length) (by simp) (by rw [List.drop_left, h]; simp)
  rw [this]; simp
theorem partsF_framed : ∀ (l : List (List UInt8)) (f : Nat) (pre : List UInt8) (out : List (List UInt8)), (∀ r ∈ l, r.length < 2 ^ 64) → (framed l).length ≤ f → partsF f (pre ++ framed l) pre.length out = (out ++ l, 0)
  | [], f, pre, out, _, _ => by rw [partsF_end (by simp [framed])]; simp
  | r :: l, f, pre, out, hr, hf => by
    have e : framed (r :: l) = putU r.length ++ (r ++ framed l) := by simp [framed]
    rw [e] at hf ⊢
    have hp := putU_pos r.length
    simp only [List.length_append] at hf
    obtain ⟨f, rfl⟩ : ∃ g, f = g + 1 := ⟨f - 1, by omega⟩
    have hg := getU_mid (pre := pre) (rest := r ++ framed l) (hr r (by simp))
    rw [partsF_step (by simp; omega) hg (by simp only [List.length_append]; omega)]
    have hb : pre ++ (putU r.length ++ (r ++ framed l)) = (pre ++ putU r.length ++ r) ++ framed l := by simp
    have hlen : (pre ++ putU r.length ++ r).length = pre.length + (putU r.length).length + r.length := by simp only [List.length_append]
    have hcut : ((pre ++ (putU r.length ++ (r ++ framed l))).take (pre.length + (putU r.length).length + r.length)).drop (pre.length + (putU r.length).length) = r := by
      rw [hb, ← hlen, List.take_left, show pre.length + (putU r.length).length = (pre ++ putU r.length).length by simp, List.drop_left]
    rw [hcut, hb, ← hlen, partsF_framed l f _ _ (fun x hx => hr x (by simp [hx])) (by omega)]
    simp
theorem parts_framed {l : List (List UInt8)} (h : ∀ r ∈ l, r.length < 2 ^ 64) : parts (framed l) = (l, 0) := by
  have := partsF_framed l (framed l).length [] [] h (Nat.le_refl _)
  simpa [parts] using this
theorem framed_take {l : List (List UInt8)} {k : Nat} {x : List UInt8} (h : l[k]? = some x) : framed (l.take (k + 1)) = framed (l.take k) ++ putU x.length ++ x := by
  rw [take_getR h]; simp [framed]
theorem framed_length : ∀ (l : List (List UInt8)), (∀ r ∈ l, r.length < 2 ^ 64) → (framed l).length ≤ l.flatten.length + 10 * l.length
  | [], _ => by simp [framed]
  | x :: l, h => by
    have h1 := framed_length l (fun r hr => h r (by simp [hr]))
    have h2 := putU_le (h x (by simp))
    simp only [framed, List.flatMap_cons, List.length_append, List.flatten_cons, List.length_cons] at h1 ⊢
    omega
theorem framed_take_le (l : List (List UInt8)) (k : Nat) : (framed (l.take k)).length ≤ (framed l).length := by
  have : framed l = framed (l.take k) ++ framed (l.drop k) := by
    rw [framed, framed, framed, ← List.flatMap_append, List.take_append_drop]
  rw [this, List.length_append]; omega
theorem mem_flat {l : List (List UInt8)} {x : List UInt8} (h : x ∈ l) : x.length ≤ l.flatten.length := by
  obtain ⟨k, hk, rfl⟩ := List.getElem_of_mem h
  exact flat_mem (List.getElem?_eq_getElem hk)
end Go.Proofs.Ytojncfdlddepdaa


/-
  Blocks of entries in plain words: how they are written, how they are read, and that what was written is read back. No program in sight.
-/
namespace Go.Proofs.Ytojncfdlddepdaa

/-- How many first bytes two lists have in common. -/
def comN : List UInt8 → List UInt8 → Nat
  | x :: xs, y :: ys => if x = y then comN xs ys + 1 else 0
  | _, _ => 0
theorem comN_le : ∀ (a b : List UInt8), comN a b ≤ a.length ∧ comN a b ≤ b.length
  | [], b => by simp [comN]
  | _ :: _, [] => by simp [comN]
  | x :: a, y :: b => by
    have := comN_le a b
    simp only [comN, List.length_cons]
    split <;> omega
theorem comN_take : ∀ (a b : List UInt8), a.take (comN a b) = b.take (comN a b)
  | [], b => by simp [comN]
  | _ :: _, [] => by simp [comN]
  | x :: a, y :: b => by
    rw [comN]
    split
    · rename_i h; subst h
      rw [List.take_succ_cons, List.take_succ_cons, comN_take a b]
    · rfl
/-- An entry's bytes, of whose key so many stand in the one ahead. -/
def entB (x : En) (s : Nat) : List UInt8 := putU s ++ (putU (x.key.length - s) ++ (putU x.seq ++ (x.kind :: (putU x.val.length ++ (x.key.drop s ++ x.val)))))
/-- The key ahead of an entry. -/
def prevK (l : List En) (i : Nat) : List UInt8 := match i with
  | 0 => []
  | j + 1 => (l[j]?.map (·.key)).getD []
def shrN (every : Nat) (l : List En) (i : Nat) : Nat := if i % every = 0 then 0 else comN (prevK l i) ((l[i]?.map (·.key)).getD [])
def bodyB (every : Nat) (l : List En) : Nat → List UInt8
  | 0 => []
  | k + 1 => bodyB every l k ++ (match l[k]? with | some x => entB x (shrN every l k) | none => [])
def resB (every : Nat) (l : List En) : Nat → List UInt8
  | 0 => []
  | k + 1 => resB every l k ++ (if k % every = 0 then four (bodyB every l k).length else [])
def stN (every : Nat) : Nat → Nat
  | 0 => 0
  | k + 1 => stN every k + (if k % every = 0 then 1 else 0)
def blkB (every : Nat) (l : List En) : List UInt8 := bodyB every l l.length ++ (resB every l l.length ++ four (stN every l.length))
/-- What Build answers. -/
def buildB (every : Nat) (l : List En) : List UInt8 × Nat :=
  if checkE l = 2 then ([], 2) else
  if (sealB (blkB every l)).2 = 0 then (if checkE l = 0 ∧ ordE l = true then ((sealB (blkB every l)).1, 0) else ([], 3)) else ([], (sealB (blkB every l)).2)
theorem bodyB_succ {every : Nat} {l : List En} {k : Nat} {x : En} (hx : l[k]? = some x) : bodyB every l (k + 1) = bodyB every l k ++ entB x (shrN every l k) := by rw [bodyB, hx]
theorem shrN_le {every : Nat} {l : List En} {k : Nat} {x : En} (hx : l[k]? = some x) : shrN every l k ≤ x.key.length ∧ shrN every l k ≤ (prevK l k).length := by
  rw [shrN, hx]
  split
  · omega
  · have := comN_le (prevK l k) x.key; simp; omega
theorem stN_le (every : Nat) : ∀ k, stN every k ≤ k
  | 0 => Nat.le_refl _
  | k + 1 => by have := stN_le every k; rw [stN]; split <;> omega
theorem resB_length (every : Nat) (l : List En) : ∀ k, (resB every l k).length = 4 * stN every k
  | 0 => rfl
  | k + 1 => by
    rw [resB, stN, List.length_append, resB_length every l k]
    split
    · rw [four_length]; omega
    · simp
theorem entB_length (x : En) (s : Nat) (hs : s ≤ x.key.length) (hk : x.key.length < 2 ^ 64) (hv : x.val.length < 2 ^ 64) (hq : x.seq < 2 ^ 64) : (entB x s).length ≤ x.key.length + x.val.length + 41 ∧ 5 ≤ (entB x s).length := by
  have h1 := putU_le (n := s) (by omega)
  have h2 := putU_le (n := x.key.length - s) (by omega)
  have h3 := putU_le hq
  have h4 := putU_le hv
  have p1 := putU_pos s
  have p2 := putU_pos (x.key.length - s)
  have p3 := putU_pos x.seq
  have p4 := putU_pos x.val.length
  simp only [entB, List.length_append, List.length_cons, List.length_drop]
  omega
/-! #### Reading -/
/-- One entry at a place behind a key. -/
def rdE (b : List UInt8) (p : Nat) (key : List UInt8) : Option (En × Nat) :=
  match getU b p with
  | (s, p1, 0) => match getU b p1 with
    | (r, p2, 0) => match getU b p2 with
      | (q, p3, 0) => match b[p3.toNat]? with
        | none => none
        | some kd => match getU b (p3 + 1) with
          | (z, p5, 0) => if key.length < s then none else if b.length - p5.toNat < r then none else if b.length - (p5.toNat + r) < z then none else
              some (⟨key.take s ++ (b.drop p5.toNat).take r, q, kd, (b.drop (p5.toNat + r)).take z⟩, p5.toNat + r + z)
          | _ => none
      | _ => none
    | _ => none
  | _ => none
theorem getU_adv {b : List UInt8} {p p1 : Int} {v : Nat} (h : getU b p = (v, p1, 0)) : 0 ≤ p ∧ p < p1 ∧ p1 ≤ b.length := by
  by_cases hp : 0 ≤ p ∧ p ≤ b.length
  · obtain ⟨q, rfl⟩ := Int.eq_ofNat_of_zero_le hp.1
    have key : ∀ (l : List UInt8) (i n v k : Nat), getAux i n l = (v, k, 0) → i < k ∧ k ≤ i + l.length := by
      intro l
      induction l with
      | nil => intro i n v k h; simp [getAux] at h
      | cons x r ih =>
        intro i n v k h
        rw [getAux] at h
        split at h
        · simp at h
        · split at h
          · simp only [Prod.mk.injEq, and_true] at h; simp only [List.length_cons]; omega
          · have := ih _ _ _ _ h; simp only [List.length_cons]; omega
    rw [getU, if_neg (by omega)] at h
    simp only [Int.toNat_natCast] at h
    split at h
    · rename_i n k hg
      simp only [Prod.mk.injEq] at h
      have := key _ _ _ _ _ hg
      simp only [List.length_drop] at this
      omega
    · rename_i e hg _
      simp only [Prod.mk.injEq] at h
      obtain ⟨_, _, h3⟩ := h
      subst h3
      simp_all
  · rw [getU_arg hp] at h; simp at h
theorem getU_splitB {b : List UInt8} {p : Int} : (∃ v p1, getU b p = (v, p1, 0)) ∨ ∃ e, ¬ e = 0 ∧ (getU b p).2.2 = e := by
  rcases h : getU b p with ⟨v, p1, e⟩
  cases e with
  | zero => exact .inl ⟨v, p1, rfl⟩
  | succ e => exact .inr ⟨e + 1, by omega, rfl⟩
theorem rdE_inv {b key : List UInt8} {p p' : Nat} {x : En} (h : rdE b p key = some (x, p')) : p < p' ∧ p' ≤ b.length := by
  unfold rdE at h
  split at h
  case h_2 => cases h
  rename_i s p1 h1
  split at h
  case h_2 => cases h
  rename_i r p2 h2
  split at h
  case h_2 => cases h
  rename_i q p3 h3
  split at h
  case h_1 => cases h
  rename_i kd h4
  split at h
  case h_2 => cases h
  rename_i z p5 h5
  have i1 := getU_adv h1
  have i2 := getU_adv h2
  have i3 := getU_adv h3
  have i5 := getU_adv h5
  split at h
  · cases h
  · split at h
    · cases h
    · split at h
      · cases h
      · simp only [Option.some.injEq, Prod.mk.injEq] at h
        omega
/-- All entries from a place on, each with its place. -/
def rdL (b : List UInt8) : Nat → Nat → List UInt8 → Option (List (En × Nat))
  | 0, p, _ => if p < b.length then none else some []
  | f + 1, p, key => if p < b.length then (match rdE b p key with
      | none => none
      | some (x, p') => (rdL b f p' x.key).map ((x, p) :: ·)) else some []
theorem getU_here {pre rest : List UInt8} {n : Nat} {p : Int} (hn : n < 2 ^ 64) (hp : p = (pre.length : Nat)) : getU (pre ++ (putU n ++ rest)) p = (n, ((pre.length + (putU n).length : Nat) : Int), 0) := by subst hp; exact getU_mid hn
/-- What was written is read. -/
theorem rdE_ent {pre rest key : List UInt8} {x : En} {s : Nat} (hs : s ≤ x.key.length) (hsk : s ≤ key.length) (ht : key.take s = x.key.take s) (hk : x.key.length < 2 ^ 64) (hv : x.val.length < 2 ^ 64) (hq : x.seq < 2 ^ 64) :
    rdE (pre ++ (entB x s ++ rest)) pre.length key = some (x, pre.length + (entB x s).length) := by
  obtain ⟨b, hb⟩ : ∃ q, pre ++ (entB x s ++ rest) = q := ⟨_, rfl⟩
  have e1 : b = pre ++ (putU s ++ (putU (x.key.length - s) ++ (putU x.seq ++ (x.kind :: (putU x.val.length ++ (x.key.drop s ++ (x.val ++ rest))))))) := by rw [← hb]; simp only [entB, List.append_assoc, List.cons_append]
  have e2 : b = (pre ++ putU s) ++ (putU (x.key.length - s) ++ (putU x.seq ++ (x.kind :: (putU x.val.length ++ (x.key.drop s ++ (x.val ++ rest)))))) := by rw [e1]; simp only [List.append_assoc, List.cons_append, List.nil_append]
  have e3 : b = (pre ++ putU s ++ putU (x.key.length - s)) ++ (putU x.seq ++ (x.kind :: (putU x.val.length ++ (x.key.drop s ++ (x.val ++ rest))))) := by rw [e1]; simp only [List.append_assoc, List.cons_append, List.nil_append]
  have e4 : b = (pre ++ putU s ++ putU (x.key.length - s) ++ putU x.seq) ++ (x.kind :: (putU x.val.length ++ (x.key.drop s ++ (x.val ++ rest)))) := by rw [e1]; simp only [List.append_assoc, List.cons_append, List.nil_append]
  have e5 : b = (pre ++ putU s ++ putU (x.key.length - s) ++ putU x.seq ++ [x.kind]) ++ (putU x.val.length ++ (x.key.drop s ++ (x.val ++ rest))) := by rw [e1]; simp only [List.append_assoc, List.cons_append, List.nil_append]
  have e6 : b = (pre ++ putU s ++ putU (x.key.length - s) ++ putU x.seq ++ [x.kind] ++ putU x.val.length) ++ (x.key.drop s ++ (x.val ++ rest)) := by rw [e1]; simp only [List.append_assoc, List.cons_append, List.nil_append]
  have e7 : b = (pre ++ putU s ++ putU (x.key.length - s) ++ putU x.seq ++ [x.kind] ++ putU x.val.length ++ x.key.drop s) ++ (x.val ++ rest) := by rw [e1]; simp only [List.append_assoc, List.cons_append, List.nil_append]
  have l2 : (pre ++ putU s).length = pre.length + (putU s).length := by simp
  have l3 : (pre ++ putU s ++ putU (x.key.length - s)).length = pre.length + (putU s).length + (putU (x.key.length - s)).length := by simp; omega
  have l4 : (pre ++ putU s ++ putU (x.key.length - s) ++ putU x.seq).length = pre.length + (putU s).length + (putU (x.key.length - s)).length + (putU x.seq).length := by simp; omega
  have l5 : (pre ++ putU s ++ putU (x.key.length - s) ++ putU x.seq ++ [x.kind]).length = pre.length + (putU s).length + (putU (x.key.length - s)).length + (putU x.seq).length + 1 := by simp; omega
  have l6 : (pre ++ putU s ++ putU (x.key.length - s) ++ putU x.seq ++ [x.kind] ++ putU x.val.length).length = pre.length + (putU s).length + (putU (x.key.length - s)).length + (putU x.seq).length + 1 + (putU x.val.length).length := by simp; omega
  have l7 : (pre ++ putU s ++ putU (x.key.length - s) ++ putU x.seq ++ [x.kind] ++ putU x.val.length ++ x.key.drop s).length = pre.length + (putU s).length + (putU (x.key.length - s)).length + (putU x.seq).length + 1 + (putU x.val.length).length + (x.key.length - s) := by simp; omega
  have le : (entB x s).length = (putU s).length + (putU (x.key.length - s)).length + (putU x.seq).length + 1 + (putU x.val.length).length + (x.key.length - s) + x.val.length := by simp [entB]; omega
  have lb : b.length = pre.length + (entB x s).length + rest.length := by rw [← hb]; simp; omega
  have g1 : getU b (pre.length : Nat) = (s, ((pre.length + (putU s).length : Nat) : Int), 0) := by rw [e1]; exact getU_here (by omega) rfl
  have g2 : getU b ((pre.length + (putU s).length : Nat) : Int) = (x.key.length - s, ((pre.length + (putU s).length + (putU (x.key.length - s)).length : Nat) : Int), 0) := by
    rw [e2, getU_here (by omega) (by rw [l2]), l2]
  have g3 : getU b ((pre.length + (putU s).length + (putU (x.key.length - s)).length : Nat) : Int) = (x.seq, ((pre.length + (putU s).length + (putU (x.key.length - s)).length + (putU x.seq).length : Nat) : Int), 0) := by
    rw [e3, getU_here hq (by rw [l3]), l3]
  have g4 : b[pre.length + (putU s).length + (putU (x.key.length - s)).length + (putU x.seq).length]? = some x.kind := by
    rw [e4, ← l4, List.getElem?_append_right (Nat.le_refl _), Nat.sub_self]; rfl
  have g5 : getU b (((pre.length + (putU s).length + (putU (x.key.length - s)).length + (putU x.seq).length : Nat) : Int) + 1) = (x.val.length, ((pre.length + (putU s).length + (putU (x.key.length - s)).length + (putU x.seq).length + 1 + (putU x.val.length).length : Nat) : Int), 0) := by
    rw [e5, getU_here hv (by rw [l5]; omega), l5]
  have g6 : (b.drop (pre.length + (putU s).length + (putU (x.key.length - s)).length + (putU x.seq).length + 1 + (putU x.val.length).length)).take (x.key.length - s) = x.key.drop s := by
    rw [e6, ← l6, List.drop_left, List.take_left' (by simp)]
  have g7 : (b.drop (pre.length + (putU s).length + (putU (x.key.length - s)).length + (putU x.seq).length + 1 + (putU x.val.length).length + (x.key.length - s))).take x.val.length = x.val := by
    rw [e7, ← l7, List.drop_left, List.take_left' rfl]
  rw [hb]
  unfold rdE
  rw [g1]
  simp only
  rw [g2]
  simp only
  rw [g3]
  simp only [Int.toNat_natCast]
  rw [g4]
  simp only
  rw [g5]
  simp only [Int.toNat_natCast]
  rw [if_neg (by omega), if_neg (by omega), if_neg (by omega), g6, g7, ht, List.take_append_drop]
  simp only [Option.some.injEq, Prod.mk.injEq, true_and]
  omega
theorem drop_getB {α : Type} {l : List α} {k : Nat} {b : α} (h : l[k]? = some b) : l.drop k = b :: l.drop (k + 1) := by
  obtain ⟨hk, rfl⟩ := List.getElem?_eq_some_iff.1 h
  exact List.drop_eq_getElem_cons hk
theorem bodyB_split (every : Nat) (l : List En) : ∀ d k, ∃ r, bodyB every l (k + d) = bodyB every l k ++ r
  | 0, k => ⟨[], by simp⟩
  | d + 1, k => by
    obtain ⟨r, hr⟩ := bodyB_split every l d k
    exact ⟨r ++ (match l[k + d]? with | some x => entB x (shrN every l (k + d)) | none => []), by rw [← Nat.add_assoc, bodyB, hr, List.append_assoc]⟩
/-- The sizes of entries are those of values of the type. -/
def Siz (l : List En) : Prop := ∀ x ∈ l, x.key.length < 2 ^ 64 ∧ x.val.length < 2 ^ 64 ∧ x.seq < 2 ^ 64
theorem bodyB_lt {every : Nat} {l : List En} (hz : Siz l) : ∀ d k, k + d < l.length → (bodyB every l k).length < (bodyB every l (k + (d + 1))).length
  | 0, k, h => by
    have hx : l[k]? = some (l[k]'(by omega)) := List.getElem?_eq_getElem (by omega)
    obtain ⟨z1, z2, z3⟩ := hz _ (List.mem_of_getElem? hx)
    have := (entB_length _ _ (shrN_le (every := every) hx).1 z1 z2 z3).2
    rw [show k + (0 + 1) = k + 1 from rfl, bodyB_succ hx, List.length_append]; omega
  | d + 1, k, h => by
    have h1 := bodyB_lt (every := every) hz d k (by omega)
    have h2 := bodyB_lt (every := every) hz 0 (k + (d + 1)) (by omega)
    exact Nat.lt_trans h1 h2
theorem bodyB_inj {every : Nat} {l : List En} (hz : Siz l) {i j : Nat} (hi : i ≤ l.length) (hj : j ≤ l.length) (h : (bodyB every l i).length = (bodyB every l j).length) : i = j := by
  rcases Nat.lt_trichotomy i j with h1 | h1 | h1
  · obtain ⟨d, rfl⟩ := Nat.exists_eq_add_of_lt h1
    have := bodyB_lt (every := every) hz d i (by omega)
    rw [← Nat.add_assoc] at this; omega
  · exact h1
  · obtain ⟨d, rfl⟩ := Nat.exists_eq_add_of_lt h1
    have := bodyB_lt (every := every) hz d j (by omega)
    rw [← Nat.add_assoc] at this; omega
theorem prevK_succ {l : List En} {k : Nat} {x : En} (hx : l[k]? = some x) : prevK l (k + 1) = x.key := by rw [prevK, hx]; rfl
/-- All that was written is read. -/
theorem rdL_body {every : Nat} {l : List En} (hz : Siz l) (rest : List UInt8) (hr : rest = []) : ∀ (f k : Nat), k ≤ l.length → (bodyB every l l.length).length ≤ (bodyB every l k).length + f →
    ∃ r, rdL (bodyB every l l.length ++ rest) f (bodyB every l k).length (prevK l k) = some r ∧ r.map (·.1) = l.drop k ∧ ∀ (j : Nat) (x : En × Nat), r[j]? = some x → x.2 = (bodyB every l (k + j)).length := by
  subst hr
  rw [List.append_nil]
  intro f
  induction f with
  | zero =>
    intro k hk hf
    rcases Nat.lt_or_ge k l.length with h | h
    · obtain ⟨d, hd⟩ := Nat.exists_eq_add_of_lt h
      have := bodyB_lt (every := every) hz d k (by omega)
      rw [show k + (d + 1) = l.length by omega] at this; omega
    · obtain rfl : k = l.length := by omega
      exact ⟨[], by rw [rdL, if_neg (Nat.lt_irrefl _)], by simp, by simp⟩
  | succ f ih =>
    intro k hk hf
    rcases Nat.lt_or_ge k l.length with h | h
    · have hx : l[k]? = some (l[k]'h) := List.getElem?_eq_getElem h
      obtain ⟨x, hxd⟩ : ∃ x, l[k]'h = x := ⟨_, rfl⟩
      rw [hxd] at hx
      obtain ⟨z1, z2, z3⟩ := hz _ (List.mem_of_getElem? hx)
      obtain ⟨s1, s2⟩ := shrN_le (every := every) hx
      have hlen := (entB_length x _ s1 z1 z2 z3).2
      obtain ⟨d, hd⟩ := Nat.exists_eq_add_of_lt h
      have hlt := bodyB_lt (every := every) hz d k (by omega)
      rw [show k + (d + 1) = l.length by omega] at hlt
      obtain ⟨t, ht⟩ := bodyB_split every l d (k + 1)
      rw [show k + 1 + d = l.length by omega, bodyB_succ hx, List.append_assoc] at ht
      have htake : (prevK l k).take (shrN every l k) = x.key.take (shrN every l k) := by
        rw [shrN, hx]
        split
        · rfl
        · exact comN_take _ _
      have hE := rdE_ent (pre := bodyB every l k) (rest := t) s1 s2 htake z1 z2 z3
      rw [← ht] at hE
      obtain ⟨r, h1, h2, h3⟩ := ih (k + 1) (by omega) (by rw [bodyB_succ hx, List.length_append]; omega)
      rw [bodyB_succ hx, List.length_append, prevK_succ hx] at h1
      refine ⟨(x, (bodyB every l k).length) :: r, ?_, ?_, ?_⟩
      · rw [rdL, if_pos hlt, hE]
        simp only
        rw [h1]; rfl
      · rw [List.map_cons, h2]
        exact (drop_getB hx).symm
      · intro j y hj
        cases j with
        | zero => simp at hj; subst hj; rfl
        | succ j =>
          have := h3 j y (by simpa using hj)
          rw [this, show k + 1 + j = k + (j + 1) by omega]
    · obtain rfl : k = l.length := by omega
      exact ⟨[], by rw [rdL, if_neg (Nat.lt_irrefl _)], by simp, by simp⟩
/-- The places of the restarts. -/
def startsB (b : List UInt8) (e n : Nat) : List Nat := (List.range n).map fun i => numB ((b.drop (e + 4 * i)).take 4)
/-- How many entries from restart to restart: what has been found of it behind i entries. -/
def evF (ss : List Nat) (ps : List Nat) : Nat → Nat
  | 0 => 0
  | i + 1 => if 1 < ss.length ∧ ps[i]? = ss[1]? ∧ evF ss ps i = 0 then i else evF ss ps i
def evL (ss : List Nat) (ps : List Nat) : Nat := if evF ss ps ps.length = 0 then ps.length + 1 else evF ss ps ps.length
/-- What Decode answers. -/
def decB (b : List UInt8) : List En × Nat :=
  match openB b 0 with
  | (body, next, 0) => if next < b.length ∨ body.length < 4 then ([], 3) else
      if (body.length - 4) / 4 < numB (body.drop (body.length - 4)) then ([], 3) else
      match rdL (body.take (body.length - 4 - 4 * numB (body.drop (body.length - 4)))) (body.length - 4 - 4 * numB (body.drop (body.length - 4))) 0 [] with
      | none => ([], 3)
      | some r => if buildB (evL (startsB (body.take (body.length - 4)) (body.length - 4 - 4 * numB (body.drop (body.length - 4))) (numB (body.drop (body.length - 4)))) (r.map (·.2))) (r.map (·.1)) = (b, 0) then (r.map (·.1), 0) else ([], 3)
  | (_, _, e) => ([], e)
end Go.Proofs.Ytojncfdlddepdaa


/-
  Blocks in plain words: what Build has written is decoded as the same entries. No program in sight.
-/
namespace Go.Proofs.Ytojncfdlddepdaa

theorem stN_bound {every : Nat} (he : 0 < every) : ∀ k, k ≤ stN every k * every ∧ stN every k * every < k + every
  | 0 => by simp [stN, he]
  | k + 1 => by
    obtain ⟨h1, h2⟩ := stN_bound he k
    rw [stN]
    split
    · rename_i h
      have h3 : stN every k * every = k := by
        obtain ⟨q, hq⟩ := Nat.dvd_of_mod_eq_zero h
        rw [Nat.mul_comm] at hq
        subst hq
        have h4 : stN every (q * every) = q := by
          rcases Nat.lt_trichotomy (stN every (q * every)) q with h5 | h5 | h5
          · have := Nat.mul_le_mul_right every (show stN every (q * every) + 1 ≤ q from h5)
            rw [Nat.add_mul] at this; omega
          · exact h5
          · have := Nat.mul_le_mul_right every (show q + 1 ≤ stN every (q * every) from h5)
            rw [Nat.add_mul] at this; omega
        rw [h4]
      rw [Nat.add_mul]; omega
    · rename_i h
      simp only [Nat.add_zero]
      have h3 : ¬ stN every k * every = k := fun h3 => h (by rw [← h3]; exact Nat.mul_mod_left _ _)
      omega
theorem stN_mul {every k : Nat} (he : 0 < every) (h : k % every = 0) : stN every k * every = k := by
  obtain ⟨q, rfl⟩ := Nat.dvd_of_mod_eq_zero h
  rw [Nat.mul_comm every q]
  obtain ⟨h1, h2⟩ := stN_bound he (q * every)
  rcases Nat.lt_trichotomy (stN every (q * every)) q with h5 | h5 | h5
  · have := Nat.mul_le_mul_right every (show stN every (q * every) + 1 ≤ q from h5)
    rw [Nat.add_mul] at this; omega
  · rw [h5]
  · have := Nat.mul_le_mul_right every (show q + 1 ≤ stN every (q * every) from h5)
    rw [Nat.add_mul] at this; omega
theorem resB_at {every : Nat} (he : 0 < every) (l : List En) : ∀ (k j : Nat), j < stN every k → ((resB every l k).drop (4 * j)).take 4 = four (bodyB every l (j * every)).length
  | 0, j, h => by simp [stN] at h
  | k + 1, j, h => by
    rw [stN] at h
    rw [resB]
    have hl := resB_length every l k
    by_cases hk : k % every = 0
    · rw [if_pos hk] at h ⊢
      rcases Nat.lt_or_ge j (stN every k) with h1 | h1
      · rw [List.drop_append_of_le_length (by omega), List.take_append_of_le_length (by rw [List.length_drop]; omega)]
        exact resB_at he l k j h1
      · obtain rfl : j = stN every k := by omega
        rw [← hl, List.drop_left, List.take_of_length_le (by rw [four_length]; exact Nat.le_refl _), stN_mul he hk]
    · rw [if_neg hk] at h ⊢
      rw [List.append_nil]
      exact resB_at he l k j h
theorem startsB_len (b : List UInt8) (e n : Nat) : (startsB b e n).length = n := by simp [startsB]
theorem bodyB_le (every : Nat) (l : List En) {i j : Nat} (h : i ≤ j) : (bodyB every l i).length ≤ (bodyB every l j).length := by
  obtain ⟨d, rfl⟩ := Nat.exists_eq_add_of_le h
  obtain ⟨r, hr⟩ := bodyB_split every l d i
  rw [hr, List.length_append]; omega
theorem starts_at {every : Nat} (he : 0 < every) (l : List En) {j : Nat} (hj : j < stN every l.length) (hb : (bodyB every l l.length).length < 4294967296) :
    (startsB (bodyB every l l.length ++ resB every l l.length) (bodyB every l l.length).length (stN every l.length))[j]? = some (bodyB every l (j * every)).length := by
  rw [startsB, List.getElem?_map, List.getElem?_range hj]
  simp only [Option.map_some]
  rw [← List.drop_drop, List.drop_left, resB_at he l l.length j hj]
  have h1 : j * every ≤ l.length := by
    have h2 := (stN_bound he l.length).2
    have := Nat.mul_le_mul_right every (show j + 1 ≤ stN every l.length from hj)
    rw [Nat.add_mul] at this; omega
  rw [numB_four (Nat.lt_of_le_of_lt (bodyB_le every l h1) hb)]
theorem evF_zero {ss ps : List Nat} {n : Nat} (h : ∀ i, i < n → 0 < i → ¬ (1 < ss.length ∧ ps[i]? = ss[1]?)) : evF ss ps n = 0 := by
  induction n with
  | zero => rfl
  | succ n ih =>
    have h1 := ih fun i hi => h i (by omega)
    rw [evF]
    split
    · rename_i hc
      rcases Nat.eq_zero_or_pos n with h0 | h0
      · exact h0
      · exact absurd ⟨hc.1, hc.2.1⟩ (h n (by omega) h0)
    · exact h1
theorem evF_pos {ss ps : List Nat} {e : Nat} (he : 0 < e) (h1 : 1 < ss.length) (h2 : ps[e]? = ss[1]?) (h3 : ∀ i, i < e → 0 < i → ¬ ps[i]? = ss[1]?) : ∀ n, e < n → evF ss ps n = e
  | 0, h => by omega
  | n + 1, h => by
    rcases Nat.lt_or_ge e n with h4 | h4
    · have h5 := evF_pos he h1 h2 h3 n h4
      rw [evF, if_neg (by rintro ⟨_, _, h6⟩; omega), h5]
    · obtain rfl : e = n := by omega
      have h5 : evF ss ps e = 0 := evF_zero fun i hi h0 => fun h6 => h3 i hi h0 h6.2
      rw [evF, if_pos ⟨h1, h2, h5⟩]
/-- With one restart at most it is all one how many entries there are from restart to restart. -/
theorem blk_one {every every' : Nat} {l : List En} (h1 : l.length ≤ every) (h2 : l.length ≤ every') : blkB every l = blkB every' l := by
  have hs : ∀ k, k < l.length → (k % every = 0 ↔ k % every' = 0) := fun k hk => by
    rw [Nat.mod_eq_of_lt (by omega), Nat.mod_eq_of_lt (by omega)]
  have hb : ∀ k, k ≤ l.length → bodyB every l k = bodyB every' l k := by
    intro k
    induction k with
    | zero => intro _; rfl
    | succ k ih =>
      intro hk
      have e : shrN every l k = shrN every' l k := by
        unfold shrN
        by_cases h : k % every = 0
        · rw [if_pos h, if_pos ((hs k (by omega)).1 h)]
        · rw [if_neg h, if_neg fun h' => h ((hs k (by omega)).2 h')]
      rw [bodyB, bodyB, ih (by omega), e]
  have hr : ∀ k, k ≤ l.length → resB every l k = resB every' l k ∧ stN every k = stN every' k := by
    intro k
    induction k with
    | zero => intro _; exact ⟨rfl, rfl⟩
    | succ k ih =>
      intro hk
      obtain ⟨i1, i2⟩ := ih (by omega)
      rw [resB, resB, stN, stN, i1, i2, hb k (by omega)]
      by_cases h : k % every = 0
      · rw [if_pos h, if_pos h, if_pos ((hs k (by omega)).1 h), if_pos ((hs k (by omega)).1 h)]; exact ⟨rfl, rfl⟩
      · rw [if_neg h, if_neg h, if_neg (fun h' => h ((hs k (by omega)).2 h')), if_neg (fun h' => h ((hs k (by omega)).2 h'))]; exact ⟨rfl, rfl⟩
  obtain ⟨h3, h4⟩ := hr l.length (Nat.le_refl _)
  rw [blkB, blkB, hb l.length (Nat.le_refl _), h3, h4]
theorem blkB_length (every : Nat) (l : List En) : (blkB every l).length = (bodyB every l l.length).length + 4 * stN every l.length + 4 := by
  rw [blkB, List.length_append, List.length_append, resB_length, four_length]; omega
/-- What Build has written is decoded. -/
theorem dec_build {every : Nat} {l : List En} (he : 0 < every) (hz : Siz l) (hc : checkE l = 0) (ho : ordE l = true) (hb : (blkB every l).length ≤ 1048576) : buildB every l = (crcRec (blkB every l), 0) ∧ decB (crcRec (blkB every l)) = (l, 0) := by
  have hbuild : ∀ {e : Nat}, blkB e l = blkB every l → buildB e l = (crcRec (blkB every l), 0) := fun {e} h => by
    have hs : sealB (blkB every l) = (crcRec (blkB every l), 0) := by rw [sealB, if_neg (by omega)]
    rw [buildB, hc, if_neg (by decide), h, hs, if_pos rfl, if_pos ⟨rfl, ho⟩]
  refine ⟨hbuild rfl, ?_⟩
  have hlen := blkB_length every l
  have hst : stN every l.length < 4294967296 := by omega
  have hbody : (bodyB every l l.length).length < 4294967296 := by omega
  have d1 : (blkB every l).length - 4 = (bodyB every l l.length ++ resB every l l.length).length := by rw [List.length_append, resB_length]; omega
  have e1 : blkB every l = (bodyB every l l.length ++ resB every l l.length) ++ four (stN every l.length) := by rw [blkB, List.append_assoc]
  have h1 : (blkB every l).drop ((blkB every l).length - 4) = four (stN every l.length) := by rw [d1, e1, List.drop_left]
  have h2 : (blkB every l).take ((blkB every l).length - 4) = bodyB every l l.length ++ resB every l l.length := by rw [d1, e1, List.take_left]
  have h3 : (blkB every l).length - 4 - 4 * stN every l.length = (bodyB every l l.length).length := by omega
  have h4 : (blkB every l).take (bodyB every l l.length).length = bodyB every l l.length := by rw [blkB, List.take_left]
  obtain ⟨r, r1, r2, r3⟩ := rdL_body (every := every) hz [] rfl (bodyB every l l.length).length 0 (Nat.zero_le _) (Nat.le_add_left _ _)
  rw [List.append_nil] at r1
  have r1' : rdL (bodyB every l l.length) (bodyB every l l.length).length 0 [] = some r := r1
  rw [List.drop_zero] at r2
  have hrl : r.length = l.length := by rw [← r2, List.length_map]
  unfold decB
  rw [openB_rec hb]
  simp only
  rw [if_neg (by rw [crcRec_length]; omega), h1, numB_four hst, if_neg (by omega), h3, h4, r1']
  simp only
  rw [h2, r2]
  have hps : ∀ i, i < l.length → (r.map (·.2))[i]? = some (bodyB every l i).length := fun i hi => by
    have hx : r[i]? = some (r[i]'(by omega)) := List.getElem?_eq_getElem (by omega)
    rw [List.getElem?_map, hx]
    simp only [Option.map_some]
    rw [r3 i _ hx, Nat.zero_add]
  have hss := startsB_len (bodyB every l l.length ++ resB every l l.length) (bodyB every l l.length).length (stN every l.length)
  have hev : blkB (evL (startsB (bodyB every l l.length ++ resB every l l.length) (bodyB every l l.length).length (stN every l.length)) (r.map (·.2))) l = blkB every l := by
    obtain ⟨b1, b2⟩ := stN_bound he l.length
    rcases Nat.lt_or_ge 1 (stN every l.length) with h5 | h5
    · have h6 : every < l.length := by
        have := Nat.mul_le_mul_right every (show 2 ≤ stN every l.length from h5)
        omega
      have hs1 := starts_at he l h5 hbody
      rw [Nat.one_mul] at hs1
      have h7 := evF_pos (ss := startsB (bodyB every l l.length ++ resB every l l.length) (bodyB every l l.length).length (stN every l.length)) (ps := r.map (·.2)) he (by rw [hss]; exact h5) (by rw [hs1, hps every h6]) (fun i hi h0 h8 => by
        rw [hs1, hps i (by omega)] at h8
        have := bodyB_inj hz (by omega) (by omega) (Option.some.inj h8)
        omega) l.length h6
      rw [evL, List.length_map, hrl, h7, if_neg (by omega)]
    · have h6 : l.length ≤ every := by
        have := Nat.mul_le_mul_right every h5
        omega
      have h7 : evF (startsB (bodyB every l l.length ++ resB every l l.length) (bodyB every l l.length).length (stN every l.length)) (r.map (·.2)) l.length = 0 := evF_zero fun i _ _ h8 => by rw [hss] at h8; omega
      rw [evL, List.length_map, hrl, h7, if_pos rfl]
      exact blk_one (by omega) h6
  rw [if_pos (hbuild hev)]
/-- How long a block is at most. -/
theorem blk_size {every : Nat} {l : List En} (hz : Siz l) : (blkB every l).length ≤ (l.map fun x => x.key.length + x.val.length).sum + 45 * l.length + 4 := by
  have key : ∀ k, k ≤ l.length → (bodyB every l k).length ≤ ((l.take k).map fun x => x.key.length + x.val.length).sum + 41 * k := by
    intro k
    induction k with
    | zero => intro _; simp [bodyB]
    | succ k ih =>
      intro hk
      have hx : l[k]? = some (l[k]'(by omega)) := List.getElem?_eq_getElem (by omega)
      obtain ⟨z1, z2, z3⟩ := hz _ (List.mem_of_getElem? hx)
      have h1 := (entB_length _ _ (shrN_le (every := every) hx).1 z1 z2 z3).1
      have h2 := ih (by omega)
      rw [bodyB_succ hx, List.length_append, take_getR hx, List.map_append, List.sum_append]
      simp only [List.map_cons, List.map_nil, List.sum_cons, List.sum_nil]
      omega
  have h1 := key l.length (Nat.le_refl _)
  rw [List.take_length] at h1
  have h2 := stN_le every l.length
  rw [blkB_length]
  omega
end Go.Proofs.Ytojncfdlddepdaa


/-
  Walks over the sum's steps, its table and its bitwise answer.
-/
namespace Go.Proofs.Ytojncfdlddepdaa
open Go.RowKit

theorem fill_upV {α : Type} {l : List α} {z x : α} {k m : Nat} (h : l[k]? = some x) : (l.take k ++ List.replicate (m + 1) z).set k x = l.take (k + 1) ++ List.replicate m z := by
  have hk := (List.getElem?_eq_some_iff.1 h).1
  have e : (l.take k).length = k := by simp; omega
  rw [List.set_append_right _ _ (by omega), e, Nat.sub_self, List.replicate_succ, List.set_cons_zero, List.take_add_one, h]
  simp

theorem step_any (x : Nat) (hx : x < 4294967296) (w : World) : CallsV Try.prog 72 #[.int .u32 x] w fun v w' => v = .int .u32 (stepC x : Nat) ∧ w = w' := by
  refine calls_in (N := _) Try.func72 rfl Try.ntmps72 rfl ?_; show WC _ _ _ _ _ _
  refine wc_sr ?_; refine wl_as rfl rfl ?_; refine wl_ns ?_; refine wc_seq ?_; refine wc_sr ?_; refine wl_mv rfl rfl ?_
  refine wl_val (opv_bin (b := .int .u32 (1 : Nat)) rfl rfl (bin_and rfl hx (by decide))) rfl ?_
  refine wl_bin rfl rfl bin_eql rfl ?_; refine wl_ns ?_
  refine wc_cond rfl (fun h => ?_) (fun h => ?_)
  · have h1 : x % 2 = 1 := by rw [← Nat.and_one_is_mod]; omega
    refine wc_sr ?_; refine wl_mv rfl rfl ?_
    refine wl_val (opv_bin (b := .int .u64 (1 : Nat)) rfl rfl (bin_shr hx)) rfl ?_
    refine wl_val (opv_bin (b := .int .u32 (3988292384 : Nat)) rfl rfl (bin_xor rfl (by simp only [IntKind.bits]; omega) (by decide))) rfl ?_
    refine wl_as rfl rfl ?_; refine wl_ns ?_; refine wc_ret ?_; refine we_seq_ret ?_
    exact we_ret1 rfl rfl ⟨_, rfl, by rw [stepC_odd h1], rfl⟩
  · have h1 : ¬ x % 2 = 1 := by rw [← Nat.and_one_is_mod]; omega
    refine wc_skip ?_; refine we_seq ?_; refine wc_sr ?_; refine wl_mv rfl rfl ?_
    refine wl_val (opv_bin (b := .int .u64 (1 : Nat)) rfl rfl (bin_shr hx)) rfl ?_
    refine wl_as rfl rfl ?_; refine wl_ns ?_; refine wc_ret ?_
    exact we_ret1 rfl rfl ⟨_, rfl, by rw [stepC_even h1], rfl⟩
theorem eight_any (x : Nat) (hx : x < 4294967296) (w : World) : CallsV Try.prog 69 #[.int .u32 x] w fun v w' => v = .int .u32 (eightC x : Nat) ∧ w = w' := by
  refine calls_in (N := _) Try.func69 rfl Try.ntmps69 rfl ?_; show WC _ _ _ _ _ _
  refine wc_sr ?_; refine wl_as rfl rfl ?_; refine wl_ns ?_; refine wc_seq ?_; refine wc_sr ?_; refine wl_mv rfl rfl ?_; refine wl_ns ?_; refine wc_block ?_
  refine wc_loop (fun L wr m => ∃ (k y : Nat), L = [(0, .int .u32 (y : Int)), (3, .int .i64 (k : Int))] ∧ k ≤ 8 ∧ y < 4294967296 ∧ stepsC (8 - k) y = eightC x ∧ w = wr ∧ m = 8 - k)
    [(0, .int .u32 (x : Int)), (3, .int .i64 (0 : Nat))] 8 ⟨0, x, rfl, by omega, hx, rfl, rfl, rfl⟩ ⟨rfl, rfl, trivial⟩ ?_
  rintro _ _ m ⟨k, y, rfl, hk, hy, he, rfl, rfl⟩
  refine wc_sr ?_; refine wl_bin rfl rfl bin_lss rfl ?_; refine wl_ns ?_; refine wc_seq ?_
  refine wc_cond rfl (fun h1 => ?_) (fun h1 => ?_)
  · refine wc_skip ?_; refine we_seq ?_; refine wc_seq ?_; refine wc_block ?_; refine wc_region ?_; refine wl_mv rfl rfl ?_
    refine wl_call ok_crc_step (step_any y hy w) ⟨rfl, trivial⟩ rfl ?_
    rintro _ _ ⟨rfl, rfl⟩
    refine wl_as rfl rfl ?_; refine wl_nil ?_; refine we_block_norm ?_; refine we_seq ?_; refine wc_region ?_; apply wl_val; apply opv_bin; exact rfl; exact rfl; exact bin_add64 (by omega); exact rfl; refine wl_mv rfl rfl ?_; refine wl_nil ?_
    refine we_loop [(0, .int .u32 (stepC y : Nat)), (3, .int .i64 ((k + 1 : Nat) : Int))] (8 - (k + 1)) ⟨k + 1, stepC y, rfl, by omega, step_lt hy, ?_, rfl, rfl⟩ (by omega) ⟨rfl, rfl, trivial⟩
    rw [← he, show 8 - k = (8 - (k + 1)) + 1 by omega]; rfl
  · obtain rfl : k = 8 := by omega
    have e : y = eightC x := he
    refine wc_exit ?_; refine we_seq_exit ?_; refine we_loop_exit ?_; refine we_block_exit ?_; refine we_seq ?_; refine wc_sr ?_; refine wl_mv rfl rfl ?_; refine wl_as rfl rfl ?_; refine wl_ns ?_; refine wc_ret ?_
    exact we_ret1 rfl rfl ⟨_, rfl, by rw [e], rfl⟩

/-- The table's cells. -/
def tabC : List Value := (List.range 256).map fun i => .int .u32 (eightC i : Nat)
theorem tabC_length : tabC.length = 256 := by simp [tabC]
theorem tabC_get {k : Nat} (h : k < 256) : tabC[k]? = some (.int .u32 (eightC k : Nat)) := by
  rw [tabC, List.getElem?_map, List.getElem?_range h]; rfl
theorem tabC_one : ∀ v ∈ tabC, v.oneCell' = true := by
  intro v hv
  simp only [tabC, List.mem_map] at hv
  obtain ⟨_, _, rfl⟩ := hv; rfl
theorem tyU : Cell1 Try.prog 23 := ⟨by kernel_rfl, by rw [Try.underlying23]⟩
theorem tyA_zero : (Try.prog.info? 94).map (·.zero) = some (some (.agg (List.replicate 256 (Value.int .u32 0)).toArray)) := by kernel_rfl
theorem tyA_size : (Try.prog.info? 94).map (·.size) = some 256 := by kernel_rfl

theorem table_any (w : World) : CallsV Try.prog 62 #[] w fun v w' => v = .agg tabC.toArray ∧ Below w.heap.size w w' := by
  have hb0 := Below.refl w.heap.size w
  refine calls_in (N := _) Try.func62 rfl Try.ntmps62 rfl ?_; show WC _ _ _ _ _ _
  refine wc_sr ?_
  refine wl_alloc tyA_zero rfl fun w1 a0 hb1 hs1 => ?_
  refine wl_ns ?_; refine wc_sr ?_
  refine wl_alloc tyA_zero rfl fun w2 a1 hb2 hs2 => ?_
  replace a0 := a0.bel hb2
  have hb3 := hb1.trans (hb2.mono hb1.size)
  clear hb0 hb1 hb2
  obtain ⟨g1, hg1⟩ : ∃ g, w1.heap.size = g := ⟨_, rfl⟩
  rw [hg1] at a1 ⊢
  have hne : g1 ≠ w.heap.size := by omega
  refine wl_ns ?_; refine wc_seq ?_; refine wc_sr ?_; refine wl_mv rfl rfl ?_; refine wl_ns ?_; refine wc_block ?_
  refine wc_loop (fun L wr m => ∃ k : Nat, L = [(0, .pointer (some ⟨w.heap.size, 0, none⟩)), (1, .pointer (some ⟨g1, 0, none⟩)), (3, .int .i64 (k : Int))] ∧ k ≤ 256 ∧ Ar wr g1 94 (tabC.take k ++ List.replicate (256 - k) (Value.int .u32 0)) ∧ Ar wr w.heap.size 94 (List.replicate 256 (Value.int .u32 0)) ∧ Below w.heap.size w wr ∧ m = 256 - k)
    [(0, .pointer (some ⟨w.heap.size, 0, none⟩)), (1, .pointer (some ⟨g1, 0, none⟩)), (3, .int .i64 (0 : Nat))] 256 ⟨0, rfl, by omega, a1, a0, hb3, rfl⟩ ⟨rfl, rfl, rfl, trivial⟩ ?_
  rintro _ w4 m ⟨k, rfl, hk, b1, b0, hb4, rfl⟩
  refine wc_sr ?_; refine wl_bin rfl rfl bin_lss rfl ?_; refine wl_ns ?_; refine wc_seq ?_
  refine wc_cond rfl (fun h1 => ?_) (fun h1 => ?_)
  · refine wc_skip ?_; refine we_seq ?_; refine wc_seq ?_; refine wc_block ?_; refine wc_sr ?_; refine wl_mv rfl rfl ?_; refine wl_as rfl rfl ?_; refine wl_ns ?_; refine wc_region ?_; refine wl_mv rfl rfl ?_; refine wl_mv rfl rfl ?_; apply wl_val; apply opv_convR; exact rfl; exact Try.underlying3; exact Try.underlying23; exact IntWalk.u32_in _ (by omega); exact rfl
    refine wl_call ok_crc_eight (eight_any k (by omega) w4) ⟨rfl, trivial⟩ rfl ?_
    rintro _ _ ⟨rfl, rfl⟩
    refine wl_setA (kk := k) Try.underlying94 tyU rfl rfl b1 (by simp [tabC_length]; omega) rfl (by omega) (fun _ => rfl) rfl rfl fun p => ?_
    have c1 := b1.setCell k (.int .u32 (eightC k : Nat))
    have c0 := b0.ne k (.int .u32 (eightC k : Nat)) hne
    have hb5 := below_setCell (k := k) (v := .int .u32 (eightC k : Nat)) hb4 (show w.heap.size ≤ g1 by omega)
    have e : (tabC.take k ++ List.replicate (256 - k) (Value.int .u32 0)).set k (.int .u32 (eightC k : Nat)) = tabC.take (k + 1) ++ List.replicate (256 - (k + 1)) (Value.int .u32 0) := by
      rw [show 256 - k = (256 - (k + 1)) + 1 by omega]; exact fill_upV (tabC_get (by omega))
    rw [e] at c1
    refine wl_nil ?_; refine we_block_norm ?_; refine we_seq ?_; refine wc_region ?_; apply wl_val; apply opv_bin; exact rfl; exact rfl; exact bin_add64 (by omega); exact rfl; refine wl_mv rfl rfl ?_; refine wl_nil ?_
    refine we_loop [(0, .pointer (some ⟨w.heap.size, 0, none⟩)), (1, .pointer (some ⟨g1, 0, none⟩)), (3, .int .i64 ((k + 1 : Nat) : Int))] (256 - (k + 1)) ⟨k + 1, rfl, by omega, c1, c0, hb5, rfl⟩ (by omega) ⟨rfl, rfl, rfl, trivial⟩
  · obtain rfl : k = 256 := by omega
    have e : tabC.take 256 ++ List.replicate (256 - 256) (Value.int .u32 0) = tabC := by rw [List.take_of_length_le (by rw [tabC_length]; omega)]; simp
    rw [e] at b1
    refine wc_exit ?_; refine we_seq_exit ?_; refine we_loop_exit ?_; refine we_block_exit ?_; refine we_seq ?_; refine wc_sr ?_
    refine wl_val (opv_loadW Try.underlying94 (by rw [tabC_length]; exact tyA_size) rfl b1) rfl ?_
    refine wl_unitN (opu_storeW (by rw [List.length_replicate]; exact tyA_size) (by rw [tabC_length, List.length_replicate]) rfl rfl b0 tabC_one) ?_
    have d0 := b0.setRow (cs' := tabC)
    have hb6 := below_setRow (cs' := tabC.toArray) hb4 (Nat.le_refl _)
    refine wl_ns ?_; refine wc_ret ?_
    exact we_retA rfl rfl Try.underlying94 (by rw [tabC_length]; exact tyA_size) d0 ⟨_, rfl, rfl, hb6⟩
end Go.Proofs.Ytojncfdlddepdaa
