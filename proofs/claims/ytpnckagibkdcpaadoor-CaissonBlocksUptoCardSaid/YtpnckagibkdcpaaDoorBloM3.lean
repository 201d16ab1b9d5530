/-
  The texts of this proof, joined: Zc, Iv, Ya, Je, Yb, Tt, Ma, Mb, Mc, Md, Me, Mg, Mf, Jf, Jg, Jh, Ji, Jj, Jk, Jp, Jr, Mh, Mi, Mj.
-/
import Derived.Test.YtpnckagibkdcpaaDoorBloM2
import Derived.Test.YtpnckagibkdcpaaDoorBloM1
import Derived.Deep.MidRow

/-
  The engine's rules for a region whose order Go leaves open and which stores at its end: up to the first store (number m, for which all others wait) operations that yield one value in every world of a class are taken first; from there on the class no longer counts. Nothing here names the program.
-/
namespace Go.Proofs.YtpnckagibkdcpaaDoor
open Go.RowKit

def AnyM (P : Program) (ops : Array Oper) (Q : Exit → Act → World → Prop) (S : World → Prop) (m : Nat) : Nat → Array Bool → Act → World → Prop
  | 0, listed, a, w => Region.ready .any ops listed = [] ∧ Q .normal a w
  | fuel + 1, listed, a, w =>
    (Region.ready .any ops listed = [] → Q .normal a w) ∧
    ∀ i ∈ Region.ready .any ops listed, wpOp P ops Q i (fun a' w' => ((listed.setIfInBounds i true).getD m false = false → S w') ∧ AnyM P ops Q S m fuel (listed.setIfInBounds i true) a' w') a w
section
variable {P : Program} {ops : Array Oper} {Q : Exit → Act → World → Prop} {S : World → Prop} {m : Nat}
theorem any_of_M : ∀ (fuel : Nat) (listed : Array Bool) (a : Act) (w : World), AnyM P ops Q S m fuel listed a w → wpAny P .any ops Q fuel listed a w
  | 0, _, _, _, h => h
  | fuel + 1, _, _, _, h => ⟨h.1, fun i hi => wpOp_mono (fun a' w' h' => any_of_M fuel _ a' w' h'.2) (h.2 i hi)⟩
theorem anyM_first {i : Nat} {oi om : Oper} {v : Value} (hi : ops[i]? = some oi) (hsel : ∀ (j : Nat) (o : Oper) cs b, ops[j]? = some o → o.op ≠ .select cs b)
    (hQ : ∀ c a w, Q (.panic c) (a.put oi.dst v) w → Q (.panic c) a w) (hm : ops[m]? = some om) (hmi : m ≠ i) (hwait : ∃ e ∈ om.after, Region.binds .any e = true ∧ e.on = i) :
    ∀ (fuel : Nat) (listed : Array Bool) (a : Act) (w : World),
      (∀ j oj, ops[j]? = some oj → j ≠ i → listed.getD j true = false → (∀ e ∈ oj.after, Region.binds .any e = true → e.on ≠ i) → oi.apart ops oj = true) →
      i ∈ Region.ready .any ops listed → YieldsIf P ops S oi v a → S w → listed.getD m false = false →
      AnyM P ops Q S m fuel (listed.setIfInBounds i true) (a.put oi.dst v) w → AnyM P ops Q S m (fuel + 1) listed a w := by
  have hset : ∀ (l : Array Bool) (j : Nat), m ≠ j → (l.setIfInBounds j true).getD m false = l.getD m false := fun l j h => getD_set_ne false (Ne.symm h)
  intro fuel
  induction fuel with
  | zero =>
    intro listed a w _ hr hy hS hlm H
    refine ⟨fun h => (by rw [h] at hr; cases hr), fun j hj => ?_⟩
    by_cases hji : j = i
    · subst hji; exact hy.wpOp hi hS ⟨fun _ => hS, H⟩
    · have := ready_mono hj hji
      rw [H.1] at this
      cases this
  | succ fuel ih =>
    intro listed a w hfree hr hy hS hlm H
    refine ⟨fun h => (by rw [h] at hr; cases hr), fun j hj => ?_⟩
    by_cases hji : j = i
    · subst hji; exact hy.wpOp hi hS ⟨fun _ => hS, H⟩
    · have h1 := H.2 j (ready_mono hj hji)
      obtain ⟨hjun, oj, hoj, hall⟩ := mem_ready.1 hj
      have hnot : ∀ e ∈ oj.after, Region.binds .any e = true → e.on ≠ i := fun e he hb heq => by
        have h1 := hall e he hb
        have h0 := (mem_ready.1 hr).1
        rw [heq] at h1
        rcases Nat.lt_or_ge i listed.size with h' | h'
        · simp [h'] at h0 h1; rw [h0] at h1; cases h1
        · simp [Array.getElem?_eq_none h'] at h1
      have hjm : m ≠ j := by
        rintro rfl
        rw [hm] at hoj; cases hoj
        obtain ⟨e, he, hb, hon⟩ := hwait
        exact hnot e he hb hon
      have h2 := wpOp_putIf hoj (hfree j oj hoj hji hjun hnot) (fun cs b => hsel i oi cs b hi) (fun cs b => hsel j oj cs b hoj) hQ hy h1
      have hfree' : ∀ k ok, ops[k]? = some ok → k ≠ i → (listed.setIfInBounds j true).getD k true = false →
          (∀ e ∈ ok.after, Region.binds .any e = true → e.on ≠ i) → oi.apart ops ok = true := fun k ok hk hki hun hno => by
        refine hfree k ok hk hki ?_ hno
        by_cases hjk : j = k
        · subst hjk; exact hjun
        · rw [getD_set_ne true hjk] at hun; exact hun
      have hl2 : (listed.setIfInBounds j true).getD m false = false := by rw [hset _ _ hjm]; exact hlm
      refine wpOp_mono (fun a' w' h3 => ?_) h2
      have hSw : S w' := h3.2.1 (by rw [hset _ _ hjm, hset _ _ hmi]; exact hlm)
      refine ⟨fun _ => hSw, ih (listed.setIfInBounds j true) a' w' hfree' (ready_mono hr (Ne.symm hji)) h3.1 hSw hl2 ?_⟩
      rw [Array.setIfInBounds_comm _ _ hji]
      exact h3.2.2
theorem anyM_firstP {i : Nat} {oi : Oper} {v : Value} (hi : ops[i]? = some oi) (hsel : ∀ (j : Nat) (o : Oper) cs b, ops[j]? = some o → o.op ≠ .select cs b)
    (hQ : ∀ c a w, Q (.panic c) (a.put oi.dst v) w → Q (.panic c) a w) (hmi : m ≠ i) :
    ∀ (fuel : Nat) (listed : Array Bool) (a : Act) (w : World),
      (∀ j oj, ops[j]? = some oj → j ≠ i → listed.getD j true = false → (∀ e ∈ oj.after, Region.binds .any e = true → e.on ≠ i) → oi.apart ops oj = true) →
      i ∈ Region.ready .any ops listed → YieldsIf P ops (fun _ => True) oi v a → (listed.getD m false = false → S w) →
      AnyM P ops Q S m fuel (listed.setIfInBounds i true) (a.put oi.dst v) w → AnyM P ops Q S m (fuel + 1) listed a w := by
  have hset : ∀ (l : Array Bool) (j : Nat), m ≠ j → (l.setIfInBounds j true).getD m false = l.getD m false := fun l j h => getD_set_ne false (Ne.symm h)
  intro fuel
  induction fuel with
  | zero =>
    intro listed a w _ hr hy hS H
    refine ⟨fun h => (by rw [h] at hr; cases hr), fun j hj => ?_⟩
    by_cases hji : j = i
    · subst hji; exact hy.wpOp hi trivial ⟨fun h => hS (by rw [← hset _ _ hmi]; exact h), H⟩
    · have := ready_mono hj hji
      rw [H.1] at this
      cases this
  | succ fuel ih =>
    intro listed a w hfree hr hy hS H
    refine ⟨fun h => (by rw [h] at hr; cases hr), fun j hj => ?_⟩
    by_cases hji : j = i
    · subst hji; exact hy.wpOp hi trivial ⟨fun h => hS (by rw [← hset _ _ hmi]; exact h), H⟩
    · have h1 := H.2 j (ready_mono hj hji)
      obtain ⟨hjun, oj, hoj, hall⟩ := mem_ready.1 hj
      have hnot : ∀ e ∈ oj.after, Region.binds .any e = true → e.on ≠ i := fun e he hb heq => by
        have h1 := hall e he hb
        have h0 := (mem_ready.1 hr).1
        rw [heq] at h1
        rcases Nat.lt_or_ge i listed.size with h' | h'
        · simp [h'] at h0 h1; rw [h0] at h1; cases h1
        · simp [Array.getElem?_eq_none h'] at h1
      have h2 := wpOp_putIf hoj (hfree j oj hoj hji hjun hnot) (fun cs b => hsel i oi cs b hi) (fun cs b => hsel j oj cs b hoj) hQ hy h1
      have hfree' : ∀ k ok, ops[k]? = some ok → k ≠ i → (listed.setIfInBounds j true).getD k true = false →
          (∀ e ∈ ok.after, Region.binds .any e = true → e.on ≠ i) → oi.apart ops ok = true := fun k ok hk hki hun hno => by
        refine hfree k ok hk hki ?_ hno
        by_cases hjk : j = k
        · subst hjk; exact hjun
        · rw [getD_set_ne true hjk] at hun; exact hun
      refine wpOp_mono (fun a' w' h3 => ?_) h2
      have hSw : (listed.setIfInBounds j true).getD m false = false → S w' := fun h => h3.2.1 (by rw [Array.setIfInBounds_comm _ _ (Ne.symm hji), hset _ _ hmi]; exact h)
      refine ⟨hSw, ih (listed.setIfInBounds j true) a' w' hfree' (ready_mono hr (Ne.symm hji)) h3.1 hSw ?_⟩
      rw [Array.setIfInBounds_comm _ _ hji]
      exact h3.2.2
end

def waits (ops : Array Oper) (m i : Nat) : Bool := match ops[m]? with
  | some o => o.after.toList.any fun e => Region.binds .any e && Nat.beq e.on i
  | none => false
def okM (ops : Array Oper) (listed : Array Bool) (m i : Nat) : Bool := okAt ops listed i && (waits ops m i && (!Nat.beq m i && !listed.getD m false))
def WM (P : Program) (N : Nat) (ops : Array Oper) (Q : Exit → Act → World → Prop) (S : World → Prop) (m fuel : Nat) (listed : Array Bool) (L : FL) (w : World) : Prop :=
  ∀ a, Has N a L → AnyM P ops (NoPanic Q) S m fuel listed a w
def HeldM (P : Program) (ops : Array Oper) (Q : Exit → Act → World → Prop) (S : World → Prop) (m fuel : Nat) (listed : Array Bool) : Exit → Act → World → Prop :=
  Exit.then (fun a w => (listed.getD m false = false → S w) ∧ AnyM P ops (NoPanic Q) S m fuel listed a w) (NoPanic Q)
section
variable {P : Program} {N : Nat} {ops : Array Oper} {Q : Exit → Act → World → Prop} {S : World → Prop} {m fuel : Nat} {listed : Array Bool} {L : FL} {w : World}
theorem wc_heldM (m : Nat) {id : Nat} {l : List Oper} (hm : P.follows .mixedOrders = true) (h : ∀ w1, Below w.heap.size w w1 → WM P N l.toArray Q (Below w.heap.size w) m l.length (Array.replicate l.length false) L w1) : WC P N (.region id l.toArray true) Q L w := fun a ha =>
  wp_region_noPanic (wp_region_any hm (any_of_M (S := Below w.heap.size w) (m := m) _ _ _ _ (by simpa using h _ ((Below.refl _ _).drew) a ha)))
theorem okM_of {i : Nat} (h : okM ops listed m i = true) : okAt ops listed i = true ∧ (∃ om, ops[m]? = some om ∧ ∃ e ∈ om.after, Region.binds .any e = true ∧ e.on = i) ∧ m ≠ i ∧ listed.getD m false = false := by
  simp only [okM, Bool.and_eq_true, Bool.not_eq_true'] at h
  obtain ⟨h1, h2, h3, h4⟩ := h
  refine ⟨h1, ?_, Nat.ne_of_beq_eq_false h3, h4⟩
  unfold waits at h2
  split at h2
  · rename_i o ho
    obtain ⟨e, he, hb⟩ := List.any_eq_true.1 h2
    rw [Bool.and_eq_true] at hb
    exact ⟨o, ho, e, by simpa using he, hb.1, Nat.eq_of_beq_eq_true hb.2⟩
  · cases h2
theorem wm_done (hr : Region.ready .any ops listed = []) (h : WE N Q .normal L w) : WM P N ops Q S m fuel listed L w := fun a ha => by
  have hq : NoPanic Q .normal a w := NoPanic.normal (h a ha)
  cases fuel with
  | zero => exact ⟨hr, hq⟩
  | succ fuel => exact ⟨fun _ => hq, by rw [hr]; simp⟩
theorem anyM_take {i : Nat} {o : Oper} {v : Value} {a : Act} (hi : ops[i]? = some o) (hk : okM ops listed m i = true) (hS : S w) (hy : YieldsIf P ops S o v a)
    (h : AnyM P ops (NoPanic Q) S m fuel (listed.setIfInBounds i true) (a.put o.dst v) w) : AnyM P ops (NoPanic Q) S m (fuel + 1) listed a w := by
  obtain ⟨h1, ⟨om, h2, h3⟩, h4, h5⟩ := okM_of hk
  obtain ⟨k1, k2, k3⟩ := okAt_of h1
  exact anyM_first hi (Region.noSelect_spec k1) (fun _ _ _ h => np h) h2 h4 h3 fuel listed a w (Region.free_spec hi k2) (by simpa using k3) hy hS h5 h
theorem wm_take (i : Nat) {d : Nat} {op : Op} {ty : TypeId} {pos : String} {aft : Array Edge} {v : Value} (hi : ops[i]? = some ⟨some d, op, ty, pos, aft, none⟩) (hv : ∀ w, S w → OpV P op ty L w v w) (hd : Nat.blt d N = true) (hk : okM ops listed m i = true) (hS : S w)
    (h : WM P N ops Q S m fuel (listed.setIfInBounds i true) ((d, v) :: L) w) : WM P N ops Q S m (fuel + 1) listed L w := fun a ha =>
  anyM_take hi hk hS (.inl ⟨by simp [Region.wanted], fun w hw => hv w hw a.eval _ (fun x u hx => ha.eval hx) rfl rfl⟩) (h _ (ha.put hd v))
theorem wm_takeG (i : Nat) {d j g : Nat} {b want : Bool} {op : Op} {ty : TypeId} {pos : String} {aft : Array Edge} {v : Value} (hi : ops[i]? = some ⟨some d, op, ty, pos, aft, some (j, want)⟩)
    (hj : (ops[j]?).bind (·.dst) = some g) (hb : lookT L g = some (.bool b)) (hg : Nat.blt g N = true) (he : b = want) (hv : ∀ w, S w → OpV P op ty L w v w) (hd : Nat.blt d N = true) (hk : okM ops listed m i = true) (hS : S w)
    (h : WM P N ops Q S m fuel (listed.setIfInBounds i true) ((d, v) :: L) w) : WM P N ops Q S m (fuel + 1) listed L w := fun a ha => by
  have hy := yielded_of ha hj hb hg
  exact anyM_take hi hk hS (.inl ⟨by simp [Region.wanted, hy, he], fun w hw => hv w hw a.eval _ (fun x u hx => ha.eval hx) rfl rfl⟩) (h _ (ha.put hd v))
theorem wm_skipG (i : Nat) {d j g : Nat} {b want : Bool} {op : Op} {ty : TypeId} {pos : String} {aft : Array Edge} (hi : ops[i]? = some ⟨some d, op, ty, pos, aft, some (j, want)⟩)
    (hj : (ops[j]?).bind (·.dst) = some g) (hb : lookT L g = some (.bool b)) (hg : Nat.blt g N = true) (he : b = !want) (hd : Nat.blt d N = true) (hk : okM ops listed m i = true) (hS : S w)
    (h : WM P N ops Q S m fuel (listed.setIfInBounds i true) ((d, undef) :: L) w) : WM P N ops Q S m (fuel + 1) listed L w := fun a ha => by
  have hy := yielded_of ha hj hb hg
  exact anyM_take hi hk hS (.inr ⟨by simp [Region.wanted, hy, he], rfl⟩) (h _ (ha.put hd undef))
theorem wm_skipU (i : Nat) {d j g : Nat} {want : Bool} {op : Op} {ty : TypeId} {pos : String} {aft : Array Edge} (hi : ops[i]? = some ⟨some d, op, ty, pos, aft, some (j, want)⟩)
    (hj : (ops[j]?).bind (·.dst) = some g) (hb : lookT L g = some undef) (hg : Nat.blt g N = true) (hd : Nat.blt d N = true) (hk : okM ops listed m i = true) (hS : S w)
    (h : WM P N ops Q S m fuel (listed.setIfInBounds i true) ((d, undef) :: L) w) : WM P N ops Q S m (fuel + 1) listed L w := fun a ha => by
  have hy := yielded_undef ha hj hb hg
  exact anyM_take hi hk hS (.inr ⟨by simp [Region.wanted, hy], rfl⟩) (h _ (ha.put hd undef))
/-- The same of an operation that does not look at the world. -/
theorem wm_takeP (i : Nat) {d : Nat} {op : Op} {ty : TypeId} {pos : String} {aft : Array Edge} {v : Value} (hi : ops[i]? = some ⟨some d, op, ty, pos, aft, none⟩) (hv : ∀ w, OpV P op ty L w v w) (hd : Nat.blt d N = true) (hk : (okAt ops listed i && !Nat.beq m i) = true) (hS : listed.getD m false = false → S w)
    (h : WM P N ops Q S m fuel (listed.setIfInBounds i true) ((d, v) :: L) w) : WM P N ops Q S m (fuel + 1) listed L w := fun a ha => by
  rw [Bool.and_eq_true, Bool.not_eq_true'] at hk
  obtain ⟨k1, k2, k3⟩ := okAt_of hk.1
  exact anyM_firstP hi (Region.noSelect_spec k1) (fun _ _ _ h => np h) (Nat.ne_of_beq_eq_false hk.2) fuel listed a w (Region.free_spec hi k2) (by simpa using k3) (.inl ⟨by simp [Region.wanted], fun w _ => hv w a.eval _ (fun x u hx => ha.eval hx) rfl rfl⟩) hS (h _ (ha.put hd v))
/-- One operation alone may come up. -/
theorem wm_one (i : Nat) {o : Oper} (hr : Region.ready .any ops listed = [i]) (hi : ops[i]? = some o)
    (h : WL P N ops (HeldM P ops Q S m fuel (listed.setIfInBounds i true)) [o] L w) : WM P N ops Q S m (fuel + 1) listed L w := fun a ha => by
  refine ⟨fun h0 => absurd (hr ▸ h0) (by simp), hr ▸ fun i' hi' => ?_⟩
  obtain rfl : i' = i := by simpa using hi'
  have h' := h a ha
  unfold wpOp
  simp only [hi]
  unfold wpList at h'
  split
  · rename_i hw
    rw [if_pos hw] at h'
    rcases h' with h' | ⟨ha, a0, w0, h'⟩
    · exact .inl (upon_mono (fun a w h => h) (fun e a w he h => by cases e <;> first | exact absurd rfl he | exact h) h')
    · exact .inr ⟨ha, a0, w0, h'⟩
  · rename_i hw
    rw [if_neg hw] at h'
    exact h'
/-- Two may come up. -/
theorem wm_two (i j : Nat) {o o' : Oper} (hr : Region.ready .any ops listed = [i, j]) (hi : ops[i]? = some o) (hj : ops[j]? = some o')
    (h : WL P N ops (HeldM P ops Q S m fuel (listed.setIfInBounds i true)) [o] L w) (h' : WL P N ops (HeldM P ops Q S m fuel (listed.setIfInBounds j true)) [o'] L w) : WM P N ops Q S m (fuel + 1) listed L w := fun a ha => by
  have key : ∀ {i : Nat} {o : Oper}, ops[i]? = some o → WL P N ops (HeldM P ops Q S m fuel (listed.setIfInBounds i true)) [o] L w → wpOp P ops (NoPanic Q) i (fun a' w' => ((listed.setIfInBounds i true).getD m false = false → S w') ∧ AnyM P ops (NoPanic Q) S m fuel (listed.setIfInBounds i true) a' w') a w := by
    intro i o hi h
    have h' := h a ha
    unfold wpOp
    simp only [hi]
    unfold wpList at h'
    split
    · rename_i hw
      rw [if_pos hw] at h'
      rcases h' with h' | ⟨ha, a0, w0, h'⟩
      · exact .inl (upon_mono (fun a w h => h) (fun e a w he h => by cases e <;> first | exact absurd rfl he | exact h) h')
      · exact .inr ⟨ha, a0, w0, h'⟩
    · rename_i hw
      rw [if_neg hw] at h'
      exact h'
  refine ⟨fun h0 => absurd (hr ▸ h0) (by simp), hr ▸ fun i' hi' => ?_⟩
  rw [List.mem_cons, List.mem_singleton] at hi'
  rcases hi' with rfl | rfl
  · exact key hi h
  · exact key hj h'
theorem we_heldM (hS : listed.getD m false = false → S w) (h : WM P N ops Q S m fuel listed L w) : WE N (HeldM P ops Q S m fuel listed) .normal L w := fun a ha => ⟨hS, h a ha⟩
end
end Go.Proofs.YtpnckagibkdcpaaDoor


/-
  The engine's rules for calls through an interface value, and for elements of rows that are known by their cells and are written in place. Nothing here names the program.
-/
namespace Go.Proofs.YtpnckagibkdcpaaDoor
open Go.RowKit

theorem bin_quoN {P : Program} {t : TypeId} {a b : Nat} (hb : 0 < b) (ha : a ≤ 9223372036854775807) : BinV P .quo t (.int .i64 (a : Int)) (.int .i64 (b : Int)) (.int .i64 ((a / b : Nat) : Int)) := bin_quo hb (IntWalk.i64_in _ (by have := Nat.div_le_self a b; generalize a / b = q at this ⊢; omega))
theorem bin_addN1 {P : Program} {t : TypeId} {a : Nat} (h : a + 1 ≤ 9223372036854775807) : BinV P .add t (.int .i64 (a : Int)) (.int .i64 1) (.int .i64 ((a + 1 : Nat) : Int)) := bin_addN (b := 1) h
theorem bin_mulN2 {P : Program} {t : TypeId} {a : Nat} (h : 2 * a ≤ 9223372036854775807) : BinV P .mul t (.int .i64 2) (.int .i64 (a : Int)) (.int .i64 ((2 * a : Nat) : Int)) := bin_mulN (a := 2) h
theorem bin_quoN2 {P : Program} {t : TypeId} {a : Nat} (h : a ≤ 9223372036854775807) : BinV P .quo t (.int .i64 (a : Int)) (.int .i64 2) (.int .i64 ((a / 2 : Nat) : Int)) := bin_quoN (b := 2) (by decide) h
/-- In this world an interface value's method is function f, with this receiver. -/
def MethV (P : Program) (w : World) (t : TypeId) (v : Value) (name : String) (f : FuncId) (r : Value) : Prop := (method (P.types.size + Made.depth) t v name).run P w = .ok (f, r) w
section
variable {P : Program} {N : Nat} {ops : Array Oper} {Q : Exit → Act → World → Prop} {rest : List Oper} {L : FL} {w : World}
theorem exec_inv {ρ : Operand → Value} {o : Oper} {x : Operand} {name : String} {xs : List Operand} {vs : List Value} {ats : Array TypeId} {t : TypeId} {v r : Value} {f : FuncId} (ho : o.op = .call { callee := .invoke x name, args := xs.toArray, argTypes := ats })
    (hc : CallOk P f) (hm : MethV P w t v name f r) (hρ : ∀ x u, look L x = some u → ρ x = u) (hr : look L x = some (.iface t v)) (hx : Looks L xs vs) : (execOp ρ o).run P w = .ok (.enter f (r :: vs).toArray) w := by
  have hf : ρ x = .iface t v := hρ _ _ hr
  have hmp := Looks.map hρ hx
  have h0 : (#[Value.iface t v] ++ Array.map ρ xs.toArray)[0]? = some (Value.iface t v) := by simp
  have h1 : (#[Value.iface t v] ++ Array.map ρ xs.toArray).extract 1 (#[Value.iface t v] ++ Array.map ρ xs.toArray).size = vs.toArray := by
    rw [← hmp]; simp; exact List.take_of_length_le (by simp)
  unfold execOp
  simp only [ho, resolve, hf, Sem.run_bind, Sem.run_pure, Result.andThen_ok, invoke, h0, h1, callMethod]
  have hm' : (method (P.types.size + Made.depth) t v name).run P w = .ok (f, r) w := hm
  simp only [show ∀ w, (program).run P w = .ok P w from fun _ => rfl, Result.andThen_ok, hm']
  have h2 : (#[r] ++ vs.toArray : Array Value) = (r :: vs).toArray := by simp
  rw [h2]
  exact hc _ _
theorem wl_inv {d : Nat} {x : Operand} {name : String} {xs : List Operand} {ats : Array TypeId} {ty : TypeId} {pos : String} {aft : Array Edge} {vs : List Value} {t : TypeId} {v r : Value} {f : FuncId} {R : Value → World → Prop}
    (hc : CallOk P f) (hm : MethV P w t v name f r) (hr : CallsV P f (r :: vs).toArray w R) (hx0 : look L x = some (.iface t v)) (hx : Looks L xs vs) (hd : Nat.blt d N = true)
    (h : ∀ v w', R v w' → WL P N ops Q rest ((d, v) :: L) w') :
    WL P N ops Q (⟨some d, .call { callee := .invoke x name, args := xs.toArray, argTypes := ats }, ty, pos, aft, none⟩ :: rest) L w := fun a ha =>
  wpList_plain rfl fun K hK => by
    unfold Oper.wp
    rw [exec_inv rfl hc hm (fun x u hx => ha.eval hx) hx0 hx]
    refine Calls.mono hr ?_
    rintro _ w' ⟨v, rfl, hv⟩
    exact hK _ _ (h v w' hv _ (ha.put hd v))
end

/-! #### Rows that are known by their cells, written in place -/
def setN : List Value → Nat → List Value → List Value
  | xs, _, [] => xs
  | xs, o, v :: r => setN (xs.set o v) (o + 1) r
theorem setN_right (x : List Value) : ∀ (vs r : List Value) (o : Nat), setN (x ++ r) (x.length + o) vs = x ++ setN r o vs
  | [], r, o => rfl
  | v :: vs, r, o => by
    rw [setN, setN, List.set_append_right _ _ (by omega), show x.length + o - x.length = o by omega, Nat.add_assoc, setN_right x vs]
theorem setN_left : ∀ (vs x r : List Value), x.length = vs.length → setN (x ++ r) 0 vs = vs ++ r
  | [], [], r, _ => rfl
  | v :: vs, a :: x, r, h => by
    have := setN_right [v] vs (x ++ r) 0
    rw [setN]
    simp only [List.cons_append, List.set_cons_zero, Nat.zero_add]
    simp only [List.cons_append, List.nil_append, List.length_singleton, Nat.add_zero] at this
    rw [this, setN_left vs x r (by simpa using h)]
theorem flat_setN {k : Nat} {cs' : List Value} (hk' : cs'.length = k) : ∀ {css : List (List Value)} {i : Nat}, (∀ cs ∈ css, cs.length = k) → i < css.length → setN css.flatten (i * k) cs' = (css.set i cs').flatten
  | [], i, _, h => by simp at h
  | x :: css, 0, hk, _ => by
    rw [List.flatten_cons, Nat.zero_mul, setN_left cs' x _ (by rw [hk x List.mem_cons_self, hk'])]; rfl
  | x :: css, i + 1, hk, h => by
    have hx := hk x List.mem_cons_self
    rw [List.flatten_cons, show (i + 1) * k = x.length + i * k by rw [hx, Nat.add_mul]; omega, setN_right, flat_setN hk' (fun cs hc => hk cs (List.mem_cons_of_mem _ hc)) (by simpa using h)]
    rfl
theorem flat_set1 {k : Nat} {cs : List Value} {u : Value} {j : Nat} : ∀ {css : List (List Value)} {i : Nat}, (∀ cs ∈ css, cs.length = k) → css[i]? = some cs → j < k → css.flatten.set (i * k + j) u = (css.set i (cs.set j u)).flatten
  | [], i, _, h, _ => by simp at h
  | x :: css, 0, hk, h, hj => by
    simp at h; subst h
    rw [List.flatten_cons, Nat.zero_mul, Nat.zero_add, List.set_append_left _ _ (by rw [hk x List.mem_cons_self]; exact hj)]; rfl
  | x :: css, i + 1, hk, h, hj => by
    have hx := hk x List.mem_cons_self
    rw [List.flatten_cons, List.set_append_right _ _ (by rw [hx, Nat.add_mul]; omega), show (i + 1) * k + j - x.length = i * k + j by rw [hx, Nat.add_mul]; omega, flat_set1 (fun cs hc => hk cs (List.mem_cons_of_mem _ hc)) (by simpa using h) hj]
    rfl
theorem own_storedN {base : Nat} {e : TypeId} {size g n cap : Nat} : ∀ (vs : List Value) (j : Nat) {w : World} {xs : List Value}, w.ownsRow base e size (.slice (some ⟨g, 0, none⟩) n cap) n xs →
    (w.setCells g j vs).ownsRow base e size (.slice (some ⟨g, 0, none⟩) n cap) n (setN xs j vs) ∧ w.grownBy (w.setCells g j vs) (some g)
  | [], j, w, xs, h => ⟨h, rfl, rfl, rfl, Nat.le_refl _, fun _ _ _ => rfl⟩
  | v :: vs, j, w, xs, h => by
    obtain ⟨h1, h2⟩ := h.stored j v
    obtain ⟨h3, h4⟩ := own_storedN vs (j + 1) h1
    exact ⟨h3, h2.trans h4⟩
section
variable {P : Program} {N : Nat} {ops : Array Oper} {Q : Exit → Act → World → Prop} {rest : List Oper} {L : FL} {w0 w : World} {M : BS} {H : List Cd} {t e : TypeId} {g : Nat} {cs cs' : List Value} {z : Value} {bytes k : Nat}
theorem OwR.raw_mk {S : BS} {A : Option Addr} {base c : Nat} {css : List (List Value)} (hk : ∀ cs ∈ css, cs.length = k) (h : w.ownsRow base e k (.slice A css.length c) css.length css.flatten) : OwR k e w base S A c (css.map rawEl) :=
  ⟨css, grp_raw hk, by rw [List.length_map]; exact h⟩
/-- A row of the call's own that is known by its cells, where it has elements, lies at the start of a block. -/
theorem OwR.form {S : BS} {A : Option Addr} {base c : Nat} {els : List El} (h : OwR k e w base S A c els) (hn : 0 < els.length) : ∃ g, A = some ⟨g, 0, none⟩ := by
  obtain ⟨css, _, h2⟩ := h
  rcases h2.2 with ⟨hv, h0⟩ | ⟨g, cap, cur, hv, _⟩
  · omega
  · injection hv with hA; exact ⟨g, hA⟩
/-- One cell of an element is written. -/
theorem ws_stR {x y : Operand} {ty : TypeId} {pos : String} {aft : Array Edge} {e1 : TypeId} {A : Option Addr} {c p j kk : Nat} {u : Value} {css : List (List Value)} (hs : St M w0 w H) (i : Nat) (hx : look L x = some (.pointer (some ⟨g, kk, none⟩))) (hi : nthC H i = some (.rg k e A c (css.map rawEl))) (hA : A = some ⟨g, 0, none⟩) (E : Cell1 P e1)
    (hkk : kk = p * k + j) (hcs : css[p]? = some cs) (hj : j < k) (hy : look L y = some u) (h1 : u.oneCell' = true)
    (h : ∀ w', St M w0 w' (setC H i (.rg k e A c ((css.set p (cs.set j u)).map rawEl))) → WL P N ops Q rest L w') :
    WL P N ops Q (⟨none, .store e1 x y, ty, pos, aft, none⟩ :: rest) L w := by
  subst hA hkk
  obtain ⟨T, hc, hT, hK⟩ := hs.upd i hi
  obtain ⟨ho, hk⟩ := OwR.raw hc.2
  have hp := (List.getElem?_eq_some_iff.1 hcs).1
  have hl : p * k + j < css.length * k := by
    have : (p + 1) * k ≤ css.length * k := Nat.mul_le_mul_right _ hp
    rw [Nat.add_mul] at this; omega
  have hcell := ho.cellAt (p * k + j) hl
  have hlt : p * k + j < css.flatten.length := by rw [ho.1]; exact hl
  rw [List.getElem?_eq_getElem hlt] at hcell
  have hst := ho.stored (p * k + j) u
  refine wl_unitN (opu_storeC E hx hy h1 hcell (ho.frozenAt _)) (h _ (hK _ _ T (Mod.of_gr (A := some ⟨g, 0, none⟩) hst.2 fun a ha => hc.1 a ha) ⟨hc.1, ?_⟩ fun _ _ h => .inl h))
  have hl2 : (css.set p (cs.set j u)).length = css.length := List.length_set
  refine OwR.raw_mk (fun cs' hcs' => ?_) (by rw [hl2, ← flat_set1 hk hcs hj]; exact hst.1)
  rcases List.mem_or_eq_of_mem_set hcs' with h | rfl
  · exact hk _ h
  · rw [List.length_set]; exact hk _ (List.mem_of_getElem? hcs)
/-- A whole element is written. -/
theorem ws_stRS {x y : Operand} {ty : TypeId} {pos : String} {aft : Array Edge} {A : Option Addr} {c p kk : Nat} {css : List (List Value)} (hs : St M w0 w H) (i : Nat) (hx : look L x = some (.pointer (some ⟨g, kk, none⟩))) (hi : nthC H i = some (.rg k e A c (css.map rawEl))) (hA : A = some ⟨g, 0, none⟩) (S : StT P e k)
    (hkk : kk = p * k) (hp : p < css.length) (hy : look L y = some (.agg cs'.toArray)) (hl : cs'.length = k) (h1 : cs'.all (·.oneCell') = true)
    (h : ∀ w', St M w0 w' (setC H i (.rg k e A c ((css.set p cs').map rawEl))) → WL P N ops Q rest L w') :
    WL P N ops Q (⟨none, .store e x y, ty, pos, aft, none⟩ :: rest) L w := by
  subst hA hkk
  obtain ⟨T, hc, hT, hK⟩ := hs.upd i hi
  obtain ⟨ho, hk⟩ := OwR.raw hc.2
  have hst := own_storedN cs' (p * k) ho
  have hth : w.there g (p * k) cs'.toArray.size := fun j hj => by
    have hj' : j < k := by simpa [hl] using hj
    have hlt : p * k + j < css.length * k := by
      have : (p + 1) * k ≤ css.length * k := Nat.mul_le_mul_right _ hp
      rw [Nat.add_mul] at this; omega
    have hcell := ho.cellAt (p * k + j) hlt
    rw [List.getElem?_eq_getElem (by rw [ho.1]; exact hlt)] at hcell
    exact ⟨by rw [hcell]; rfl, ho.frozenAt _⟩
  refine wl_unitN (w' := w.setCells g (p * k) cs') (fun ρ o hρ ho' _ => ?_) (h _ (hK _ _ T (Mod.of_gr (A := some ⟨g, 0, none⟩) hst.2 fun a ha => hc.1 a ha) ⟨hc.1, ?_⟩ fun _ _ h => .inl h))
  · have := run_storeVar_mid (P := P) w g (p * k) e cs'.toArray hth (by simpa [hl] using S.size) (by simpa [Array.all_eq_true_iff_forall_mem] using h1)
    simp [execOp, ho', Instr.storeAt, Instr.sureAddr, hρ x _ hx, hρ y _ hy, this]
  have hl2 : (css.set p cs').length = css.length := List.length_set
  refine OwR.raw_mk (fun cs2 hcs' => ?_) (by rw [hl2, ← flat_setN hl hk hp]; exact hst.1)
  rcases List.mem_or_eq_of_mem_set hcs' with h | rfl
  · exact hk _ h
  · exact hl
end
/-- What the table of a dynamic type says of a method. -/
def methRow (P : Program) (t : TypeId) (name : String) : Option (Bool × Option (FuncId × Bool)) := (P.info? t).bind fun ti => (ti.methods.find? (·.name == name)).map fun m => (m.path.isEmpty, m.func)
theorem methRow_get {P : Program} {t : TypeId} {name : String} {f : FuncId} {b : Bool} (h : methRow P t name = some (true, some (f, b))) : ∃ ti m, P.info? t = some ti ∧ ti.methods.find? (·.name == name) = some m ∧ m.path = #[] ∧ m.func = some (f, b) := by
  unfold methRow at h
  cases hi : P.info? t with
  | none => rw [hi] at h; cases h
  | some ti =>
    rw [hi] at h
    simp only [Option.bind_some] at h
    cases hm : ti.methods.find? (·.name == name) with
    | none => rw [hm] at h; cases h
    | some m =>
      rw [hm] at h
      simp only [Option.map_some, Option.some.injEq, Prod.mk.injEq] at h
      exact ⟨ti, m, rfl, hm, Array.isEmpty_iff.1 h.1, h.2⟩
/-- A method of the value itself, called by its pointer. -/
theorem methV_val {P : Program} {w : World} {t et : TypeId} {name : String} {f : FuncId} {a : Addr} {u : Value} (h : methRow P t name = some (true, some (f, false))) (ht : P.underlying t = some (.pointer et)) (E : Cell1 P et) (hc : w.cell? a = some u) : MethV P w t (.pointer (some a)) name f u := by
  obtain ⟨ti, m, hi, hm, hp, hf⟩ := methRow_get h
  have hl : (loadVar et a).run P w = .ok u w := by simp [loadVar, E.agg, hc]
  unfold MethV
  obtain ⟨k, hk⟩ : ∃ k, P.types.size + Made.depth = k + 1 := ⟨P.types.size + 99, rfl⟩
  rw [hk, method]
  have hT : (typeInfo t).run P w = .ok ti w := by simp [typeInfo, hi]
  simp only [Sem.run_bind, hT, Result.andThen_ok, hm, hp, hf, follow, Sem.run_pure, receiverAt, run_underlying ht, Place.get]
  have hw : ∀ nm : String, (Builtin.ssaWrapNilChk_ #[t] t #[.pointer (some a), strVal "", strVal nm]).run P w = .ok (.pointer (some a)) w := fun _ => rfl
  simp [asAddr, hl, hw]
theorem methV_ptr {P : Program} {w : World} {t et : TypeId} {name : String} {f : FuncId} {v : Value} (h : methRow P t name = some (true, some (f, true))) (ht : P.underlying t = some (.pointer et)) : MethV P w t v name f v := by
  obtain ⟨ti, m, hi, hm, hp, hf⟩ := methRow_get h
  unfold MethV
  obtain ⟨k, hk⟩ : ∃ k, P.types.size + Made.depth = k + 1 := ⟨P.types.size + 99, rfl⟩
  rw [hk, method]
  have hT : (typeInfo t).run P w = .ok ti w := by simp [typeInfo, hi]
  simp only [Sem.run_bind, hT, Result.andThen_ok, hm, hp, hf, follow, Sem.run_pure, receiverAt, run_underlying ht, Place.get]
end Go.Proofs.YtpnckagibkdcpaaDoor


/-
  Rows whose elements lie apart from one another; pieces told as one; bytes of one's own whose values are not known. Nothing here names the program.
-/
namespace Go.Proofs.YtpnckagibkdcpaaDoor
open Go.RowKit

/-- Pieces told as one. -/
def packC (H : List Cd) : Ck := ⟨fun w S => Sat w H S, fun h hz hm => h.move hz hm⟩
/-- Elements and their cells, piece by piece. -/
def zipCe : List El → List (List Value) → List Cd
  | E :: els, cs :: css => .ce E cs :: zipCe els css
  | _, _ => []
/-- A row of the call's own whose elements lie apart. -/
def rsC (k : Nat) (e : TypeId) (A : Option Addr) (c : Nat) (els : List El) : Ck := ⟨fun w S => ∃ css : List (List Value), css.length = els.length ∧ Sat w (.rg k e A c (css.map rawEl) :: zipCe els css) S, fun ⟨css, hl, h⟩ hz hm => ⟨css, hl, h.move hz hm⟩⟩
theorem zipCe_app : ∀ {els els' : List El} {css css' : List (List Value)}, css.length = els.length → zipCe (els ++ els') (css ++ css') = zipCe els css ++ zipCe els' css'
  | [], _, [], _, _ => rfl
  | E :: els, els', cs :: css, css', h => by
    show _ :: zipCe (els ++ els') (css ++ css') = _ :: (zipCe els css ++ zipCe els' css')
    rw [zipCe_app (by simpa using h)]
  | [], _, _ :: _, _, h => by simp at h
  | _ :: _, _, [], _, h => by simp at h
theorem zipCe_grp {k : Nat} {w : World} : ∀ {els : List El} {css : List (List Value)} {S : BS}, Sat w (zipCe els css) S → css.length = els.length → (∀ cs ∈ css, cs.length = k) → Grp k w S els css
  | [], [], S, _, _, _ => Grp.nil _ _ _
  | E :: els, cs :: css, S, ⟨T, hT, hc, hr⟩, h, hk => by
    have h1 := zipCe_grp hr (by simpa using h) fun cs hcs => hk cs (List.mem_cons_of_mem _ hcs)
    exact (Grp.one (El.mono hc fun b _ h => hT b h) (hk cs List.mem_cons_self)).append (h1.mono fun b _ h => h.1)
  | [], _ :: _, _, _, h, _ => by simp at h
  | _ :: _, [], _, _, h, _ => by simp at h
section
variable {w0 w : World} {M : BS} {H H1 H2 : List Cd} {k : Nat} {e : TypeId} {A : Option Addr} {c : Nat} {els : List El}
theorem St.pk (hs : St M w0 w (H1 ++ H)) : St M w0 w (.ck (packC H1) :: H) := hs.pack (.ck (packC H1)) fun _ _ h => h
theorem St.unpk (hs : St M w0 w (.ck (packC H1) :: H)) : St M w0 w (H1 ++ H) := hs.unpack fun _ h => h
theorem Sat.permL {w : World} {H H' : List Cd} (p : H.Perm H') : ∀ {S : BS}, Sat w H S → Sat w H' S := by
  induction p with
  | nil => intro S h; exact h
  | cons c _ ih => rintro S ⟨T, hT, hc, hr⟩; exact ⟨T, hT, hc, ih hr⟩
  | swap a b H => intro S h; exact h.front (i := 1) rfl
  | trans _ _ ih1 ih2 => intro S h; exact ih2 (ih1 h)
theorem Sat.mapC {w : World} {c c' : Cd} {H : List Cd} {S : BS} (h : Sat w (c :: H) S) (hc : ∀ T, c.P w T → c'.P w T) : Sat w (c' :: H) S := by
  obtain ⟨T, hT, h1, h2⟩ := h
  exact ⟨T, hT, hc T h1, h2⟩
theorem Sat.dropC {w : World} {c : Cd} {H : List Cd} {S : BS} (h : Sat w (c :: H) S) : Sat w H S := by
  obtain ⟨T, hT, h1, h2⟩ := h
  exact h2.mono fun _ _ h => h.1
theorem Sat.mem {w : World} {c : Cd} : ∀ {H : List Cd} {S : BS}, Sat w H S → c ∈ H → ∃ T : BS, (∀ b, T b → S b) ∧ c.P w T
  | d :: H, S, ⟨T, hT, hd, hr⟩, h => by
    rw [List.mem_cons] at h
    rcases h with rfl | h
    · exact ⟨T, hT, hd⟩
    · obtain ⟨U, hU, hc⟩ := Sat.mem hr h
      exact ⟨U, fun b k => (hU b k).1, hc⟩
theorem Sat.packR {w : World} {X Y : List Cd} {c : Ck} {S : BS} (h : Sat w (X ++ Y) S) (hc : ∀ T, Sat w Y T → c.P w T) : Sat w (X ++ [.ck c]) S := by
  obtain ⟨T, hT, h1, h2⟩ := h.append
  exact Sat.join hT h1 ⟨_, fun _ h => h, hc _ h2, trivial⟩
/-- Where the elements lie apart, the row is a row of elements too. -/
theorem rs_rg {T : BS} (h : (rsC k e A c els).P w T) : (Cd.rg k e A c els).P w T := by
  obtain ⟨css, hl, T1, hT1, h1, h2⟩ := h
  obtain ⟨ho, hk⟩ := OwR.raw h1.2
  refine ⟨fun a ha => hT1 _ (h1.1 a ha), css, (zipCe_grp h2 hl hk).mono fun b _ h => ⟨h.1, fun a ha hb => h.2 (by rw [hb]; exact h1.1 a ha)⟩, by rw [← hl]; exact ho⟩
theorem St.rs (hs : St M w0 w H) (i : Nat) (hi : nthC H i = some (.ck (rsC k e A c els))) : OwR k e w 0 All A c els := by
  obtain ⟨T, hc, _⟩ := hs.get i hi
  exact (rs_rg hc).2.mono (Nat.le_refl _) fun _ _ _ => trivial
theorem St.weak (hs : St M w0 w (.ck (rsC k e A c els) :: H)) : St M w0 w (.rg k e A c els :: H) := hs.map fun _ h => h.mapC fun _ h => rs_rg h
theorem St.nilS (hs : St M w0 w H) (k : Nat) (e : TypeId) : St M w0 w (.ck (rsC k e none 0 []) :: H) := (hs.nilG k e).pack (H1 := [.rg k e none 0 []]) _ fun _ _ h => ⟨[], rfl, h⟩
theorem St.unrs (hs : St M w0 w (.ck (rsC k e A c els) :: H)) : ∃ css : List (List Value), css.length = els.length ∧ St M w0 w ((.rg k e A c (css.map rawEl) :: zipCe els css) ++ H) := by
  obtain ⟨⟨css, hl⟩, h⟩ := hs.unpackE (α := { css : List (List Value) // css.length = els.length }) (H1 := fun css => .rg k e A c (css.1.map rawEl) :: zipCe els css.1) fun T ⟨css, hl, h⟩ => ⟨⟨css, hl⟩, h⟩
  exact ⟨css, hl, h⟩
/-- A beginning of the row. -/
theorem St.preS {m : Nat} (hs : St M w0 w (.ck (rsC k e A c els) :: H)) (hm : m ≤ els.length) : St M w0 w (.ck (rsC k e A c (els.take m)) :: H) := by
  obtain ⟨css, hl, h⟩ := hs.unrs
  have h2 := St.pre (m := m) h (by simp; omega)
  rw [← List.map_take] at h2
  have e1 : zipCe els css = zipCe (els.take m) (css.take m) ++ zipCe (els.drop m) (css.drop m) := by
    rw [← zipCe_app (by simp; omega), List.take_append_drop, List.take_append_drop]
  rw [e1] at h2
  refine h2.map fun S h => ?_
  have h3 : Sat w ((.rg k e A c ((css.take m).map rawEl) :: zipCe (els.take m) (css.take m)) ++ (zipCe (els.drop m) (css.drop m) ++ H)) S := by simpa using h
  obtain ⟨T, hT, h4, h5⟩ := h3.append
  obtain ⟨U, hU, _, h6⟩ := h5.append
  exact ⟨T, hT, ⟨css.take m, by simp; omega, h4⟩, h6.mono fun b _ h => h.1⟩
end
section
variable {P : Program} {N : Nat} {ops : Array Oper} {Q : Exit → Act → World → Prop} {rest : List Oper} {L : FL} {w0 w : World} {M : BS} {H : List Cd} {t e : TypeId} {cs : List Value} {z : Value} {bytes k : Nat}
/-- An element, with the memory that is its own, goes into such a row. -/
theorem ws_pushS {d1 d2 : Nat} {x : Operand} {E : El} {s : Operand} {ty1 ty2 : TypeId} {p1 p2 : String} {f1 f2 : Array Edge} {A : Option Addr} {n c : Nat} {els : List El} (hs : St M w0 w (.ck (rsC k e A c els) :: .ce E cs :: H)) (T : RowK P t e k z bytes)
    (hs1 : ∀ p, look ((d1, p) :: L) s = some (.slice A n c)) (hn : els.length = n) (hx : ∃ v, look L x = some v ∧ v.cells = cs.toArray) (hl : cs.length = k) (h1 : cs.all (·.oneCell') = true) (hk : k ≤ 16777216)
    (hbytes : (n + 1) * bytes ≤ 140737488355328) (hmax : n + 1 ≤ maxLen) (hd1 : Nat.blt d1 N = true) (hd2 : Nat.blt d2 N = true)
    (h : ∀ p A' c' w', St M w0 w' (.ck (rsC k e A' c' (els ++ [E])) :: H) → WL P N ops Q rest ((d2, .slice A' (n + 1) c') :: (d1, p) :: L) w') :
    WL P N ops Q (⟨some d1, .buildSlice t 1 #[(0, x)], ty1, p1, f1, none⟩ :: ⟨some d2, .call { callee := .builtin .append, args := #[s, .tmp d1], argTypes := #[t, t] }, ty2, p2, f2, none⟩ :: rest) L w := by
  obtain ⟨css, hcl, hs⟩ := hs.unrs
  refine ws_pushR (cs := cs) hs 0 hs1 rfl T (by simpa [hcl] using hn) hx hl h1 hk hbytes hmax hd1 hd2 fun p A' c' w' hs => h p A' c' w' (hs.map fun S h => ?_)
  have h2 : Sat w' ((.rg k e A' c' ((css ++ [cs]).map rawEl) :: (zipCe els css ++ [.ce E cs])) ++ H) S := by simpa [setC] using h
  obtain ⟨T, hT, h3, h4⟩ := h2.append
  exact ⟨T, hT, ⟨css ++ [cs], by simp [hcl], by rw [zipCe_app hcl]; exact h3⟩, h4⟩
/-- append(s, x...) of such rows. -/
theorem ws_appS2 {d : Nat} {s x : Operand} {ty : TypeId} {pos : String} {aft : Array Edge} {A : Option Addr} {n c : Nat} {els els' : List El} {B : Option Addr} {m c' : Nat} (hs : St M w0 w (.ck (rsC k e A c els) :: .ck (rsC k e B c' els') :: H)) (hx0 : look L s = some (.slice A n c)) (T : RowK P t e k z bytes)
    (hn : els.length = n) (hx : look L x = some (.slice B m c')) (hm : els'.length = m) (h1 : ∀ css w S, Sat w (zipCe els' css) S → css.length = els'.length → ∀ u ∈ css.flatten, u.oneCell' = true)
    (hbytes : (n + m) * bytes ≤ 140737488355328) (hmax : n + m ≤ maxLen) (hd : Nat.blt d N = true)
    (h : ∀ A' c' w', St M w0 w' (.ck (rsC k e A' c' (els ++ els')) :: H) → WL P N ops Q rest ((d, .slice A' (n + m) c') :: L) w') :
    WL P N ops Q (⟨some d, .call { callee := .builtin .append, args := #[s, x], argTypes := #[t, t] }, ty, pos, aft, none⟩ :: rest) L w := by
  obtain ⟨css2, hcl2, hs⟩ := (hs.front 1 rfl).unrs
  replace hs : St M w0 w (.ck (rsC k e A c els) :: ((.rg k e B c' (css2.map rawEl) :: zipCe els' css2) ++ H)) := hs.map fun S h => Sat.permL List.perm_middle (by simpa [delC] using h)
  obtain ⟨css, hcl, hs⟩ := hs.unrs
  replace hs : St M w0 w (.rg k e A c (css.map rawEl) :: .rg k e B c' (css2.map rawEl) :: (zipCe els css ++ (zipCe els' css2 ++ H))) := hs.map fun S h => by
    have h : Sat w (.rg k e A c (css.map rawEl) :: (zipCe els css ++ .rg k e B c' (css2.map rawEl) :: (zipCe els' css2 ++ H))) S := by simpa using h
    exact Sat.permL (List.Perm.cons _ List.perm_middle) h
  have hone : ∀ u ∈ css2.flatten, u.oneCell' = true := by
    obtain ⟨_, h0⟩ := hs
    obtain ⟨T, _, h2⟩ := h0.dropC.dropC.append
    obtain ⟨T2, _, h3, _⟩ := h2.2.append
    exact h1 css2 w T2 h3 hcl2
  refine ws_appR (css := css2) hs 0 hx0 rfl T (by simpa [hcl] using hn) hx (OwR.rd (hs.rg 1 rfl)) (by rw [hcl2]; exact hm) hone hbytes hmax hd fun A' c2 w' hs => h A' c2 w' (hs.map fun S h => ?_)
  have h2 : Sat w' (.rg k e A' c2 ((css ++ css2).map rawEl) :: .rg k e B c' (css2.map rawEl) :: (zipCe els css ++ (zipCe els' css2 ++ H))) S := by simpa [setC] using h
  have h3 : Sat w' ((.rg k e A' c2 ((css ++ css2).map rawEl) :: (zipCe els css ++ zipCe els' css2)) ++ H) S := by
    have := (h2.front (i := 1) rfl).dropC
    simpa [delC] using this
  obtain ⟨T, hT, h4, h5⟩ := h3.append
  exact ⟨T, hT, ⟨css ++ css2, by simp [hcl, hcl2], by rw [zipCe_app hcl]; exact h4⟩, h5⟩
end
end Go.Proofs.YtpnckagibkdcpaaDoor


/-
  Walks over twin and twins of the program.
-/
namespace Go.Proofs.YtpnckagibkdcpaaDoor
open Go.RowKit

/-- An entry whose lists lie in memory of their own. -/
def enOw (x : En) (A : Option Addr) (c : Nat) (B : Option Addr) (d : Nat) : List Cd := [.ow 5 A x.key.length c (bvs x.key), .ow 5 B x.val.length d (bvs x.val)]
/-- An entry and where its lists lie. -/
structure EnA where
  x : En
  A : Option Addr
  c : Nat
  B : Option Addr
  d : Nat
def eaV (a : EnA) : List Value := enV a.x a.A a.c a.B a.d
def enM (a : EnA) : List Cd := enOw a.x a.A a.c a.B a.d
/-- An entry's cells, its lists in memory of their own that lies apart. -/
def oE (x : En) : El := ⟨fun w S cs => ∃ A c B d, cs = enV x A c B d ∧ Sat w (enOw x A c B d) S, fun ⟨A, c, B, d, h, h2⟩ hz hm => ⟨A, c, B, d, h, h2.move hz hm⟩⟩
def RetE2 (w : World) (x : En) (v : Value) (w' : World) : Prop := ∃ (A : Option Addr) (c : Nat) (B : Option Addr) (d : Nat), v = .agg (enV x A c B d).toArray ∧ St NoB w w' (enOw x A c B d)
theorem ow_cap {w : World} {A : Option Addr} {n c base : Nat} {e : TypeId} {xs : List Value} (h : Ow w base e A n c xs) : n ≤ c := by
  rcases h.2 with ⟨hv, hn⟩ | ⟨g, cap, cur, hv, _, _, hnc, _⟩
  · omega
  · injection hv with _ _ hc; omega
theorem byEl_of {w : World} {S : BS} {A : Option Addr} {c : Nat} {xs : List UInt8} (h : (Cd.ow 5 A xs.length c (bvs xs)).P w S) : (byEl xs).P w S [.slice A xs.length c] := ⟨A, c, rfl, ow_cap h.2, h.2.rd, fun a ha _ => h.1 a ha⟩
theorem enEl_of {x : En} {A B : Option Addr} {c d : Nat} (w : World) (S : BS) (h : Sat w (enOw x A c B d) S) : (Cd.ce (enEl x) (enV x A c B d)).P w S := by
  obtain ⟨T, hT, h1, U, hU, h2, _⟩ := h
  exact enEl.mk (El.mono (byEl_of h1) fun b _ h => hT b h) (El.mono (byEl_of h2) fun b _ h => (hU b h).1)
theorem oE_en {x : En} {w : World} {S : BS} {cs : List Value} (h : (oE x).P w S cs) : (enEl x).P w S cs := by
  obtain ⟨A, c, B, d, rfl, h⟩ := h
  exact enEl_of w S h
theorem oE_of {x : En} {A B : Option Addr} {c d : Nat} (w : World) (S : BS) (h : Sat w (enOw x A c B d) S) : (Cd.ce (oE x) (enV x A c B d)).P w S := ⟨A, c, B, d, rfl, h⟩
theorem grp_en {k : Nat} {w : World} {S : BS} {l : List En} {css : List (List Value)} (h : Grp k w S (l.map oE) css) : Grp k w S (l.map enEl) css := ⟨by rw [h.1]; simp, fun i cs hi => by
  obtain ⟨h1, E, h2, h3⟩ := h.2 i cs hi
  refine ⟨h1, ?_⟩
  rw [List.getElem?_map] at h2 ⊢
  cases hx : l[i]? with
  | none => rw [hx] at h2; cases h2
  | some x => rw [hx] at h2; cases h2; exact ⟨_, rfl, oE_en h3⟩⟩
theorem owr_en {k base c : Nat} {e : TypeId} {w : World} {S : BS} {A : Option Addr} {l : List En} (h : OwR k e w base S A c (l.map oE)) : OwR k e w base S A c (l.map enEl) := by
  obtain ⟨css, h1, h2⟩ := h
  exact ⟨css, grp_en h1, by simpa using h2⟩
/-- Rows of entries that lie apart, read. -/
theorem St.rsE {M : BS} {w0 w : World} {H : List Cd} {e : TypeId} {A : Option Addr} {c : Nat} {l : List En} (hs : St M w0 w H) (i : Nat) (hi : nthC H i = some (.ck (rsC 4 e A c (l.map oE)))) : OwR 4 e w 0 All A c (l.map enEl) := owr_en (hs.rs i hi)
theorem St.weakE {M : BS} {w0 w : World} {H : List Cd} {e : TypeId} {A : Option Addr} {c : Nat} {l : List En} (hs : St M w0 w (.ck (rsC 4 e A c (l.map oE)) :: H)) : St M w0 w (.rg 4 e A c (l.map enEl) :: H) := hs.map fun _ h => h.mapC fun _ h => ⟨(rs_rg h).1, owr_en (rs_rg h).2⟩
/-- A row of entries that lie apart, its entries told one by one. -/
theorem rs_es {e : TypeId} {A : Option Addr} {c : Nat} {l : List En} {w : World} {T : BS} (h : (rsC 4 e A c (l.map oE)).P w T) : ∃ es : List EnA, es.map (·.x) = l ∧ Sat w (.rg 4 e A c (es.map fun a => rawEl (eaV a)) :: es.flatMap enM) T := by
  obtain ⟨css, hl, U, hU, h1, h2⟩ := h
  have key : ∀ (l : List En) (css : List (List Value)) (S : BS), css.length = l.length → Sat w (zipCe (l.map oE) css) S → ∃ es : List EnA, es.map (·.x) = l ∧ es.map eaV = css ∧ Sat w (es.flatMap enM) S := by
    intro l
    induction l with
    | nil => intro css S h _; exact ⟨[], rfl, (List.eq_nil_of_length_eq_zero h).symm, trivial⟩
    | cons x l ih =>
      intro css S h hs
      cases css with
      | nil => simp at h
      | cons cs css =>
        obtain ⟨T, hT, ⟨A, c, B, d, hcs, he⟩, hr⟩ := hs
        obtain ⟨es, e1, e2, e3⟩ := ih css _ (by simpa using h) hr
        exact ⟨⟨x, A, c, B, d⟩ :: es, by simp [e1], by simp [e2, hcs, eaV], Sat.join hT he e3⟩
  obtain ⟨es, e1, e2, e3⟩ := key l css _ (by simpa using hl) h2
  refine ⟨es, e1, U, hU, ?_, e3⟩
  rw [show (es.map fun a => rawEl (eaV a)) = (es.map eaV).map rawEl by simp, e2]
  exact h1
theorem zip_one {l : List En} {css : List (List Value)} {w : World} {S : BS} (h : Sat w (zipCe (l.map oE) css) S) (hl : css.length = (l.map oE).length) : ∀ u ∈ css.flatten, u.oneCell' = true := by
  refine enE_one (w := w) (S := S) (grp_en (k := 4) (zipCe_grp h hl fun cs hcs => ?_))
  have key : ∀ (l : List En) (css : List (List Value)) (S : BS), css.length = l.length → Sat w (zipCe (l.map oE) css) S → ∀ cs ∈ css, cs.length = 4 := by
    intro l
    induction l with
    | nil => intro css S h _; have := List.eq_nil_of_length_eq_zero h; subst this; simp
    | cons x l ih =>
      intro css S h hs
      cases css with
      | nil => simp at h
      | cons cs css =>
        obtain ⟨T, hT, ⟨A, c, B, d, hcs, he⟩, hr⟩ := hs
        intro cs' h'
        rcases List.mem_cons.1 h' with rfl | h'
        · rw [hcs]; rfl
        · exact ih css _ (by simpa using h) hr cs' h'
  exact key l css S (by simpa using hl) h cs hcs
end Go.Proofs.YtpnckagibkdcpaaDoor


/-
  Bytes of one's own that are turned over; twins of lists whose entries lie apart.
-/
namespace Go.Proofs.YtpnckagibkdcpaaDoor
open Go.RowKit

theorem bvs_setO (l : List UInt8) (i : Nat) (b : UInt8) : (bvs l).set i (bv b) = bvs (l.set i b) := by rw [bvs, bvs, List.map_set]
theorem overO_any {A : Option Addr} {n c base : Nat} {l : List UInt8} {w : World} (ho : OwB w base A c l) (hn : l.length = n) (hl : l.length ≤ 2199023255552) :
    CallsV Tryd.prog 30 #[.slice A n c] w fun v w' => v = .tuple #[] ∧ ∃ l' : List UInt8, l'.length = l.length ∧ OwB w' base A c l' ∧ Gr w w' A := by
  subst hn
  refine calls_in (N := _) Tryd.func30 rfl Tryd.ntmps30 rfl ?_; show WC _ _ _ _ _ _
  refine wc_sr ?_; refine wl_as rfl rfl ?_; refine wl_ns ?_; refine wc_block ?_
  refine wc_loop (fun L wr m => ∃ (i : Nat) (l' : List UInt8), L = [(0, .slice A l.length c), (2, .int .i64 (i : Int))] ∧ i ≤ l.length ∧ l'.length = l.length ∧ OwB wr base A c l' ∧ Gr w wr A ∧ m = l.length - i)
    [(0, .slice A l.length c), (2, .int .i64 (0 : Nat))] l.length ⟨0, l, rfl, by omega, rfl, ho, Gr.refl _ _, rfl⟩ ⟨rfl, rfl, trivial⟩ ?_
  rintro _ w1 m ⟨i, l', rfl, hi, hl', o1, g1, rfl⟩
  have o1' : Ow w1 base 5 A l.length c (bvs l') := by rw [← hl']; exact o1
  have r1 : Rd w1 A l.length (bvs l') := by rw [← hl']; exact o1.rd
  refine wc_seq ?_; refine wc_sr ?_; refine wl_mv rfl rfl ?_; refine wl_mv rfl rfl ?_; apply wl_val; apply opv_len; exact rfl; exact tyB.sl; exact rfl; refine wl_bin rfl rfl bin_lss rfl ?_; refine wl_ns ?_
  refine wc_cond rfl (fun h1 => ?_) (fun h1 => ?_)
  · obtain ⟨x, hx⟩ : ∃ x, l'[i]? = some x := ⟨_, List.getElem?_eq_getElem (by omega)⟩
    have hxl := x.toNat_lt
    have hxx : x.toNat ^^^ 90 < 256 := Nat.xor_lt_two_pow (n := 8) hxl (by decide)
    refine wc_skip ?_; refine we_seq ?_; refine wc_seq ?_; refine wc_block ?_; refine wc_region ?_; refine wl_mv rfl rfl ?_; refine wl_mv rfl rfl ?_; refine wl_mv rfl rfl ?_; refine wl_mv rfl rfl ?_; apply wl_byK (T := tyB) (hr := r1) (hb := hx); exact rfl; exact rfl; exact rfl; exact rfl; exact rfl; intro _
    refine wl_val (opv_bin (b := .int .u8 (90 : Nat)) rfl rfl (bin_xor rfl hxl (by decide))) rfl ?_
    refine wl_set (n := l.length) (kk := i) tyB rfl rfl o1' rfl (by omega) (fun _ => rfl) rfl rfl fun p w2 o2 g2 _ => ?_
    have eu : Value.int .u8 ((x.toNat ^^^ 90 : Nat) : Int) = bv (UInt8.ofNat (x.toNat ^^^ 90)) := by
      unfold bv; rw [UInt8.toNat_ofNat', Nat.mod_eq_of_lt hxx]
    rw [eu, bvs_setO] at o2
    have o2' : OwB w2 base A c (l'.set i (UInt8.ofNat (x.toNat ^^^ 90))) := by unfold OwB; rw [List.length_set, hl']; exact o2
    refine wl_nil ?_; refine we_block_norm ?_; refine we_seq ?_; refine wc_region ?_; refine wl_mv rfl rfl ?_; apply wl_val; apply opv_bin; exact rfl; exact rfl; exact bin_add64 (by omega); exact rfl; refine wl_as rfl rfl ?_; refine wl_nil ?_
    refine we_loop [(0, .slice A l.length c), (2, .int .i64 ((i + 1 : Nat) : Int))] (l.length - (i + 1)) ⟨i + 1, _, rfl, by omega, by rw [List.length_set]; exact hl', o2', g1.trans g2, rfl⟩ (by omega) ⟨rfl, by simp [lookT], trivial⟩
  · refine wc_exit ?_; refine we_seq_exit ?_; refine we_loop_exit ?_; refine we_block_exit ?_
    exact we_end0 rfl ⟨_, rfl, rfl, l', hl', o1, g1⟩
/-- Bytes of one's own, whatever they are. -/
def jk (A : Option Addr) (n c : Nat) : Ck := ⟨fun w S => ∃ xs : List UInt8, xs.length = n ∧ (Cd.ow 5 A n c (bvs xs)).P w S, fun ⟨xs, h, h2⟩ hz hm => ⟨xs, h, Cd.move (c := .ow 5 _ _ _ (bvs xs)) h2 hz hm⟩⟩
theorem jk_of {A : Option Addr} {c : Nat} {xs : List UInt8} {w : World} {S : BS} (h : (Cd.ow 5 A xs.length c (bvs xs)).P w S) : (jk A xs.length c).P w S := ⟨xs, rfl, h⟩
theorem over_jk {S : BS} {A : Option Addr} {n c : Nat} {w : World} (h0 : Sat w [.ck (jk A n c)] S) (hl : n ≤ 2199023255552) :
    CallsV Tryd.prog 30 #[.slice A n c] w fun v w' => v = .tuple #[] ∧ St S w w' [.ck (jk A n c)] := by
  obtain ⟨T, hT, ⟨xs, hx, hc⟩, _⟩ := h0
  subst hx
  refine (overO_any (base := 0) hc.2 rfl hl).mono fun v w' ⟨hv, l', hl', ho, hg⟩ => ⟨hv, Mod.of_gr hg fun a ha => hT _ (hc.1 a ha), T, fun b h => .inl (hT b h), ⟨l', hl', hc.1, ?_⟩, trivial⟩
  rw [← hl']; exact ho
theorem mem_perm {α : Type} {a : α} {l : List α} (h : a ∈ l) : ∃ r, l.Perm (a :: r) := by
  obtain ⟨s, t, rfl⟩ := List.append_of_mem h
  exact ⟨s ++ t, List.perm_middle⟩
/-- One of many pieces is turned over. -/
theorem over_in {S : BS} {A : Option Addr} {n c : Nat} {H : List Cd} {w : World} (h0 : Sat w [.ck (packC H)] S) (hm : Cd.ck (jk A n c) ∈ H) (hl : n ≤ 2199023255552) :
    CallsV Tryd.prog 30 #[.slice A n c] w fun v w' => v = .tuple #[] ∧ St S w w' [.ck (packC H)] := by
  obtain ⟨r, hp⟩ := mem_perm hm
  have hs : St S w w ([.ck (jk A n c)] ++ r) := (St.start h0).unpk.map fun _ h => Sat.permL (by simpa using hp) h
  obtain ⟨S2, hS2, _, _, _, hB⟩ := St.lend hs
  refine (over_jk hS2 hl).mono fun v w' ⟨hv, hsx⟩ => ⟨hv, ?_⟩
  have hs2 := hB _ _ hsx
  refine St.pk (H := []) ?_
  rw [List.append_nil]
  exact hs2.map fun _ h => Sat.permL hp.symm h
/-- Two new rows of bytes. -/
theorem St.two {w w' : World} {A B : Option Addr} {n c m d : Nat} {xs ys : List Value} (hb : Below w.heap.size w w') (h1 : Ow w' w.heap.size 5 A n c xs) (h2 : Ow w' w.heap.size 5 B m d ys) (hne : ∀ a b, A = some a → B = some b → a.block ≠ b.block) : St NoB w w' [.ow 5 A n c xs, .ow 5 B m d ys] :=
  ⟨Mod.of_below hb _, fun b => ∃ a, A = some a ∧ b = a.block, fun b ⟨a, ha, hb⟩ => .inr (by rw [hb]; exact (Ow.lt h1 a ha).1), ⟨fun a ha => ⟨a, ha, rfl⟩, h1.mono (Nat.zero_le _)⟩,
    fun b => ∃ a, B = some a ∧ b = a.block, fun b ⟨a, ha, hb⟩ => ⟨.inr (by rw [hb]; exact (Ow.lt h2 a ha).1), fun ⟨a', ha', hb'⟩ => hne a' a ha' ha (by rw [← hb', hb])⟩, ⟨fun a ha => ⟨a, ha, rfl⟩, h2.mono (Nat.zero_le _)⟩, trivial⟩
theorem twin2_any {x : En} {A B : Option Addr} {c d : Nat} {w : World} (rx : RdB w A x.key) (rx2 : RdB w B x.val) (hl : x.key.length ≤ 140737488355328) (hl2 : x.val.length ≤ 140737488355328) :
    CallsV Tryd.prog 27 #[.agg (enV x A c B d).toArray] w (RetE2 w x) :=
  (twinE_any rx rx2 hl hl2).mono fun v w' ⟨C, e, D, f, hv, h1, h2, h3, hb⟩ => ⟨C, e, D, f, hv, St.two hb h1 h2 h3⟩
/-- Twins of entries, each in memory that lies apart. -/
def RetEs2 (w : World) (l : List En) (v : Value) (w' : World) : Prop := ∃ (A : Option Addr) (c : Nat), v = .slice A l.length c ∧ St NoB w w' [.ck (rsC 4 39 A c (l.map oE))]
theorem twins3_any {A : Option Addr} {n c : Nat} {l : List En} {w : World} (hr : RdR 4 w All A (l.map enEl)) (hn : l.length = n) (hok : ∀ x ∈ l, x.key.length ≤ 140737488355328 ∧ x.val.length ≤ 140737488355328) (hl : l.length ≤ 1099511627776) :
    CallsV Tryd.prog 13 #[.slice A n c] w (RetEs2 w l) := by
  subst hn
  have hmax : maxLen = 9223372036854775807 := rfl
  have hs := (St.init w).nilS 4 39
  refine calls_in (N := _) Tryd.func13 rfl Tryd.ntmps13 rfl ?_; show WC _ _ _ _ _ _
  refine wc_sr ?_; refine wl_as rfl rfl ?_; refine wl_ns ?_; refine wc_sr ?_; refine wl_as rfl rfl ?_; refine wl_ns ?_; refine wc_seq ?_; refine wc_sr ?_; refine wl_as rfl rfl ?_; refine wl_ns ?_; refine wc_block ?_
  refine wc_loop (fun L wr m => ∃ (k : Nat) (P : Option Addr) (cp : Nat), L = [(0, .slice A l.length c), (3, .slice P k cp), (4, .int .i64 (k : Int))] ∧ k ≤ l.length ∧ St NoB w wr [.ck (rsC 4 39 P cp ((l.take k).map oE))] ∧ m = l.length - k)
    [(0, .slice A l.length c), (3, .slice none 0 0), (4, .int .i64 (0 : Nat))] l.length ⟨0, none, 0, rfl, by omega, hs, rfl⟩ ⟨rfl, rfl, rfl, trivial⟩ ?_
  clear hs
  rintro _ w1 m ⟨k, P, cp, rfl, hk, hs, rfl⟩
  refine wc_seq ?_; refine wc_sr ?_; refine wl_mv rfl rfl ?_; refine wl_mv rfl rfl ?_; apply wl_val; apply opv_len; exact rfl; exact tkE.sl; exact rfl; refine wl_bin rfl rfl bin_lss rfl ?_; refine wl_ns ?_
  refine wc_cond rfl (fun h1 => ?_) (fun h1 => ?_)
  · obtain ⟨x, hx⟩ : ∃ x, l[k]? = some x := ⟨_, List.getElem?_eq_getElem (by omega)⟩
    have hox := hok x (List.mem_of_getElem? hx)
    obtain ⟨b, o, cs, rfl, _, _, hp, i1⟩ := RdR.at (k := 4) (by decide) hr (E := enEl x) (i := k) (by rw [List.getElem?_map, hx]; rfl)
    obtain ⟨X, cx, Y, cy, rfl, rx, _, ry, _⟩ := enEl.rd hp
    replace i1 := i1.below hs.bel
    refine wc_skip ?_; refine we_seq ?_; refine wc_seq ?_; refine wc_block ?_; refine wc_region ?_; refine wl_mv rfl rfl ?_; refine wl_mv rfl rfl ?_; refine wl_mv rfl rfl ?_; apply wl_val; apply opv_idxG tkE; exact rfl; exact rfl; exact rfl; omega; exact rfl; apply wl_val; apply opv_ldG; exact rfl; assumption; exact sE; exact rfl
    refine wl_call ok_caissonref07_Twin (twin2_any (x := x) (rx.below hs.bel) (ry.below hs.bel) hox.1 hox.2) ⟨rfl, trivial⟩ rfl ?_
    rintro _ w2 ⟨C, e, D, f, rfl, hsx⟩
    replace hs := ((hs.call hsx).pack (H1 := enOw x C e D f) (.ce (oE x) (enV x C e D f)) oE_of).front 1 rfl
    dsimp only [delC] at hs
    refine ws_pushS hs tkE (fun _ => rfl) (by simp; omega) ⟨_, rfl, rfl⟩ rfl rfl (by decide) (by omega) (by simp only [maxLen]; omega) rfl rfl ?_; clear hs; intro _ R2 c2 _ hs
    refine wl_as rfl rfl ?_; refine wl_nil ?_; refine we_block_norm ?_; refine we_seq ?_; refine wc_region ?_; refine wl_mv rfl rfl ?_; apply wl_val; apply opv_bin; exact rfl; exact rfl; exact bin_add64 (by omega); exact rfl; refine wl_as rfl rfl ?_; refine wl_nil ?_
    refine we_loop _ (l.length - (k + 1)) ⟨k + 1, R2, c2, rfl, by omega, by rw [take_getR hx]; simpa using hs, rfl⟩ (by omega) ⟨rfl, rfl, by simp [lookT], trivial⟩
  · obtain rfl : k = l.length := by omega
    rw [List.take_length] at hs
    refine wc_exit ?_; refine we_seq_exit ?_; refine we_loop_exit ?_; refine we_block_exit ?_; refine we_seq ?_; refine wc_sr ?_; refine wl_mv rfl rfl ?_; refine wl_as rfl rfl ?_; refine wl_ns ?_; refine wc_ret ?_
    exact we_ret1 rfl rfl ⟨_, rfl, P, cp, rfl, hs⟩
end Go.Proofs.YtpnckagibkdcpaaDoor


/-
  The types of the seat of texts and cells, and small rules for numbers.
-/
namespace Go.Proofs.YtpnckagibkdcpaaDoor
open Go.RowKit
theorem tyI : Row1 Tryd.prog 86 3 (.int .i64 0) 8 := ⟨Tryd.underlying86, by kernel_rfl, rfl, by rw [Tryd.underlying3]⟩
theorem tyBool : Tryd.prog.underlying 4 = some .bool := Tryd.underlying4
theorem tyStr : Tryd.prog.underlying 9 = some .string := Tryd.underlying9
section
variable {P : Program} {t : TypeId} {a b : Int}
theorem bin_add32 (h : -2147483648 ≤ a + b ∧ a + b ≤ 2147483647) : BinV P .add t (.int .i32 a) (.int .i32 b) (.int .i32 (a + b)) := bin_add.to (by rw [IntWalk.i32_in _ h])
theorem bin_sub32 (h : -2147483648 ≤ a - b ∧ a - b ≤ 2147483647) : BinV P .sub t (.int .i32 a) (.int .i32 b) (.int .i32 (a - b)) := bin_sub.to (by rw [IntWalk.i32_in _ h])
theorem run_equalIn_bool (w : World) (d : Nat) (p q : Bool) (ht : P.underlying t = some .bool) : (Op.equalIn (d + 1) t (.bool p) (.bool q)).run P w = .ok (decide (p = q)) w := by
  unfold Op.equalIn
  rw [Sem.run_bind, run_underlying ht]
  cases p <;> cases q <;> rfl
theorem bin_eqlB {p q : Bool} (ht : P.underlying t = some .bool) : BinV P .eql t (.bool p) (.bool q) (.bool (decide (p = q))) := .mk fun x y w => by
  have h := run_equalIn_bool w 9999 p q ht
  simp [eqGuard, binOp, Op.equal, Op.maxDepth, h]
theorem bin_neqB {p q : Bool} (ht : P.underlying t = some .bool) : BinV P .neq t (.bool p) (.bool q) (.bool (decide (p ≠ q))) := .mk fun x y w => by
  have h := run_equalIn_bool w 9999 p q ht
  simp [eqGuard, binOp, Op.equal, Op.maxDepth, h]
end
end Go.Proofs.YtpnckagibkdcpaaDoor


/-
  Tables in memory: their types' facts, nodes of a skip list told as pieces, and the walk over a node's height.
-/
namespace Go.Proofs.YtpnckagibkdcpaaDoor
open Go.RowKit

theorem sN : StT Tryd.prog 70 5 := ⟨by kernel_rfl, by kernel_rfl⟩
theorem fa_sN {k : Nat} (h : k < 2) : FieldAt Tryd.prog 70 k (k * 4) := by
  match k, h with
  | 0, _ => exact fieldAt_mk Tryd.underlying70 rfl rfl (by kernel_rfl)
  | 1, _ => exact fieldAt_mk Tryd.underlying70 rfl rfl (by kernel_rfl)
theorem sT : StT Tryd.prog 72 7 := ⟨by kernel_rfl, by kernel_rfl⟩
theorem fa_T0 : FieldAt Tryd.prog 72 0 0 := fieldAt_mk Tryd.underlying72 rfl rfl (by kernel_rfl)
theorem fa_T1 : FieldAt Tryd.prog 72 1 5 := fieldAt_mk Tryd.underlying72 rfl rfl (by kernel_rfl)
theorem fa_T2 : FieldAt Tryd.prog 72 2 6 := fieldAt_mk Tryd.underlying72 rfl rfl (by kernel_rfl)
theorem fa_N0 : FieldAt Tryd.prog 70 0 0 := fieldAt_mk Tryd.underlying70 rfl rfl (by kernel_rfl)
theorem fa_N1 : FieldAt Tryd.prog 70 1 4 := fieldAt_mk Tryd.underlying70 rfl rfl (by kernel_rfl)
theorem e1_int : Cell1 Tryd.prog 3 := ⟨by kernel_rfl, by rw [Tryd.underlying3]⟩
theorem e1_ns : Cell1 Tryd.prog 68 := ⟨by kernel_rfl, by rw [Tryd.underlying68]⟩
theorem e1_pn : Cell1 Tryd.prog 84 := ⟨by kernel_rfl, by rw [Tryd.underlying84]⟩
theorem tyN : Row1 Tryd.prog 68 84 (.pointer none) 8 := ⟨Tryd.underlying68, by kernel_rfl, rfl, by rw [Tryd.underlying84]⟩

/-- The table that a height is reckoned by, whatever its bytes. -/
def GT (w : World) : Prop := 2 < w.heap.size ∧ ∀ i, i < 64 → ∃ x : UInt8, w.cell? ⟨2, i, none⟩ = some (bv x)
theorem GT.mod {M : BS} {w w' : World} (h : GT w) (hm : Mod M w w') (hM : ¬ M 2) : GT w' := ⟨Nat.lt_of_lt_of_le h.1 hm.size, fun i hi => by
  obtain ⟨x, hx⟩ := h.2 i hi
  exact ⟨x, (World.cell?_of_block (a := ⟨2, i, none⟩) (hm.block _ h.1 hM)).trans hx⟩⟩
theorem GT.below {w w' : World} (h : GT w) (hb : Below w.heap.size w w') : GT w' := h.mod (M := NoB) (Mod.of_below hb _) id
section
variable {P : Program} {L : FL} {w : World}
theorem opv_negU {x : Operand} {t ty : TypeId} {k : IntKind} {q : Int} (hx : look L x = some (.int k q)) : OpV P (.unOp .neg t x) ty L w (.int k (k.wrap (-q))) w := fun ρ o hρ ho _ => by
  simp [execOp, ho, hρ x _ hx, Op.unary, Op.intArith]
theorem wrap_neg {n : Nat} (h0 : 0 < n) (hn : n ≤ 9223372036854775807) : IntKind.u64.wrap (-(n : Int)) = ((18446744073709551616 - n : Nat) : Int) := by
  rw [wrap_uns rfl]
  simp only [IntKind.bits]
  omega
end
theorem tz_any {n : Nat} (h0 : 0 < n) (hn : n ≤ 9223372036854775807) {w : World} (hg : GT w) : CallsV Tryd.prog 80 #[.int .u64 (n : Int)] w fun v w' => (∃ x : UInt8, v = .int .i64 (x.toNat : Int)) ∧ w' = w := by
  have h1 : ¬ (n : Int) = 0 := by omega
  refine calls_in (N := _) Tryd.func80 rfl Tryd.ntmps80 rfl ?_; show WC _ _ _ _ _ _
  refine wc_sr ?_; refine wl_as rfl rfl ?_; refine wl_ns ?_; refine wc_seq ?_; refine wc_sr ?_; refine wl_mv rfl rfl ?_; refine wl_bin rfl rfl bin_eql rfl ?_; refine wl_ns ?_; apply wc_decF; exact rfl; (with_reducible assumption); refine wc_skip ?_; refine we_seq ?_; refine wc_sr ?_; refine wl_mv rfl rfl ?_; refine wl_mv rfl rfl ?_
  refine wl_val (opv_negU rfl) rfl ?_
  rw [wrap_neg h0 hn]
  refine wl_bin rfl rfl (bin_and rfl (by simp only [IntKind.bits]; omega) (by simp only [IntKind.bits]; omega)) rfl ?_
  refine wl_val (opv_bin (b := .int .u64 ((285870213051353865 : Nat) : Int)) rfl rfl (bin_mulU rfl)) rfl ?_
  refine wl_val (opv_bin (b := .int .u64 ((58 : Nat) : Int)) rfl rfl (bin_shr (Nat.mod_lt _ (by decide)))) rfl ?_
  obtain ⟨m, hm⟩ : ∃ q, (n &&& (18446744073709551616 - n)) * 285870213051353865 % 2 ^ IntKind.u64.bits / 2 ^ 58 = q := ⟨_, rfl⟩
  have hlt : m < 64 := by
    rw [← hm]
    have h2 : (n &&& (18446744073709551616 - n)) * 285870213051353865 % 2 ^ IntKind.u64.bits < 2 ^ IntKind.u64.bits := Nat.mod_lt _ (by decide)
    refine Nat.div_lt_of_lt_mul ?_
    have : (2 ^ 58 * 64 : Nat) = 2 ^ IntKind.u64.bits := by decide
    omega
  rw [hm]
  obtain ⟨x, hx⟩ := hg.2 m hlt
  refine wl_val (opv_idxA (kk := m) Tryd.underlying122 ⟨by kernel_rfl, by rw [Tryd.underlying5]⟩ rfl rfl rfl hlt) rfl ?_
  refine wl_val (opv_loadC (u := bv x) ⟨by kernel_rfl, by rw [Tryd.underlying5]⟩ rfl (by simpa using hx)) rfl ?_
  have hxl := x.toNat_lt
  unfold bv
  refine wl_val (opv_convR (r := (x.toNat : Int)) rfl Tryd.underlying5 Tryd.underlying3 (IntWalk.i64_in _ (by omega))) rfl ?_
  refine wl_as rfl rfl ?_; refine wl_ns ?_; refine wc_ret ?_
  exact we_ret1 rfl rfl ⟨_, rfl, ⟨x, rfl⟩, rfl⟩
theorem opv_min {P : Program} {L : FL} {w : World} {x y : Operand} {ats : Array TypeId} {ty : TypeId} {k : IntKind} {a b r : Int} (hx : look L x = some (.int k a)) (hy : look L y = some (.int k b)) (hr : (if b < a then b else a) = r) : OpV P (.call { callee := .builtin .min, args := #[x, y], argTypes := ats }) ty L w (.int k r) w := fun ρ o hρ ho _ => by
  subst hr
  unfold execOp
  simp only [ho, resolve, invoke, builtin, Sem.run_bind, Sem.run_pure, Result.andThen_ok, List.map_toArray, List.map_cons, List.map_nil, hρ x _ hx, hρ y _ hy]
  simp [Builtin.min_, Builtin.min2]
theorem tz0_any {n : Nat} (h0 : 0 < n) (hn : n ≤ 9223372036854775807) {w : World} (hg : GT w) : CallsV Tryd.prog 72 #[.int .u64 (n : Int)] w fun v w' => (∃ x : UInt8, v = .int .i64 (x.toNat : Int)) ∧ w' = w := by
  refine calls_in (N := _) Tryd.func72 rfl Tryd.ntmps72 rfl ?_; show WC _ _ _ _ _ _
  refine wc_sr ?_; refine wl_as rfl rfl ?_; refine wl_ns ?_; refine wc_seq ?_; apply wc_condFb; exact rfl; exact rfl; refine wc_skip ?_; refine we_seq ?_; refine wc_sr ?_; refine wl_mv rfl rfl ?_
  refine wl_call ok_math_bits_TrailingZeros64 (tz_any h0 hn hg) ⟨rfl, trivial⟩ rfl ?_
  rintro _ w' ⟨⟨x, rfl⟩, hw⟩
  rw [hw]
  refine wl_as rfl rfl ?_; refine wl_ns ?_; refine wc_ret ?_
  exact we_ret1 rfl rfl ⟨_, rfl, ⟨x, rfl⟩, rfl⟩
theorem height_any {n : Nat} (h0 : 0 < n) (hn : n ≤ 9223372036854775807) {w : World} (hg : GT w) : CallsV Tryd.prog 60 #[.int .i64 (n : Int)] w fun v w' => (∃ h : Nat, 1 ≤ h ∧ h ≤ 12 ∧ v = .int .i64 (h : Int)) ∧ w' = w := by
  refine calls_in (N := _) Tryd.func60 rfl Tryd.ntmps60 rfl ?_; show WC _ _ _ _ _ _
  refine wc_sr ?_; refine wl_as rfl rfl ?_; refine wl_ns ?_; refine wc_sr ?_; refine wl_mv rfl rfl ?_; apply wl_val; apply opv_convR; exact rfl; exact Tryd.underlying3; exact Tryd.underlying109; exact IntWalk.u64_in _ (by omega); exact rfl
  refine wl_call ok_math_bits_TrailingZeros (tz0_any h0 hn hg) ⟨rfl, trivial⟩ rfl ?_
  rintro _ w' ⟨⟨x, rfl⟩, hw⟩
  rw [hw]
  have hx := x.toNat_lt
  apply wl_val; apply opv_bin; exact rfl; exact rfl; exact bin_add64 (by omega); exact rfl
  obtain ⟨r, hr, hr2⟩ : ∃ r : Int, (if (x.toNat : Int) + 1 < 12 then (x.toNat : Int) + 1 else 12) = r ∧ 1 ≤ r ∧ r ≤ 12 := ⟨_, rfl, by split <;> omega, by split <;> omega⟩
  refine wl_val (opv_min (r := r) rfl rfl hr) rfl ?_
  refine wl_as rfl rfl ?_; refine wl_ns ?_; refine wc_ret ?_
  exact we_ret1 rfl rfl ⟨_, rfl, ⟨r.toNat, by omega, by omega, by rw [Int.toNat_of_nonneg (by omega)]⟩, rfl⟩
end Go.Proofs.YtpnckagibkdcpaaDoor


/-
  A skip list told as pieces; walks over levels, ahead and seek.
-/
namespace Go.Proofs.YtpnckagibkdcpaaDoor
open Go.RowKit

theorem tyPN : ∃ te, Tryd.prog.underlying 84 = some (.pointer te) := ⟨_, Tryd.underlying84⟩
theorem bin_neqPtrNil {P : Program} {t : TypeId} {a : Addr} (ht : ∃ te, P.underlying t = some (.pointer te)) : BinV P .neq t (.pointer (some a)) (.pointer none) (.bool true) := .mk fun x y w => by
  obtain ⟨te, ht⟩ := ht
  have h : ∀ d : Nat, (Op.equalIn (d + 1) t (.pointer (some a)) (.pointer none)).run P w = .ok false w := fun d => by simp [Op.equalIn, run_underlying ht]
  simp [eqGuard, binOp, Op.equal, Op.maxDepth, h 9999]
theorem bin_neqNilNil {P : Program} {t : TypeId} (ht : ∃ te, P.underlying t = some (.pointer te)) : BinV P .neq t (.pointer none) (.pointer none) (.bool false) := .mk fun x y w => by
  obtain ⟨te, ht⟩ := ht
  have h : ∀ d : Nat, (Op.equalIn (d + 1) t (.pointer none) (.pointer none)).run P w = .ok true w := fun d => by simp [Op.equalIn, run_underlying ht]
  simp [eqGuard, binOp, Op.equal, Op.maxDepth, h 9999]
/-- A node: its entry, its block, its row's block and its height. -/
structure Nd where
  a : EnA
  g : Nat
  r : Nat
  h : Nat
def pN (g : Nat) : Value := .pointer (some ⟨g, 0, none⟩)
/-- What stands next at a level. -/
def nxt (ns : List Nd) (l : Nat) : Value := match ns.find? (fun n => decide (l < n.h)) with
  | some n => pN n.g
  | none => .pointer none
def rowV (ns : List Nd) (h : Nat) : List Value := (List.range h).map (nxt ns)
theorem rowV_len (ns : List Nd) (h : Nat) : (rowV ns h).length = h := by simp [rowV]
theorem rowV_get {ns : List Nd} {h l : Nat} (hl : l < h) : (rowV ns h)[l]? = some (nxt ns l) := by simp [rowV, hl]
theorem nxt_one (ns : List Nd) (l : Nat) : (nxt ns l).oneCell' = true := by unfold nxt; split <;> rfl
def nodV (n : Nd) : List Value := eaV n.a ++ [.slice (some ⟨n.r, 0, none⟩) n.h n.h]
def ndM (ns : List Nd) (n : Nd) : List Cd := .blk n.g 70 (nodV n) :: .ow 84 (some ⟨n.r, 0, none⟩) n.h n.h (rowV ns n.h) :: enM n.a
def nodP : List Nd → List Cd
  | [] => []
  | n :: ns => ndM ns n ++ nodP ns
/-- The cells of a table, and what stands behind them in the same block. -/
def tbV (sl : Value) (cnt : Nat) (sz : Int) (ex : List Value) : List Value := .slice none 0 0 :: .int .u64 0 :: .int .u8 0 :: .slice none 0 0 :: sl :: .int .i64 (cnt : Int) :: .int .i64 sz :: ex
def hdS : Option Nat → Value
  | none => .slice none 0 0
  | some r => .slice (some ⟨r, 0, none⟩) 12 12
def hdP : Option Nat → List Nd → List Cd
  | none, _ => []
  | some r, ns => [.ow 84 (some ⟨r, 0, none⟩) 12 12 (rowV ns 12)]
/-- A table's pieces, its count told apart. -/
def tabQ (TX : TypeId × List Value) (t : Nat) (r0 : Option Nat) (ns : List Nd) (cnt : Nat) (sz : Int) : List Cd := [.blk t TX.1 (tbV (hdS r0) cnt sz TX.2), .ck (packC (hdP r0 ns)), .ck (packC (nodP ns))]
/-- A table's pieces. -/
def tabP (TX : TypeId × List Value) (t : Nat) (r0 : Option Nat) (ns : List Nd) (sz : Int) : List Cd := tabQ TX t r0 ns ns.length sz
theorem mem_nodP : ∀ {d : List Nd} {n : Nd} {rest : List Nd} {c : Cd}, c ∈ ndM rest n → c ∈ nodP (d ++ n :: rest)
  | [], n, rest, c, h => List.mem_append.2 (.inl h)
  | m :: d, n, rest, c, h => List.mem_append.2 (.inr (mem_nodP h))
/-- The node that has been come to. -/
def atP (t : Nat) (done : List Nd) : Value := match done.getLast? with
  | some n => pN n.g
  | none => pN t
theorem ar_wi {w : World} {g : Nat} {t : TypeId} {cs : List Value} (h : Ar w g t cs) (o : Nat) (ds : List Value) (hd : ∀ j u, ds[j]? = some u → cs[o + j]? = some u) : Wi w g o ds := ⟨h.lt, fun j u hu => (h.cell (o + j)).trans (hd j u hu)⟩
section
variable {M : BS} {w0 w : World} {H : List Cd} {TX : TypeId × List Value} {t r cnt : Nat} {ns : List Nd} {sz : Int}
theorem node_read (hs : St M w0 w H) (i : Nat) (hi : nthC H i = some (.ck (packC (nodP ns)))) {d rest : List Nd} {n : Nd} (hns : ns = d ++ n :: rest) : Ar w n.g 70 (nodV n) ∧ Rd w (some ⟨n.r, 0, none⟩) n.h (rowV rest n.h) ∧ RdB w n.a.A n.a.x.key ∧ RdB w n.a.B n.a.x.val := by
  obtain ⟨T, hc, _⟩ := hs.get i hi
  have h : Sat w (nodP ns) T := hc
  have hm : ∀ c ∈ ndM rest n, c ∈ nodP ns := fun c hc => by rw [hns]; exact mem_nodP hc
  obtain ⟨_, _, h1⟩ := h.mem (hm (.blk n.g 70 (nodV n)) (by simp [ndM]))
  obtain ⟨_, _, h2⟩ := h.mem (hm (.ow 84 (some ⟨n.r, 0, none⟩) n.h n.h (rowV rest n.h)) (by simp [ndM]))
  obtain ⟨_, _, h3⟩ := h.mem (hm (.ow 5 n.a.A n.a.x.key.length n.a.c (bvs n.a.x.key)) (by simp [ndM, enM, enOw]))
  obtain ⟨_, _, h4⟩ := h.mem (hm (.ow 5 n.a.B n.a.x.val.length n.a.d (bvs n.a.x.val)) (by simp [ndM, enM, enOw]))
  exact ⟨h1.2, h2.2.rd, h3.2.rd, h4.2.rd⟩
theorem node_wi (hs : St M w0 w H) (i : Nat) (hi : nthC H i = some (.ck (packC (nodP ns)))) {d rest : List Nd} {n : Nd} (hns : ns = d ++ n :: rest) : Wi w n.g (0 + 0) (eaV n.a) ∧ Wi w n.g (0 + 4) [.slice (some ⟨n.r, 0, none⟩) n.h n.h] := by
  obtain ⟨h1, _⟩ := node_read hs i hi hns
  refine ⟨ar_wi h1 _ _ fun j u hu => ?_, ar_wi h1 _ _ fun j u hu => ?_⟩
  · show (nodV n)[0 + 0 + j]? = some u
    have e : 0 + 0 + j = j := by omega
    rw [e, nodV, List.getElem?_append_left (List.getElem?_eq_some_iff.1 hu).1]; exact hu
  · have hj : j = 0 := by have := (List.getElem?_eq_some_iff.1 hu).1; simp at this; omega
    subst hj
    exact hu
theorem at_read (hs : St M w0 w H) (i j k : Nat) (hi : nthC H i = some (.blk t TX.1 (tbV (hdS (some r)) cnt sz TX.2))) (hj : nthC H j = some (.ck (packC (hdP (some r) ns)))) (hk : nthC H k = some (.ck (packC (nodP ns)))) {done rest : List Nd} (hns : ns = done ++ rest) {l : Nat} (hl : l < 12) (hh : ∀ n, done.getLast? = some n → l < n.h) :
    ∃ g rr h, atP t done = pN g ∧ Wi w g (0 + 4) [.slice (some ⟨rr, 0, none⟩) h h] ∧ l < h ∧ Rd w (some ⟨rr, 0, none⟩) h (rowV rest h) := by
  cases hd : done.getLast? with
  | none =>
    have he : done = [] := List.getLast?_eq_none_iff.1 hd
    subst he
    obtain ⟨T, hc, _⟩ := hs.get j hj
    obtain ⟨_, _, h2⟩ := Sat.mem (show Sat w (hdP (some r) ns) T from hc) List.mem_cons_self
    refine ⟨t, r, 12, rfl, ar_wi (hs.ar i hi) _ _ fun j u hu => ?_, hl, ?_⟩
    · have hj : j = 0 := by have := (List.getElem?_eq_some_iff.1 hu).1; simp at this; omega
      subst hj
      exact hu
    · rw [List.nil_append] at hns
      rw [← hns]; exact h2.2.rd
  | some n =>
    obtain ⟨d, rfl⟩ : ∃ d, done = d ++ [n] := List.getLast?_eq_some_iff.1 hd
    have hns' : ns = d ++ n :: rest := by rw [hns]; simp
    exact ⟨n.g, n.r, n.h, by rw [atP, hd], (node_wi hs k hk hns').2, hh n hd, (node_read hs k hk hns').2.1⟩
end
theorem ow_form {w : World} {base n c : Nat} {e : TypeId} {A : Option Addr} {xs : List Value} (h : Ow w base e A n c xs) (hn : 0 < n) : ∃ g, A = some ⟨g, 0, none⟩ := by
  rcases h.2 with ⟨_, h0⟩ | ⟨g, cap, cur, hv, _⟩
  · omega
  · injection hv with hA; exact ⟨g, hA⟩
/-- What was last of a beginning that goes up to a level. -/
def prv (t : Nat) (pre : List Nd) (l : Nat) : Value := atP t (pre.filter fun n => decide (l < n.h))
theorem prv_at {t : Nat} {done mid : List Nd} {l : Nat} (hd : ∀ n, done.getLast? = some n → l < n.h) (hm : ∀ n ∈ mid, ¬ l < n.h) : prv t (done ++ mid) l = atP t done := by
  have h1 : mid.filter (fun n => decide (l < n.h)) = [] := List.filter_eq_nil_iff.2 fun n hn => by simpa using hm n hn
  rw [prv, List.filter_append, h1, List.append_nil]
  cases hl : done.getLast? with
  | none => rw [List.getLast?_eq_none_iff.1 hl]; rfl
  | some n =>
    obtain ⟨d, rfl⟩ : ∃ d, done = d ++ [n] := List.getLast?_eq_some_iff.1 hl
    have : decide (l < n.h) = true := decide_eq_true (hd n hl)
    rw [List.filter_append, List.filter_cons, if_pos this, List.filter_nil]
    simp [atP]
theorem nxt_split (mid post : List Nd) (l : Nat) : (∃ m1 n m2, mid = m1 ++ n :: m2 ∧ l < n.h ∧ nxt (mid ++ post) l = pN n.g) ∨ ((∀ n ∈ mid, ¬ l < n.h) ∧ nxt (mid ++ post) l = nxt post l) := by
  induction mid with
  | nil => exact .inr ⟨by simp, rfl⟩
  | cons a mid ih =>
    by_cases h : l < a.h
    · refine .inl ⟨[], a, mid, rfl, h, ?_⟩
      rw [nxt, List.cons_append, List.find?_cons, decide_eq_true h]
    · have e : nxt (a :: mid ++ post) l = nxt (mid ++ post) l := by
        rw [nxt, List.cons_append, List.find?_cons, decide_eq_false h]; rfl
      rw [e]
      rcases ih with ⟨m1, n, m2, h1, h2, h3⟩ | ⟨h1, h2⟩
      · exact .inl ⟨a :: m1, n, m2, by rw [h1]; rfl, h2, h3⟩
      · exact .inr ⟨fun n hn => (List.mem_cons.1 hn).elim (fun e => e ▸ h) (h1 n), h2⟩
theorem nxt_post (post : List Nd) (l : Nat) : nxt post l = .pointer none ∨ ∃ p1 n p2, post = p1 ++ n :: p2 ∧ nxt post l = pN n.g := by
  have := nxt_split post [] l
  rw [List.append_nil] at this
  rcases this with ⟨m1, n, m2, h1, _, h3⟩ | ⟨_, h2⟩
  · exact .inr ⟨m1, n, m2, h1, h3⟩
  · exact .inl h2
theorem rowV_nil : rowV [] 12 = List.replicate 12 (.pointer none) := rfl
set_option maxRecDepth 8000 in
theorem levels_any {S : BS} {TX : TypeId × List Value} {t : Nat} {r0 : Option Nat} {ns : List Nd} {cnt : Nat} {sz : Int} {w : World} (h0 : Sat w (tabQ TX t r0 ns cnt sz) S) (hn : r0 = none → ns = []) :
    CallsV Tryd.prog 73 #[pN t] w fun v w' => ∃ r, v = .slice (some ⟨r, 0, none⟩) 12 12 ∧ St S w w' (tabQ TX t (some r) ns cnt sz) := by
  have hs := St.start h0
  unfold tabQ tbV at hs
  unfold pN
  refine calls_in (N := _) Tryd.func73 rfl Tryd.ntmps73 rfl ?_; show WC _ _ _ _ _ _
  cases r0 with
  | some r =>
    unfold hdS at hs
    refine wc_sr ?_; refine wl_as rfl rfl ?_; refine wl_ns ?_; refine wc_seq ?_; refine wc_sr ?_; refine wl_mv rfl rfl ?_; apply wl_val; apply opv_nilOk; exact rfl; exact rfl; apply wl_val; apply opv_fa; exact fa_N0; exact rfl; exact rfl; apply wl_val; apply opv_fa; exact fa_N1; exact rfl; exact rfl; apply wl_val; apply opv_ldX; exact rfl; exact hs.ar 0 rfl; exact e1_ns; exact rfl; exact rfl; apply wl_val; apply opv_bin; exact rfl; exact rfl; exact bin_eqlSliceNil tyN.sl; exact rfl; refine wl_ns ?_; apply wc_condFb; exact rfl; exact rfl; refine wc_skip ?_; refine we_seq ?_; refine wc_sr ?_; refine wl_mv rfl rfl ?_; apply wl_val; apply opv_nilOk; exact rfl; exact rfl; apply wl_val; apply opv_fa; exact fa_N0; exact rfl; exact rfl; apply wl_val; apply opv_fa; exact fa_N1; exact rfl; exact rfl; apply wl_val; apply opv_ldX; exact rfl; exact hs.ar 0 rfl; exact e1_ns; exact rfl; exact rfl; refine wl_as rfl rfl ?_; refine wl_ns ?_; refine wc_ret ?_
    exact we_ret1 rfl rfl ⟨_, rfl, r, rfl, hs⟩
  | none =>
    obtain rfl := hn rfl
    unfold hdS at hs
    refine wc_sr ?_; refine wl_as rfl rfl ?_; refine wl_ns ?_; refine wc_seq ?_; refine wc_sr ?_; refine wl_mv rfl rfl ?_; apply wl_val; apply opv_nilOk; exact rfl; exact rfl; apply wl_val; apply opv_fa; exact fa_N0; exact rfl; exact rfl; apply wl_val; apply opv_fa; exact fa_N1; exact rfl; exact rfl; apply wl_val; apply opv_ldX; exact rfl; exact hs.ar 0 rfl; exact e1_ns; exact rfl; exact rfl; apply wl_val; apply opv_bin; exact rfl; exact rfl; exact bin_eqlSliceNil tyN.sl; exact rfl; refine wl_ns ?_; apply wc_condTb; exact rfl; exact rfl; refine wc_region ?_; refine wl_mv rfl rfl ?_
    refine ws_mk hs tyN rfl rfl rfl rfl (by decide) (by decide) (by simp [maxLen]) rfl ?_
    clear hs; intro A w2 hs
    obtain ⟨r, rfl⟩ := ow_form (hs.ow 0 rfl) (by decide)
    replace hs := St.pk (H1 := [.ow 84 (some ⟨r, 0, none⟩) 12 12 (List.replicate 12 (.pointer none))]) hs
    apply wl_val; apply opv_nilOk; exact rfl; exact rfl; apply wl_val; apply opv_fa; exact fa_N0; exact rfl; exact rfl; apply wl_val; apply opv_fa; exact fa_N1; exact rfl; exact rfl; apply ws_st hs 1; exact rfl; exact rfl; exact e1_ns; exact rfl; exact rfl; exact rfl; clear hs; intro _ hs; dsimp only [setC, List.set] at hs; refine wl_ns ?_; refine wc_sr ?_; refine wl_mv rfl rfl ?_; apply wl_val; apply opv_nilOk; exact rfl; exact rfl; apply wl_val; apply opv_fa; exact fa_N0; exact rfl; exact rfl; apply wl_val; apply opv_fa; exact fa_N1; exact rfl; exact rfl; apply wl_val; apply opv_ldX; exact rfl; exact hs.ar 1 rfl; exact e1_ns; exact rfl; exact rfl; refine wl_as rfl rfl ?_; refine wl_ns ?_; refine wc_ret ?_
    exact we_ret1 rfl rfl ⟨_, rfl, r, rfl, (hs.drop 2 rfl).front 1 rfl⟩
theorem mod_castI {m : Nat} : ((m : Int) - 1) + 1 = m := by omega
set_option maxRecDepth 8000 in
theorem ahead_any {S : BS} {TX : TypeId × List Value} {t kn e seq : Nat} {r0 : Option Nat} {ns pre post : List Nd} {cnt : Nat} {sz : Int} {K : Option Addr} {key : List UInt8} {w : World} (h0 : Sat w (tabQ TX t r0 ns cnt sz) S) (hn : r0 = none → ns = []) (hns : ns = pre ++ post) (hpre : ∀ n ∈ pre, cmpE n.a.x key seq < 0) (hpost : ∀ n ∈ post, ¬ cmpE n.a.x key seq < 0)
    (hkn : key.length = kn) (hkey : ∀ w', Mod S w w' → RdB w' K key) :
    CallsV Tryd.prog 61 #[pN t, .slice K kn e, .int .u64 (seq : Int)] w fun v w' => ∃ r o, v = .slice (some ⟨o, 0, none⟩) 12 12 ∧ St S w w' (.ow 84 (some ⟨o, 0, none⟩) 12 12 ((List.range 12).map (prv t pre)) :: tabQ TX t (some r) ns cnt sz) := by
  subst hkn
  have hs := St.start h0
  unfold pN
  refine calls_in (N := _) Tryd.func61 rfl Tryd.ntmps61 rfl ?_; show WC _ _ _ _ _ _
  refine wc_sr ?_; refine wl_as rfl rfl ?_; refine wl_ns ?_; refine wc_sr ?_; refine wl_mv rfl rfl ?_
  obtain ⟨S2, hS2, _, _, _, hB⟩ := St.lend (H1 := tabQ TX t r0 ns cnt sz) (H2 := []) (by rw [List.append_nil]; exact hs)
  refine wl_call ok_mem_Table_levels (levels_any hS2 hn) ⟨rfl, trivial⟩ rfl ?_
  rintro _ w2 ⟨r, rfl, hsx⟩
  replace hs := hB _ _ hsx
  rw [List.append_nil] at hs
  clear hB hsx hS2
  unfold tabQ at hs
  refine wl_ns ?_; refine wc_sr ?_
  refine ws_mk hs tyN rfl rfl rfl rfl (by decide) (by decide) (by simp [maxLen]) rfl ?_
  clear hs; intro A w3 hs
  obtain ⟨o, rfl⟩ := ow_form (hs.ow 0 rfl) (by decide)
  have h12 : ((12 : Nat) : Int) = 12 := rfl
  refine wl_as rfl rfl ?_; refine wl_ns ?_; refine wc_sr ?_; refine wl_mv rfl rfl ?_; apply wl_val; apply opv_nilOk; exact rfl; exact rfl; apply wl_val; apply opv_fa; exact fa_N0; exact rfl; exact rfl; refine wl_as rfl rfl ?_; refine wl_ns ?_; refine wc_seq ?_; refine wc_sr ?_; refine wl_as rfl rfl ?_; refine wl_ns ?_; refine wc_block ?_
  refine wc_loop (fun L wr mm => ∃ (m : Nat) (done mid : List Nd) (oV : List Value), L = [(0, pN t), (1, .slice K key.length e), (2, .int .u64 (seq : Int)), (7, .slice (some ⟨o, 0, none⟩) 12 12), (8, atP t done), (9, .int .i64 ((m : Int) - 1))] ∧ m ≤ 12 ∧ pre = done ++ mid ∧ (∀ n, done.getLast? = some n → m ≤ n.h) ∧ oV.length = 12 ∧ (∀ l, m ≤ l → l < 12 → oV[l]? = some (prv t pre l)) ∧ St S w wr (.ow 84 (some ⟨o, 0, none⟩) 12 12 oV :: tabQ TX t (some r) ns cnt sz) ∧ mm = m)
    [(0, pN t), (1, .slice K key.length e), (2, .int .u64 (seq : Int)), (7, .slice (some ⟨o, 0, none⟩) 12 12), (8, pN t), (9, .int .i64 (((12 : Nat) : Int) - 1))] 12 ⟨12, [], pre, _, rfl, by omega, rfl, by simp, by simp, fun l h1 h2 => by omega, hs, rfl⟩ ⟨rfl, rfl, rfl, rfl, rfl, rfl, trivial⟩ ?_
  clear hs
  rintro _ w4 mm ⟨m, done, mid, oV, rfl, hm, hpm, hlast, hoV, hov, hs, rfl⟩
  cases mm with
  | zero =>
    have h1 : ¬ (0 : Int) ≤ ((0 : Nat) : Int) - 1 := by omega
    have he : oV = (List.range 12).map (prv t pre) := by
      apply List.ext_getElem?
      intro l
      rcases Nat.lt_or_ge l 12 with h | h
      · rw [hov l (by omega) h]; simp [h]
      · rw [List.getElem?_eq_none (by omega), List.getElem?_eq_none (by simp; omega)]
    rw [he] at hs
    refine wc_seq ?_; refine wc_sr ?_; refine wl_mv rfl rfl ?_; refine wl_bin rfl rfl bin_geq rfl ?_; refine wl_ns ?_; apply wc_condFb; exact rfl; exact rfl; refine wc_exit ?_; refine we_seq_exit ?_; refine we_loop_exit ?_; refine we_block_exit ?_; refine we_seq ?_; refine wc_sr ?_; refine wl_mv rfl rfl ?_; refine wl_as rfl rfl ?_; refine wl_ns ?_; refine wc_ret ?_
    exact we_ret1 rfl rfl ⟨_, rfl, r, o, rfl, hs⟩
  | succ l =>
    rw [natc_pred]
    have h1 : (0 : Int) ≤ (l : Int) := by omega
    refine wc_seq ?_; refine wc_sr ?_; refine wl_mv rfl rfl ?_; refine wl_bin rfl rfl bin_geq rfl ?_; refine wl_ns ?_; apply wc_condTb; exact rfl; exact rfl; refine wc_skip ?_; refine we_seq ?_; refine wc_seq ?_; refine wc_block ?_; refine wc_seq ?_; refine wc_block ?_
    refine wc_loop (fun L wr mm => ∃ (d2 mid2 : List Nd), L = [(0, pN t), (1, .slice K key.length e), (2, .int .u64 (seq : Int)), (7, .slice (some ⟨o, 0, none⟩) 12 12), (8, atP t d2), (9, .int .i64 (l : Int))] ∧ pre = d2 ++ mid2 ∧ (∀ n, d2.getLast? = some n → l < n.h) ∧ St S w wr (.ow 84 (some ⟨o, 0, none⟩) 12 12 oV :: tabQ TX t (some r) ns cnt sz) ∧ mm = mid2.length)
      [(0, pN t), (1, .slice K key.length e), (2, .int .u64 (seq : Int)), (7, .slice (some ⟨o, 0, none⟩) 12 12), (8, atP t done), (9, .int .i64 (l : Int))] mid.length ⟨done, mid, rfl, hpm, fun n hn => hlast n hn, hs, rfl⟩ ⟨rfl, rfl, rfl, rfl, rfl, rfl, trivial⟩ ?_
    clear hs hpm hlast
    rintro _ w5 mm ⟨d2, mid2, rfl, hpm2, hlast2, hs, rfl⟩
    unfold tabQ at hs
    have hns2 : ns = d2 ++ (mid2 ++ post) := by rw [hns, hpm2, List.append_assoc]
    obtain ⟨g, rr, h, hat, hw4, hlh, hrow⟩ := at_read hs 1 2 3 rfl rfl rfl hns2 (show l < 12 by omega) hlast2
    have hu := rowV_get (ns := mid2 ++ post) hlh
    rw [hat]
    unfold pN
    rcases nxt_split mid2 post l with ⟨m1, n, m2, hm1, hln, hnx⟩ | ⟨hno, hnx⟩
    · rw [hnx] at hu
      unfold pN at hu
      have hns3 : ns = (d2 ++ m1) ++ n :: (m2 ++ post) := by rw [hns2, hm1]; simp
      obtain ⟨j1, _⟩ := node_wi hs 3 rfl hns3
      obtain ⟨_, _, rn, _⟩ := node_read hs 3 rfl hns3
      have hlt : cmpE n.a.x key seq < 0 := hpre n (by rw [hpm2, hm1]; simp)
      unfold eaV at j1
      refine wc_seq ?_; refine wc_sr ?_; refine wl_mv rfl rfl ?_; apply wl_val; apply opv_nilOk; exact rfl; exact rfl; apply wl_val; apply opv_fa; exact fa_N1; exact rfl; exact rfl; apply wl_val; apply opv_ldW0; exact rfl; assumption; exact e1_ns; exact rfl; exact rfl; refine wl_mv rfl rfl ?_; apply wl_elK (T := tyN) (hr := hrow) (hb := hu); exact rfl; exact rfl; exact rfl; exact rfl; exact rfl; intro _; apply wl_val; apply opv_bin; exact rfl; exact rfl; exact bin_neqPtrNil tyPN; exact rfl; refine wl_mv rfl rfl ?_; apply wl_take; exact rfl; exact rfl; exact rfl; exact rfl; refine wl_mv rfl rfl ?_; apply wl_take; exact rfl; exact rfl; exact rfl; exact rfl; apply wl_val; apply opv_nilOk; exact rfl; exact rfl; apply wl_take; exact rfl; exact rfl; exact rfl; exact rfl; apply wl_val; apply opv_fa; exact fa_N1; exact rfl; exact rfl; apply wl_take; exact rfl; exact rfl; exact rfl; exact rfl; apply wl_val; apply opv_ldW0; exact rfl; assumption; exact e1_ns; exact rfl; exact rfl; apply wl_take; exact rfl; exact rfl; exact rfl; exact rfl; refine wl_mv rfl rfl ?_; apply wl_elTK (T := tyN) (hr := hrow) (hb := hu); exact rfl; exact rfl; exact rfl; exact rfl; exact rfl; exact rfl; exact rfl; exact rfl; exact rfl; exact rfl; exact rfl; exact rfl; exact rfl; exact rfl; intro _; apply wl_take; exact rfl; exact rfl; exact rfl; exact rfl; apply wl_val; apply opv_nilOk; exact rfl; exact rfl; apply wl_take; exact rfl; exact rfl; exact rfl; exact rfl; apply wl_val; apply opv_fa; exact fa_N0; exact rfl; exact rfl; apply wl_take; exact rfl; exact rfl; exact rfl; exact rfl; apply wl_val; apply opv_ldG; exact rfl; assumption; exact sE; exact rfl; apply wl_take; exact rfl; exact rfl; exact rfl; exact rfl; refine wl_mv rfl rfl ?_; apply wl_take; exact rfl; exact rfl; exact rfl; exact rfl; refine wl_mv rfl rfl ?_; apply wl_take; exact rfl; exact rfl; exact rfl; exact rfl
      refine wl_call ok_mem_compare (compare_any (x := n.a.x) rn (hkey _ hs.1) rfl) ⟨rfl, rfl, rfl, trivial⟩ rfl ?_
      rintro _ w6 ⟨rfl, hbx⟩
      replace hs := hs.below hbx
      replace hw4 := hw4.below hbx
      replace hrow := hrow.below hbx
      apply wl_take; exact rfl; exact rfl; exact rfl; exact rfl; refine wl_bin rfl rfl bin_lss rfl ?_; apply wl_val; apply opv_pickT; exact rfl; exact rfl; exact rfl; exact rfl; refine wl_ns ?_; apply wc_decT; exact rfl; (with_reducible assumption); refine wc_skip ?_; refine we_seq ?_; refine wc_block ?_; refine wc_region ?_; refine wl_mv rfl rfl ?_; apply wl_val; apply opv_nilOk; exact rfl; exact rfl; apply wl_val; apply opv_fa; exact fa_N1; exact rfl; exact rfl; apply wl_val; apply opv_ldW0; exact rfl; assumption; exact e1_ns; exact rfl; exact rfl; refine wl_mv rfl rfl ?_; apply wl_elK (T := tyN) (hr := hrow) (hb := hu); exact rfl; exact rfl; exact rfl; exact rfl; exact rfl; intro _; refine wl_as rfl rfl ?_; refine wl_nil ?_; refine we_block_norm ?_
      refine we_loop _ m2.length ⟨(d2 ++ m1) ++ [n], m2, rfl, by rw [hpm2, hm1]; simp, fun n' hn' => by simp at hn'; rw [← hn']; exact hln, hs, rfl⟩ (by rw [hm1]; simp; omega) ⟨rfl, rfl, rfl, rfl, by simp [atP, lookT]; rfl, rfl, trivial⟩
    · rw [hnx] at hu
      rcases nxt_post post l with hnp | ⟨p1, n, p2, hp1, hnp⟩
      · rw [hnp] at hu
        refine wc_seq ?_; refine wc_sr ?_; refine wl_mv rfl rfl ?_; apply wl_val; apply opv_nilOk; exact rfl; exact rfl; apply wl_val; apply opv_fa; exact fa_N1; exact rfl; exact rfl; apply wl_val; apply opv_ldW0; exact rfl; assumption; exact e1_ns; exact rfl; exact rfl; refine wl_mv rfl rfl ?_; apply wl_elK (T := tyN) (hr := hrow) (hb := hu); exact rfl; exact rfl; exact rfl; exact rfl; exact rfl; intro _; apply wl_val; apply opv_bin; exact rfl; exact rfl; exact bin_neqNilNil tyPN; exact rfl; refine wl_mv rfl rfl ?_; apply wl_skip; exact rfl; exact rfl; exact rfl; exact bR2; exact rfl; apply wl_skip; exact rfl; exact rfl; exact rfl; exact bR2; exact rfl; apply wl_skip; exact rfl; exact rfl; exact rfl; exact bR2; exact rfl; apply wl_skip; exact rfl; exact rfl; exact rfl; exact bR2; exact rfl; apply wl_skip; exact rfl; exact rfl; exact rfl; exact bR2; exact rfl; apply wl_skip; exact rfl; exact rfl; exact rfl; exact bR2; exact rfl; apply wl_skip; exact rfl; exact rfl; exact rfl; exact bR2; exact rfl; apply wl_skip; exact rfl; exact rfl; exact rfl; exact bR2; exact rfl; apply wl_skip; exact rfl; exact rfl; exact rfl; exact bR2; exact rfl; apply wl_skip; exact rfl; exact rfl; exact rfl; exact bR2; exact rfl; apply wl_skip; exact rfl; exact rfl; exact rfl; exact bR2; exact rfl; apply wl_skip; exact rfl; exact rfl; exact rfl; exact bR2; exact rfl; apply wl_skip; exact rfl; exact rfl; exact rfl; exact bR2; exact rfl; apply wl_skip; exact rfl; exact rfl; exact rfl; exact bR2; exact rfl; apply wl_val; apply opv_pickF; exact rfl; exact rfl; exact rfl; exact rfl; refine wl_ns ?_; apply wc_condFb; exact rfl; exact rfl; refine wc_exit ?_; refine we_seq_exit ?_; refine we_loop_exit ?_; refine we_block_exit ?_; refine we_seq ?_; refine wc_region ?_; refine wl_mv rfl rfl ?_; refine wl_mv rfl rfl ?_; refine wl_mv rfl rfl ?_
        refine ws_set hs 0 rfl rfl tyN rfl rfl (show l < 12 by omega) (fun _ => rfl) rfl rfl ?_
        clear hs; intro _ w7 hs; dsimp only [setC] at hs
        refine wl_nil ?_; refine we_block_norm ?_; refine we_seq ?_; refine wc_region ?_; refine wl_mv rfl rfl ?_; apply wl_val; apply opv_bin; exact rfl; exact rfl; exact bin_sub64 (by omega); exact rfl; refine wl_as rfl rfl ?_; refine wl_nil ?_
        refine we_loop _ l ⟨l, d2, mid2, _, rfl, by omega, hpm2, fun n hn => Nat.le_of_lt (hlast2 n hn), by rw [List.length_set]; exact hoV, fun l' h1 h2 => ?_, hs, rfl⟩ (by omega) ⟨rfl, rfl, rfl, rfl, by rw [hat]; rfl, rfl, trivial⟩
        rcases Nat.lt_or_ge l l' with h | h
        · rw [List.getElem?_set_ne (by omega)]; exact hov l' (by omega) h2
        · obtain rfl : l' = l := by omega
          rw [List.getElem?_set_self (by omega), hpm2, prv_at hlast2 hno, hat]; rfl
      · rw [hnp] at hu
        unfold pN at hu
        have hns3 : ns = (d2 ++ mid2 ++ p1) ++ n :: p2 := by rw [hns2, hp1]; simp
        obtain ⟨j1, _⟩ := node_wi hs 3 rfl hns3
        obtain ⟨_, _, rn, _⟩ := node_read hs 3 rfl hns3
        have hlt : ¬ cmpE n.a.x key seq < 0 := hpost n (by rw [hp1]; simp)
        unfold eaV at j1
        refine wc_seq ?_; refine wc_sr ?_; refine wl_mv rfl rfl ?_; apply wl_val; apply opv_nilOk; exact rfl; exact rfl; apply wl_val; apply opv_fa; exact fa_N1; exact rfl; exact rfl; apply wl_val; apply opv_ldW0; exact rfl; assumption; exact e1_ns; exact rfl; exact rfl; refine wl_mv rfl rfl ?_; apply wl_elK (T := tyN) (hr := hrow) (hb := hu); exact rfl; exact rfl; exact rfl; exact rfl; exact rfl; intro _; apply wl_val; apply opv_bin; exact rfl; exact rfl; exact bin_neqPtrNil tyPN; exact rfl; refine wl_mv rfl rfl ?_; apply wl_take; exact rfl; exact rfl; exact rfl; exact rfl; refine wl_mv rfl rfl ?_; apply wl_take; exact rfl; exact rfl; exact rfl; exact rfl; apply wl_val; apply opv_nilOk; exact rfl; exact rfl; apply wl_take; exact rfl; exact rfl; exact rfl; exact rfl; apply wl_val; apply opv_fa; exact fa_N1; exact rfl; exact rfl; apply wl_take; exact rfl; exact rfl; exact rfl; exact rfl; apply wl_val; apply opv_ldW0; exact rfl; assumption; exact e1_ns; exact rfl; exact rfl; apply wl_take; exact rfl; exact rfl; exact rfl; exact rfl; refine wl_mv rfl rfl ?_; apply wl_elTK (T := tyN) (hr := hrow) (hb := hu); exact rfl; exact rfl; exact rfl; exact rfl; exact rfl; exact rfl; exact rfl; exact rfl; exact rfl; exact rfl; exact rfl; exact rfl; exact rfl; exact rfl; intro _; apply wl_take; exact rfl; exact rfl; exact rfl; exact rfl; apply wl_val; apply opv_nilOk; exact rfl; exact rfl; apply wl_take; exact rfl; exact rfl; exact rfl; exact rfl; apply wl_val; apply opv_fa; exact fa_N0; exact rfl; exact rfl; apply wl_take; exact rfl; exact rfl; exact rfl; exact rfl; apply wl_val; apply opv_ldG; exact rfl; assumption; exact sE; exact rfl; apply wl_take; exact rfl; exact rfl; exact rfl; exact rfl; refine wl_mv rfl rfl ?_; apply wl_take; exact rfl; exact rfl; exact rfl; exact rfl; refine wl_mv rfl rfl ?_; apply wl_take; exact rfl; exact rfl; exact rfl; exact rfl
        refine wl_call ok_mem_compare (compare_any (x := n.a.x) rn (hkey _ hs.1) rfl) ⟨rfl, rfl, rfl, trivial⟩ rfl ?_
        rintro _ w6 ⟨rfl, hbx⟩
        replace hs := hs.below hbx
        apply wl_take; exact rfl; exact rfl; exact rfl; exact rfl; refine wl_bin rfl rfl bin_lss rfl ?_; apply wl_val; apply opv_pickT; exact rfl; exact rfl; exact rfl; exact rfl; refine wl_ns ?_; apply wc_decF; exact rfl; (with_reducible assumption); refine wc_exit ?_; refine we_seq_exit ?_; refine we_loop_exit ?_; refine we_block_exit ?_; refine we_seq ?_; refine wc_region ?_; refine wl_mv rfl rfl ?_; refine wl_mv rfl rfl ?_; refine wl_mv rfl rfl ?_
        refine ws_set hs 0 rfl rfl tyN rfl rfl (show l < 12 by omega) (fun _ => rfl) rfl rfl ?_
        clear hs; intro _ w7 hs; dsimp only [setC] at hs
        refine wl_nil ?_; refine we_block_norm ?_; refine we_seq ?_; refine wc_region ?_; refine wl_mv rfl rfl ?_; apply wl_val; apply opv_bin; exact rfl; exact rfl; exact bin_sub64 (by omega); exact rfl; refine wl_as rfl rfl ?_; refine wl_nil ?_
        refine we_loop _ l ⟨l, d2, mid2, _, rfl, by omega, hpm2, fun n hn => Nat.le_of_lt (hlast2 n hn), by rw [List.length_set]; exact hoV, fun l' h1 h2 => ?_, hs, rfl⟩ (by omega) ⟨rfl, rfl, rfl, rfl, by rw [hat]; rfl, rfl, trivial⟩
        rcases Nat.lt_or_ge l l' with h | h
        · rw [List.getElem?_set_ne (by omega)]; exact hov l' (by omega) h2
        · obtain rfl : l' = l := by omega
          rw [List.getElem?_set_self (by omega), hpm2, prv_at hlast2 hno, hat]; rfl
end Go.Proofs.YtpnckagibkdcpaaDoor


/-
  Walks over seek and there of a table.
-/
namespace Go.Proofs.YtpnckagibkdcpaaDoor
open Go.RowKit

/-- The first of some nodes. -/
def fstN : List Nd → Value
  | [] => .pointer none
  | n :: _ => pN n.g
theorem nxt_zero {ns : List Nd} (h : ∀ n ∈ ns, 1 ≤ n.h) : nxt ns 0 = fstN ns := by
  cases ns with
  | nil => rfl
  | cons n ns => rw [nxt, List.find?_cons, decide_eq_true (by have := h n List.mem_cons_self; omega)]; rfl
theorem prv_zero {t : Nat} {pre : List Nd} (h : ∀ n ∈ pre, 1 ≤ n.h) : prv t pre 0 = atP t pre := by
  have := prv_at (t := t) (done := pre) (mid := []) (l := 0) (fun n hn => h n (List.mem_of_getLast? hn)) (by simp)
  rwa [List.append_nil] at this
theorem seek_any {S : BS} {TX : TypeId × List Value} {t kn e seq : Nat} {r0 : Option Nat} {ns pre post : List Nd} {sz : Int} {K : Option Addr} {key : List UInt8} {w : World} (h0 : Sat w (tabP TX t r0 ns sz) S) (hn : r0 = none → ns = []) (hns : ns = pre ++ post) (hpre : ∀ n ∈ pre, cmpE n.a.x key seq < 0) (hpost : ∀ n ∈ post, ¬ cmpE n.a.x key seq < 0)
    (hh : ∀ n ∈ ns, 1 ≤ n.h) (hkn : key.length = kn) (hkey : ∀ w', Mod S w w' → RdB w' K key) :
    CallsV Tryd.prog 48 #[pN t, .slice K kn e, .int .u64 (seq : Int)] w fun v w' => ∃ r, v = fstN post ∧ St S w w' (tabP TX t (some r) ns sz) := by
  have hs := St.start h0
  unfold pN
  refine calls_in (N := _) Tryd.func48 rfl Tryd.ntmps48 rfl ?_; show WC _ _ _ _ _ _
  refine wc_sr ?_; refine wl_as rfl rfl ?_; refine wl_ns ?_; refine wc_sr ?_; refine wl_mv rfl rfl ?_; refine wl_mv rfl rfl ?_; refine wl_mv rfl rfl ?_
  obtain ⟨S2, hS2, _, hM, _, hB⟩ := St.lend (H1 := tabP TX t r0 ns sz) (H2 := []) (by rw [List.append_nil]; exact hs)
  refine wl_call ok_mem_Table_ahead (ahead_any hS2 hn hns hpre hpost hkn fun w' hm => hkey w' (hM w' hm)) ⟨rfl, rfl, rfl, trivial⟩ rfl ?_
  rintro _ w2 ⟨r, o, rfl, hsx⟩
  replace hs := hB _ _ hsx
  rw [List.append_nil] at hs
  simp only [tabP, tabQ] at hs
  have hout := (hs.ow 0 rfl).rd
  have hu : ((List.range 12).map (prv t pre))[0]? = some (atP t pre) := by rw [← prv_zero fun n h => hh n (by rw [hns]; exact List.mem_append_left _ h)]; rfl
  obtain ⟨g, rr, h, hat, hw4, hlh, hrow⟩ := at_read hs 1 2 3 rfl rfl rfl hns (show 0 < 12 by omega) fun n hn => hh n (by rw [hns]; exact List.mem_append_left _ (List.mem_of_getLast? hn))
  rw [hat] at hu
  unfold pN at hu
  have hu2 := rowV_get (ns := post) hlh
  rw [nxt_zero fun n h => hh n (by rw [hns]; exact List.mem_append_right _ h)] at hu2
  apply wl_elK (T := tyN) (hr := hout) (hb := hu); exact rfl; exact rfl; exact rfl; exact rfl; exact rfl; intro _; apply wl_val; apply opv_nilOk; exact rfl; exact rfl; apply wl_val; apply opv_fa; exact fa_N1; exact rfl; exact rfl; apply wl_val; apply opv_ldW0; exact rfl; assumption; exact e1_ns; exact rfl; exact rfl; apply wl_elK (T := tyN) (hr := hrow) (hb := hu2); exact rfl; exact rfl; exact rfl; exact rfl; exact rfl; intro _; refine wl_as rfl rfl ?_; refine wl_ns ?_; refine wc_ret ?_
  exact we_ret1 rfl rfl ⟨_, rfl, r, rfl, hs.drop 0 rfl⟩
end Go.Proofs.YtpnckagibkdcpaaDoor


/-
  Walk over there of a table.
-/
namespace Go.Proofs.YtpnckagibkdcpaaDoor
open Go.RowKit

/-- Does the first of some nodes stand at a key and Seq? -/
def thB (post : List Nd) (key : List UInt8) (seq : Nat) : Bool := match post with
  | [] => false
  | n :: _ => decide (cmpE n.a.x key seq = 0)
theorem there_any {S : BS} {TX : TypeId × List Value} {t c d : Nat} {r0 : Option Nat} {ns pre post : List Nd} {sz : Int} {A B : Option Addr} {x : En} {w : World} (h0 : Sat w (tabP TX t r0 ns sz) S) (hn : r0 = none → ns = []) (hns : ns = pre ++ post) (hpre : ∀ n ∈ pre, cmpE n.a.x x.key x.seq < 0) (hpost : ∀ n ∈ post, ¬ cmpE n.a.x x.key x.seq < 0)
    (hh : ∀ n ∈ ns, 1 ≤ n.h) (hkey : ∀ w', Mod S w w' → RdB w' A x.key) :
    CallsV Tryd.prog 42 #[pN t, .agg (enV x A c B d).toArray] w fun v w' => ∃ r, v = .bool (thB post x.key x.seq) ∧ St S w w' (tabP TX t (some r) ns sz) := by
  have hs := St.start h0
  unfold pN
  refine calls_in (N := _) Tryd.func42 rfl Tryd.ntmps42 rfl ?_; show WC _ _ _ _ _ _
  refine wc_sr ?_
  refine ws_box (cs := enV x A c B d) hs rfl rfl ?_; clear hs; intro g3 _ hs
  refine wl_as rfl rfl ?_; refine wl_ns ?_; refine wc_sr ?_; refine wl_mv rfl rfl ?_; apply wl_val; apply opv_fa; exact fa_sE (by decide); exact rfl; exact rfl; apply wl_val; apply opv_ldX; exact rfl; exact hs.ar 0 rfl; exact e1_by; exact rfl; exact rfl; apply wl_val; apply opv_fa; exact fa_sE (by decide); exact rfl; exact rfl; apply wl_val; apply opv_ldX; exact rfl; exact hs.ar 0 rfl; exact e1_u64; exact rfl; exact rfl
  unfold enV at hs
  skip
  obtain ⟨S2, hS2, _, hM, _, hB⟩ := St.lend (H1 := tabP TX t r0 ns sz) (H2 := [.blk g3 39 (enV x A c B d)]) (((hs.front 3 rfl).front 3 rfl).front 3 rfl)
  refine wl_call ok_mem_Table_seek (seek_any hS2 hn hns hpre hpost hh rfl fun w' hm => hkey w' (hM w' hm)) ⟨rfl, rfl, rfl, trivial⟩ rfl ?_
  rintro _ w2 ⟨r, rfl, hsx⟩
  replace hs := hB _ _ hsx
  clear hB hsx hS2 hM
  simp only [tabP, tabQ] at hs
  unfold enV at hs
  dsimp only [List.cons_append, List.nil_append] at hs
  have a3 := hs.ar 3 rfl
  refine wl_as rfl rfl ?_; refine wl_ns ?_; refine wc_seq ?_
  refine wc_heldB mixed fun w3 hS => ?_
  cases post with
  | nil =>
    unfold fstN
    apply wh_takeH 0; exact rfl; intro _ hw_; apply opv_move; exact rfl; exact rfl; kernel_rfl; exact hS; apply wh_takeH 1; exact rfl; intro _ hw_; apply opv_bin; exact rfl; exact rfl; exact bin_neqNilNil tyPN; exact rfl; kernel_rfl; exact hS; apply wh_takeH 2; exact rfl; intro _ hw_; apply opv_move; exact rfl; exact rfl; kernel_rfl; exact hS; apply wh_skipGH 3; exact rfl; exact rfl; exact rfl; exact rfl; exact bR2; exact rfl; kernel_rfl; exact hS; apply wh_skipGH 4; exact rfl; exact rfl; exact rfl; exact rfl; exact bR2; exact rfl; kernel_rfl; exact hS; apply wh_skipGH 5; exact rfl; exact rfl; exact rfl; exact rfl; exact bR2; exact rfl; kernel_rfl; exact hS; apply wh_skipGH 6; exact rfl; exact rfl; exact rfl; exact rfl; exact bR2; exact rfl; kernel_rfl; exact hS; apply wh_skipGH 7; exact rfl; exact rfl; exact rfl; exact rfl; exact bR2; exact rfl; kernel_rfl; exact hS; apply wh_skipGH 8; exact rfl; exact rfl; exact rfl; exact rfl; exact bR2; exact rfl; kernel_rfl; exact hS; apply wh_skipGH 9; exact rfl; exact rfl; exact rfl; exact rfl; exact bR2; exact rfl; kernel_rfl; exact hS; apply wh_skipGH 10; exact rfl; exact rfl; exact rfl; exact rfl; exact bR2; exact rfl; kernel_rfl; exact hS; apply wh_skipGH 11; exact rfl; exact rfl; exact rfl; exact rfl; exact bR2; exact rfl; kernel_rfl; exact hS; apply wh_skipGH 12; exact rfl; exact rfl; exact rfl; exact rfl; exact bR2; exact rfl; kernel_rfl; exact hS; apply wh_takeH 13; exact rfl; intro _ hw_; apply opv_pickF; exact rfl; exact rfl; exact rfl; exact rfl; kernel_rfl; exact hS; apply wh_takeH 14; exact rfl; intro _ hw_; apply opv_assign; exact rfl; exact rfl; kernel_rfl; exact hS
    refine wh_done (by kernel_rfl) ?_
    refine we_seq ?_; refine wc_ret ?_
    exact we_ret1 rfl rfl ⟨_, rfl, r, rfl, (hs.below hS).drop 3 rfl⟩
  | cons n post =>
    unfold fstN pN
    obtain ⟨j1, _⟩ := node_wi hs 2 rfl hns
    obtain ⟨_, _, rn, _⟩ := node_read hs 2 rfl hns
    unfold eaV at j1
    apply wh_takeH 0; exact rfl; intro _ hw_; apply opv_move; exact rfl; exact rfl; kernel_rfl; exact hS; apply wh_takeH 1; exact rfl; intro _ hw_; apply opv_bin; exact rfl; exact rfl; exact bin_neqPtrNil tyPN; exact rfl; kernel_rfl; exact hS; apply wh_takeH 2; exact rfl; intro _ hw_; apply opv_move; exact rfl; exact rfl; kernel_rfl; exact hS; apply wh_takeGH 3; exact rfl; exact rfl; exact rfl; exact rfl; exact rfl; intro _ hw_; apply opv_move; exact rfl; exact rfl; kernel_rfl; exact hS; apply wh_takeGH 4; exact rfl; exact rfl; exact rfl; exact rfl; exact rfl; intro _ hw_; apply opv_nilOk; exact rfl; exact rfl; kernel_rfl; exact hS; apply wh_takeGH 5; exact rfl; exact rfl; exact rfl; exact rfl; exact rfl; intro _ hw_; apply opv_fa; exact fa_N0; exact rfl; exact rfl; kernel_rfl; exact hS; apply wh_takeGH 6; exact rfl; exact rfl; exact rfl; exact rfl; exact rfl; intro _ hw_; apply opv_ldG; exact rfl; exact Wi.below (by assumption) hw_; exact sE; exact rfl; kernel_rfl; exact hS; apply wh_takeGH 7; exact rfl; exact rfl; exact rfl; exact rfl; exact rfl; intro _ hw_; apply opv_fa; exact fa_sE (by decide); exact rfl; exact rfl; kernel_rfl; exact hS; apply wh_takeGH 8; exact rfl; exact rfl; exact rfl; exact rfl; exact rfl; intro _ hw_; apply opv_ldX; exact rfl; exact Ar.bel (by assumption) hw_; exact e1_by; exact rfl; exact rfl; kernel_rfl; exact hS; apply wh_takeGH 9; exact rfl; exact rfl; exact rfl; exact rfl; exact rfl; intro _ hw_; apply opv_fa; exact fa_sE (by decide); exact rfl; exact rfl; kernel_rfl; exact hS; apply wh_takeGH 10; exact rfl; exact rfl; exact rfl; exact rfl; exact rfl; intro _ hw_; apply opv_ldX; exact rfl; exact Ar.bel (by assumption) hw_; exact e1_u64; exact rfl; exact rfl; kernel_rfl; exact hS
    refine wh_one 11 (o := ⟨_, _, _, _, _, _⟩) (by kernel_rfl) rfl ?_
    apply wl_take; exact rfl; exact rfl; exact rfl; exact rfl
    refine wl_call ok_mem_compare (compare_any (x := n.a.x) (rn.below hS) ((hkey _ hs.1).below hS) rfl) ⟨rfl, rfl, rfl, trivial⟩ rfl ?_
    rintro _ w4 ⟨rfl, hbx⟩
    replace hS := hS.trans (hbx.mono hS.size)
    refine wl_nil ?_
    refine we_held hS ?_
    refine wh_takeG 12 rfl (by kernel_rfl) (by kernel_rfl) (by kernel_rfl) hS rfl rfl rfl rfl (fun _ _ => opv_bin rfl rfl bin_eql) rfl ?_
    apply wh_takeH 13; exact rfl; intro _ hw_; apply opv_pickT; exact rfl; exact rfl; exact rfl; exact rfl; kernel_rfl; exact hS; apply wh_takeH 14; exact rfl; intro _ hw_; apply opv_assign; exact rfl; exact rfl; kernel_rfl; exact hS
    refine wh_done (by kernel_rfl) ?_
    refine we_seq ?_; refine wc_ret ?_
    exact we_ret1 rfl rfl ⟨_, rfl, r, rfl, (hs.below hS).drop 3 rfl⟩
end Go.Proofs.YtpnckagibkdcpaaDoor


/-
  A skip list into which a node is being put: rows up to a level, and stores among pieces.
-/
namespace Go.Proofs.YtpnckagibkdcpaaDoor
open Go.RowKit

/-- A row of which the levels below j are new. -/
def rowJ (j : Nat) (ns' ns : List Nd) (h : Nat) : List Value := (List.range h).map fun l => if l < j then nxt ns' l else nxt ns l
theorem rowJ_len (j : Nat) (ns' ns : List Nd) (h : Nat) : (rowJ j ns' ns h).length = h := by simp [rowJ]
theorem rowJ_get {j : Nat} {ns' ns : List Nd} {h l : Nat} (hl : l < h) : (rowJ j ns' ns h)[l]? = some (if l < j then nxt ns' l else nxt ns l) := by simp [rowJ, hl]
theorem rowJ_zero (ns' ns : List Nd) (h : Nat) : rowJ 0 ns' ns h = rowV ns h := by simp [rowJ, rowV]
theorem rowJ_all {j : Nat} {ns' ns : List Nd} {h : Nat} (hh : ∀ l, j ≤ l → l < h → nxt ns' l = nxt ns l) : rowJ j ns' ns h = rowV ns' h := by
  refine List.map_congr_left fun l hl => ?_
  have hl' := List.mem_range.1 hl
  by_cases h1 : l < j
  · rw [if_pos h1]
  · rw [if_neg h1, hh l (by omega) hl']
/-- One level on, where the level's next is the same. -/
theorem rowJ_same {j : Nat} {ns' ns : List Nd} {h : Nat} (hh : j < h → nxt ns' j = nxt ns j) : rowJ (j + 1) ns' ns h = rowJ j ns' ns h := by
  refine List.map_congr_left fun l hl => ?_
  have hl' := List.mem_range.1 hl
  by_cases h1 : l < j
  · rw [if_pos h1, if_pos (by omega)]
  · rw [if_neg h1]
    by_cases h2 : l = j
    · subst h2; rw [if_pos (by omega), hh hl']
    · rw [if_neg (by omega)]
/-- One level on, where it is written. -/
theorem rowJ_set {j : Nat} {ns' ns : List Nd} {h : Nat} : rowJ (j + 1) ns' ns h = (rowJ j ns' ns h).set j (nxt ns' j) := by
  refine List.ext_getElem? fun l => ?_
  rcases Nat.lt_or_ge l h with h1 | h1
  · rw [rowJ_get h1]
    by_cases h2 : j = l
    · subst h2
      rw [List.getElem?_set_self (by rw [rowJ_len]; exact h1), if_pos (by omega)]
    · rw [List.getElem?_set_ne h2, rowJ_get h1]
      by_cases h3 : l < j
      · rw [if_pos h3, if_pos (by omega)]
      · rw [if_neg h3, if_neg (by omega)]
  · rw [List.getElem?_eq_none (by rw [rowJ_len]; exact h1), List.getElem?_eq_none (by rw [List.length_set, rowJ_len]; exact h1)]
theorem nxt_skip {N : Nd} {tl : List Nd} {l : Nat} (h : N.h ≤ l) : ∀ d : List Nd, nxt (d ++ N :: tl) l = nxt (d ++ tl) l
  | [] => by rw [List.nil_append, nxt, List.find?_cons, decide_eq_false (by omega)]; rfl
  | a :: d => by
    have ih := nxt_skip (tl := tl) h d
    rw [List.cons_append, List.cons_append, nxt, nxt, List.find?_cons, List.find?_cons]
    by_cases h1 : l < a.h
    · rw [decide_eq_true h1]
    · rw [decide_eq_false h1]; exact ih
theorem nxt_hit {n : Nd} {l : Nat} (h : l < n.h) (a b : List Nd) : ∀ d : List Nd, nxt (d ++ n :: a) l = nxt (d ++ n :: b) l
  | [] => by rw [List.nil_append, List.nil_append, nxt, nxt, List.find?_cons, List.find?_cons, decide_eq_true h]
  | x :: d => by
    have ih := nxt_hit h a b d
    rw [List.cons_append, List.cons_append, nxt, nxt, List.find?_cons, List.find?_cons]
    by_cases h1 : l < x.h
    · rw [decide_eq_true h1]
    · rw [decide_eq_false h1]; exact ih
theorem nxt_pass {l : Nat} (tl : List Nd) : ∀ {mid : List Nd}, (∀ n ∈ mid, ¬ l < n.h) → nxt (mid ++ tl) l = nxt tl l
  | [], _ => rfl
  | x :: mid, h => by
    have ih := nxt_pass tl fun n hn => h n (List.mem_cons_of_mem _ hn)
    rw [List.cons_append, nxt, List.find?_cons, decide_eq_false (h x List.mem_cons_self)]; exact ih
theorem nxt_top {N : Nd} {tl : List Nd} {l : Nat} (h : l < N.h) : nxt (N :: tl) l = pN N.g := by rw [nxt, List.find?_cons, decide_eq_true h]
/-- The nodes ahead of the new one. -/
def preP (j : Nat) : List Nd → List Nd → List Nd → List Cd
  | [], _, _ => []
  | n :: d, tl', tl => .ow 84 (some ⟨n.r, 0, none⟩) n.h n.h (rowJ j (d ++ tl') (d ++ tl) n.h) :: .blk n.g 70 (nodV n) :: (enM n.a ++ preP j d tl' tl)
theorem preP_app (j : Nat) (tl' tl e : List Nd) : ∀ d : List Nd, preP j (d ++ e) tl' tl = preP j d (e ++ tl') (e ++ tl) ++ preP j e tl' tl
  | [] => rfl
  | n :: d => by
    have ih := preP_app j tl' tl e d
    rw [List.cons_append, preP, preP, ih, List.append_assoc, List.append_assoc, List.cons_append, List.cons_append, List.append_assoc]
/-- All levels are written: the node stands there. -/
theorem preP_all {N : Nd} {j : Nat} {post : List Nd} (hj : N.h ≤ j) : ∀ pre : List Nd, (nodP (pre ++ N :: post)).Perm (preP j pre (N :: post) post ++ nodP (N :: post))
  | [] => .refl _
  | n :: d => by
    have ih := preP_all hj (post := post) d
    rw [List.cons_append, nodP, preP, ndM, rowJ_all (fun l h1 _ => nxt_skip (Nat.le_trans hj h1) d), List.cons_append, List.cons_append, List.cons_append, List.cons_append, List.append_assoc]
    exact (List.Perm.swap _ _ _).trans ((ih.append_left _).cons _ |>.cons _)
theorem preP_zero (tl' post : List Nd) : ∀ pre : List Nd, (nodP (pre ++ post)).Perm (preP 0 pre tl' post ++ nodP post)
  | [] => .refl _
  | n :: d => by
    have ih := preP_zero tl' post d
    rw [List.cons_append, nodP, preP, ndM, rowJ_zero, List.cons_append, List.cons_append, List.cons_append, List.cons_append, List.append_assoc]
    exact (List.Perm.swap _ _ _).trans ((ih.append_left _).cons _ |>.cons _)
/-- Behind the last that goes up to a level nothing changes there. -/
theorem preP_low {l : Nat} {tl' tl : List Nd} : ∀ {mid : List Nd}, (∀ n ∈ mid, ¬ l < n.h) → preP (l + 1) mid tl' tl = preP l mid tl' tl
  | [], _ => rfl
  | n :: d, h => by
    rw [preP, preP, preP_low fun x hx => h x (List.mem_cons_of_mem _ hx), rowJ_same fun hl => absurd hl (h n List.mem_cons_self)]
/-- Nor ahead of it. -/
theorem preP_high {l : Nat} {n : Nd} (hl : l < n.h) {a b : List Nd} : ∀ d : List Nd, preP (l + 1) d (n :: a) (n :: b) = preP l d (n :: a) (n :: b)
  | [] => rfl
  | x :: d => by
    rw [preP, preP, preP_high hl d, rowJ_same fun _ => nxt_hit hl a b d]
/-- The last of some nodes that goes up to a level. -/
theorem last_split (l : Nat) : ∀ pre : List Nd, (∀ n ∈ pre, ¬ l < n.h) ∨ ∃ d n mid, pre = d ++ n :: mid ∧ l < n.h ∧ ∀ m ∈ mid, ¬ l < m.h
  | [] => .inl (by simp)
  | x :: d => by
    rcases last_split l d with h | ⟨d', n, mid, h1, h2, h3⟩
    · by_cases hx : l < x.h
      · exact .inr ⟨[], x, d, rfl, hx, h⟩
      · exact .inl fun n hn => (List.mem_cons.1 hn).elim (fun e => e ▸ hx) (h n)
    · exact .inr ⟨x :: d', n, mid, by rw [h1]; rfl, h2, h3⟩
section
variable {P : Program} {N : Nat} {ops : Array Oper} {Q : Exit → Act → World → Prop} {rest : List Oper} {L : FL} {M : BS} {w0 w : World} {H : List Cd} {e : TypeId} {z : Value} {bytes : Nat} {t : TypeId}
/-- One cell of a row is written. -/
theorem ws_stO {g : Nat} {x y : Operand} {ty : TypeId} {pos : String} {aft : Array Edge} {e1 : TypeId} {A : Option Addr} {n c kk : Nat} {u : Value} {xs : List Value} (hs : St M w0 w H) (i : Nat) (hx : look L x = some (.pointer (some ⟨g, 0 + kk, none⟩))) (hi : nthC H i = some (.ow e A n c xs)) (hA : A = some ⟨g, 0, none⟩) (E : Cell1 P e1)
    (hk : kk < n) (hy : look L y = some u) (h1 : u.oneCell' = true)
    (h : ∀ w', St M w0 w' (setC H i (.ow e A n c (xs.set kk u))) → WL P N ops Q rest L w') :
    WL P N ops Q (⟨none, .store e1 x y, ty, pos, aft, none⟩ :: rest) L w := by
  subst hA
  rw [Nat.zero_add] at hx
  have ho := hs.ow i hi
  have hl : kk < xs.length := by have := ho.1; omega
  have hcell := World.ownsRow.cellAt ho kk (by omega)
  rw [List.getElem?_eq_getElem hl] at hcell
  have hst := World.ownsRow.stored ho kk u
  exact wl_unitN (opu_storeC E hx hy h1 (by simpa using hcell) (by simpa using World.ownsRow.frozenAt ho kk)) (by simpa using h _ (hs.updO i hi hst.1 hst.2 (.inl rfl)))
end
section
variable {P : Program} {N : Nat} {ops : Array Oper} {Q : Exit → Act → World → Prop} {S : World → Prop} {L : FL} {w : World}
theorem wc_heldS (S : World → Prop) (m : Nat) {id : Nat} {l : List Oper} (hm : P.follows .mixedOrders = true) (h : WM P N l.toArray Q S m l.length (Array.replicate l.length false) L w.drew) : WC P N (.region id l.toArray true) Q L w := fun a ha =>
  wp_region_noPanic (wp_region_any hm (any_of_M (S := S) (m := m) _ _ _ _ (by simpa using h a ha)))
end
end Go.Proofs.YtpnckagibkdcpaaDoor


/-
  A new node and one level: the row that is written, taken out of the pieces and put back.
-/
namespace Go.Proofs.YtpnckagibkdcpaaDoor
open Go.RowKit

theorem Sat.ckSplit {w : World} {X X1 X2 H : List Cd} {S : BS} (p : X.Perm (X1 ++ X2)) (h : Sat w (.ck (packC X) :: H) S) : Sat w (.ck (packC X1) :: .ck (packC X2) :: H) S := by
  obtain ⟨T, hT, hc, hr⟩ := h
  obtain ⟨T1, hT1, h1, h2⟩ := Sat.append (Sat.permL p (show Sat w X T from hc))
  exact ⟨T1, fun b hb => hT b (hT1 b hb), h1, (fun b => T b ∧ ¬ T1 b), fun b hb => ⟨hT b hb.1, hb.2⟩, h2, hr.mono fun b _ hb => ⟨⟨hb.1, fun h => hb.2 (hT1 b h)⟩, fun h => hb.2 h.1⟩⟩
theorem Sat.ckJoin {w : World} {X X1 X2 H : List Cd} {S : BS} (p : X.Perm (X1 ++ X2)) (h : Sat w (.ck (packC X1) :: .ck (packC X2) :: H) S) : Sat w (.ck (packC X) :: H) S := by
  obtain ⟨T1, hT1, h1, T2, hT2, h2, hr⟩ := h
  refine ⟨fun b => T1 b ∨ T2 b, fun b hb => hb.elim (hT1 b) fun h => (hT2 b h).1, Sat.permL p.symm (Sat.join (T := T1) (fun b h => .inl h) h1 (Sat.mono h2 fun b _ h => ⟨.inr h, (hT2 b h).2⟩)), hr.mono fun b _ hb => ⟨hb.1.1, fun h => h.elim hb.1.2 hb.2⟩⟩
/-- The pieces of a table into which a node is being put, levels below l done. -/
def insP (TX : TypeId × List Value) (r : Nat) (N : Nd) (pre post : List Nd) (c0 : Cd) (t cnt : Nat) (sz : Int) (T : List Cd) (l : Nat) : List Cd :=
  .ow 84 (some ⟨r, 0, none⟩) 12 12 (rowJ l (pre ++ N :: post) (pre ++ post) 12) :: .blk N.g 70 (nodV N) :: .ow 84 (some ⟨N.r, 0, none⟩) N.h N.h (rowJ l post [] N.h) :: c0 :: .blk t TX.1 (tbV (hdS (some r)) cnt sz TX.2) :: .ck (packC (preP l pre (N :: post) post)) :: T
theorem focus {TX : TypeId × List Value} {M : BS} {w0 w : World} {r : Nat} {N : Nd} {pre post : List Nd} {c0 : Cd} {t cnt : Nat} {sz : Int} {T : List Cd} {l : Nat} (hs : St M w0 w (insP TX r N pre post c0 t cnt sz T l)) (hl : l < N.h) (h12 : N.h ≤ 12) :
    ∃ g rr hh row H', prv t pre l = pN g ∧ (∀ w' xs, St M w0 w' (.ow 84 (some ⟨rr, 0, none⟩) hh hh row :: .blk N.g 70 (nodV N) :: .ow 84 (some ⟨N.r, 0, none⟩) N.h N.h xs :: H') → Wi w' g (0 + 4) [.slice (some ⟨rr, 0, none⟩) hh hh]) ∧ l < hh ∧ row[l]? = some (nxt post l) ∧ St M w0 w (.ow 84 (some ⟨rr, 0, none⟩) hh hh row :: .blk N.g 70 (nodV N) :: .ow 84 (some ⟨N.r, 0, none⟩) N.h N.h (rowJ l post [] N.h) :: H') ∧
      ∀ w', St M w0 w' (.ow 84 (some ⟨rr, 0, none⟩) hh hh (row.set l (pN N.g)) :: .blk N.g 70 (nodV N) :: .ow 84 (some ⟨N.r, 0, none⟩) N.h N.h (rowJ (l + 1) post [] N.h) :: H') → St M w0 w' (insP TX r N pre post c0 t cnt sz T (l + 1)) := by
  rcases last_split l pre with hlow | ⟨d, n, mid, hpre, hn, hmid⟩
  · refine ⟨t, r, 12, _, _, ?_, fun w' xs hs => ?_, by omega, ?_, hs, fun w' h => ?_⟩
    · rw [prv, List.filter_eq_nil_iff.2 fun n hn => by simpa using hlow n hn]; rfl
    · refine ar_wi (hs.ar 4 rfl) _ _ fun j u hu => ?_
      have hj : j = 0 := by have := (List.getElem?_eq_some_iff.1 hu).1; simp at this; omega
      subst hj
      exact hu
    · rw [rowJ_get (by omega), if_neg (Nat.lt_irrefl _), nxt_pass post hlow]
    · rw [show pN N.g = nxt (pre ++ N :: post) l by rw [nxt_pass _ hlow, nxt_top hl], ← rowJ_set] at h
      rw [insP, preP_low hlow]
      exact h
  · subst hpre
    have hX : ∀ j, (preP j (d ++ n :: mid) (N :: post) post).Perm ([.ow 84 (some ⟨n.r, 0, none⟩) n.h n.h (rowJ j (mid ++ N :: post) (mid ++ post) n.h)] ++ (preP j d (n :: mid ++ N :: post) (n :: mid ++ post) ++ (.blk n.g 70 (nodV n) :: (enM n.a ++ preP j mid (N :: post) post)))) := fun j => by
      rw [preP_app, preP]
      exact List.perm_middle
    have h1 := (hs.front 5 rfl).map fun _ h => Sat.ckSplit (hX l) h
    have h2 := ((St.unpk h1).front 4 rfl).front 4 rfl
    have h3 := h2.front 2 rfl
    refine ⟨n.g, n.r, n.h, _, _, ?_, fun w' xs hs => ?_, hn, ?_, h3, fun w' h => ?_⟩
    · rw [show d ++ n :: mid = (d ++ [n]) ++ mid by simp, prv_at (fun n' hn' => by simp at hn'; subst hn'; exact hn) hmid, atP]; simp
    · obtain ⟨T', hc, _⟩ := hs.get 3 rfl
      obtain ⟨_, _, hb⟩ := Sat.mem (show Sat w' (preP l d (n :: mid ++ N :: post) (n :: mid ++ post) ++ (.blk n.g 70 (nodV n) :: (enM n.a ++ preP l mid (N :: post) post))) T' from hc) (c := .blk n.g 70 (nodV n)) (by simp)
      refine ar_wi hb.2 _ _ fun j u hu => ?_
      have hj : j = 0 := by have := (List.getElem?_eq_some_iff.1 hu).1; simp at this; omega
      subst hj
      exact hu
    · rw [rowJ_get hn, if_neg (Nat.lt_irrefl _), nxt_pass post hmid]
    · rw [show pN N.g = nxt (mid ++ N :: post) l by rw [nxt_pass _ hmid, nxt_top hl], ← rowJ_set] at h
      have e1 : rowJ (l + 1) (d ++ n :: mid ++ N :: post) (d ++ n :: mid ++ post) 12 = rowJ l (d ++ n :: mid ++ N :: post) (d ++ n :: mid ++ post) 12 := rowJ_same fun _ => by
        rw [List.append_assoc, List.append_assoc, List.cons_append, List.cons_append]; exact nxt_hit hn _ _ d
      have e2 : preP l d (n :: mid ++ N :: post) (n :: mid ++ post) = preP (l + 1) d (n :: mid ++ N :: post) (n :: mid ++ post) := by
        rw [List.cons_append, List.cons_append, preP_high hn]
      rw [e2, ← preP_low hmid] at h
      have k1 := ((h.front 3 rfl).front 1 rfl)
      have k2 := (St.pk (H1 := [_]) k1).map fun _ h => Sat.ckJoin (hX (l + 1)) h
      have k3 := (((((k2.front 5 rfl).front 5 rfl).front 5 rfl).front 5 rfl).front 5 rfl).front 2 rfl
      rw [insP, e1]
      exact k3
theorem rowJ_nils (post : List Nd) (h : Nat) : List.replicate h (Value.pointer none) = rowJ 0 post [] h := by
  rw [rowJ_zero]
  exact (List.eq_replicate_iff.2 ⟨rowV_len _ _, fun b hb => by
    obtain ⟨l, _, rfl⟩ := List.mem_map.1 hb
    rfl⟩).symm
theorem ins_start {TX : TypeId × List Value} {M : BS} {w0 w : World} {r : Nat} {N : Nd} {pre post : List Nd} {c0 : Cd} {t cnt : Nat} {sz : Int} {T : List Cd}
    (hs : St M w0 w (c0 :: .blk t TX.1 (tbV (hdS (some r)) cnt sz TX.2) :: .ck (packC (hdP (some r) (pre ++ post))) :: .ck (packC (nodP (pre ++ post))) :: .blk N.g 70 (nodV N) :: .ow 84 (some ⟨N.r, 0, none⟩) N.h N.h (List.replicate N.h (.pointer none)) :: T)) :
    St M w0 w (insP TX r N pre post c0 t cnt sz (.ck (packC (nodP post)) :: T) 0) := by
  have h1 := (hs.front 3 rfl).map fun _ h => Sat.ckSplit (preP_zero (N :: post) post pre) h
  have h2 := ((((h1.front 3 rfl).front 3 rfl).front 6 rfl).front 6 rfl).front 6 rfl
  have h3 := St.unpk h2
  rw [insP, rowJ_zero, ← rowJ_nils]
  exact h3
theorem ins_end {TX : TypeId × List Value} {M : BS} {w0 w : World} {r : Nat} {N : Nd} {pre post : List Nd} {c0 : Cd} {t cnt : Nat} {sz : Int}
    (hs : St M w0 w (insP TX r N pre post c0 t cnt sz [.ck (packC (nodP post)), .ow 5 N.a.B N.a.x.val.length N.a.d (bvs N.a.x.val), .ow 5 N.a.A N.a.x.key.length N.a.c (bvs N.a.x.key)] N.h)) :
    St M w0 w (tabQ TX t (some r) (pre ++ N :: post) cnt sz) := by
  rw [insP, rowJ_all (fun l h1 _ => nxt_skip h1 pre), rowJ_all (fun l h1 h2 => absurd h2 (by omega))] at hs
  have h1 := ((((hs.drop 3 rfl).front 6 rfl).front 7 rfl).front 4 rfl).front 4 rfl
  have h2 := ((St.pk (H1 := [_, _, _, _]) h1).front 4 rfl).front 1 rfl
  have h3 := (h2.map fun _ h => Sat.ckJoin (X := nodP (N :: post)) (.refl _) h).front 3 rfl
  have h4 := (h3.map fun _ h => Sat.ckJoin (preP_all (Nat.le_refl _) pre) h).front 1 rfl
  exact (St.pk (H1 := [_]) h4).front 2 rfl
end Go.Proofs.YtpnckagibkdcpaaDoor


/-
  Walk over insert of a table.
-/
namespace Go.Proofs.YtpnckagibkdcpaaDoor
open Go.RowKit

theorem opv_sliceTo {P : Program} {L : FL} {w : World} {t e : TypeId} {z : Value} {bytes : Nat} {x y : Operand} {ty : TypeId} {A : Option Addr} {n c h : Nat} {k : IntKind} (T : Row1 P t e z bytes) (hx : look L x = some (.slice A n c)) (hy : look L y = some (.int k (h : Int))) (h2 : h ≤ c) : OpV P (.slice t x none (some y) none) ty L w (.slice A h c) w := by
  have := opv_slice (P := P) (w := w) (ty := ty) T hx (lo := none) (hi := some y) (l := 0) (h := h) rfl ⟨_, hy⟩ (Nat.zero_le _) h2
  rwa [cutA_zero, Nat.sub_zero, Nat.sub_zero] at this

set_option maxHeartbeats 20000000 in
set_option maxRecDepth 8000 in
theorem tinsert_any {S : BS} {TX : TypeId × List Value} {t c d : Nat} {r0 : Option Nat} {ns pre post : List Nd} {sz : Int} {A B : Option Addr} {x : En} {w : World} (h0 : Sat w (tabP TX t r0 ns sz) S) (hn : r0 = none → ns = []) (hns : ns = pre ++ post) (hpre : ∀ n ∈ pre, cmpE n.a.x x.key x.seq < 0) (hpost : ∀ n ∈ post, ¬ cmpE n.a.x x.key x.seq < 0)
    (hk : ∀ w', Mod S w w' → RdB w' A x.key ∧ RdB w' B x.val) (hl : x.key.length ≤ 140737488355328) (hl2 : x.val.length ≤ 140737488355328) (hcnt : ns.length ≤ 1099511627776) (hsz : 0 ≤ sz ∧ sz ≤ 4611686018427387904) (hg : ∀ w', Mod S w w' → GT w') :
    CallsV Tryd.prog 43 #[pN t, .agg (enV x A c B d).toArray] w fun v w' => ∃ (r : Nat) (N : Nd), v = .tuple #[] ∧ N.a.x = x ∧ 1 ≤ N.h ∧ N.h ≤ 12 ∧ St S w w' (tabP TX t (some r) (pre ++ N :: post) (sz + ((x.key.length + x.val.length : Nat) : Int))) := by
  have hs := St.start h0
  unfold pN
  simp only [tabP, tabQ] at hs
  unfold tbV at hs
  refine calls_in (N := _) Tryd.func43 rfl Tryd.ntmps43 rfl ?_; show WC _ _ _ _ _ _
  refine wc_sr ?_
  refine ws_box (cs := enV x A c B d) hs rfl rfl ?_; clear hs; intro g3 _ hs
  refine wl_ns ?_; refine wc_sr ?_; refine wl_mv rfl rfl ?_; apply wl_val; apply opv_nilOk; exact rfl; exact rfl; apply wl_val; apply opv_fa; exact fa_T1; exact rfl; exact rfl; apply wl_val; apply opv_ldX; exact rfl; exact hs.ar 1 rfl; exact e1_int; exact rfl; exact rfl; apply wl_val; apply opv_bin; exact rfl; exact rfl; exact bin_add64 (by omega); exact rfl; apply wl_val; apply opv_nilOk; exact rfl; exact rfl; apply wl_val; apply opv_fa; exact fa_T1; exact rfl; exact rfl; apply ws_st hs 1; exact rfl; exact rfl; exact e1_int; exact rfl; exact rfl; exact rfl; clear hs; intro _ hs; dsimp only [setC, List.set] at hs; refine wl_ns ?_; refine wc_seq ?_
  unfold enV at hs
  have hc1 : ((ns.length : Nat) : Int) + 1 = ((ns.length + 1 : Nat) : Int) := by omega
  rw [hc1] at hs
  refine wc_heldM 14 mixed fun w_ hS => ?_
  apply wm_take 0; exact rfl; intro _ hw_; apply opv_move; exact rfl; exact rfl; kernel_rfl; exact hS; apply wm_take 1; exact rfl; intro _ hw_; apply opv_nilOk; exact rfl; exact rfl; kernel_rfl; exact hS; apply wm_take 2; exact rfl; intro _ hw_; apply opv_fa; exact fa_T2; exact rfl; exact rfl; kernel_rfl; exact hS; apply wm_take 3; exact rfl; intro _ hw_; apply opv_ldX; exact rfl; exact Ar.bel (hs.ar 1 rfl) hw_; exact e1_int; exact rfl; exact rfl; kernel_rfl; exact hS; apply wm_take 4; exact rfl; intro _ hw_; apply opv_fa; exact fa_sE (by decide); exact rfl; exact rfl; kernel_rfl; exact hS; apply wm_take 5; exact rfl; intro _ hw_; apply opv_ldX; exact rfl; exact Ar.bel (hs.ar 0 rfl) hw_; exact e1_by; exact rfl; exact rfl; kernel_rfl; exact hS; apply wm_take 6; exact rfl; intro _ hw_; apply opv_len; exact rfl; exact tyB.sl; exact rfl; kernel_rfl; exact hS; apply wm_take 7; exact rfl; intro _ hw_; apply opv_fa; exact fa_sE (by decide); exact rfl; exact rfl; kernel_rfl; exact hS; apply wm_take 8; exact rfl; intro _ hw_; apply opv_ldX; exact rfl; exact Ar.bel (hs.ar 0 rfl) hw_; exact e1_by; exact rfl; exact rfl; kernel_rfl; exact hS; apply wm_take 9; exact rfl; intro _ hw_; apply opv_len; exact rfl; exact tyB.sl; exact rfl; kernel_rfl; exact hS; apply wm_take 10; exact rfl; intro _ hw_; apply opv_bin; exact rfl; exact rfl; exact bin_add64 (by omega); exact rfl; kernel_rfl; exact hS; apply wm_take 11; exact rfl; intro _ hw_; apply opv_bin; exact rfl; exact rfl; exact bin_add64 (by omega); exact rfl; kernel_rfl; exact hS; apply wm_takeP 12; exact rfl; intro _; apply opv_nilOk; exact rfl; exact rfl; kernel_rfl; exact fun _ => hS; apply wm_takeP 13; exact rfl; intro _; apply opv_fa; exact fa_T2; exact rfl; exact rfl; kernel_rfl; exact fun _ => hS
  replace hs := hs.below hS
  clear hS
  refine wm_one 14 (by kernel_rfl) rfl ?_; dsimp only [List.getElem_toArray, List.getElem_cons_succ, List.getElem_cons_zero]
  apply ws_st hs 1; exact rfl; exact rfl; exact e1_int; exact rfl; exact rfl; exact rfl; clear hs; intro _ hs; dsimp only [setC, List.set] at hs; refine wl_nil ?_
  refine we_heldM (fun h => absurd h (by decide)) ?_
  refine wm_done (by kernel_rfl) ?_
  refine we_seq ?_; refine wc_seq ?_
  refine wc_heldM 7 mixed fun w_ hS => ?_
  apply wm_take 0; exact rfl; intro _ hw_; apply opv_fa; exact fa_sE (by decide); exact rfl; exact rfl; kernel_rfl; exact hS; apply wm_take 1; exact rfl; intro _ hw_; apply opv_ldX; exact rfl; exact Ar.bel (hs.ar 0 rfl) hw_; exact e1_by; exact rfl; exact rfl; kernel_rfl; exact hS; apply wm_take 3; exact rfl; intro _ hw_; apply opv_fa; exact fa_sE (by decide); exact rfl; exact rfl; kernel_rfl; exact hS; apply wm_take 4; exact rfl; intro _ hw_; apply opv_ldX; exact rfl; exact Ar.bel (hs.ar 0 rfl) hw_; exact e1_by; exact rfl; exact rfl; kernel_rfl; exact hS
  replace hs := hs.below hS
  refine wm_one 2 (by kernel_rfl) rfl ?_; dsimp only [List.getElem_toArray, List.getElem_cons_succ, List.getElem_cons_zero]
  refine wl_call ok_bytes_Clone (clone_any (hk _ hs.1).1 rfl hl) ⟨rfl, trivial⟩ rfl ?_; rintro _ _ ⟨C, e, rfl, o_, hbx⟩; replace hs := hs.newO hbx o_ (Nat.le_refl _); try dsimp only [List.cons_append, List.nil_append, setC, delC] at hs
  replace hS := hS.trans (hbx.mono hS.size)
  refine wl_nil ?_
  refine we_heldM (fun _ => hS) ?_
  apply wm_take 6; exact rfl; intro _ hw_; apply opv_fa; exact fa_sE (by decide); exact rfl; exact rfl; kernel_rfl; exact hS
  refine wm_one 5 (by kernel_rfl) rfl ?_; dsimp only [List.getElem_toArray, List.getElem_cons_succ, List.getElem_cons_zero]
  refine wl_call ok_bytes_Clone (clone_any (hk _ hs.1).2 rfl hl2) ⟨rfl, trivial⟩ rfl ?_; rintro _ _ ⟨D, f, rfl, o_, hbx⟩; replace hs := hs.newO hbx o_ (Nat.le_refl _); try dsimp only [List.cons_append, List.nil_append, setC, delC] at hs
  replace hS := hS.trans (hbx.mono hS.size)
  refine wl_nil ?_
  refine we_heldM (fun _ => hS) ?_
  refine wm_one 7 (by kernel_rfl) rfl ?_; dsimp only [List.getElem_toArray, List.getElem_cons_succ, List.getElem_cons_zero]
  apply ws_st hs 2; exact rfl; exact rfl; exact e1_by; exact rfl; exact rfl; exact rfl; clear hs; intro _ hs; dsimp only [setC, List.set] at hs; refine wl_nil ?_
  refine we_heldM (fun h => absurd h (by decide)) ?_
  refine wm_one 8 (by kernel_rfl) rfl ?_; dsimp only [List.getElem_toArray, List.getElem_cons_succ, List.getElem_cons_zero]
  apply wl_val; apply opv_fa; exact fa_sE (by decide); exact rfl; exact rfl; refine wl_nil ?_
  refine we_heldM (fun h => absurd h (by decide)) ?_
  refine wm_one 9 (by kernel_rfl) rfl ?_; dsimp only [List.getElem_toArray, List.getElem_cons_succ, List.getElem_cons_zero]
  apply ws_st hs 2; exact rfl; exact rfl; exact e1_by; exact rfl; exact rfl; exact rfl; clear hs; intro _ hs; dsimp only [setC, List.set] at hs; refine wl_nil ?_
  refine we_heldM (fun h => absurd h (by decide)) ?_
  refine wm_done (by kernel_rfl) ?_
  clear hS
  refine we_seq ?_; refine wc_seq ?_
  refine wc_heldB mixed fun w5 hS => ?_
  apply wh_takeH 0; exact rfl; intro _ hw_; apply opv_loadX; exact rfl; exact Ar.bel (hs.ar 2 rfl) hw_; exact sE; exact rfl; kernel_rfl; exact hS; apply wh_takeH 1; exact rfl; intro _ hw_; apply opv_move; exact rfl; exact rfl; kernel_rfl; exact hS; apply wh_takeH 2; exact rfl; intro _ hw_; apply opv_nilOk; exact rfl; exact rfl; kernel_rfl; exact hS; apply wh_takeH 3; exact rfl; intro _ hw_; apply opv_fa; exact fa_T1; exact rfl; exact rfl; kernel_rfl; exact hS; apply wh_takeH 4; exact rfl; intro _ hw_; apply opv_ldX; exact rfl; exact Ar.bel (hs.ar 3 rfl) hw_; exact e1_int; exact rfl; exact rfl; kernel_rfl; exact hS
  replace hs := hs.below hS
  refine wh_one 5 (o := ⟨_, _, _, _, _, _⟩) (by kernel_rfl) rfl ?_
  skip
  refine wl_call ok_mem_height (height_any (by omega) (by omega) (hg _ hs.1)) ⟨rfl, trivial⟩ rfl ?_
  rintro _ _ ⟨⟨h, hh1, hh2, rfl⟩, rfl⟩
  refine wl_nil ?_
  refine we_held hS ?_
  refine wh_one 6 (o := ⟨_, _, _, _, _, _⟩) (by kernel_rfl) rfl ?_
  skip
  refine wl_mk tyN rfl rfl rfl rfl (Nat.le_refl _) (by omega) (by simp only [maxLen]; omega) rfl fun R w6 hO hbx _ => ?_
  replace hS := hS.trans (hbx.mono hS.size)
  replace hs := hs.newO hbx hO (Nat.le_refl _)
  clear hbx hO
  refine wl_nil ?_
  refine we_held hS ?_
  obtain ⟨rn, rfl⟩ := ow_form (hs.ow 0 rfl) (by omega)
  refine wh_one 7 (o := ⟨_, _, _, _, _, _⟩) (by kernel_rfl) rfl ?_
  refine wl_val (opv_build (vs := [(0, .agg (enV x C e D f).toArray), (1, .slice (some ⟨rn, 0, none⟩) h h)]) (cs := enV x C e D f ++ [.slice (some ⟨rn, 0, none⟩) h h]) ⟨rfl, rfl, rfl, rfl, trivial⟩ (by kernel_rfl)) rfl ?_
  refine wl_nil ?_
  refine we_held hS ?_
  refine wh_one 8 (o := ⟨_, _, _, _, _, _⟩) (by kernel_rfl) rfl ?_
  refine wl_box (cs := enV x C e D f ++ [.slice (some ⟨rn, 0, none⟩) h h]) rfl rfl fun gn w7 hgn an hbx => ?_
  replace hS := hS.trans (hbx.mono hS.size)
  replace hs := hs.newA hbx hgn an
  clear hbx hgn an
  refine wl_nil ?_
  refine we_held hS ?_
  apply wh_takeH 9; exact rfl; intro _ hw_; apply opv_assign; exact rfl; exact rfl; kernel_rfl; exact hS
  refine wh_done (by kernel_rfl) ?_
  clear hS
  refine we_seq ?_; refine wc_seq ?_
  replace hs := ((hs.front 7 rfl).front 7 rfl).front 7 rfl
  obtain ⟨N, hN⟩ : ∃ N : Nd, N = ⟨⟨x, C, e, D, f⟩, gn, rn, h⟩ := ⟨_, rfl⟩
  refine wc_held (fun w => Ar w g3 39 (enV x C e D f) ∧ Ar w gn 70 (enV x C e D f ++ [.slice (some ⟨rn, 0, none⟩) h h])) mixed ?_
  replace hs := hs.below (Below.refl _ _).drew
  have hS := And.intro (hs.ar 7 rfl) (hs.ar 3 rfl)
  apply wh_takeH 0; exact rfl; intro _ hw_; apply opv_move; exact rfl; exact rfl; kernel_rfl; exact hS; apply wh_takeH 1; exact rfl; intro _ hw_; apply opv_fa; exact fa_sE (by decide); exact rfl; exact rfl; kernel_rfl; exact hS; apply wh_takeH 2; exact rfl; intro _ hw_; apply opv_ldX; exact rfl; exact hw_.1; exact e1_by; exact rfl; exact rfl; kernel_rfl; exact hS; apply wh_takeH 3; exact rfl; intro _ hw_; apply opv_fa; exact fa_sE (by decide); exact rfl; exact rfl; kernel_rfl; exact hS; apply wh_takeH 4; exact rfl; intro _ hw_; apply opv_ldX; exact rfl; exact hw_.1; exact e1_u64; exact rfl; exact rfl; kernel_rfl; exact hS; apply wh_takeH 6; exact rfl; intro _ hw_; apply opv_move; exact rfl; exact rfl; kernel_rfl; exact hS; apply wh_takeH 7; exact rfl; intro _ hw_; apply opv_nilOk; exact rfl; exact rfl; kernel_rfl; exact hS; apply wh_takeH 8; exact rfl; intro _ hw_; apply opv_fa; exact fa_N1; exact rfl; exact rfl; kernel_rfl; exact hS; apply wh_takeH 9; exact rfl; intro _ hw_; apply opv_ldX; exact rfl; exact hw_.2; exact e1_ns; exact rfl; exact rfl; kernel_rfl; exact hS; apply wh_takeH 10; exact rfl; intro _ hw_; apply opv_len; exact rfl; exact tyN.sl; exact rfl; kernel_rfl; exact hS; apply wh_takeH 13; exact rfl; intro _ hw_; apply opv_move; exact rfl; exact rfl; kernel_rfl; exact hS
  refine wh_one 5 (o := ⟨_, _, _, _, _, _⟩) (by kernel_rfl) rfl ?_
  skip
  obtain ⟨S2, hS2, _, hM, hH, hB⟩ := St.lend (H1 := tabQ TX t r0 ns (ns.length + 1) _) (H2 := [_, _, _, _, _]) hs
  refine wl_call ok_mem_Table_ahead (ahead_any hS2 hn hns hpre hpost rfl fun w' hm => ?_) ⟨rfl, rfl, rfl, trivial⟩ rfl ?_
  · obtain ⟨_, _, h⟩ := (hH w' hm).mem (c := .ow 5 C x.key.length e (bvs x.key)) (by simp)
    exact h.2.rd
  rintro _ w8 ⟨r, o, rfl, hsx⟩
  replace hs := hB _ _ hsx
  clear hB hsx hS2 hM hH hS
  unfold tabQ at hs
  dsimp only [List.cons_append, List.nil_append] at hs
  have hS := And.intro (hs.ar 8 rfl) (hs.ar 4 rfl)
  refine wl_nil ?_
  refine we_held hS ?_
  refine wh_takeH 11 rfl (fun _ _ => opv_sliceTo tyN rfl rfl hh2) rfl (by kernel_rfl) hS ?_
  apply wh_takeH 12; exact rfl; intro _ hw_; apply opv_len; exact rfl; exact tyN.sl; exact rfl; kernel_rfl; exact hS
  refine wh_done (by kernel_rfl) ?_
  clear hS
  refine we_seq ?_; refine wc_block ?_
  subst hns
  replace hs := ins_start (N := ⟨⟨x, C, e, D, f⟩, gn, rn, h⟩) (T := [_, _]) (hs.drop 8 rfl)
  refine wc_loop (fun L wr mm => ∃ l : Nat, L = [(4, .pointer (some ⟨gn, 0, none⟩)), (56, .slice (some ⟨o, 0, none⟩) h 12), (57, .int .i64 (h : Int)), (58, .int .i64 (l : Int))] ∧ l ≤ h ∧ St S w wr (insP TX r ⟨⟨x, C, e, D, f⟩, gn, rn, h⟩ pre post (.ow 84 (some ⟨o, 0, none⟩) 12 12 ((List.range 12).map (prv t pre))) t ((pre ++ post).length + 1) (sz + ((x.key.length : Int) + (x.val.length : Int))) [.ck (packC (nodP post)), .ow 5 D x.val.length f (bvs x.val), .ow 5 C x.key.length e (bvs x.key)] l) ∧ mm = h - l)
    [(4, .pointer (some ⟨gn, 0, none⟩)), (56, .slice (some ⟨o, 0, none⟩) h 12), (57, .int .i64 (h : Int)), (58, .int .i64 0)] h ⟨0, rfl, by omega, hs, rfl⟩ ⟨rfl, rfl, rfl, rfl, trivial⟩ ?_
  clear hs
  rintro _ w9 mm ⟨l, rfl, hlh, hs, rfl⟩
  refine wc_sr ?_; refine wl_bin rfl rfl bin_lss rfl ?_; refine wl_ns ?_; refine wc_seq ?_
  refine wc_cond rfl (fun h1 => ?_) (fun h1 => ?_)
  · have hlt : l < h := by omega
    have hout := (Rd.cut (l := 0) (c := 12) (hs.ow 3 rfl).rd (Nat.zero_le _) hh2 (Nat.le_refl _))
    rw [cutA_zero, Nat.sub_zero, List.drop_zero] at hout
    have hu : (((List.range 12).map (prv t pre)).take h)[l]? = some (prv t pre l) := by rw [List.getElem?_take_of_lt hlt, List.getElem?_map, List.getElem?_range (by omega)]; rfl
    obtain ⟨g, rr, hh, row, H', hp, hwi, hlhh, hrow, hs2, hback⟩ := focus hs hlt hh2
    rw [hp] at hu
    unfold pN at hu
    refine wc_skip ?_; refine we_seq ?_; refine wc_seq ?_; refine wc_block ?_; refine wc_sr ?_; refine wl_mv rfl rfl ?_; apply wl_elK (T := tyN) (hr := hout) (hb := hu); exact rfl; exact rfl; exact rfl; exact rfl; exact rfl; intro _; refine wl_as rfl rfl ?_; refine wl_as rfl rfl ?_; refine wl_ns ?_
    have hnv := rowJ_get (j := l) (ns' := post) (ns := []) hlt
    replace hs2 := hs2.below (Below.refl _ _).drew
    have hS := And.intro (hs2.ar 1 rfl) (And.intro (hwi _ _ hs2) (hs2.ow 0 rfl).rd)
    refine wc_heldS (fun w => Ar w gn 70 (enV x C e D f ++ [.slice (some ⟨rn, 0, none⟩) h h]) ∧ Wi w g (0 + 4) [.slice (some ⟨rr, 0, none⟩) hh hh] ∧ Rd w (some ⟨rr, 0, none⟩) hh row) 21 mixed ?_
    apply wm_take 0; exact rfl; intro _ hw_; apply opv_move; exact rfl; exact rfl; kernel_rfl; exact hS; apply wm_take 1; exact rfl; intro _ hw_; apply opv_nilOk; exact rfl; exact rfl; kernel_rfl; exact hS; apply wm_take 2; exact rfl; intro _ hw_; apply opv_fa; exact fa_N1; exact rfl; exact rfl; kernel_rfl; exact hS; apply wm_take 3; exact rfl; intro _ hw_; apply opv_ldX; exact rfl; exact hw_.1; exact e1_ns; exact rfl; exact rfl; kernel_rfl; exact hS; apply wm_take 4; exact rfl; intro _ hw_; apply opv_move; exact rfl; exact rfl; kernel_rfl; exact hS; apply wm_take 5; exact rfl; intro _ hw_; apply opv_move; exact rfl; exact rfl; kernel_rfl; exact hS; apply wm_take 6; exact rfl; intro _ hw_; apply opv_nilOk; exact rfl; exact rfl; kernel_rfl; exact hS; apply wm_take 7; exact rfl; intro _ hw_; apply opv_fa; exact fa_N1; exact rfl; exact rfl; kernel_rfl; exact hS; apply wm_take 8; exact rfl; intro _ hw_; apply opv_ldW0; exact rfl; exact hw_.2.1; exact e1_ns; exact rfl; exact rfl; kernel_rfl; exact hS; apply wm_take 9; exact rfl; intro _ hw_; apply opv_move; exact rfl; exact rfl; kernel_rfl; exact hS; apply wm_take 10; exact rfl; intro _ hw_; apply opv_move; exact rfl; exact rfl; kernel_rfl; exact hS; apply wm_take 11; exact rfl; intro _ hw_; apply opv_nilOk; exact rfl; exact rfl; kernel_rfl; exact hS; apply wm_take 12; exact rfl; intro _ hw_; apply opv_fa; exact fa_N1; exact rfl; exact rfl; kernel_rfl; exact hS; apply wm_take 13; exact rfl; intro _ hw_; apply opv_ldW0; exact rfl; exact hw_.2.1; exact e1_ns; exact rfl; exact rfl; kernel_rfl; exact hS; apply wm_take 14; exact rfl; intro _ hw_; apply opv_move; exact rfl; exact rfl; kernel_rfl; exact hS
    refine wm_take 15 rfl (fun _ hw_ => opv_idxR tyN rfl rfl hw_.2.2 rfl hrow) rfl (by kernel_rfl) hS ?_
    refine wm_take 16 rfl (fun _ hw_ => opv_loadR tyN rfl hw_.2.2 hrow) rfl (by kernel_rfl) hS ?_
    apply wm_take 17; exact rfl; intro _ hw_; apply opv_move; exact rfl; exact rfl; kernel_rfl; exact hS
    refine wm_take 18 rfl (fun _ _ => opv_idx tyN rfl rfl rfl hlt) rfl (by kernel_rfl) hS ?_
    refine wm_one 19 (by kernel_rfl) rfl ?_; dsimp only [List.getElem_toArray, List.getElem_cons_succ, List.getElem_cons_zero]
    refine ws_stO hs2 2 rfl rfl rfl e1_pn hlt rfl (nxt_one _ _) ?_
    clear hs2 hS
    intro w10 hs2
    dsimp only [setC] at hs2
    rw [← rowJ_set] at hs2
    have hS := And.intro (hs2.ar 1 rfl) (And.intro (hwi _ _ hs2) (hs2.ow 0 rfl).rd)
    refine wl_nil ?_
    refine we_heldM (fun _ => hS) ?_
    refine wm_take 20 rfl (fun _ _ => opv_idx tyN rfl rfl rfl hlhh) rfl (by kernel_rfl) hS ?_
    refine wm_one 21 (by kernel_rfl) rfl ?_; dsimp only [List.getElem_toArray, List.getElem_cons_succ, List.getElem_cons_zero]
    refine ws_stO hs2 0 rfl rfl rfl e1_pn hlhh rfl rfl ?_
    clear hs2 hS
    intro w11 hs2
    dsimp only [setC] at hs2
    replace hs2 := hback _ hs2
    refine wl_nil ?_
    refine we_heldM (fun h => absurd h (by decide)) ?_
    refine wm_done (by kernel_rfl) ?_
    have hl1 : (l : Int) + 1 = ((l + 1 : Nat) : Int) := by omega
    refine we_block_norm ?_; refine we_seq ?_; refine wc_region ?_; apply wl_val; apply opv_bin; exact rfl; exact rfl; exact bin_add64 (by omega); exact rfl; refine wl_mv rfl rfl ?_; refine wl_nil ?_
    exact we_loop _ (h - (l + 1)) ⟨l + 1, rfl, hlt, hs2, rfl⟩ (by omega) ⟨rfl, rfl, rfl, by rw [← hl1]; rfl, trivial⟩
  · obtain rfl : l = h := by omega
    refine wc_exit ?_; refine we_seq_exit ?_; refine we_loop_exit ?_; refine we_block_exit ?_
    have hf := ins_end (N := ⟨⟨x, C, e, D, f⟩, gn, rn, l⟩) hs
    refine we_end0 rfl ⟨_, rfl, r, ⟨⟨x, C, e, D, f⟩, gn, rn, l⟩, rfl, rfl, hh1, hh2, ?_⟩
    rw [tabP, show (pre ++ ⟨⟨x, C, e, D, f⟩, gn, rn, l⟩ :: post).length = (pre ++ post).length + 1 by simp; omega, Int.natCast_add]
    exact hf
end Go.Proofs.YtpnckagibkdcpaaDoor


/-
  Walks over few, at, runs, Sorted of lists of entries.
-/
namespace Go.Proofs.YtpnckagibkdcpaaDoor
open Go.RowKit

theorem natc_succ {k : Nat} : (k : Int) + 1 = ((k + 1 : Nat) : Int) := by omega
theorem cutK_zero (A : Option Addr) (c k : Nat) : cutK A c 0 k = A := by
  unfold cutK
  split
  · rfl
  · cases A with
    | none => rfl
    | some a => simp [Addr.add]
theorem take_rdr {w : World} {S : BS} {A : Option Addr} {l : List En} {c m : Nat} (h : RdR 4 w S A (l.map enEl)) (hc : l.length ≤ c) : RdR 4 w S A ((l.take m).map enEl) := by
  rcases Nat.lt_or_ge m l.length with h1 | h1
  · have := RdR.cut h (by simp) (Nat.zero_le m) (Nat.le_of_lt h1) hc
    rw [cutK_zero, List.drop_zero, ← List.map_take] at this
    exact this
  · rw [List.take_of_length_le h1]; exact h
/-- The first that isn't above a moment. -/
def atE (run : List En) (m : Nat) : Option Nat := run.findIdx? fun x => decide (x.seq ≤ m)
def atV (o : Option Nat) : Int := match o with | some i => (i : Int) | none => -1
theorem findIdx_at {α : Type} {p : α → Bool} {l : List α} {k : Nat} {x : α} (h : l[k]? = some x) (hn : ∀ i y, i < k → l[i]? = some y → p y = false) (hp : p x = true) : l.findIdx? p = some k := by
  rw [List.findIdx?_eq_some_iff_getElem]
  obtain ⟨hk, rfl⟩ := List.getElem?_eq_some_iff.1 h
  exact ⟨hk, hp, fun j hj => by simp [hn j l[j] hj (List.getElem?_eq_getElem (by omega))]⟩
theorem beq_any {A B : Option Addr} {n m c d : Nat} {xs ys : List UInt8} {w : World} (hx : RdB w A xs) (hy : RdB w B ys) (hn : xs.length = n) (hm : ys.length = m) :
    CallsV Tryd.prog 53 #[.slice A n c, .slice B m d] w fun v w' => v = .bool (decide (xs = ys)) ∧ w = w' := by
  subst hn hm
  refine calls_in (N := _) Tryd.func53 rfl Tryd.ntmps53 rfl ?_; show WC _ _ _ _ _ _
  refine wc_sr ?_; refine wl_as rfl rfl ?_; refine wl_ns ?_; refine wc_sr ?_; refine wl_mv rfl rfl ?_
  refine wl_val (opv_ofBytes Tryd.underlying31 Tryd.underlying5 Tryd.underlying9 rfl hx) rfl ?_
  refine wl_mv rfl rfl ?_
  refine wl_val (opv_ofBytes Tryd.underlying31 Tryd.underlying5 Tryd.underlying9 rfl hy) rfl ?_
  refine wl_bin rfl rfl bin_eqlS rfl ?_; refine wl_as rfl rfl ?_; refine wl_ns ?_; refine wc_ret ?_
  exact we_ret1 rfl rfl ⟨_, rfl, rfl, rfl⟩
/-- The runs of one key, cut out of a list: where they begin. -/
def runsF : List En → List En → List (List En)
  | [], _ => []
  | [x], acc => [acc ++ [x]]
  | x :: y :: l, acc => if x.key = y.key then runsF (y :: l) (acc ++ [x]) else (acc ++ [x]) :: runsF (y :: l) []
def runsE (l : List En) : List (List En) := runsF l []
end Go.Proofs.YtpnckagibkdcpaaDoor


/-
  Walks over Sorted, and over the checks of many lists, of the program and of the document.
-/
namespace Go.Proofs.YtpnckagibkdcpaaDoor
open Go.RowKit

/-- Blocks of a set, or new ones. -/
def Ab (S : BS) (w : World) : BS := fun b => S b ∨ w.heap.size ≤ b
def RetL (w : World) (S : BS) (l : List En) (v : Value) (w' : World) : Prop := ∃ (P : Option Addr) (cp : Nat), v = .slice P l.length cp ∧ l.length ≤ cp ∧ RdR 4 w' (Ab S w) P (l.map enEl) ∧ Below w.heap.size w w'
theorem RdR.below' {k : Nat} {w w' : World} {S : BS} {A : Option Addr} {els : List El} (h : RdR k w S A els) (hb : Below w.heap.size w w') : RdR k w' S A els := RdR.below h hb
theorem RdR.mono {k : Nat} (hk : 0 < k) {w : World} {S S' : BS} {A : Option Addr} {els : List El} (h : RdR k w S A els) (hs : ∀ b, b < w.heap.size → S b → S' b) : RdR k w S' A els := RdR.move hk h (Nat.le_refl _) fun b hb h => ⟨hs b hb h, rfl⟩
theorem OwR.ab {k base c : Nat} {e : TypeId} {w w0 : World} {S : BS} {A : Option Addr} {els : List El} (h : OwR k e w base S A c els) (hb : w0.heap.size ≤ base) : RdR k w (Ab S w0) A els := by
  have hl := OwR.lt h
  obtain ⟨css, h1, h2⟩ := h
  exact ⟨css, h1.mono fun b _ hb => .inl hb.1, own_rd h2, fun a ha _ => .inr (Nat.le_trans hb (hl a ha).1)⟩
def addE (out : List En) (x : En) : List En := if checkE [x] = 0 ∧ inE out x = false then insE out x else out
def sortedE (l : List En) : List En := l.foldl addE []
theorem addE_len (out : List En) (x : En) : (addE out x).length ≤ out.length + 1 := by
  unfold addE; split
  · rw [insE_length]; omega
  · omega
theorem addE_ok {p : En → Prop} {out : List En} {x : En} (h : ∀ y ∈ out, p y) (hx : p x) : ∀ y ∈ addE out x, p y := by
  unfold addE; split
  · intro y hy
    rw [insE, List.mem_append, List.mem_append] at hy
    rcases hy with (hy | hy) | hy
    · exact h y (List.mem_of_mem_take hy)
    · simp at hy; subst hy; exact hx
    · exact h y (List.mem_of_mem_drop hy)
  · exact h
theorem foldl_take {α β : Type} {f : β → α → β} {b : β} {l : List α} {k : Nat} {x : α} (h : l[k]? = some x) : (l.take (k + 1)).foldl f b = f ((l.take k).foldl f b) x := by
  rw [take_getR h, List.foldl_append]; rfl
theorem fold_facts {p : En → Prop} {l : List En} (h : ∀ y ∈ l, p y) : ∀ k, ((l.take k).foldl addE []).length ≤ k ∧ ∀ y ∈ (l.take k).foldl addE [], p y := by
  intro k
  induction k with
  | zero => simp
  | succ k ih =>
    cases hx : l[k]? with
    | none => rw [List.take_of_length_le (by have := List.getElem?_eq_none_iff.1 hx; omega)]; rw [List.take_of_length_le (by have := List.getElem?_eq_none_iff.1 hx; omega)] at ih; exact ⟨by omega, ih.2⟩
    | some x =>
      rw [foldl_take hx]
      exact ⟨by have := addE_len ((l.take k).foldl addE []) x; omega, addE_ok ih.2 (h x (List.mem_of_getElem? hx))⟩
theorem ext_len {l l' : List En} (h : l = l') : l.length = l'.length := by rw [h]
set_option maxRecDepth 4000 in
theorem sorted_any {S : BS} {A : Option Addr} {n c : Nat} {l : List En} {w : World} (hr : RdR 4 w S A (l.map enEl)) (hn : l.length = n) (hok : ∀ x ∈ l, x.key.length ≤ maxLen ∧ x.val.length ≤ maxLen) (hl : l.length ≤ 1048576) :
    CallsV Tryd.prog 10 #[.slice A n c] w (RetL w S (sortedE l)) := by
  subst hn
  have hmax : maxLen = 9223372036854775807 := rfl
  have hs := St.init w
  refine calls_in (N := _) Tryd.func10 rfl Tryd.ntmps10 rfl ?_; show WC _ _ _ _ _ _
  refine wc_sr ?_; refine wl_as rfl rfl ?_; refine wl_ns ?_; refine wc_sr ?_; refine wl_as rfl rfl ?_; refine wl_ns ?_; refine wc_seq ?_; refine wc_sr ?_; refine wl_as rfl rfl ?_; refine wl_ns ?_; refine wc_block ?_
  refine wc_loop (fun L wr mm => ∃ (k : Nat) (P : Option Addr) (cp : Nat) (out : List En), L = [(0, .slice A l.length c), (3, .slice P out.length cp), (4, .int .i64 (k : Int))] ∧ k ≤ l.length ∧ (l.take k).foldl addE [] = out ∧ out.length ≤ cp ∧ RdR 4 wr (Ab S w) P (out.map enEl) ∧ St NoB w wr [] ∧ mm = l.length - k)
    [(0, .slice A l.length c), (3, .slice none 0 0), (4, .int .i64 (0 : Nat))] l.length ⟨0, none, 0, [], rfl, by omega, rfl, by simp, RdR.nil _, hs, rfl⟩ ⟨rfl, rfl, rfl, trivial⟩ ?_
  clear hs
  rintro _ w1 mm ⟨k, P, cp, out, rfl, hk, hout, hcp, hro, hs, rfl⟩
  refine wc_seq ?_; refine wc_sr ?_; refine wl_mv rfl rfl ?_; refine wl_mv rfl rfl ?_; apply wl_val; apply opv_len; exact rfl; exact tkE.sl; exact rfl; refine wl_bin rfl rfl bin_lss rfl ?_; refine wl_ns ?_
  refine wc_cond rfl (fun h1 => ?_) (fun h1 => ?_)
  · obtain ⟨x, hx⟩ : ∃ x, l[k]? = some x := ⟨_, List.getElem?_eq_getElem (by omega)⟩
    have hox := hok x (List.mem_of_getElem? hx)
    have hf := fold_facts (p := fun x => x.key.length ≤ maxLen) (fun y hy => (hok y hy).1) k
    rw [hout] at hf
    have hstep := foldl_take (f := addE) (b := []) hx
    rw [hout, addE] at hstep
    obtain ⟨b, o, cs, rfl, _, _, hp, i1⟩ := RdR.at (k := 4) (by decide) hr (E := enEl x) (i := k) (by rw [List.getElem?_map, hx]; rfl)
    obtain ⟨X, cx, X2, cx2, rfl, rx, _, rx2, _⟩ := enEl.rd (El.all hp)
    have hi := i1.below hs.bel
    have hpw := El.below (El.all hp) hs.bel
    refine wc_skip ?_; refine we_seq ?_; refine wc_seq ?_; refine wc_block ?_; refine wc_sr ?_; refine wl_mv rfl rfl ?_; refine wl_mv rfl rfl ?_; apply wl_val; apply opv_idxG tkE; exact rfl; exact rfl; exact rfl; omega; exact rfl; apply wl_val; apply opv_ldG; exact rfl; assumption; exact sE; exact rfl
    refine wl_bsG (css := [enV x X cx X2 cx2]) tkE ⟨rfl, ⟨_, rfl, rfl⟩, rfl, trivial⟩ (els := [enEl x]) rfl (by decide) (by decide) (Grp.one hpw rfl) rfl fun R w2 hR hbx _ => ?_
    replace hro := hro.below hbx
    replace hs := hs.below hbx
    replace hi := hi.below hbx
    skip
    refine wl_call ok_caissonref07_Check (refCheck_any (l := [x]) (OwR.rd hR) rfl (by simp [maxLen])) ⟨rfl, trivial⟩ rfl ?_; rintro _ _ ⟨rfl, hbx2⟩; replace hs := hs.below hbx2; try dsimp only [List.cons_append, List.nil_append, setC, delC] at hs
    replace hro := hro.below hbx2
    replace hi := hi.below hbx2
    refine wl_cutE (fun L' w' => ∃ t : Bool, L' = [(0, .slice (some ⟨b, o, none⟩) l.length c), (3, .slice P out.length cp), (4, .int .i64 (k : Int)), (26, .bool t)] ∧ St NoB w w' [] ∧ RdR 4 w' (Ab S w) P (out.map enEl) ∧ (t = true ↔ (checkE [x] = 0 ∧ inE out x = false))) ?_ ?_
    · by_cases h2 : checkE [x] = 0
      · have h2' : ((checkE [x] : Nat) : Int) = 0 := by omega
        refine wl_bin rfl rfl bin_eql rfl ?_; refine wl_mv rfl rfl ?_; apply wl_take; exact rfl; exact rfl; exact rfl; refine bT ?_; (with_reducible assumption); refine wl_mv rfl rfl ?_; apply wl_take; exact rfl; exact rfl; exact rfl; refine bT ?_; (with_reducible assumption); refine wl_mv rfl rfl ?_; apply wl_take; exact rfl; exact rfl; exact rfl; refine bT ?_; (with_reducible assumption); refine wl_mv rfl rfl ?_; apply wl_take; exact rfl; exact rfl; exact rfl; refine bT ?_; (with_reducible assumption); apply wl_val; apply opv_idxG tkE; exact rfl; exact rfl; exact rfl; omega; exact rfl; apply wl_take; exact rfl; exact rfl; exact rfl; refine bT ?_; (with_reducible assumption); apply wl_val; apply opv_ldG; exact rfl; assumption; exact sE; exact rfl; apply wl_take; exact rfl; exact rfl; exact rfl; refine bT ?_; (with_reducible assumption)
        refine wl_call ok_caissonref07_In (in_any (e := x) hro.all rfl (rx.below hs.bel) hf.2 (by omega)) ⟨rfl, rfl, trivial⟩ rfl ?_; rintro _ _ ⟨rfl, hbx3⟩; replace hs := hs.below hbx3; try dsimp only [List.cons_append, List.nil_append, setC, delC] at hs
        replace hro := hro.below hbx3
        apply wl_take; exact rfl; exact rfl; exact rfl; refine bT ?_; (with_reducible assumption); apply wl_val; apply opv_not; exact rfl; exact rfl; apply wl_val; apply opv_pickT; exact rfl; refine bT ?_; (with_reducible assumption); exact rfl; exact rfl; refine wl_nil ?_
        refine we_cut _ ⟨!inE out x, rfl, hs, hro, ?_⟩ ⟨rfl, rfl, rfl, rfl, trivial⟩
        simp [h2]
      · have h2' : ¬ ((checkE [x] : Nat) : Int) = 0 := by omega
        refine wl_bin rfl rfl bin_eql rfl ?_; refine wl_mv rfl rfl ?_; apply wl_skip; exact rfl; exact rfl; exact rfl; refine bFn ?_; (with_reducible assumption); exact rfl; apply wl_skip; exact rfl; exact rfl; exact rfl; refine bFn ?_; (with_reducible assumption); exact rfl; apply wl_skip; exact rfl; exact rfl; exact rfl; refine bFn ?_; (with_reducible assumption); exact rfl; apply wl_skip; exact rfl; exact rfl; exact rfl; refine bFn ?_; (with_reducible assumption); exact rfl; apply wl_skip; exact rfl; exact rfl; exact rfl; refine bFn ?_; (with_reducible assumption); exact rfl; apply wl_skip; exact rfl; exact rfl; exact rfl; refine bFn ?_; (with_reducible assumption); exact rfl; apply wl_skip; exact rfl; exact rfl; exact rfl; refine bFn ?_; (with_reducible assumption); exact rfl; apply wl_val; apply opv_pickF; exact rfl; refine bF ?_; (with_reducible assumption); exact rfl; exact rfl; refine wl_nil ?_
        refine we_cut _ ⟨false, rfl, hs, hro, ?_⟩ ⟨rfl, rfl, rfl, rfl, trivial⟩
        simp [h2]
    clear hs hi hro
    rintro _ w4 ⟨t, rfl, hs, hro, ht⟩
    replace hpw := El.below hp hs.bel
    have hi := i1.below hs.bel
    cases t with
    | true =>
      rw [if_pos (ht.1 rfl)] at hstep
      refine we_seq ?_; apply wc_condTb; exact rfl; exact rfl; refine wc_region ?_; refine wl_mv rfl rfl ?_; refine wl_mv rfl rfl ?_; refine wl_mv rfl rfl ?_; apply wl_val; apply opv_idxG tkE; exact rfl; exact rfl; exact rfl; omega; exact rfl; apply wl_val; apply opv_ldG; exact rfl; assumption; exact sE; exact rfl
      refine wl_call ok_caissonref07_Insert (insert_any (e := x) (S := Ab S w) hro rfl hcp (El.mono hpw fun b _ h => .inl h) hf.2 hox.1 (by omega)) ⟨rfl, rfl, trivial⟩ rfl ?_
      rintro _ w5 ⟨P2, cp2, rfl, ho2, hbx4⟩
      have hz4 := hs.size
      replace hs := hs.below hbx4
      refine wl_as rfl rfl ?_; refine wl_nil ?_; refine we_block_norm ?_; refine we_seq ?_; refine wc_region ?_; refine wl_mv rfl rfl ?_; apply wl_val; apply opv_bin; exact rfl; exact rfl; exact bin_add64 (by omega); exact rfl; refine wl_as rfl rfl ?_; refine wl_nil ?_
      refine we_loop _ (l.length - (k + 1)) ⟨k + 1, P2, cp2, insE out x, rfl, by omega, hstep, by have := OwR.len_le ho2; simpa using this, (OwR.ab ho2 (Nat.le_refl _)).mono (by decide) fun b _ h => ?_, hs, rfl⟩ (by omega) ⟨rfl, rfl, by simp [lookT], trivial⟩
      rcases h with h | h
      · exact h
      · exact .inr (by omega)
    | false =>
      rw [if_neg (fun h => by have := ht.2 h; cases this)] at hstep
      refine we_seq ?_; apply wc_condFb; exact rfl; exact rfl; refine wc_skip ?_; refine we_block_norm ?_; refine we_seq ?_; refine wc_region ?_; refine wl_mv rfl rfl ?_; apply wl_val; apply opv_bin; exact rfl; exact rfl; exact bin_add64 (by omega); exact rfl; refine wl_as rfl rfl ?_; refine wl_nil ?_
      refine we_loop _ (l.length - (k + 1)) ⟨k + 1, P, cp, out, rfl, by omega, hstep, hcp, hro, hs, rfl⟩ (by omega) ⟨rfl, rfl, by simp [lookT], trivial⟩
  · obtain rfl : k = l.length := by omega
    rw [List.take_length] at hout
    refine wc_exit ?_; refine we_seq_exit ?_; refine we_loop_exit ?_; refine we_block_exit ?_; refine we_seq ?_; refine wc_sr ?_; refine wl_mv rfl rfl ?_; refine wl_as rfl rfl ?_; refine wl_ns ?_; refine wc_ret ?_
    exact we_ret1 rfl rfl ⟨_, rfl, P, cp, by rw [sortedE, hout], by rw [sortedE, hout]; exact hcp, by rw [sortedE, hout]; exact hro, hs.bel⟩
end Go.Proofs.YtpnckagibkdcpaaDoor


/-
  Walks over the checks of many lists, of the program and of the document.
-/
namespace Go.Proofs.YtpnckagibkdcpaaDoor
open Go.RowKit

abbrev rowsE (lists : List (List En)) : List El := lists.map fun l => rowEl 4 (l.map enEl)
theorem rowsE_at {w : World} {S : BS} {A : Option Addr} {lists : List (List En)} {k : Nat} {l : List En} (hr : RdR 1 w S A (rowsE lists)) (hx : lists[k]? = some l) :
    ∃ b o X cx, A = some ⟨b, o, none⟩ ∧ l.length ≤ cx ∧ RdR 4 w S X (l.map enEl) ∧ Wi w b (o + k * 1) [.slice X l.length cx] := by
  obtain ⟨b, o, cs, hA, _, _, hp, hi⟩ := RdR.at (k := 1) (by decide) hr (E := rowEl 4 (l.map enEl)) (i := k) (by rw [List.getElem?_map, hx]; rfl)
  obtain ⟨X, cx, rfl, hc, h, _⟩ := hp
  rw [List.length_map] at hc hi
  exact ⟨b, o, X, cx, hA, hc, h, hi⟩
def errE (l : List En) : Nat := if checkE l = 0 ∧ ordE l = false then 3 else checkE l
def stepW (worst : Nat) (l : List En) : Nat := if errE l ≠ 0 ∧ (worst = 0 ∨ errE l < worst) then errE l else worst
def worstE (lists : List (List En)) : Nat := lists.foldl stepW 0
theorem checkE_le (l : List En) : checkE l = 0 ∨ checkE l = 2 ∨ checkE l = 3 := by
  unfold checkE; split
  · exact .inr (.inl rfl)
  · split
    · exact .inr (.inr rfl)
    · exact .inl rfl
theorem stepW_le {worst : Nat} {l : List En} (h : worst ≤ 3) : stepW worst l ≤ 3 := by
  have := checkE_le l
  have he : errE l ≤ 3 := by unfold errE; split <;> omega
  unfold stepW
  split
  · exact he
  · exact h
theorem foldW_le {lists : List (List En)} : ∀ {w : Nat}, w ≤ 3 → lists.foldl stepW w ≤ 3 := by
  induction lists with
  | nil => intro w h; exact h
  | cons l lists ih => intro w h; exact ih (stepW_le h)
theorem worstE_take {lists : List (List En)} {k : Nat} {l : List En} (h : lists[k]? = some l) : worstE (lists.take (k + 1)) = stepW (worstE (lists.take k)) l := by
  rw [worstE, worstE, take_getR h, List.foldl_append]; rfl
/-- The first so many neighbours stand in order. -/
def okTo (l : List En) (j : Nat) : Bool := (List.range j).all fun i => match l[i]?, l[i + 1]? with | some x, some y => lessE x y | _, _ => true
theorem okTo_succ {l : List En} {j : Nat} {x y : En} (hx : l[j]? = some x) (hy : l[j + 1]? = some y) : okTo l (j + 1) = (okTo l j && lessE x y) := by
  unfold okTo; rw [List.range_succ, List.all_append]; simp [hx, hy]
theorem okTo_all {l : List En} {j : Nat} (hj : l.length ≤ j + 1) : okTo l j = ordE l := by
  rw [Bool.eq_iff_iff, ordE_iff]
  unfold okTo
  rw [List.all_eq_true]
  constructor
  · intro h i x y hx hy
    have := h i (List.mem_range.2 (by have := (List.getElem?_eq_some_iff.1 hy).1; omega))
    simpa [hx, hy] using this
  · intro h i _
    split
    · rename_i x y hx hy; exact h i x y hx hy
    · rfl
def wv (w1 : Nat) (b : Bool) : Nat := if w1 = 0 ∧ b = false then 3 else w1
theorem wv_step {worst : Nat} {l : List En} (h : worst ≤ 3) : wv (if checkE l ≠ 0 ∧ (worst = 0 ∨ checkE l < worst) then checkE l else worst) (ordE l) = stepW worst l := by
  unfold wv stepW errE
  rcases checkE_le l with h0 | h0 | h0 <;> rw [h0] <;> cases ordE l <;> simp <;> split <;> (try split) <;> (try split) <;> omega
end Go.Proofs.YtpnckagibkdcpaaDoor


/-
  Walks over Visible, of the program and of the document.
-/
namespace Go.Proofs.YtpnckagibkdcpaaDoor
open Go.RowKit

theorem Mod.rebase {M : BS} {w0 w1 w : World} (hb : Below w0.heap.size w0 w1) (h : Mod M w1 w) (hM : ∀ b, M b → w0.heap.size ≤ b) : Mod NoB w0 w := (Mod.of_below hb NoB).trans h fun b hb h => by have := hM b h; omega
/-- What began later. -/
theorem St.rebase {w0 w1 w : World} {H : List Cd} (hs : St NoB w1 w H) (hb : Below w0.heap.size w0 w1) : St NoB w0 w H :=
  ⟨Mod.rebase hb hs.1 fun b h => h.elim, hs.2.mono fun b _ h => h.elim (fun k => k.elim) fun k => .inr (Nat.le_trans hb.size k)⟩
/-- Entries with memory of their own, and a code. -/
def RetLE (w : World) (l : List En) (e : Nat) (v : Value) (w' : World) : Prop := ∃ (P : Option Addr) (cp : Nat), v = .tuple #[.slice P l.length cp, .int .i64 (e : Int)] ∧ St NoB w w' [.ck (rsC 4 39 P cp (l.map oE))]
def visR (m : Nat) (run : List En) : Option En := (atE run m).bind fun i => (run[i]?).filter fun x => decide (x.kind = 1)
def visE (l : List En) (m : Nat) : List En := (runsE l).filterMap (visR m)
theorem runsF_len : ∀ (l acc : List En), (runsF l acc).length ≤ l.length ∧ ∀ r ∈ runsF l acc, r ≠ [] ∧ (∀ x ∈ r, x ∈ acc ∨ x ∈ l) ∧ r.length ≤ acc.length + l.length
  | [], acc => by simp [runsF]
  | [x], acc => by simp [runsF]
  | x :: y :: l, acc => by
    rw [runsF]
    split
    · obtain ⟨h1, h2⟩ := runsF_len (y :: l) (acc ++ [x])
      refine ⟨by simp at h1 ⊢; omega, fun r hr => ?_⟩
      obtain ⟨h3, h4, h5⟩ := h2 r hr
      refine ⟨h3, fun z hz => ?_, by simp at h5 ⊢; omega⟩
      rcases h4 z hz with h | h
      · rw [List.mem_append] at h
        rcases h with h | h
        · exact .inl h
        · simp at h; subst h; simp
      · exact .inr (List.mem_cons_of_mem _ h)
    · obtain ⟨h1, h2⟩ := runsF_len (y :: l) []
      refine ⟨by simp at h1 ⊢; omega, fun r hr => ?_⟩
      rw [List.mem_cons] at hr
      rcases hr with rfl | hr
      · refine ⟨by simp, fun z hz => ?_, by simp⟩
        rw [List.mem_append] at hz
        rcases hz with h | h
        · exact .inl h
        · simp at h; subst h; simp
      · obtain ⟨h3, h4, h5⟩ := h2 r hr
        refine ⟨h3, fun z hz => ?_, by simp at h5 ⊢; omega⟩
        rcases h4 z hz with h | h
        · simp at h
        · exact .inr (List.mem_cons_of_mem _ h)
theorem runsE_facts (l : List En) : (runsE l).length ≤ l.length ∧ ∀ r ∈ runsE l, r ≠ [] ∧ (∀ x ∈ r, x ∈ l) ∧ r.length ≤ l.length := by
  obtain ⟨h1, h2⟩ := runsF_len l []
  refine ⟨h1, fun r hr => ?_⟩
  obtain ⟨h3, h4, h5⟩ := h2 r hr
  exact ⟨h3, fun x hx => (h4 x hx).resolve_left (by simp), by simpa using h5⟩
theorem filterMap_take {α β : Type} {f : α → Option β} {l : List α} {k : Nat} {x : α} (h : l[k]? = some x) : (l.take (k + 1)).filterMap f = (l.take k).filterMap f ++ (f x).toList := by
  rw [take_getR h, List.filterMap_append]; cases hf : f x <;> simp [List.filterMap_cons, hf]
theorem filterMap_len {α β : Type} (f : α → Option β) (l : List α) : (l.filterMap f).length ≤ l.length := List.length_filterMap_le f l
def visP (l : List En) (m : Nat) (x : En) : Bool := match getE l x.key m with | some v => decide (v.seq = x.seq ∧ v.kind = 1) | none => false
def refVis (l : List En) (m : Nat) : List En := l.filter (visP l m)
theorem filter_take {α : Type} {p : α → Bool} {l : List α} {k : Nat} {x : α} (h : l[k]? = some x) : (l.take (k + 1)).filter p = (l.take k).filter p ++ (if p x then [x] else []) := by
  rw [take_getR h, List.filter_append]; cases hp : p x <;> simp [List.filter_cons, hp]
end Go.Proofs.YtpnckagibkdcpaaDoor


/-
  Walks over needed and Keep of the program.
-/
namespace Go.Proofs.YtpnckagibkdcpaaDoor
open Go.RowKit

theorem tyQ : Row1 Tryd.prog 23 37 (.int .u64 0) 8 := ⟨Tryd.underlying23, by kernel_rfl, rfl, by rw [Tryd.underlying37]⟩
def u64s (ms : List Nat) : List Value := ms.map fun (m : Nat) => .int .u64 (m : Int)
theorem u64s_get {ms : List Nat} {k m : Nat} (h : ms[k]? = some m) : (u64s ms)[k]? = some (.int .u64 (m : Int)) := by simp [u64s, h]
/-- Whether place i of a run is needed. -/
def ndP (run : List En) (ms : List Nat) (i : Nat) : Bool := decide (i = 0) || ms.any fun m => decide (atE run m = some i)
def pick (run : List En) (ms : List Nat) (i : Nat) : Option En := if ndP run ms i then run[i]? else none
def needE (run : List En) (ms : List Nat) : List En := (List.range run.length).filterMap (pick run ms)
def ndV (run : List En) (ms : List Nat) : List Value := (List.range run.length).map fun i => .bool (ndP run ms i)
theorem ndV_get {run : List En} {ms : List Nat} {i : Nat} (h : i < run.length) : (ndV run ms)[i]? = some (.bool (ndP run ms i)) := by simp [ndV, h]
theorem ndV_len (run : List En) (ms : List Nat) : (ndV run ms).length = run.length := by simp [ndV]
theorem ndV_nil {run : List En} (h : 0 < run.length) : (List.replicate run.length (Value.bool false)).set 0 (.bool true) = ndV run [] := by
  apply List.ext_getElem?
  intro i
  rw [List.getElem?_set, List.getElem?_replicate]
  by_cases h1 : i < run.length
  · rw [ndV_get h1, ndP]
    cases i with
    | zero => simp [h]
    | succ i => simp [h1]
  · rw [List.getElem?_eq_none (by rw [ndV_len]; omega), if_neg (by omega), if_neg h1]
theorem ndV_set {run : List En} {ms : List Nat} {m i : Nat} (h : i < run.length) (ha : atE run m = some i) : (ndV run ms).set i (.bool true) = ndV run (ms ++ [m]) := by
  apply List.ext_getElem?
  intro j
  rw [List.getElem?_set, ndV_len]
  by_cases h1 : j < run.length
  · rw [ndV_get h1, ndV_get h1, ndP, ndP, List.any_append]
    by_cases h2 : i = j
    · subst h2; simp [h, ha]
    · have : ¬ atE run m = some j := by rw [ha]; simpa using h2
      simp [h2, this]
  · rw [List.getElem?_eq_none (by rw [ndV_len]; omega), if_neg (by omega), List.getElem?_eq_none (by rw [ndV_len]; omega)]
theorem ndV_none {run : List En} {ms : List Nat} {m : Nat} (ha : atE run m = none) : ndV run ms = ndV run (ms ++ [m]) := by
  unfold ndV ndP; simp [List.any_append, ha]
theorem ndV_one (run : List En) (ms : List Nat) : ∀ u ∈ ndV run ms, u.oneCell' = true := by
  intro u hu; simp [ndV] at hu; obtain ⟨_, _, rfl⟩ := hu; rfl
theorem needE_take {run : List En} {ms : List Nat} {k : Nat} : (List.range (k + 1)).filterMap (pick run ms) = (List.range k).filterMap (pick run ms) ++ (pick run ms k).toList := by
  rw [List.range_succ, List.filterMap_append]; cases h : pick run ms k <;> simp [h]
/-- How many stay when what is deleted at the end goes. -/
def trimN (s : List En) : Nat → Nat
  | 0 => 0
  | n + 1 => match s[n]? with
    | some x => if x.kind = 2 then trimN s n else n + 1
    | none => n + 1
theorem trimN_le (s : List En) : ∀ n, trimN s n ≤ n
  | 0 => Nat.le_refl _
  | n + 1 => by
    rw [trimN]
    have := trimN_le s n
    split
    · split <;> omega
    · omega
def keepR (bottom : Bool) (ms : List Nat) (run : List En) : List En := (needE run ms).take (if bottom then trimN (needE run ms) (needE run ms).length else (needE run ms).length)
def keepE (l : List En) (bottom : Bool) (ms : List Nat) : List En := (runsE l).flatMap (keepR bottom ms)
theorem flatMap_take {α β : Type} {f : α → List β} {l : List α} {k : Nat} {x : α} (h : l[k]? = some x) : (l.take (k + 1)).flatMap f = (l.take k).flatMap f ++ f x := by
  rw [take_getR h, List.flatMap_append]; simp
theorem needE_len (run : List En) (ms : List Nat) : (needE run ms).length ≤ run.length := by
  have := filterMap_len (pick run ms) (List.range run.length); rw [List.length_range] at this; exact this
theorem keepR_len (b : Bool) (ms : List Nat) (run : List En) : (keepR b ms run).length ≤ run.length := by
  have := needE_len run ms
  unfold keepR; rw [List.length_take]; omega
theorem flat_len {f : List En → List En} (hf : ∀ r, (f r).length ≤ r.length) : ∀ (rs : List (List En)), (rs.flatMap f).length ≤ (rs.map List.length).sum
  | [] => by simp
  | r :: rs => by
    have := flat_len hf rs
    have := hf r
    rw [List.flatMap_cons, List.length_append, List.map_cons, List.sum_cons]; omega
theorem runsF_sum : ∀ (l acc : List En), l ≠ [] → ((runsF l acc).map List.length).sum = acc.length + l.length
  | [], _, h => absurd rfl h
  | [x], acc, _ => by simp [runsF]
  | x :: y :: l, acc, _ => by
    rw [runsF]
    split
    · rw [runsF_sum (y :: l) (acc ++ [x]) (by simp)]; simp; omega
    · rw [List.map_cons, List.sum_cons, runsF_sum (y :: l) [] (by simp)]; simp; omega
theorem runs_sum (l : List En) : ((runsE l).map List.length).sum = l.length := by
  cases l with
  | nil => simp [runsE, runsF]
  | cons x l => rw [runsE, runsF_sum _ _ (by simp)]; simp
theorem take_sum {rs : List (List En)} (k : Nat) : ((rs.take k).map List.length).sum ≤ (rs.map List.length).sum := by
  conv => rhs; rw [← List.take_append_drop k rs, List.map_append, List.sum_append]
  omega
end Go.Proofs.YtpnckagibkdcpaaDoor


/-
  Walks over need and Keep of the document.
-/
namespace Go.Proofs.YtpnckagibkdcpaaDoor
open Go.RowKit

def z0 : En := ⟨[], 0, 0, []⟩
theorem get2_any {A K : Option Addr} {n c kc kn at' : Nat} {l : List En} {key : List UInt8} {w : World} (hr : RdR 4 w All A (l.map enEl)) (hn : l.length = n) (rk : RdB w K key) (hkn : key.length = kn) (hok : ∀ x ∈ l, x.key.length ≤ maxLen) (hl : l.length ≤ 4294967296) :
    CallsV Tryd.prog 33 #[.slice A n c, .slice K kn kc, .int .u64 (at' : Int)] w fun v w' => (∃ Y cy Y2 cy2, v = .tuple #[.agg (enV ((getE l key at').getD z0) Y cy Y2 cy2).toArray, .bool (getE l key at').isSome]) ∧ Below w.heap.size w w' :=
  (get_any hr hn rk hkn hok hl).mono fun v w' ⟨h1, h2⟩ => ⟨by
    cases hg : getE l key at' with
    | none => rw [hg] at h1; exact ⟨none, 0, none, 0, h1⟩
    | some y => rw [hg] at h1; obtain ⟨Y, cy, Y2, cy2, h⟩ := h1; exact ⟨Y, cy, Y2, cy2, h⟩, h2⟩
def seqIs (o : Option En) (x : En) : Bool := o.isSome && decide ((o.getD z0).seq = x.seq)
def newest (l : List En) (x : En) : Bool := decide (((getE l x.key 18446744073709551615).getD z0).seq = x.seq)
def refNeed (l : List En) (ms : List Nat) (x : En) : Bool := newest l x || ms.any fun m => seqIs (getE l x.key m) x
def putP (x y : En) : Bool := decide (y.key = x.key ∧ y.kind = 1)
def putsP (l : List En) (i : Nat) : Option En := match l[i]? with | some x => if decide (x.kind = 1) || (l.drop (i + 1)).any (putP x) then some x else none | none => none
def putsE (l : List En) : List En := (List.range l.length).filterMap (putsP l)
def refKeep (l : List En) (bt : Bool) (ms : List Nat) : List En := if bt then putsE (l.filter (refNeed l ms)) else l.filter (refNeed l ms)
theorem range_filterMap {α : Type} {f : Nat → Option α} {k : Nat} : (List.range (k + 1)).filterMap f = (List.range k).filterMap f ++ (f k).toList := by
  rw [List.range_succ, List.filterMap_append]; cases h : f k <;> simp [h]
theorem any_drop {α : Type} {p : α → Bool} {l : List α} {i k : Nat} {x : α} (hi : i ≤ k) (h : l[k]? = some x) : ((l.take (k + 1)).drop i).any p = (((l.take k).drop i).any p || p x) := by
  rw [take_getR h, List.drop_append_of_le_length (by have := (List.getElem?_eq_some_iff.1 h).1; simp; omega)]; simp
end Go.Proofs.YtpnckagibkdcpaaDoor


/-
  The plain laws of lists of entries: what the program's Visible and Keep make is what the document's make. No program in sight.
-/
namespace Go.Proofs.YtpnckagibkdcpaaDoor

theorem cmp_trans : ∀ {a b c : List UInt8}, cmpB a b < 0 → cmpB b c < 0 → cmpB a c < 0
  | [], [], _, h, _ => by simp [cmpB] at h
  | [], _ :: _, [], _, h => by simp [cmpB] at h
  | [], _ :: _, _ :: _, _, _ => by simp [cmpB]
  | _ :: _, [], _, h, _ => by simp [cmpB] at h
  | _ :: _, _ :: _, [], _, h => by simp [cmpB] at h
  | x :: xs, y :: ys, z :: zs, h, k => by
    rcases Nat.lt_trichotomy x.toNat y.toNat with h1 | h1 | h1
    · rcases Nat.lt_trichotomy y.toNat z.toNat with h2 | h2 | h2
      · rw [cmp_lt (UInt8.lt_iff_toNat_lt.2 (by omega))]; decide
      · rw [cmp_lt (UInt8.lt_iff_toNat_lt.2 (by omega))]; decide
      · rw [cmp_gt (UInt8.lt_iff_toNat_lt.2 h2)] at k; simp at k
    · obtain rfl := UInt8.toNat_inj.1 h1
      rcases Nat.lt_trichotomy x.toNat z.toNat with h2 | h2 | h2
      · rw [cmp_lt (UInt8.lt_iff_toNat_lt.2 h2)]; decide
      · obtain rfl := UInt8.toNat_inj.1 h2
        rw [cmp_same] at h k ⊢
        exact cmp_trans h k
      · rw [cmp_gt (UInt8.lt_iff_toNat_lt.2 h2)] at k; simp at k
    · rw [cmp_gt (UInt8.lt_iff_toNat_lt.2 h1)] at h; simp at h
theorem lessE_iff {a b : En} : lessE a b = true ↔ cmpB a.key b.key < 0 ∨ (a.key = b.key ∧ b.seq < a.seq) := by
  rw [lessE, decide_eq_true_eq]
  constructor
  · rintro (h | ⟨h, h'⟩)
    · exact .inl h
    · exact .inr ⟨cmp_zero h, h'⟩
  · rintro (h | ⟨h, h'⟩)
    · exact .inl h
    · exact .inr ⟨by rw [h]; exact cmp_refl _, h'⟩
theorem lessE_trans {a b c : En} (h : lessE a b = true) (k : lessE b c = true) : lessE a c = true := by
  rw [lessE_iff] at h k ⊢
  rcases h with h | ⟨h, h'⟩
  · rcases k with k | ⟨k, k'⟩
    · exact .inl (cmp_trans h k)
    · rw [← k]; exact .inl h
  · rcases k with k | ⟨k, k'⟩
    · rw [h]; exact .inl k
    · exact .inr ⟨h.trans k, by omega⟩
theorem lessE_irr (a : En) : lessE a a = false := by
  rw [← Bool.not_eq_true, lessE_iff, cmp_refl]; simp
theorem lessE_tri (a b : En) : lessE a b = true ∨ (a.key = b.key ∧ a.seq = b.seq) ∨ lessE b a = true := by
  rw [lessE_iff, lessE_iff, cmp_neg a.key b.key]
  rcases cmp_range a.key b.key with h | h | h
  · exact .inl (.inl (by omega))
  · have hk := cmp_zero h
    rcases Nat.lt_trichotomy a.seq b.seq with h1 | h1 | h1
    · exact .inr (.inr (.inr ⟨hk.symm, h1⟩))
    · exact .inr (.inl ⟨hk, h1⟩)
    · exact .inl (.inr ⟨hk, h1⟩)
  · exact .inr (.inr (.inl (by omega)))
/-- In order. -/
abbrev Ord (l : List En) : Prop := l.Pairwise fun a b => lessE a b = true
theorem ord_of : ∀ {l : List En}, ordE l = true → Ord l
  | [], _ => .nil
  | [a], _ => by simp [Ord]
  | a :: b :: l, h => by
    rw [ordE, Bool.and_eq_true] at h
    have ih := ord_of h.2
    refine List.pairwise_cons.2 ⟨fun x hx => ?_, ih⟩
    rw [List.mem_cons] at hx
    rcases hx with rfl | hx
    · exact h.1
    · exact lessE_trans h.1 ((List.pairwise_cons.1 ih).1 x hx)
theorem ordE_of : ∀ {l : List En}, Ord l → ordE l = true
  | [], _ => rfl
  | [a], _ => rfl
  | a :: b :: l, h => by
    obtain ⟨h1, h2⟩ := List.pairwise_cons.1 h
    rw [ordE, h1 b List.mem_cons_self, ordE_of h2]; rfl
theorem ord_key {a b : En} (h : lessE a b = true) (hne : ¬ a.key = b.key) {c : En} (hc : lessE b c = true) : ¬ a.key = c.key := by
  rw [lessE_iff] at h hc
  have h1 : cmpB a.key b.key < 0 := h.resolve_right fun k => hne k.1
  intro he
  rcases hc with hc | ⟨hc, _⟩
  · have := cmp_trans h1 hc
    rw [he, cmp_refl] at this; omega
  · exact hne (he.trans hc.symm)
/-- A list cut into runs. -/
structure Runs (rs : List (List En)) : Prop where
  some : ∀ r ∈ rs, r ≠ []
  same : ∀ r ∈ rs, ∀ x ∈ r, ∀ y ∈ r, x.key = y.key
  diff : rs.Pairwise fun r r' => ∀ x ∈ r, ∀ y ∈ r', ¬ x.key = y.key
theorem runsF_spec : ∀ (x : En) (l acc : List En), Ord (x :: l) → (∀ y ∈ acc, y.key = x.key) → (runsF (x :: l) acc).flatten = acc ++ x :: l ∧ Runs (runsF (x :: l) acc)
  | x, [], acc, _, ha => by
    rw [runsF]
    refine ⟨by simp, ⟨by simp, ?_, by simp⟩⟩
    intro r hr y hy z hz
    simp at hr; subst hr
    have key : ∀ y ∈ acc ++ [x], y.key = x.key := fun y hy => by
      rw [List.mem_append] at hy
      rcases hy with h | h
      · exact ha y h
      · simp at h; rw [h]
    rw [key y hy, key z hz]
  | x, y :: l, acc, ho, ha => by
    obtain ⟨h1, h2⟩ := List.pairwise_cons.1 ho
    have key : ∀ z ∈ acc ++ [x], z.key = x.key := fun z hz => by
      rw [List.mem_append] at hz
      rcases hz with h | h
      · exact ha z h
      · simp at h; rw [h]
    rw [runsF]
    by_cases hk : x.key = y.key
    · rw [if_pos hk]
      obtain ⟨f1, f2⟩ := runsF_spec y l (acc ++ [x]) h2 fun z hz => (key z hz).trans hk
      exact ⟨by rw [f1]; simp, f2⟩
    · rw [if_neg hk]
      obtain ⟨f1, f2⟩ := runsF_spec y l [] h2 (by simp)
      refine ⟨by rw [List.flatten_cons, f1]; simp, ⟨?_, ?_, ?_⟩⟩
      · intro r hr
        rw [List.mem_cons] at hr
        rcases hr with rfl | hr
        · simp
        · exact f2.some r hr
      · intro r hr
        rw [List.mem_cons] at hr
        rcases hr with rfl | hr
        · exact fun u hu v hv => by rw [key u hu, key v hv]
        · exact f2.same r hr
      · refine List.pairwise_cons.2 ⟨fun r hr u hu v hv => ?_, f2.diff⟩
        have hv' : v ∈ y :: l := by
          have : v ∈ (runsF (y :: l) []).flatten := List.mem_flatten.2 ⟨r, hr, hv⟩
          rw [f1] at this; simpa using this
        rw [key u hu]
        rw [List.mem_cons] at hv'
        rcases hv' with rfl | hv'
        · exact hk
        · exact ord_key (h1 y List.mem_cons_self) hk ((List.pairwise_cons.1 h2).1 v hv')
theorem runs_spec {l : List En} (h : Ord l) : (runsE l).flatten = l ∧ Runs (runsE l) := by
  cases l with
  | nil => exact ⟨rfl, ⟨by simp [runsE, runsF], by simp [runsE, runsF], by simp [runsE, runsF]⟩⟩
  | cons x l => have := runsF_spec x l [] h (by simp); exact ⟨by rw [runsE, this.1]; rfl, this.2⟩
/-- The first of a run that isn't above a moment. -/
def fstE (r : List En) (m : Nat) : Option En := r.find? fun x => decide (x.seq ≤ m)
theorem find_findIdx {α : Type} (p : α → Bool) : ∀ (r : List α), r.find? p = (r.findIdx? p).bind fun i => r[i]?
  | [] => rfl
  | x :: r => by
    rw [List.find?_cons, List.findIdx?_cons]
    cases h : p x with
    | true => rfl
    | false =>
      rw [find_findIdx p r]
      cases r.findIdx? p <;> simp
theorem visR_eq (m : Nat) (r : List En) : visR m r = (fstE r m).filter fun x => decide (x.kind = 1) := by
  rw [visR, fstE, find_findIdx, atE]
  cases r.findIdx? _ <;> rfl
/-- Of a run the numbers fall. -/
abbrev Fall (r : List En) : Prop := r.Pairwise fun a b => b.seq < a.seq
theorem find_runs {p q : En → Bool} : ∀ {rs : List (List En)} {r : List En}, Runs rs → r ∈ rs → ∀ {x : En}, x ∈ r → (∀ y, p y = (decide (y.key = x.key) && q y)) → rs.flatten.find? p = r.find? q
  | [], r, _, h, _, _, _ => by simp at h
  | r0 :: rs, r, hR, hr, x, hx, hp => by
    obtain ⟨hd, hd2⟩ := List.pairwise_cons.1 hR.diff
    have hR2 : Runs rs := ⟨fun r h => hR.some r (List.mem_cons_of_mem _ h), fun r h => hR.same r (List.mem_cons_of_mem _ h), hd2⟩
    rw [List.flatten_cons, List.find?_append]
    rw [List.mem_cons] at hr
    rcases hr with rfl | hr
    · have h1 : rs.flatten.find? p = none := by
        rw [List.find?_eq_none]
        intro y hy
        obtain ⟨r', hr', hy'⟩ := List.mem_flatten.1 hy
        rw [hp, decide_eq_false fun h => hd r' hr' x hx y hy' h.symm]; simp
      have h2 : r.find? p = r.find? q := by
        have hc : ∀ (l : List En), (∀ y ∈ l, p y = q y) → l.find? p = l.find? q := by
          intro l
          induction l with
          | nil => intro _; rfl
          | cons a l ih => intro h; rw [List.find?_cons, List.find?_cons, h a List.mem_cons_self, ih fun y hy => h y (List.mem_cons_of_mem _ hy)]
        exact hc r fun y hy => by rw [hp, decide_eq_true (hR.same r List.mem_cons_self y hy x hx)]; simp
      rw [h1, h2]; simp
    · have h1 : r0.find? p = none := by
        rw [List.find?_eq_none]
        intro y hy
        rw [hp, decide_eq_false fun h => hd r hr y hy x hx h]; simp
      rw [h1, Option.none_or]
      exact find_runs hR2 hr hx hp
theorem get_run {rs : List (List En)} {r : List En} (hR : Runs rs) (hr : r ∈ rs) {x : En} (hx : x ∈ r) (m : Nat) : getE rs.flatten x.key m = fstE r m :=
  find_runs hR hr hx fun y => by rw [Bool.decide_and]
theorem fall_of {l : List En} (ho : Ord l) {r : List En} (hR : Runs (runsE l)) (hr : r ∈ runsE l) : Fall r := by
  have hs : r.Sublist l := by
    have := (runs_spec ho).1
    rw [← this]
    exact List.sublist_flatten_of_mem hr
  refine (ho.sublist hs).imp_of_mem fun {a b} ha hb h => ?_
  rw [lessE_iff, hR.same r hr a ha b hb, cmp_refl] at h
  rcases h with h | h
  · omega
  · exact h.2
theorem filter_one : ∀ {r : List En}, Fall r → ∀ {v : En}, v ∈ r → r.filter (fun x => decide (v.seq = x.seq)) = [v]
  | [], _, _, h => by simp at h
  | a :: r, hf, v, h => by
    obtain ⟨h1, h2⟩ := List.pairwise_cons.1 hf
    rw [List.mem_cons] at h
    rcases h with rfl | h
    · rw [List.filter_cons, if_pos (by simp)]
      congr 1
      rw [List.filter_eq_nil_iff]
      intro x hx
      have := h1 x hx
      simp; omega
    · have := h1 v h
      rw [List.filter_cons, if_neg (by simp; omega), filter_one h2 h]
theorem filter_flat {α : Type} (p : α → Bool) : ∀ (rs : List (List α)), rs.flatten.filter p = rs.flatMap (List.filter p)
  | [] => rfl
  | r :: rs => by rw [List.flatten_cons, List.filter_append, filter_flat p rs, List.flatMap_cons]
theorem flatMap_congr {α β : Type} {f g : α → List β} : ∀ {l : List α}, (∀ x ∈ l, f x = g x) → l.flatMap f = l.flatMap g
  | [], _ => rfl
  | x :: l, h => by rw [List.flatMap_cons, List.flatMap_cons, h x List.mem_cons_self, flatMap_congr fun y hy => h y (List.mem_cons_of_mem _ hy)]
theorem filterMap_flat {α β : Type} (f : α → Option β) : ∀ (l : List α), l.filterMap f = l.flatMap fun x => (f x).toList
  | [] => rfl
  | x :: l => by rw [List.flatMap_cons, ← filterMap_flat f l, List.filterMap_cons]; cases f x <;> rfl
/-- What one sees is what the document says. -/
theorem vis_eq {l : List En} (ho : Ord l) (m : Nat) : visE l m = refVis l m := by
  obtain ⟨hf, hR⟩ := runs_spec ho
  have hfall := fun r hr => fall_of ho (r := r) hR hr
  rw [visE, refVis]
  conv => rhs; rw [← hf]
  rw [filter_flat, filterMap_flat]
  refine flatMap_congr fun r hr => ?_
  have hp : ∀ x ∈ r, visP (runsE l).flatten m x = match fstE r m with | some v => decide (v.seq = x.seq ∧ v.kind = 1) | none => false := fun x hx => by rw [visP, get_run hR hr hx] <;> rfl
  rw [List.filter_congr (q := fun x => match fstE r m with | some v => decide (v.seq = x.seq ∧ v.kind = 1) | none => false) hp, visR_eq]
  cases hv : fstE r m with
  | none => simp
  | some v =>
    have hvr : v ∈ r := List.mem_of_find?_eq_some hv
    by_cases hk : v.kind = 1
    · simp only [hk, and_true]
      rw [filter_one (hfall r hr) hvr]; simp [hk]
    · have h0 : r.filter (fun x => decide (v.seq = x.seq ∧ v.kind = 1)) = [] := List.filter_eq_nil_iff.2 (by simp [hk])
      rw [h0]; simp [hk, Option.filter]
/-- Whether an entry of a run is needed. -/
def nd (r : List En) (ms : List Nat) (x : En) : Bool := decide (r[0]? = some x) || ms.any fun m => decide (fstE r m = some x)
theorem fall_inj {r : List En} (hf : Fall r) {i j : Nat} {x y : En} (hi : r[i]? = some x) (hj : r[j]? = some y) (h : x.seq = y.seq) : i = j := by
  obtain ⟨hi', rfl⟩ := List.getElem?_eq_some_iff.1 hi
  obtain ⟨hj', rfl⟩ := List.getElem?_eq_some_iff.1 hj
  rcases Nat.lt_trichotomy i j with h1 | h1 | h1
  · have := (List.pairwise_iff_getElem.1 hf) i j hi' hj' h1; omega
  · exact h1
  · have := (List.pairwise_iff_getElem.1 hf) j i hj' hi' h1; omega
theorem fst_at {r : List En} {m i : Nat} (h : atE r m = some i) : fstE r m = r[i]? := by rw [fstE, find_findIdx]; rw [atE] at h; rw [h]; rfl
theorem fst_iff {r : List En} (hf : Fall r) {m i : Nat} {x : En} (hx : r[i]? = some x) : fstE r m = some x ↔ atE r m = some i := by
  constructor
  · intro h
    cases ha : atE r m with
    | none => rw [fstE, find_findIdx] at h; rw [atE] at ha; rw [ha] at h; cases h
    | some j => rw [fst_at ha] at h; rw [fall_inj hf h hx rfl]
  · intro h; rw [fst_at h, hx]
theorem nd_at {r : List En} (hf : Fall r) (ms : List Nat) {i : Nat} {x : En} (hx : r[i]? = some x) : nd r ms x = ndP r ms i := by
  rw [nd, ndP]
  congr 1
  · refine decide_eq_decide.2 ⟨fun h => fall_inj hf hx h rfl, ?_⟩
    rintro rfl; exact hx
  · refine congrArg (fun f => ms.any f) (funext fun m => decide_eq_decide.2 (fst_iff hf hx))
theorem need_filter {r : List En} (hf : Fall r) (ms : List Nat) : needE r ms = r.filter (nd r ms) := by
  have key : ∀ k, k ≤ r.length → (List.range k).filterMap (pick r ms) = (r.take k).filter (nd r ms) := by
    intro k
    induction k with
    | zero => intro _; rfl
    | succ k ih =>
      intro hk
      have hx : r[k]? = some (r[k]'(by omega)) := List.getElem?_eq_getElem (by omega)
      rw [needE_take, filter_take hx, ih (by omega), pick, ← nd_at hf ms hx, hx]
      cases nd r ms _ <;> rfl
  rw [needE, key _ (Nat.le_refl _), List.take_length]
theorem refNeed_run {l : List En} (ho : Ord l) (hsq : ∀ x ∈ l, x.seq < 2 ^ 64) (ms : List Nat) {r : List En} (hr : r ∈ runsE l) {x : En} (hx : x ∈ r) : refNeed l ms x = nd r ms x := by
  obtain ⟨hf, hR⟩ := runs_spec ho
  have hfall := fall_of ho hR hr
  have hg : ∀ m, getE l x.key m = fstE r m := fun m => by rw [← get_run hR hr hx m, hf]
  have hmem : ∀ y ∈ r, y ∈ l := fun y hy => by rw [← hf]; exact List.mem_flatten.2 ⟨r, hr, hy⟩
  obtain ⟨i, hi, hix⟩ := List.getElem_of_mem hx
  have hix' : r[i]? = some x := by rw [← hix]; exact List.getElem?_eq_getElem hi
  have hseq : ∀ m, seqIs (fstE r m) x = decide (fstE r m = some x) := fun m => by
    cases hv : fstE r m with
    | none => simp [seqIs]
    | some v =>
      obtain ⟨j, hj, hjv⟩ := List.getElem_of_mem (List.mem_of_find?_eq_some hv)
      have hjv' : r[j]? = some v := by rw [← hjv]; exact List.getElem?_eq_getElem hj
      rw [seqIs]
      simp only [Option.isSome_some, Bool.true_and, Option.getD_some, Option.some.injEq]
      refine decide_eq_decide.2 ⟨fun h => ?_, fun h => by rw [h]⟩
      have := fall_inj hfall hjv' hix' h
      subst this; rw [hjv'] at hix'; exact Option.some.inj hix'
  rw [refNeed, newest, nd]
  congr 1
  · obtain ⟨y, hy⟩ : ∃ y, r[0]? = some y := ⟨_, List.getElem?_eq_getElem (by omega : 0 < r.length)⟩
    have h0 : fstE r 18446744073709551615 = some y := by
      rw [fst_iff hfall hy, atE, findIdx_at hy (fun i y hi => by omega)]
      have := hsq y (hmem y (List.mem_of_getElem? hy))
      exact decide_eq_true (by omega)
    rw [hg, h0, hy]
    simp only [Option.getD_some, Option.some.injEq]
    refine decide_eq_decide.2 ⟨fun h => ?_, fun h => by rw [h]⟩
    have := fall_inj hfall hy hix' h
    subst this; rw [hy] at hix'; exact Option.some.inj hix'
  · exact congrArg (fun f => ms.any f) (funext fun m => by rw [hg, hseq])
/-- The document's last cut, from the front. -/
def putsL : List En → List En
  | [] => []
  | x :: l => if decide (x.kind = 1) || l.any (putP x) then x :: putsL l else putsL l
theorem putsE_eq : ∀ (l : List En), putsE l = putsL l
  | [] => rfl
  | x :: l => by
    have ih := putsE_eq l
    rw [putsE] at ih ⊢
    rw [List.length_cons, List.range_succ_eq_map, List.filterMap_cons, List.filterMap_map]
    have h0 : (putsP (x :: l)) ∘ Nat.succ = putsP l := by
      funext i; simp [putsP]
    rw [h0, ih, putsL, putsP]
    simp only [List.getElem?_cons_zero, Nat.zero_add, List.drop_succ_cons, List.drop_zero]
    cases decide (x.kind = 1) || l.any (putP x) <;> rfl
theorem putsL_app : ∀ (s t : List En), (∀ x ∈ s, ∀ y ∈ t, ¬ x.key = y.key) → putsL (s ++ t) = putsL s ++ putsL t
  | [], _, _ => rfl
  | x :: s, t, h => by
    have ih := putsL_app s t fun a ha b hb => h a (List.mem_cons_of_mem _ ha) b hb
    have h0 : t.any (putP x) = false := List.any_eq_false.2 fun y hy => by rw [putP, decide_eq_false fun k => h x List.mem_cons_self y hy k.1.symm]; simp
    rw [List.cons_append, putsL, putsL, List.any_append, h0, Bool.or_false, ih]
    split <;> rfl
theorem putsL_flat {f : List En → List En} (hf : ∀ r x, x ∈ f r → x ∈ r) : ∀ {rs : List (List En)}, Runs rs → putsL (rs.flatMap f) = rs.flatMap fun r => putsL (f r)
  | [], _ => rfl
  | r :: rs, hR => by
    obtain ⟨hd, hd2⟩ := List.pairwise_cons.1 hR.diff
    have hR2 : Runs rs := ⟨fun r h => hR.some r (List.mem_cons_of_mem _ h), fun r h => hR.same r (List.mem_cons_of_mem _ h), hd2⟩
    rw [List.flatMap_cons, List.flatMap_cons, putsL_app, putsL_flat hf hR2]
    intro x hx y hy
    obtain ⟨r', hr', hy'⟩ := List.mem_flatMap.1 hy
    exact hd r' hr' x (hf r x hx) y (hf r' y hy')
theorem trim_spec (s : List En) : ∀ n, n ≤ s.length → (∀ i x, trimN s n ≤ i → i < n → s[i]? = some x → x.kind = 2) ∧ (trimN s n = 0 ∨ ∃ x, s[trimN s n - 1]? = some x ∧ ¬ x.kind = 2 ∧ 0 < trimN s n)
  | 0, _ => ⟨by omega, .inl rfl⟩
  | n + 1, h => by
    have hx : s[n]? = some (s[n]'(by omega)) := List.getElem?_eq_getElem (by omega)
    rw [trimN, hx]
    simp only
    by_cases h2 : (s[n]'(by omega)).kind = 2
    · rw [if_pos h2]
      obtain ⟨h3, h4⟩ := trim_spec s n (by omega)
      refine ⟨fun i x hi hin hxi => ?_, h4⟩
      rcases Nat.lt_or_ge i n with h5 | h5
      · exact h3 i x hi h5 hxi
      · obtain rfl : i = n := by omega
        rw [hx] at hxi; cases hxi; exact h2
    · rw [if_neg h2]
      exact ⟨by omega, .inr ⟨_, hx, h2, by omega⟩⟩
theorem puts_take : ∀ {s : List En} {t : Nat}, (∀ x ∈ s, ∀ y ∈ s, x.key = y.key) → (∀ x ∈ s, x.kind = 1 ∨ x.kind = 2) → t ≤ s.length → (∀ i x, t ≤ i → s[i]? = some x → x.kind = 2) → (t = 0 ∨ ∃ x, s[t - 1]? = some x ∧ ¬ x.kind = 2 ∧ 0 < t) → putsL s = s.take t
  | [], t, _, _, _, _, _ => by simp [putsL]
  | x :: s, t, hk, hc, ht, h2, h1 => by
    have hk' : ∀ a ∈ s, ∀ b ∈ s, a.key = b.key := fun a ha b hb => hk a (List.mem_cons_of_mem _ ha) b (List.mem_cons_of_mem _ hb)
    have hc' : ∀ a ∈ s, a.kind = 1 ∨ a.kind = 2 := fun a ha => hc a (List.mem_cons_of_mem _ ha)
    cases t with
    | zero =>
      have ih := puts_take (t := 0) hk' hc' (by omega) (fun i y _ hy => h2 (i + 1) y (by omega) (by simpa using hy)) (.inl rfl)
      have hx : x.kind = 2 := h2 0 x (by omega) rfl
      have hs : s.any (putP x) = false := List.any_eq_false.2 fun y hy => by
        obtain ⟨i, hi, rfl⟩ := List.getElem_of_mem hy
        have := h2 (i + 1) s[i] (by omega) (by simp [hi])
        simp [putP, this]
      rw [putsL, hs, decide_eq_false (by rw [hx]; decide), ih]; rfl
    | succ t =>
      rcases h1 with h1 | ⟨y, hy, hy2, _⟩
      · omega
      · have ih := puts_take (s := s) (t := t) hk' hc' (by simp at ht; omega) (fun i z hi hz => h2 (i + 1) z (by omega) (by simpa using hz)) (by
          cases t with
          | zero => exact .inl rfl
          | succ t => exact .inr ⟨y, by simpa using hy, hy2, by omega⟩)
        have hkeep : (decide (x.kind = 1) || s.any (putP x)) = true := by
          rw [Bool.or_eq_true]
          have hmy : y ∈ x :: s := List.mem_of_getElem? hy
          have hy1 : y.kind = 1 := (hc y hmy).resolve_right hy2
          rw [List.mem_cons] at hmy
          rcases hmy with rfl | hmy
          · exact .inl (decide_eq_true hy1)
          · exact .inr (List.any_eq_true.2 ⟨y, hmy, decide_eq_true ⟨hk y (List.mem_cons_of_mem _ hmy) x List.mem_cons_self, hy1⟩⟩)
        rw [putsL, if_pos hkeep, ih, List.take_succ_cons]
/-- What is kept is what the document says. -/
theorem keep_eq {l : List En} (ho : Ord l) (hsq : ∀ x ∈ l, x.seq < 2 ^ 64) (hc : ∀ x ∈ l, x.kind = 1 ∨ x.kind = 2) (bt : Bool) (ms : List Nat) : keepE l bt ms = refKeep l bt ms := by
  obtain ⟨hf, hR⟩ := runs_spec ho
  have hmem : ∀ r ∈ runsE l, ∀ y ∈ r, y ∈ l := fun r hr y hy => by rw [← hf]; exact List.mem_flatten.2 ⟨r, hr, hy⟩
  have hflt : l.filter (refNeed l ms) = (runsE l).flatMap fun r => needE r ms := by
    conv => lhs; arg 2; rw [← hf]
    rw [filter_flat]
    exact flatMap_congr fun r hr => by rw [need_filter (fall_of ho hR hr), List.filter_congr fun x hx => refNeed_run ho hsq ms hr hx]
  rw [keepE, refKeep, hflt]
  cases bt with
  | false => exact flatMap_congr fun r hr => by rw [keepR, if_neg (by decide), List.take_length]
  | true =>
    rw [if_pos rfl, putsE_eq, putsL_flat (fun r x hx => by
      rw [needE, List.mem_filterMap] at hx
      obtain ⟨i, _, hi⟩ := hx
      rw [pick] at hi
      split at hi
      · exact List.mem_of_getElem? hi
      · cases hi) hR]
    refine flatMap_congr fun r hr => ?_
    have hn : ∀ x ∈ needE r ms, x ∈ r := fun x hx => by rw [need_filter (fall_of ho hR hr)] at hx; exact (List.mem_filter.1 hx).1
    obtain ⟨h1, h2⟩ := trim_spec (needE r ms) _ (Nat.le_refl _)
    rw [keepR, if_pos rfl]
    exact (puts_take (fun x hx y hy => hR.same r hr x (hn x hx) y (hn y hy)) (fun x hx => hc x (hmem r hr x (hn x hx))) (trimN_le _ _) (fun i x hi hx => h1 i x hi (List.getElem?_eq_some_iff.1 hx).1 hx) h2).symm
end Go.Proofs.YtpnckagibkdcpaaDoor


/-
  The plain law of MergeSame: a sorted list is in order and in form; what is kept of it looks the same at each moment that counts, and is kept again whole. No program in sight.
-/
namespace Go.Proofs.YtpnckagibkdcpaaDoor

theorem pos_spec (l : List En) (e : En) : ∀ n, n ≤ l.length → (∀ i x, posE l e n ≤ i → i < n → l[i]? = some x → lessE e x = true) ∧ (posE l e n = 0 ∨ ∃ x, l[posE l e n - 1]? = some x ∧ lessE e x = false ∧ 0 < posE l e n)
  | 0, _ => ⟨by omega, .inl rfl⟩
  | n + 1, h => by
    have hx : l[n]? = some (l[n]'(by omega)) := List.getElem?_eq_getElem (by omega)
    rw [posE, hx]
    simp only
    cases h2 : lessE e (l[n]'(by omega)) with
    | true =>
      rw [if_pos rfl]
      obtain ⟨h3, h4⟩ := pos_spec l e n (by omega)
      refine ⟨fun i x hi hin hxi => ?_, h4⟩
      rcases Nat.lt_or_ge i n with h5 | h5
      · exact h3 i x hi h5 hxi
      · obtain rfl : i = n := by omega
        rw [hx] at hxi; cases hxi; exact h2
    | false =>
      rw [if_neg (by decide)]
      exact ⟨by omega, .inr ⟨_, hx, h2, by omega⟩⟩
theorem inE_false {l : List En} {e : En} (h : inE l e = false) : ∀ x ∈ l, ¬ (x.key = e.key ∧ x.seq = e.seq) := fun x hx => by
  have := List.any_eq_false.1 h x hx
  simpa using this
theorem ins_ord {l : List En} {e : En} (ho : Ord l) (hn : inE l e = false) : Ord (insE l e) := by
  obtain ⟨h1, h2⟩ := pos_spec l e l.length (Nat.le_refl _)
  have hp := posE_le l e l.length
  obtain ⟨p, hpd⟩ : ∃ q, posE l e l.length = q := ⟨_, rfl⟩
  rw [hpd] at h1 h2 hp
  rw [insE, hpd]
  have hlow : ∀ x ∈ l.take p, lessE x e = true := fun x hx => by
    obtain ⟨i, hi, rfl⟩ := List.getElem_of_mem hx
    rw [List.length_take] at hi
    rcases h2 with h2 | ⟨y, hy, hye, hpos⟩
    · omega
    · have hyl : lessE y e = true := by
        rcases lessE_tri e y with h | h | h
        · rw [hye] at h; cases h
        · exact absurd ⟨h.1.symm, h.2.symm⟩ (inE_false hn y (List.mem_of_getElem? hy))
        · exact h
      obtain ⟨hj, hjy⟩ := List.getElem?_eq_some_iff.1 hy
      rw [List.getElem_take]
      rcases Nat.lt_or_ge i (p - 1) with h3 | h3
      · have := (List.pairwise_iff_getElem.1 ho) i (p - 1) (by omega) hj h3
        rw [hjy] at this
        exact lessE_trans this hyl
      · obtain rfl : i = p - 1 := by omega
        rw [hjy]; exact hyl
  have hhigh : ∀ x ∈ l.drop p, lessE e x = true := fun x hx => by
    obtain ⟨i, hi, rfl⟩ := List.getElem_of_mem hx
    rw [List.length_drop] at hi
    exact h1 (p + i) _ (by omega) (by omega) (by rw [List.getElem_drop]; exact List.getElem?_eq_getElem _)
  refine List.pairwise_append.2 ⟨List.pairwise_append.2 ⟨ho.sublist (List.take_sublist _ _), by simp, fun a ha b hb => ?_⟩, ho.sublist (List.drop_sublist _ _), fun a ha b hb => ?_⟩
  · simp at hb; subst hb; exact hlow a ha
  · rw [List.mem_append] at ha
    rcases ha with ha | ha
    · exact lessE_trans (hlow a ha) (hhigh b hb)
    · simp at ha; subst ha; exact hhigh b hb
theorem check_one {x : En} (h : checkE [x] = 0) : bigE x = false ∧ badE x = false := by
  unfold checkE at h
  simp only [List.any_cons, List.any_nil, Bool.or_false] at h
  cases hb : bigE x with
  | true => rw [hb] at h; simp at h
  | false => cases hd : badE x with
    | true => rw [hb, hd] at h; simp at h
    | false => exact ⟨rfl, rfl⟩
theorem check_of {l : List En} (h : ∀ x ∈ l, bigE x = false ∧ badE x = false) : checkE l = 0 := by
  have h1 : l.any bigE = false := List.any_eq_false.2 fun x hx => by rw [(h x hx).1]; simp
  have h2 : l.any badE = false := List.any_eq_false.2 fun x hx => by rw [(h x hx).2]; simp
  rw [checkE, h1, h2]; rfl
theorem worst_of {l : List En} (ho : Ord l) (h : ∀ x ∈ l, bigE x = false ∧ badE x = false) : worstE [l] = 0 := by
  show stepW 0 l = 0
  rw [stepW, errE, check_of h, ordE_of ho]; rfl
theorem sorted_ok (l : List En) : Ord (sortedE l) ∧ ∀ x ∈ sortedE l, bigE x = false ∧ badE x = false := by
  have key : ∀ (l out : List En), Ord out → (∀ x ∈ out, bigE x = false ∧ badE x = false) → Ord (l.foldl addE out) ∧ ∀ x ∈ l.foldl addE out, bigE x = false ∧ badE x = false := by
    intro l
    induction l with
    | nil => intro out h1 h2; exact ⟨h1, h2⟩
    | cons x l ih =>
      intro out h1 h2
      rw [List.foldl_cons]
      by_cases h : checkE [x] = 0 ∧ inE out x = false
      · have ha : addE out x = insE out x := by rw [addE, if_pos h]
        rw [ha]
        exact ih _ (ins_ord h1 h.2) fun y hy => by
          have := addE_ok (p := fun x => bigE x = false ∧ badE x = false) h2 (check_one h.1) y (by rw [ha]; exact hy)
          exact this
      · have ha : addE out x = out := by rw [addE, if_neg h]
        rw [ha]; exact ih _ h1 h2
  exact key l [] (by simp [Ord]) (by simp)
/-- What is kept of a run. -/
def keptR (bt : Bool) (ms : List Nat) (r : List En) : Nat := if bt then trimN (needE r ms) (needE r ms).length else (needE r ms).length
theorem keepR_eq (bt : Bool) (ms : List Nat) (r : List En) : keepR bt ms r = (needE r ms).take (keptR bt ms r) := rfl
theorem keepR_sub {r : List En} (hf : Fall r) (bt : Bool) (ms : List Nat) : (keepR bt ms r).Sublist r := by
  rw [keepR_eq, need_filter hf]
  exact (List.take_sublist _ _).trans List.filter_sublist
theorem kept_high {r : List En} (bt : Bool) (ms : List Nat) : ∀ x ∈ (needE r ms).drop (keptR bt ms r), x.kind = 2 := fun x hx => by
  obtain ⟨i, hi, rfl⟩ := List.getElem_of_mem hx
  rw [List.length_drop] at hi
  rw [List.getElem_drop]
  cases bt with
  | false => simp [keptR] at hi
  | true => exact (trim_spec (needE r ms) _ (Nat.le_refl _)).1 _ _ (Nat.le_add_right _ _) (by have hk : keptR true ms r = trimN (needE r ms) (needE r ms).length := rfl; omega) (List.getElem?_eq_getElem _)
theorem find_filter {α : Type} {p q : α → Bool} : ∀ {r : List α}, (∀ v, r.find? q = some v → p v = true) → (r.filter p).find? q = r.find? q
  | [], _ => rfl
  | x :: r, h => by
    rw [List.find?_cons]
    cases hq : q x with
    | true =>
      have hp : p x = true := h x (by rw [List.find?_cons, hq])
      rw [List.filter_cons, if_pos hp, List.find?_cons, hq]
    | false =>
      have ih := find_filter (r := r) fun v hv => h v (by rw [List.find?_cons, hq]; exact hv)
      simp only
      rw [List.filter_cons]
      split
      · rw [List.find?_cons, hq]; exact ih
      · exact ih
/-- At a moment that counts for it a run's part is seen as the run is. -/
def good (r : List En) (ms : List Nat) (m : Nat) : Prop := ∀ v, fstE r m = some v → nd r ms v = true
theorem good_mem {r : List En} {ms : List Nat} {m : Nat} (h : m ∈ ms) : good r ms m := fun v hv => by
  rw [nd, Bool.or_eq_true]; exact .inr (List.any_eq_true.2 ⟨m, h, decide_eq_true hv⟩)
theorem good_all {r : List En} {ms : List Nat} {m : Nat} (h : ∀ x ∈ r, x.seq ≤ m) : good r ms m := fun v hv => by
  cases r with
  | nil => cases hv
  | cons x r =>
    rw [fstE, List.find?_cons, decide_eq_true (h x List.mem_cons_self)] at hv
    cases hv
    rw [nd, Bool.or_eq_true]; exact .inl (by simp)
theorem fst_need {r : List En} (hf : Fall r) {ms : List Nat} {m : Nat} (hg : good r ms m) : fstE (needE r ms) m = fstE r m := by
  rw [need_filter hf]; exact find_filter hg
theorem fst_split (s : List En) (t m : Nat) : fstE s m = (fstE (s.take t) m).or (fstE (s.drop t) m) := by
  conv => lhs; rw [← List.take_append_drop t s]
  rw [fstE, List.find?_append]; rfl
theorem vis_kept {r : List En} (hf : Fall r) {bt : Bool} {ms : List Nat} {m : Nat} (hg : good r ms m) : visR m (keepR bt ms r) = visR m r := by
  rw [visR_eq, visR_eq, ← fst_need hf hg, fst_split (needE r ms) (keptR bt ms r), ← keepR_eq]
  cases hv : fstE (keepR bt ms r) m with
  | some v => rfl
  | none =>
    rw [Option.none_or]
    cases hw : fstE ((needE r ms).drop (keptR bt ms r)) m with
    | none => rfl
    | some w =>
      have hk := kept_high bt ms w (List.mem_of_find?_eq_some hw)
      rw [Option.filter_some_neg (by rw [hk]; decide)]; rfl
theorem fst_in {r : List En} {m : Nat} {v : En} (h : fstE r m = some v) : v.seq ≤ m := by
  have := List.find?_some h
  simpa using this
theorem kept_nd {r : List En} (hf : Fall r) (bt : Bool) (ms : List Nat) : ∀ x ∈ keepR bt ms r, nd (keepR bt ms r) ms x = true := fun x hx => by
  have hxs : x ∈ needE r ms := List.mem_of_mem_take hx
  have hnd : nd r ms x = true := by rw [need_filter hf] at hxs; exact (List.mem_filter.1 hxs).2
  rw [nd, Bool.or_eq_true] at hnd ⊢
  rcases hnd with h | h
  · refine .inl (decide_eq_true ?_)
    have h0 := of_decide_eq_true h
    cases r with
    | nil => simp at h0
    | cons y r =>
      simp at h0; subst h0
      have hny : nd (y :: r) ms y = true := by rw [nd, Bool.or_eq_true]; exact .inl (by simp)
      have hs : needE (y :: r) ms = y :: r.filter (nd (y :: r) ms) := by rw [need_filter hf, List.filter_cons, if_pos hny]
      rw [keepR_eq, hs] at hx ⊢
      cases ht : keptR bt ms (y :: r) with
      | zero => rw [ht] at hx; simp at hx
      | succ t => rfl
  · obtain ⟨m, hm, hv⟩ := List.any_eq_true.1 h
    have hv := of_decide_eq_true hv
    refine .inr (List.any_eq_true.2 ⟨m, hm, decide_eq_true ?_⟩)
    have h1 := fst_need hf (good_mem (r := r) hm)
    rw [hv, fst_split (needE r ms) (keptR bt ms r), ← keepR_eq] at h1
    cases hw : fstE (keepR bt ms r) m with
    | some w => rw [hw] at h1; simpa using h1
    | none =>
      have := List.find?_eq_none.1 hw x hx
      have hle := fst_in hv
      simp at this; omega
theorem kept_again {r : List En} (hf : Fall r) (bt : Bool) (ms : List Nat) : keepR bt ms (keepR bt ms r) = keepR bt ms r := by
  have hf2 : Fall (keepR bt ms r) := List.Pairwise.sublist (keepR_sub hf bt ms) hf
  have hn : needE (keepR bt ms r) ms = keepR bt ms r := by
    rw [need_filter hf2]; exact List.filter_eq_self.2 (kept_nd hf bt ms)
  rw [keepR_eq bt ms (keepR bt ms r), hn]
  refine List.take_of_length_le ?_
  unfold keptR
  rw [hn]
  cases bt with
  | false => simp
  | true =>
    rw [if_pos rfl]
    obtain ⟨_, h2⟩ := trim_spec (needE r ms) _ (Nat.le_refl _)
    have hk : keptR true ms r = trimN (needE r ms) (needE r ms).length := rfl
    rw [← hk] at h2
    have hle : keptR true ms r ≤ (needE r ms).length := trimN_le _ _
    have hl : (keepR true ms r).length = keptR true ms r := by rw [keepR_eq, List.length_take]; omega
    rcases h2 with h2 | ⟨x, hx, hx2, hpos⟩
    · rw [hl, h2]; exact Nat.zero_le _
    · obtain ⟨t, ht⟩ : ∃ t, keptR true ms r = t + 1 := ⟨keptR true ms r - 1, by omega⟩
      have hx' : (keepR true ms r)[t]? = some x := by
        rw [keepR_eq, List.getElem?_take, if_pos (by omega)]
        rw [ht] at hx; simpa using hx
      rw [hl, ht, trimN, hx']
      simp [hx2]
theorem runsF_cat : ∀ (r rest acc : List En), r ≠ [] → (∀ x ∈ r, ∀ y ∈ r, x.key = y.key) → (∀ x ∈ r, ∀ y ∈ rest, ¬ x.key = y.key) → runsF (r ++ rest) acc = (acc ++ r) :: runsF rest []
  | [], _, _, h, _, _ => absurd rfl h
  | [x], [], acc, _, _, _ => by simp [runsF]
  | [x], y :: rest, acc, _, _, h => by
    have := h x (by simp) y (by simp)
    simp [runsF, this]
  | x :: x2 :: r, rest, acc, _, hs, h => by
    have hk := hs x (by simp) x2 (by simp)
    have ih := runsF_cat (x2 :: r) rest (acc ++ [x]) (by simp) (fun a ha b hb => hs a (List.mem_cons_of_mem _ ha) b (List.mem_cons_of_mem _ hb)) (fun a ha => h a (List.mem_cons_of_mem _ ha))
    rw [List.cons_append, List.cons_append, runsF, if_pos hk, ← List.cons_append, ih]
    simp
theorem runs_cat : ∀ {rs : List (List En)}, Runs rs → runsE rs.flatten = rs
  | [], _ => rfl
  | r :: rs, hR => by
    obtain ⟨hd, hd2⟩ := List.pairwise_cons.1 hR.diff
    have hR2 : Runs rs := ⟨fun r h => hR.some r (List.mem_cons_of_mem _ h), fun r h => hR.same r (List.mem_cons_of_mem _ h), hd2⟩
    rw [List.flatten_cons, runsE, runsF_cat r rs.flatten [] (hR.some r List.mem_cons_self) (hR.same r List.mem_cons_self) fun x hx y hy => by
      obtain ⟨r', hr', hy'⟩ := List.mem_flatten.1 hy
      exact hd r' hr' x hx y hy', List.nil_append]
    have ih := runs_cat hR2
    rw [runsE] at ih
    rw [ih]
/-- What of each run is kept, without empty partsR. -/
def partsR (bt : Bool) (ms : List Nat) (rs : List (List En)) : List (List En) := (rs.map (keepR bt ms)).filter fun r => !r.isEmpty
theorem partsR_flat (bt : Bool) (ms : List Nat) : ∀ (rs : List (List En)), (partsR bt ms rs).flatten = rs.flatMap (keepR bt ms)
  | [] => rfl
  | r :: rs => by
    have ih := partsR_flat bt ms rs
    rw [partsR] at ih ⊢
    rw [List.map_cons, List.filter_cons, List.flatMap_cons, ← ih]
    cases h : keepR bt ms r with
    | nil => rfl
    | cons x l => rfl
theorem partsR_runs {bt : Bool} {ms : List Nat} {rs : List (List En)} (hR : Runs rs) (hf : ∀ r ∈ rs, Fall r) : Runs (partsR bt ms rs) := by
  refine ⟨fun r hr => ?_, fun r hr => ?_, ?_⟩
  · have := (List.mem_filter.1 hr).2
    rintro rfl; simp at this
  · obtain ⟨r0, hr0, rfl⟩ := List.mem_map.1 (List.mem_filter.1 hr).1
    have hs := keepR_sub (hf r0 hr0) bt ms
    exact fun x hx y hy => hR.same r0 hr0 x (hs.subset hx) y (hs.subset hy)
  · refine List.Pairwise.filter _ (List.pairwise_map.2 (hR.diff.imp_of_mem fun {a b} ha hb h => fun x hx y hy => h x ((keepR_sub (hf a ha) bt ms).subset hx) y ((keepR_sub (hf b hb) bt ms).subset hy)))
theorem vis_nil (m : Nat) : visR m [] = none := rfl
theorem vis_parts {m : Nat} {bt : Bool} {ms : List Nat} : ∀ {rs : List (List En)}, (∀ r ∈ rs, Fall r) → (∀ r ∈ rs, good r ms m) → (partsR bt ms rs).filterMap (visR m) = rs.filterMap (visR m)
  | [], _, _ => rfl
  | r :: rs, hf, hg => by
    have ih := vis_parts (bt := bt) (fun r h => hf r (List.mem_cons_of_mem _ h)) (fun r h => hg r (List.mem_cons_of_mem _ h))
    have hv := vis_kept (hf r List.mem_cons_self) (bt := bt) (hg r List.mem_cons_self)
    rw [partsR] at ih ⊢
    rw [List.map_cons, List.filter_cons, List.filterMap_cons, ← hv]
    cases h : keepR bt ms r with
    | nil => rw [vis_nil]; exact ih
    | cons x l =>
      rw [if_pos (by simp), List.filterMap_cons]
      cases visR m (x :: l) with
      | none => exact ih
      | some v => simp only; rw [ih]
/-- What is kept of a list in order. -/
theorem same_law {l : List En} (ho : Ord l) (hc : ∀ x ∈ l, bigE x = false ∧ badE x = false) (bt : Bool) (ms : List Nat) :
    (keepE l bt ms).Sublist l ∧ worstE [keepE l bt ms] = 0 ∧ keepE (keepE l bt ms) bt ms = keepE l bt ms ∧ ∀ m, (m ∈ ms ∨ ∀ x ∈ l, x.seq ≤ m) → visE (keepE l bt ms) m = visE l m := by
  obtain ⟨hf, hR⟩ := runs_spec ho
  have hfall := fun r hr => fall_of ho (r := r) hR hr
  have hmem : ∀ r ∈ runsE l, ∀ y ∈ r, y ∈ l := fun r hr y hy => by rw [← hf]; exact List.mem_flatten.2 ⟨r, hr, hy⟩
  have hP := partsR_runs (bt := bt) (ms := ms) hR hfall
  have hk : keepE l bt ms = (partsR bt ms (runsE l)).flatten := (partsR_flat bt ms _).symm
  have hrk : runsE (keepE l bt ms) = partsR bt ms (runsE l) := by rw [hk]; exact runs_cat hP
  have hsub : (keepE l bt ms).Sublist l := by
    have key : ∀ (rs : List (List En)), (∀ r ∈ rs, Fall r) → (rs.flatMap (keepR bt ms)).Sublist rs.flatten := by
      intro rs
      induction rs with
      | nil => intro _; exact List.Sublist.refl _
      | cons r rs ih =>
        intro h
        rw [List.flatMap_cons, List.flatten_cons]
        exact (keepR_sub (h r List.mem_cons_self) bt ms).append (ih fun r hr => h r (List.mem_cons_of_mem _ hr))
    have := key _ hfall
    rwa [hf] at this
  refine ⟨hsub, worst_of (ho.sublist hsub) fun x hx => hc x (hsub.subset hx), ?_, fun m hm => ?_⟩
  · show (runsE (keepE l bt ms)).flatMap (keepR bt ms) = _
    rw [hrk, hk, flatMap_congr (g := id) fun r hr => by
      obtain ⟨r0, hr0, rfl⟩ := List.mem_map.1 (List.mem_filter.1 hr).1
      exact kept_again (hfall r0 hr0) bt ms]
    simp [List.flatMap_id]
  · rw [visE, hrk, visE, vis_parts hfall fun r hr => hm.elim good_mem fun h => good_all fun x hx => h x (hmem r hr x hx)]
end Go.Proofs.YtpnckagibkdcpaaDoor


/-
  A table told by its entries: where an entry stands, and the calls there and insert.
-/
namespace Go.Proofs.YtpnckagibkdcpaaDoor
open Go.RowKit

theorem cmpE_lt {x : En} (e : En) : cmpE x e.key e.seq < 0 ↔ lessE x e = true := by rw [← cmpE_less]; simp
theorem cmpE_zero {x : En} {key : List UInt8} {seq : Nat} : cmpE x key seq = 0 ↔ x.key = key ∧ x.seq = seq := by
  rw [cmpE]
  constructor
  · intro h
    split at h
    · rename_i h0
      refine ⟨cmp_zero h0, ?_⟩
      split at h
      · cases h
      · split at h
        · cases h
        · omega
    · exact absurd h (by assumption)
  · rintro ⟨rfl, rfl⟩
    rw [if_pos (cmp_refl _), if_neg (by omega), if_neg (by omega)]
theorem ord_split (e : En) : ∀ {ns : List Nd}, Ord (ns.map (·.a.x)) → ∃ pre post, ns = pre ++ post ∧ (∀ n ∈ pre, cmpE n.a.x e.key e.seq < 0) ∧ ∀ n ∈ post, ¬ cmpE n.a.x e.key e.seq < 0
  | [], _ => ⟨[], [], rfl, by simp, by simp⟩
  | n :: ns, h => by
    rw [List.map_cons] at h
    obtain ⟨h1, h2⟩ := List.pairwise_cons.1 h
    by_cases hn : cmpE n.a.x e.key e.seq < 0
    · obtain ⟨pre, post, h3, h4, h5⟩ := ord_split e h2
      exact ⟨n :: pre, post, by rw [h3]; rfl, fun m hm => (List.mem_cons.1 hm).elim (fun h => h ▸ hn) (h4 m), h5⟩
    · refine ⟨[], n :: ns, rfl, by simp, fun m hm => ?_⟩
      rcases List.mem_cons.1 hm with rfl | hm
      · exact hn
      · intro h3
        rw [cmpE_lt] at h3
        exact hn ((cmpE_lt e).2 (lessE_trans (h1 _ (List.mem_map_of_mem hm)) h3))
theorem th_in {pre post : List Nd} {e : En} (ho : Ord ((pre ++ post).map (·.a.x))) (hpre : ∀ n ∈ pre, cmpE n.a.x e.key e.seq < 0) (hpost : ∀ n ∈ post, ¬ cmpE n.a.x e.key e.seq < 0) : thB post e.key e.seq = inE ((pre ++ post).map (·.a.x)) e := by
  have hp : ∀ n ∈ pre, ¬ (n.a.x.key = e.key ∧ n.a.x.seq = e.seq) := fun n hn h => by
    have := hpre n hn
    rw [cmpE_zero.2 h] at this
    exact absurd this (by decide)
  cases post with
  | nil =>
    symm
    refine List.any_eq_false.2 fun x hx => ?_
    obtain ⟨n, hn, rfl⟩ := List.mem_map.1 hx
    rw [List.append_nil] at hn
    simpa using hp n hn
  | cons n post =>
    rw [thB]
    by_cases h0 : cmpE n.a.x e.key e.seq = 0
    · rw [decide_eq_true h0]
      have hm : inE ((pre ++ n :: post).map (·.a.x)) e = true := List.any_eq_true.2 ⟨n.a.x, by simp, decide_eq_true (cmpE_zero.1 h0)⟩
      exact hm.symm
    · rw [decide_eq_false h0]
      symm
      refine List.any_eq_false.2 fun x hx => ?_
      obtain ⟨m, hm, rfl⟩ := List.mem_map.1 hx
      have hen : lessE e n.a.x = true := by
        rcases lessE_tri e n.a.x with h | h | h
        · exact h
        · exact absurd (cmpE_zero.2 ⟨h.1.symm, h.2.symm⟩) h0
        · exact absurd ((cmpE_lt e).2 h) (hpost n List.mem_cons_self)
      have key : ¬ (m.a.x.key = e.key ∧ m.a.x.seq = e.seq) := by
        rcases List.mem_append.1 hm with hm | hm
        · exact hp m hm
        · rcases List.mem_cons.1 hm with rfl | hm
          · exact fun h => h0 (cmpE_zero.2 h)
          · intro h
            rw [List.map_append, List.map_cons] at ho
            have h2 := (List.pairwise_cons.1 (List.pairwise_append.1 ho).2.1).1 _ (List.mem_map_of_mem hm)
            have h3 := lessE_trans hen h2
            rw [lessE_iff] at h3
            rcases h3 with h3 | ⟨h3, h4⟩
            · rw [h.1, cmp_refl] at h3; exact absurd h3 (by decide)
            · omega
      simpa using key
theorem ins_split {pre post : List Nd} {e : En} (hpre : ∀ n ∈ pre, cmpE n.a.x e.key e.seq < 0) (hpost : ∀ n ∈ post, ¬ cmpE n.a.x e.key e.seq < 0) (hin : inE ((pre ++ post).map (·.a.x)) e = false) : insE ((pre ++ post).map (·.a.x)) e = pre.map (·.a.x) ++ e :: post.map (·.a.x) := by
  obtain ⟨h1, h2⟩ := pos_spec ((pre ++ post).map (·.a.x)) e _ (Nat.le_refl _)
  have hl := posE_le ((pre ++ post).map (·.a.x)) e ((pre ++ post).map (·.a.x)).length
  have hp : posE ((pre ++ post).map (·.a.x)) e ((pre ++ post).map (·.a.x)).length = pre.length := by
    obtain ⟨p, hpd⟩ : ∃ q, posE ((pre ++ post).map (·.a.x)) e ((pre ++ post).map (·.a.x)).length = q := ⟨_, rfl⟩
    rw [hpd] at h1 h2 hl ⊢
    rcases Nat.lt_trichotomy p pre.length with h | h | h
    · have hx : ((pre ++ post).map (·.a.x))[p]? = some (pre[p].a.x) := by rw [List.getElem?_map, List.getElem?_append_left h, List.getElem?_eq_getElem h]; rfl
      have h3 := h1 p _ (Nat.le_refl _) (by simp; omega) hx
      have h4 := (cmpE_lt e).1 (hpre _ (List.getElem_mem h))
      have h5 := lessE_trans h3 h4
      rw [lessE_irr] at h5; cases h5
    · exact h
    · rcases h2 with h2 | ⟨x, hx, hxe, hpos⟩
      · omega
      · rw [List.getElem?_map, List.getElem?_append_right (by omega)] at hx
        obtain ⟨n, hn, rfl⟩ := Option.map_eq_some_iff.1 hx
        have hm := List.mem_of_getElem? hn
        rcases lessE_tri e n.a.x with h3 | h3 | h3
        · rw [hxe] at h3; cases h3
        · exact absurd ⟨h3.1.symm, h3.2.symm⟩ (inE_false hin _ (List.mem_map_of_mem (List.mem_append_right _ hm)))
        · exact absurd ((cmpE_lt e).2 h3) (hpost n hm)
  rw [insE, hp, List.map_append, List.take_left' (by simp), List.drop_left' (by simp)]
  simp
def tszE (xs : List En) : Nat := (xs.map fun x => x.key.length + x.val.length).sum
/-- A table, told by its entries. -/
def tblX (TX : TypeId × List Value) (t : Nat) (xs : List En) : Ck := ⟨fun w S => ∃ r0 ns, Sat w (tabP TX t r0 ns (tszE xs : Nat)) S ∧ ns.map (·.a.x) = xs ∧ (r0 = none → ns = []) ∧ ∀ n ∈ ns, 1 ≤ n.h, fun ⟨r0, ns, h, h2⟩ hz hm => ⟨r0, ns, h.move hz hm, h2⟩⟩
/-- A table that is a block. -/
abbrev tblC (t : Nat) (xs : List En) : Ck := tblX (72, []) t xs
theorem tblC_of {TX : TypeId × List Value} {M : BS} {w0 w : World} {t : Nat} {r0 : Option Nat} {ns : List Nd} {xs : List En} {sz : Int} (hs : St M w0 w (tabP TX t r0 ns sz)) (hsz : sz = (tszE xs : Nat)) (hx : ns.map (·.a.x) = xs) (hn : r0 = none → ns = []) (hh : ∀ n ∈ ns, 1 ≤ n.h) : St M w0 w [.ck (tblX TX t xs)] := by
  subst hsz
  rw [← List.append_nil (tabP TX t r0 ns _)] at hs
  exact hs.pack (.ck (tblX TX t xs)) fun _ _ h => ⟨r0, ns, h, hx, hn, hh⟩
theorem tblC_get {TX : TypeId × List Value} {S : BS} {w : World} {t : Nat} {xs : List En} (h0 : Sat w [.ck (tblX TX t xs)] S) : ∃ r0 ns, Sat w (tabP TX t r0 ns (tszE xs : Nat)) S ∧ ns.map (·.a.x) = xs ∧ (r0 = none → ns = []) ∧ ∀ n ∈ ns, 1 ≤ n.h := by
  obtain ⟨T, hT, ⟨r0, ns, h, h2⟩, _⟩ := h0
  exact ⟨r0, ns, h.mono fun b _ hb => hT b hb, h2⟩
theorem there_tab {TX : TypeId × List Value} {S : BS} {t c d : Nat} {xs : List En} {A B : Option Addr} {x : En} {w : World} (h0 : Sat w [.ck (tblX TX t xs)] S) (ho : Ord xs) (hkey : ∀ w', Mod S w w' → RdB w' A x.key) :
    CallsV Tryd.prog 42 #[pN t, .agg (enV x A c B d).toArray] w fun v w' => v = .bool (inE xs x) ∧ St S w w' [.ck (tblX TX t xs)] := by
  obtain ⟨r0, ns, h1, h2, h3, h4⟩ := tblC_get h0
  obtain ⟨pre, post, h5, h6, h7⟩ := ord_split x (h2 ▸ ho)
  refine (there_any (B := B) (c := c) (d := d) h1 h3 h5 h6 h7 h4 hkey).mono fun v w' ⟨r, hv, hs⟩ => ?_
  subst h2 h5
  exact ⟨by rw [hv, th_in ho h6 h7], tblC_of hs rfl rfl (by simp) h4⟩
theorem insert_tab {TX : TypeId × List Value} {S : BS} {t c d : Nat} {xs : List En} {A B : Option Addr} {x : En} {w : World} (h0 : Sat w [.ck (tblX TX t xs)] S) (ho : Ord xs) (hin : inE xs x = false) (hk : ∀ w', Mod S w w' → RdB w' A x.key ∧ RdB w' B x.val) (hl : x.key.length ≤ 140737488355328) (hl2 : x.val.length ≤ 140737488355328) (hcnt : xs.length ≤ 1099511627776) (hsz : tszE xs ≤ 4611686018427387904) (hg : ∀ w', Mod S w w' → GT w') :
    CallsV Tryd.prog 43 #[pN t, .agg (enV x A c B d).toArray] w fun v w' => v = .tuple #[] ∧ St S w w' [.ck (tblX TX t (insE xs x))] := by
  obtain ⟨r0, ns, h1, h2, h3, h4⟩ := tblC_get h0
  obtain ⟨pre, post, h5, h6, h7⟩ := ord_split x (h2 ▸ ho)
  refine (tinsert_any (c := c) (d := d) h1 h3 h5 h6 h7 hk hl hl2 (by rw [← h2, List.length_map] at hcnt; exact hcnt) ⟨by omega, by omega⟩ hg).mono fun v w' ⟨r, N, hv, hN, hN1, _, hs⟩ => ?_
  subst h2 h5
  refine ⟨hv, tblC_of hs ?_ ?_ (by simp) fun n hn => ?_⟩
  · rw [ins_split h6 h7 hin]
    simp [tszE]
    omega
  · rw [ins_split h6 h7 hin]
    simp [hN]
  · rcases List.mem_append.1 hn with hn | hn
    · exact h4 n (List.mem_append_left _ hn)
    · rcases List.mem_cons.1 hn with rfl | hn
      · exact hN1
      · exact h4 n (List.mem_append_right _ hn)
end Go.Proofs.YtpnckagibkdcpaaDoor


/-
  Walks over New, Len and Size of a table; plain law of what Put makes.
-/
namespace Go.Proofs.YtpnckagibkdcpaaDoor
open Go.RowKit

theorem new_any {w : World} : CallsV Tryd.prog 8 #[] w fun v w' => ∃ t, v = pN t ∧ St NoB w w' [.ck (tblC t [])] := by
  have hs := St.init w
  refine calls_in (N := _) Tryd.func8 rfl Tryd.ntmps8 rfl ?_; show WC _ _ _ _ _ _
  refine wc_sr ?_; refine wl_as rfl rfl ?_; refine wl_ns ?_; refine wc_sr ?_
  refine wl_val (opv_build (vs := []) (cs := tbV (hdS none) 0 0 []) trivial (by kernel_rfl)) rfl ?_
  refine ws_box (cs := tbV (hdS none) 0 0 []) hs rfl rfl ?_; clear hs; intro g2 _ hs
  refine wl_as rfl rfl ?_; refine wl_ns ?_; refine wc_ret ?_
  exact we_ret1 rfl rfl ⟨_, rfl, g2, rfl, tblC_of (r0 := none) (ns := []) (sz := 0) ((St.pk (H1 := []) (St.pk (H1 := []) hs)).front 2 rfl) rfl rfl (fun _ => rfl) (by simp)⟩
theorem tlen_any {TX : TypeId × List Value} {S : BS} {t : Nat} {xs : List En} {w : World} (h0 : Sat w [.ck (tblX TX t xs)] S) : CallsV Tryd.prog 9 #[pN t] w fun v w' => v = .int .i64 (xs.length : Nat) ∧ w' = w := by
  obtain ⟨r0, ns, h1, h2, _, _⟩ := tblC_get h0
  have hs := St.start h1
  simp only [tabP, tabQ] at hs
  unfold tbV at hs
  have a3 := hs.ar 0 rfl
  unfold pN
  refine calls_in (N := _) Tryd.func9 rfl Tryd.ntmps9 rfl ?_; show WC _ _ _ _ _ _
  refine wc_sr ?_; refine wl_as rfl rfl ?_; refine wl_ns ?_; refine wc_sr ?_; refine wl_mv rfl rfl ?_; apply wl_val; apply opv_nilOk; exact rfl; exact rfl; apply wl_val; apply opv_fa; exact fa_T1; exact rfl; exact rfl; apply wl_val; apply opv_ldX; exact rfl; assumption; exact e1_int; exact rfl; exact rfl; refine wl_as rfl rfl ?_; refine wl_ns ?_; refine wc_ret ?_
  exact we_ret1 rfl rfl ⟨_, rfl, by rw [← h2, List.length_map], rfl⟩
theorem tsize_any {TX : TypeId × List Value} {S : BS} {t : Nat} {xs : List En} {w : World} (h0 : Sat w [.ck (tblX TX t xs)] S) : CallsV Tryd.prog 16 #[pN t] w fun v w' => v = .int .i64 (tszE xs : Nat) ∧ w' = w := by
  obtain ⟨r0, ns, h1, h2, _, _⟩ := tblC_get h0
  have hs := St.start h1
  simp only [tabP, tabQ] at hs
  unfold tbV at hs
  have a3 := hs.ar 0 rfl
  unfold pN
  refine calls_in (N := _) Tryd.func16 rfl Tryd.ntmps16 rfl ?_; show WC _ _ _ _ _ _
  refine wc_sr ?_; refine wl_as rfl rfl ?_; refine wl_ns ?_; refine wc_sr ?_; refine wl_mv rfl rfl ?_; apply wl_val; apply opv_nilOk; exact rfl; exact rfl; apply wl_val; apply opv_fa; exact fa_T2; exact rfl; exact rfl; apply wl_val; apply opv_ldX; exact rfl; assumption; exact e1_int; exact rfl; exact rfl; refine wl_as rfl rfl ?_; refine wl_ns ?_; refine wc_ret ?_
  exact we_ret1 rfl rfl ⟨_, rfl, rfl, rfl⟩
theorem insE_mem {out : List En} {x y : En} : y ∈ insE out x ↔ y ∈ out ∨ y = x := by
  rw [insE]
  conv => rhs; rw [← List.take_append_drop (posE out x out.length) out]
  simp only [List.mem_append, List.mem_singleton]
  constructor
  · rintro ((h | h) | h)
    · exact .inl (.inl h)
    · exact .inr h
    · exact .inl (.inr h)
  · rintro ((h | h) | h)
    · exact .inl (.inl h)
    · exact .inr h
    · exact .inl (.inr h)
theorem inE_iff {l : List En} {e : En} : inE l e = true ↔ ∃ x ∈ l, x.key = e.key ∧ x.seq = e.seq := by
  rw [inE, List.any_eq_true]
  exact exists_congr fun x => and_congr_right fun _ => by rw [decide_eq_true_eq]
theorem foldI_mem {y : En} : ∀ {l out : List En}, y ∈ l.foldl insE out ↔ y ∈ out ∨ y ∈ l
  | [], out => by simp
  | x :: l, out => by
    rw [List.foldl_cons, foldI_mem, insE_mem, List.mem_cons]
    constructor
    · rintro ((h | h) | h)
      · exact .inl h
      · exact .inr (.inl h)
      · exact .inr (.inr h)
    · rintro (h | h | h)
      · exact .inl (.inl h)
      · exact .inl (.inr h)
      · exact .inr h
/-- Into a list and into an empty one. -/
theorem inE_fold {l out : List En} {e : En} : inE (l.foldl insE out) e = (inE out e || inE (l.foldl insE []) e) := by
  rw [Bool.eq_iff_iff, Bool.or_eq_true, inE_iff, inE_iff, inE_iff]
  constructor
  · rintro ⟨x, hx, h⟩
    rcases foldI_mem.1 hx with hx | hx
    · exact .inl ⟨x, hx, h⟩
    · exact .inr ⟨x, foldI_mem.2 (.inr hx), h⟩
  · rintro (⟨x, hx, h⟩ | ⟨x, hx, h⟩)
    · exact ⟨x, foldI_mem.2 (.inl hx), h⟩
    · exact ⟨x, foldI_mem.2 (.inr ((foldI_mem.1 hx).resolve_left (by simp))), h⟩
theorem insE_tsz (out : List En) (x : En) : tszE (insE out x) = tszE out + (x.key.length + x.val.length) := by
  have h := List.take_append_drop (posE out x out.length) out
  have h2 : tszE out = tszE (out.take (posE out x out.length)) + tszE (out.drop (posE out x out.length)) := by
    rw [tszE, tszE, tszE, ← List.sum_append, ← List.map_append, h]
  rw [insE, h2]
  simp [tszE]
  omega
/-- All of a list may be put in: none is there, none comes twice. -/
def okP (xs l : List En) (k : Nat) : Bool := (List.range k).all fun j => match l[j]? with
  | some x => !(inE xs x || inE ((l.take j).foldl insE []) x)
  | none => true
theorem okP_succ {xs l : List En} {k : Nat} {x : En} (hx : l[k]? = some x) : okP xs l (k + 1) = (okP xs l k && !(inE xs x || inE ((l.take k).foldl insE []) x)) := by
  rw [okP, List.range_succ, List.all_append, okP]
  simp [hx]
theorem okP_le {xs l : List En} {k m : Nat} (h : okP xs l m = true) (hk : k ≤ m) : okP xs l k = true :=
  List.all_eq_true.2 fun j hj => List.all_eq_true.1 h j (List.mem_range.2 (by have := List.mem_range.1 hj; omega))
theorem fold_succ {xs l : List En} {k : Nat} {x : En} (hx : l[k]? = some x) : (l.take (k + 1)).foldl insE xs = insE ((l.take k).foldl insE xs) x := by
  rw [List.take_add_one, hx]; simp
theorem okP_in {xs l : List En} {k : Nat} {x : En} (h : okP xs l (k + 1) = true) (hx : l[k]? = some x) : inE ((l.take k).foldl insE xs) x = false := by
  rw [okP_succ hx, Bool.and_eq_true, Bool.not_eq_true'] at h
  rw [inE_fold]; exact h.2
theorem okP_ord {xs l : List En} (ho : Ord xs) : ∀ {k : Nat}, k ≤ l.length → okP xs l k = true → Ord ((l.take k).foldl insE xs)
  | 0, _, _ => by simpa using ho
  | k + 1, hk, h => by
    have hx : l[k]? = some (l[k]'(by omega)) := List.getElem?_eq_getElem (by omega)
    rw [fold_succ hx]
    exact ins_ord (okP_ord ho (by omega) (okP_le h (Nat.le_succ k))) (okP_in h hx)
end Go.Proofs.YtpnckagibkdcpaaDoor


/-
  Walk over Put of a table.
-/
namespace Go.Proofs.YtpnckagibkdcpaaDoor
open Go.RowKit

theorem enEl_rdV {w : World} {S : Nat → Prop} {x : En} {A B : Option Addr} {c d : Nat} (h : (enEl x).P w S (enV x A c B d)) : RdB w A x.key ∧ RdB w B x.val := by
  obtain ⟨A', c', B', d', he, r1, _, r2, _⟩ := enEl.rd h
  simp only [enV, List.cons.injEq, Value.slice.injEq] at he
  obtain ⟨⟨rfl, _⟩, _, _, ⟨rfl, _⟩, _⟩ := he
  exact ⟨r1, r2⟩
/-- What Put answers. -/
def putC (xs l : List En) : Nat := if checkE l = 0 then (if okP xs l l.length then 0 else 7) else checkE l
theorem bigE_le {x : En} (h : bigE x = false) : x.key.length ≤ 1024 ∧ x.val.length ≤ 65536 := by
  simp only [bigE, decide_eq_false_iff_not] at h
  omega
theorem check_big {l : List En} (h : checkE l = 0) : ∀ x ∈ l, x.key.length ≤ 1024 ∧ x.val.length ≤ 65536 := fun x hx => by
  refine bigE_le ?_
  cases hb : bigE x with
  | false => rfl
  | true =>
    rw [checkE, if_pos (List.any_eq_true.2 ⟨x, hx, hb⟩)] at h
    cases h
theorem fold_tsz {xs l : List En} (hb : ∀ x ∈ l, x.key.length ≤ 1024 ∧ x.val.length ≤ 65536) : ∀ {k : Nat}, k ≤ l.length → tszE ((l.take k).foldl insE xs) ≤ tszE xs + k * 66560 ∧ ((l.take k).foldl insE xs).length = xs.length + k
  | 0, _ => by simp
  | k + 1, hk => by
    have hx : l[k]? = some (l[k]'(by omega)) := List.getElem?_eq_getElem (by omega)
    obtain ⟨h1, h2⟩ := fold_tsz (xs := xs) hb (k := k) (by omega)
    have h3 := hb _ (List.getElem_mem (show k < l.length by omega))
    rw [fold_succ hx, insE_tsz, insE_length]
    omega
theorem Wi.mod {M : BS} {w w' : World} {b o : Nat} {cs : List Value} (h : Wi w b o cs) (hm : Mod M w w') (hM : ¬ M b) : Wi w' b o cs := ⟨Nat.lt_of_lt_of_le h.1 hm.size, fun j u hu => (World.cell?_of_block (a := ⟨b, o + j, none⟩) (hm.block b h.1 hM)).trans (h.2 j u hu)⟩
theorem okP_not {xs l : List En} {k : Nat} {x : En} (hx : l[k]? = some x) (h : (inE xs x || inE ((l.take k).foldl insE []) x) = true) : okP xs l l.length = false := by
  cases hk : okP xs l l.length with
  | false => rfl
  | true =>
    have := okP_le hk (show k + 1 ≤ l.length from (List.getElem?_eq_some_iff.1 hx).1)
    rw [okP_succ hx, h] at this
    simp at this
theorem okP_nil {xs l : List En} {k : Nat} (h : okP xs l k = true) : okP [] l k = true := List.all_eq_true.2 fun j hj => by
  have h1 := List.all_eq_true.1 h j hj
  cases hx : l[j]? with
  | none => rfl
  | some x =>
    simp only [hx, Bool.not_eq_true', Bool.or_eq_false_iff] at h1 ⊢
    exact ⟨rfl, h1.2⟩
set_option maxRecDepth 8000 in
set_option maxHeartbeats 2000000 in
theorem put_any {TX : TypeId × List Value} {S R : BS} {t n c : Nat} {xs l : List En} {A : Option Addr} {w : World} (h0 : Sat w [.ck (tblX TX t xs)] S) (ho : Ord xs) (hr : RdR 4 w R A (l.map enEl)) (hR : ∀ b, b < w.heap.size → R b → ¬ S b) (hn : l.length = n) (hl : l.length ≤ 1048576) (hcnt : xs.length ≤ 1073741824) (hsz : tszE xs ≤ 1152921504606846976) (hg : ∀ w', Mod S w w' → GT w') :
    CallsV Tryd.prog 12 #[pN t, .slice A n c] w fun v w' => v = .int .i64 (putC xs l : Nat) ∧ St S w w' [.ck (tblX TX t (if putC xs l = 0 then l.foldl insE xs else xs))] := by
  subst hn
  have hs := St.start h0
  unfold pN
  refine calls_in (N := _) Tryd.func12 rfl Tryd.ntmps12 rfl ?_; show WC _ _ _ _ _ _
  refine wc_sr ?_; refine wl_as rfl rfl ?_; refine wl_ns ?_; refine wc_seq ?_; refine wc_sr ?_; refine wl_mv rfl rfl ?_
  refine wl_call ok_mem_Check (check_any hr.all rfl (by simp only [maxLen]; omega)) ⟨rfl, trivial⟩ rfl ?_
  rintro _ w2 ⟨rfl, hbx⟩
  replace hs := hs.below hbx
  clear hbx
  by_cases hc : checkE l = 0
  · have hbig := check_big hc
    rw [hc]
    refine wl_as rfl rfl ?_; refine wl_ns ?_; refine wc_sr ?_; refine wl_mv rfl rfl ?_; refine wl_bin rfl rfl bin_neq rfl ?_; refine wl_ns ?_; apply wc_condFb; exact rfl; exact rfl; refine wc_skip ?_; refine we_seq ?_; refine wc_sr ?_
    refine wl_call ok_mem_New new_any trivial rfl ?_
    rintro _ w3 ⟨f, rfl, hsn⟩
    replace hs := hs.call hsn
    clear hsn
    unfold pN
    refine wl_as rfl rfl ?_; refine wl_ns ?_; refine wc_seq ?_; refine wc_sr ?_; refine wl_mv rfl rfl ?_; apply wl_val; apply opv_len; exact rfl; exact tkE.sl; exact rfl; refine wl_mv rfl rfl ?_; refine wl_ns ?_; refine wc_block ?_
    refine wc_loop (fun L wr mm => ∃ k : Nat, L = [(0, .pointer (some ⟨t, 0, none⟩)), (1, .slice A l.length c), (6, .pointer (some ⟨f, 0, none⟩)), (17, .slice A l.length c), (18, .int .i64 (l.length : Int)), (19, .int .i64 (k : Int))] ∧ k ≤ l.length ∧ okP xs l k = true ∧ St S w wr [.ck (tblC f ((l.take k).foldl insE [])), .ck (tblX TX t xs)] ∧ mm = l.length - k)
      [(0, .pointer (some ⟨t, 0, none⟩)), (1, .slice A l.length c), (6, .pointer (some ⟨f, 0, none⟩)), (17, .slice A l.length c), (18, .int .i64 (l.length : Int)), (19, .int .i64 0)] l.length ⟨0, rfl, by omega, rfl, hs, rfl⟩ ⟨rfl, rfl, rfl, rfl, rfl, rfl, trivial⟩ ?_
    clear hs
    rintro _ w4 mm ⟨k, rfl, hk, hok, hs, rfl⟩
    refine wc_sr ?_; refine wl_bin rfl rfl bin_lss rfl ?_; refine wl_ns ?_; refine wc_seq ?_
    refine wc_cond rfl (fun h1 => ?_) (fun h1 => ?_)
    · obtain ⟨x, hx⟩ : ∃ x, l[k]? = some x := ⟨_, List.getElem?_eq_getElem (by omega)⟩
      obtain ⟨b, o, cs, rfl, hRb, _, hp, i0⟩ := RdR.at (k := 4) (by decide) hr (E := enEl x) (i := k) (by rw [List.getElem?_map, hx]; rfl)
      obtain ⟨X, cx, Y, cy, rfl, _, _, _, _⟩ := enEl.rd hp
      have rd : ∀ w', Mod S w w' → RdB w' X x.key ∧ RdB w' Y x.val := fun w' hm => enEl_rdV (S := R) ((enEl x).move hp hm.size fun b hb h => ⟨h, hm.block b hb (hR b hb h)⟩)
      have i1 := i0.mod hs.1 (hR b i0.1 hRb)
      refine wc_skip ?_; refine we_seq ?_; refine wc_seq ?_; refine wc_block ?_; refine wc_sr ?_; apply wl_val; apply opv_idxG tkE; exact rfl; exact rfl; exact rfl; omega; exact rfl; apply wl_val; apply opv_ldG; exact rfl; assumption; exact sE; exact rfl
      refine ws_var (cs := enV x X cx Y cy) hs zeroE sE rfl (fun _ => rfl) (by first | rfl | simp [Value.oneCell']) rfl ?_; clear hs; intro g8 _ hs
      refine wl_ns ?_; refine wc_seq ?_; refine wc_sr ?_; refine wl_mv rfl rfl ?_; apply wl_val; apply opv_loadX; exact rfl; exact hs.ar 0 rfl; exact sE; exact rfl
      obtain ⟨S2, hS2, _, hM, _, hB⟩ := St.lend (H1 := [.ck (tblX TX t xs)]) (H2 := [_, _]) (hs.front 2 rfl)
      refine wl_call ok_mem_Table_there (there_tab hS2 ho fun w' hm => (rd w' (hM w' hm)).1) ⟨rfl, rfl, trivial⟩ rfl ?_
      rintro _ w6 ⟨rfl, hsx⟩
      replace hs := hB _ _ hsx
      clear hB hsx hS2 hM
      dsimp only [List.cons_append, List.nil_append] at hs
      cases hin : inE xs x with
      | true =>
        have hz : putC xs l = 7 := by rw [putC, if_pos hc, okP_not hx (by rw [hin]; rfl)]; rfl
        rw [hz]
        refine wl_mv rfl rfl ?_; apply wl_skip; exact rfl; exact rfl; exact rfl; exact bR1; exact rfl; apply wl_skip; exact rfl; exact rfl; exact rfl; exact bR1; exact rfl; apply wl_skip; exact rfl; exact rfl; exact rfl; exact bR1; exact rfl; apply wl_val; apply opv_pickT; exact rfl; exact rfl; exact rfl; exact rfl; refine wl_ns ?_; apply wc_condTb; exact rfl; exact rfl; refine wc_sr ?_; refine wl_as rfl rfl ?_; refine wl_ns ?_; refine wc_ret ?_; refine we_seq_ret ?_; refine we_block_ret ?_; refine we_seq_ret ?_; refine we_loop_ret ?_; refine we_block_ret ?_; refine we_seq_ret ?_
        exact we_ret1 rfl rfl ⟨_, rfl, rfl, by rw [if_neg (by decide)]; exact (hs.drop 1 rfl).drop 1 rfl⟩
      | false =>
        refine wl_mv rfl rfl ?_; apply wl_take; exact rfl; exact rfl; exact rfl; exact rfl; refine wl_mv rfl rfl ?_; apply wl_take; exact rfl; exact rfl; exact rfl; exact rfl; apply wl_val; apply opv_loadX; exact rfl; exact hs.ar 1 rfl; exact sE; exact rfl; apply wl_take; exact rfl; exact rfl; exact rfl; exact rfl
        obtain ⟨S2, hS2, _, hM, _, hB⟩ := St.lend (H1 := [.ck (tblC f ((l.take k).foldl insE []))]) (H2 := [_, _]) (hs.front 2 rfl)
        refine wl_call ok_mem_Table_there (there_tab hS2 (okP_ord (xs := []) .nil hk (okP_nil hok)) fun w' hm => (rd w' (hM w' hm)).1) ⟨rfl, rfl, trivial⟩ rfl ?_
        rintro _ w7 ⟨rfl, hsx⟩
        replace hs := hB _ _ hsx
        clear hB hsx hS2 hM
        dsimp only [List.cons_append, List.nil_append] at hs
        cases hin2 : inE ((l.take k).foldl insE []) x with
        | true =>
          have hz : putC xs l = 7 := by rw [putC, if_pos hc, okP_not hx (by rw [hin, hin2]; rfl)]; rfl
          rw [hz]
          apply wl_val; apply opv_pickF; exact rfl; exact rfl; exact rfl; exact rfl; refine wl_ns ?_; apply wc_condTb; exact rfl; exact rfl; refine wc_sr ?_; refine wl_as rfl rfl ?_; refine wl_ns ?_; refine wc_ret ?_; refine we_seq_ret ?_; refine we_block_ret ?_; refine we_seq_ret ?_; refine we_loop_ret ?_; refine we_block_ret ?_; refine we_seq_ret ?_
          exact we_ret1 rfl rfl ⟨_, rfl, rfl, by rw [if_neg (by decide)]; exact ((hs.front 1 rfl).drop 1 rfl).drop 1 rfl⟩
        | false =>
          apply wl_val; apply opv_pickF; exact rfl; exact rfl; exact rfl; exact rfl; refine wl_ns ?_; apply wc_condFb; exact rfl; exact rfl; refine wc_skip ?_; refine we_seq ?_; refine wc_region ?_; refine wl_mv rfl rfl ?_; apply wl_val; apply opv_loadX; exact rfl; exact hs.ar 2 rfl; exact sE; exact rfl
          obtain ⟨S2, hS2, _, hM, _, hB⟩ := St.lend (H1 := [.ck (tblC f ((l.take k).foldl insE []))]) (H2 := [_, _]) hs
          have hb1 := hbig x (List.mem_of_getElem? hx)
          have hf := fold_tsz (xs := []) hbig hk
          refine wl_call ok_mem_Table_insert (insert_tab hS2 (okP_ord (xs := []) .nil hk (okP_nil hok)) hin2 (fun w' hm => rd w' (hM w' hm)) (by omega) (by omega) (by have := hf.2; simp at this; omega) (by have := hf.1; simp [tszE] at this ⊢; omega) fun w' hm => hg w' (hM w' hm)) ⟨rfl, rfl, trivial⟩ rfl ?_
          rintro _ w8 ⟨rfl, hsx⟩
          replace hs := hB _ _ hsx
          clear hB hsx hS2 hM
          dsimp only [List.cons_append, List.nil_append] at hs
          have hk1 : (k : Int) + 1 = ((k + 1 : Nat) : Int) := by omega
          refine wl_nil ?_; refine we_block_norm ?_; refine we_seq ?_; refine wc_region ?_; apply wl_val; apply opv_bin; exact rfl; exact rfl; exact bin_add64 (by omega); exact rfl; refine wl_mv rfl rfl ?_; refine wl_nil ?_
          refine we_loop _ (l.length - (k + 1)) ⟨k + 1, rfl, by omega, by rw [okP_succ hx, hok, hin, hin2]; rfl, ?_, rfl⟩ (by omega) ⟨rfl, rfl, rfl, rfl, rfl, by rw [← hk1]; rfl, trivial⟩
          rw [fold_succ hx]
          exact (hs.front 1 rfl).drop 2 rfl |>.front 1 rfl
    · obtain rfl : k = l.length := by omega
      have hz : putC xs l = 0 := by rw [putC, if_pos hc, hok]; rfl
      rw [hz, if_pos rfl]
      refine wc_exit ?_; refine we_seq_exit ?_; refine we_loop_exit ?_; refine we_block_exit ?_; refine we_seq ?_; refine wc_seq ?_; refine wc_sr ?_; refine wl_mv rfl rfl ?_; apply wl_val; apply opv_len; exact rfl; exact tkE.sl; exact rfl; refine wl_mv rfl rfl ?_; refine wl_ns ?_; refine wc_block ?_
      refine wc_loop (fun L wr mm => ∃ k : Nat, L = [(0, .pointer (some ⟨t, 0, none⟩)), (35, .slice A l.length c), (36, .int .i64 (l.length : Int)), (37, .int .i64 (k : Int))] ∧ k ≤ l.length ∧ St S w wr [.ck (tblX TX t ((l.take k).foldl insE xs))] ∧ mm = l.length - k)
        [(0, .pointer (some ⟨t, 0, none⟩)), (35, .slice A l.length c), (36, .int .i64 (l.length : Int)), (37, .int .i64 0)] l.length ⟨0, rfl, by omega, hs.drop 0 rfl, rfl⟩ ⟨rfl, rfl, rfl, rfl, trivial⟩ ?_
      clear hs
      rintro _ w5 mm ⟨k, rfl, hk, hs, rfl⟩
      refine wc_sr ?_; refine wl_bin rfl rfl bin_lss rfl ?_; refine wl_ns ?_; refine wc_seq ?_
      refine wc_cond rfl (fun h1 => ?_) (fun h1 => ?_)
      · obtain ⟨x, hx⟩ : ∃ x, l[k]? = some x := ⟨_, List.getElem?_eq_getElem (by omega)⟩
        obtain ⟨b, o, cs, rfl, hRb, _, hp, i0⟩ := RdR.at (k := 4) (by decide) hr (E := enEl x) (i := k) (by rw [List.getElem?_map, hx]; rfl)
        obtain ⟨X, cx, Y, cy, rfl, _, _, _, _⟩ := enEl.rd hp
        have rd : ∀ w', Mod S w w' → RdB w' X x.key ∧ RdB w' Y x.val := fun w' hm => enEl_rdV (S := R) ((enEl x).move hp hm.size fun b hb h => ⟨h, hm.block b hb (hR b hb h)⟩)
        have i1 := i0.mod hs.1 (hR b i0.1 hRb)
        refine wc_skip ?_; refine we_seq ?_; refine wc_seq ?_; refine wc_block ?_; refine wc_sr ?_; apply wl_val; apply opv_idxG tkE; exact rfl; exact rfl; exact rfl; omega; exact rfl; apply wl_val; apply opv_ldG; exact rfl; assumption; exact sE; exact rfl
        refine ws_var (cs := enV x X cx Y cy) hs zeroE sE rfl (fun _ => rfl) (by first | rfl | simp [Value.oneCell']) rfl ?_; clear hs; intro g10 _ hs
        refine wl_ns ?_; refine wc_region ?_; refine wl_mv rfl rfl ?_; apply wl_val; apply opv_loadX; exact rfl; exact hs.ar 0 rfl; exact sE; exact rfl
        obtain ⟨S2, hS2, _, hM, _, hB⟩ := St.lend (H1 := [.ck (tblX TX t ((l.take k).foldl insE xs))]) (H2 := [_]) (hs.front 1 rfl)
        have hb1 := hbig x (List.mem_of_getElem? hx)
        have hf := fold_tsz (xs := xs) hbig hk
        refine wl_call ok_mem_Table_insert (insert_tab hS2 (okP_ord ho hk (okP_le hok hk)) (okP_in (okP_le hok (show k + 1 ≤ l.length by omega)) hx) (fun w' hm => rd w' (hM w' hm)) (by omega) (by omega) (by omega) (by omega) fun w' hm => hg w' (hM w' hm)) ⟨rfl, rfl, trivial⟩ rfl ?_
        rintro _ w8 ⟨rfl, hsx⟩
        replace hs := hB _ _ hsx
        clear hB hsx hS2 hM
        dsimp only [List.cons_append, List.nil_append] at hs
        have hk1 : (k : Int) + 1 = ((k + 1 : Nat) : Int) := by omega
        refine wl_nil ?_; refine we_block_norm ?_; refine we_seq ?_; refine wc_region ?_; apply wl_val; apply opv_bin; exact rfl; exact rfl; exact bin_add64 (by omega); exact rfl; refine wl_mv rfl rfl ?_; refine wl_nil ?_
        refine we_loop _ (l.length - (k + 1)) ⟨k + 1, rfl, by omega, ?_, rfl⟩ (by omega) ⟨rfl, rfl, rfl, by rw [← hk1]; rfl, trivial⟩
        rw [fold_succ hx]
        exact hs.drop 1 rfl
      · obtain rfl : k = l.length := by omega
        refine wc_exit ?_; refine we_seq_exit ?_; refine we_loop_exit ?_; refine we_block_exit ?_; refine we_seq ?_; refine wc_sr ?_; refine wl_as rfl rfl ?_; refine wl_ns ?_; refine wc_ret ?_
        rw [List.take_length] at hs
        exact we_ret1 rfl rfl ⟨_, rfl, rfl, hs⟩
  · have h1 : ¬ ((checkE l : Nat) : Int) = 0 := by omega
    refine wl_as rfl rfl ?_; refine wl_ns ?_; refine wc_sr ?_; refine wl_mv rfl rfl ?_; refine wl_bin rfl rfl bin_neq rfl ?_; refine wl_ns ?_; apply wc_decT; exact rfl; (with_reducible assumption); refine wc_sr ?_; refine wl_mv rfl rfl ?_; refine wl_as rfl rfl ?_; refine wl_ns ?_; refine wc_ret ?_; refine we_seq_ret ?_
    exact we_ret1 rfl rfl ⟨_, rfl, by rw [putC, if_neg hc], by rw [putC, if_neg hc, if_neg hc]; exact hs⟩
end Go.Proofs.YtpnckagibkdcpaaDoor
