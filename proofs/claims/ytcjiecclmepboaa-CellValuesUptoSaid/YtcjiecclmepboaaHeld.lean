
/-
  The engine's rules for a region whose order Go leaves open and which makes memory: operations that yield one value in every world of a class are taken first; where one operation alone may come up, it is carried out. Nothing here names the program.
-/
import Derived.Test.YtcjiecclmepboaaMem
import Derived.OrdersHeld
import Derived.Deep.RegionHeld3
namespace Go.Proofs.Ytcjiecclmepboaa
open Go.RowKit

def WH (P : Program) (N : Nat) (ops : Array Oper) (Q : Exit → Act → World → Prop) (S : World → Prop) (fuel : Nat) (listed : Array Bool) (L : FL) (w : World) : Prop :=
  ∀ a, Has N a L → wpAnyH P .any ops (NoPanic Q) S fuel listed a w
/-- What must hold behind the one operation that could come up. -/
def HeldQ (P : Program) (ops : Array Oper) (Q : Exit → Act → World → Prop) (S : World → Prop) (fuel : Nat) (listed : Array Bool) : Exit → Act → World → Prop :=
  Exit.then (fun a w => S w ∧ wpAnyH P .any ops (NoPanic Q) S fuel listed a w) (NoPanic Q)

section
variable {P : Program} {N : Nat} {ops : Array Oper} {Q : Exit → Act → World → Prop} {S : World → Prop} {fuel : Nat} {listed : Array Bool} {L : FL} {w : World}

theorem wc_held {id : Nat} {l : List Oper} (S : World → Prop) (hm : P.follows .mixedOrders = true) (h : WH P N l.toArray Q S l.length (Array.replicate l.length false) L w.drew) : WC P N (.region id l.toArray true) Q L w := fun a ha =>
  wp_region_noPanic (wp_region_held (S := S) hm (by simpa using h a ha))
/-- The class of the worlds that extend the one ahead of the region. -/
theorem wc_heldB {id : Nat} {l : List Oper} (hm : P.follows .mixedOrders = true) (h : ∀ w1, Below w.heap.size w w1 → WH P N l.toArray Q (Below w.heap.size w) l.length (Array.replicate l.length false) L w1) : WC P N (.region id l.toArray true) Q L w :=
  wc_held (Below w.heap.size w) hm (h _ ((Below.refl _ _).drew))
theorem np {Q : Exit → Act → World → Prop} {a a' : Act} {c : List PanicEntry} {w : World} (h : NoPanic Q (.panic c) a' w) : NoPanic Q (.panic c) a w := by simp [NoPanic] at h
theorem wh_done (hr : Region.ready .any ops listed = []) (h : WE N Q .normal L w) : WH P N ops Q S fuel listed L w := fun a ha => wpAnyH_done (Q := NoPanic Q) hr (NoPanic.normal (h a ha)) fuel
theorem wh_take (i : Nat) {d : Nat} {op : Op} {ty : TypeId} {pos : String} {aft : Array Edge} {v : Value} (hi : ops[i]? = some ⟨some d, op, ty, pos, aft, none⟩) (hs : Region.noSelect ops = true)
    (hf : Region.free .any ops listed i = true) (hr : (Region.ready .any ops listed).contains i = true) (hS : S w) (hv : ∀ w, S w → OpV P op ty L w v w) (hd : Nat.blt d N = true)
    (h : WH P N ops Q S fuel (listed.setIfInBounds i true) ((d, v) :: L) w) : WH P N ops Q S (fuel + 1) listed L w := fun a ha =>
  wpAnyH_take hi hs hf hr (fun _ _ _ h => np h) (.inl ⟨by simp [Region.wanted], fun w hw => hv w hw a.eval _ (fun x u hx => ha.eval hx) rfl rfl⟩) hS (h _ (ha.put hd v))
theorem wh_takeG (i : Nat) {d j g : Nat} {b want : Bool} {op : Op} {ty : TypeId} {pos : String} {aft : Array Edge} {v : Value} (hi : ops[i]? = some ⟨some d, op, ty, pos, aft, some (j, want)⟩) (hs : Region.noSelect ops = true)
    (hf : Region.free .any ops listed i = true) (hr : (Region.ready .any ops listed).contains i = true) (hS : S w)
    (hj : (ops[j]?).bind (·.dst) = some g) (hb : lookT L g = some (.bool b)) (hg : Nat.blt g N = true) (he : b = want) (hv : ∀ w, S w → OpV P op ty L w v w) (hd : Nat.blt d N = true)
    (h : WH P N ops Q S fuel (listed.setIfInBounds i true) ((d, v) :: L) w) : WH P N ops Q S (fuel + 1) listed L w := fun a ha => by
  have hy := yielded_of ha hj hb hg
  exact wpAnyH_take hi hs hf hr (fun _ _ _ h => np h) (.inl ⟨by simp [Region.wanted, hy, he], fun w hw => hv w hw a.eval _ (fun x u hx => ha.eval hx) rfl rfl⟩) hS (h _ (ha.put hd v))
theorem wh_skipG (i : Nat) {d j g : Nat} {b want : Bool} {op : Op} {ty : TypeId} {pos : String} {aft : Array Edge} (hi : ops[i]? = some ⟨some d, op, ty, pos, aft, some (j, want)⟩) (hs : Region.noSelect ops = true)
    (hf : Region.free .any ops listed i = true) (hr : (Region.ready .any ops listed).contains i = true) (hS : S w)
    (hj : (ops[j]?).bind (·.dst) = some g) (hb : lookT L g = some (.bool b)) (hg : Nat.blt g N = true) (he : b = !want) (hd : Nat.blt d N = true)
    (h : WH P N ops Q S fuel (listed.setIfInBounds i true) ((d, undef) :: L) w) : WH P N ops Q S (fuel + 1) listed L w := fun a ha => by
  have hy := yielded_of ha hj hb hg
  exact wpAnyH_take hi hs hf hr (fun _ _ _ h => np h) (.inr ⟨by simp [Region.wanted, hy, he], rfl⟩) hS (h _ (ha.put hd undef))
theorem wh_skipU (i : Nat) {d j g : Nat} {want : Bool} {op : Op} {ty : TypeId} {pos : String} {aft : Array Edge} (hi : ops[i]? = some ⟨some d, op, ty, pos, aft, some (j, want)⟩) (hs : Region.noSelect ops = true)
    (hf : Region.free .any ops listed i = true) (hr : (Region.ready .any ops listed).contains i = true) (hS : S w)
    (hj : (ops[j]?).bind (·.dst) = some g) (hb : lookT L g = some undef) (hg : Nat.blt g N = true) (hd : Nat.blt d N = true)
    (h : WH P N ops Q S fuel (listed.setIfInBounds i true) ((d, undef) :: L) w) : WH P N ops Q S (fuel + 1) listed L w := fun a ha => by
  have hy := yielded_undef ha hj hb hg
  exact wpAnyH_take hi hs hf hr (fun _ _ _ h => np h) (.inr ⟨by simp [Region.wanted, hy], rfl⟩) hS (h _ (ha.put hd undef))
/-- The same with what must be computed in one piece, behind the guard. -/
def okAt (ops : Array Oper) (listed : Array Bool) (i : Nat) : Bool := Region.noSelect ops && (Region.free .any ops listed i && (Region.ready .any ops listed).contains i)
theorem okAt_of {i : Nat} (h : okAt ops listed i = true) : Region.noSelect ops = true ∧ Region.free .any ops listed i = true ∧ (Region.ready .any ops listed).contains i = true := by
  simpa only [okAt, Bool.and_eq_true] using h
theorem wh_takeH (i : Nat) {d : Nat} {op : Op} {ty : TypeId} {pos : String} {aft : Array Edge} {v : Value} (hi : ops[i]? = some ⟨some d, op, ty, pos, aft, none⟩) (hv : ∀ w, S w → OpV P op ty L w v w) (hd : Nat.blt d N = true) (hk : okAt ops listed i = true) (hS : S w)
    (h : WH P N ops Q S fuel (listed.setIfInBounds i true) ((d, v) :: L) w) : WH P N ops Q S (fuel + 1) listed L w :=
  wh_take i hi (okAt_of hk).1 (okAt_of hk).2.1 (okAt_of hk).2.2 hS hv hd h
theorem wh_takeGH (i : Nat) {d j g : Nat} {b want : Bool} {op : Op} {ty : TypeId} {pos : String} {aft : Array Edge} {v : Value} (hi : ops[i]? = some ⟨some d, op, ty, pos, aft, some (j, want)⟩)
    (hj : (ops[j]?).bind (·.dst) = some g) (hb : lookT L g = some (.bool b)) (hg : Nat.blt g N = true) (he : b = want) (hv : ∀ w, S w → OpV P op ty L w v w) (hd : Nat.blt d N = true) (hk : okAt ops listed i = true) (hS : S w)
    (h : WH P N ops Q S fuel (listed.setIfInBounds i true) ((d, v) :: L) w) : WH P N ops Q S (fuel + 1) listed L w :=
  wh_takeG i hi (okAt_of hk).1 (okAt_of hk).2.1 (okAt_of hk).2.2 hS hj hb hg he hv hd h
theorem wh_skipGH (i : Nat) {d j g : Nat} {b want : Bool} {op : Op} {ty : TypeId} {pos : String} {aft : Array Edge} (hi : ops[i]? = some ⟨some d, op, ty, pos, aft, some (j, want)⟩)
    (hj : (ops[j]?).bind (·.dst) = some g) (hb : lookT L g = some (.bool b)) (hg : Nat.blt g N = true) (he : b = !want) (hd : Nat.blt d N = true) (hk : okAt ops listed i = true) (hS : S w)
    (h : WH P N ops Q S fuel (listed.setIfInBounds i true) ((d, undef) :: L) w) : WH P N ops Q S (fuel + 1) listed L w :=
  wh_skipG i hi (okAt_of hk).1 (okAt_of hk).2.1 (okAt_of hk).2.2 hS hj hb hg he hd h
theorem wh_skipUH (i : Nat) {d j g : Nat} {want : Bool} {op : Op} {ty : TypeId} {pos : String} {aft : Array Edge} (hi : ops[i]? = some ⟨some d, op, ty, pos, aft, some (j, want)⟩)
    (hj : (ops[j]?).bind (·.dst) = some g) (hb : lookT L g = some undef) (hg : Nat.blt g N = true) (hd : Nat.blt d N = true) (hk : okAt ops listed i = true) (hS : S w)
    (h : WH P N ops Q S fuel (listed.setIfInBounds i true) ((d, undef) :: L) w) : WH P N ops Q S (fuel + 1) listed L w :=
  wh_skipU i hi (okAt_of hk).1 (okAt_of hk).2.1 (okAt_of hk).2.2 hS hj hb hg hd h
/-- One operation alone may come up. -/
theorem wh_one (i : Nat) {o : Oper} (hr : Region.ready .any ops listed = [i]) (hi : ops[i]? = some o)
    (h : WL P N ops (HeldQ P ops Q S fuel (listed.setIfInBounds i true)) [o] L w) : WH P N ops Q S (fuel + 1) listed L w := fun a ha => by
  refine wpAnyH_all hr (by simp) fun i' hi' => ?_
  obtain rfl : i' = i := by simpa using hi'
  have h' := h a ha
  unfold wpOp
  simp only [hi]
  unfold wpList at h'
  split
  · rename_i hw
    rw [if_pos hw] at h'
    rcases h' with h' | ⟨ha, a0, w0, h'⟩
    · exact .inl (upon_mono (fun a w h => h) (fun e a w he h => by cases e <;> first | exact absurd rfl he | exact h) h')
    · exact .inr ⟨ha, a0, w0, h'⟩
  · rename_i hw
    rw [if_neg hw] at h'
    exact h'
theorem we_held (hS : S w) (h : WH P N ops Q S fuel listed L w) : WE N (HeldQ P ops Q S fuel listed) .normal L w := fun a ha => ⟨hS, h a ha⟩
end
end Go.Proofs.Ytcjiecclmepboaa
