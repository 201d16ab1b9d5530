/-
  The texts of this proof, joined: Fp, Held, Fq, Pb, Pc, Wc, Wb, We, Wa, Tk, Wg, Wh, Pd, Wi, Wj, Pe, Wk, Wm, Sr, Ge, Gf, Args, Op, Za, Zb, Zd.
-/
import Derived.Test.YtpnckagibkdcpaaKysM1
import Derived.OrdersHeld
import Derived.Deep.RegionHeld3
import Derived.Laws.Build
import Derived.Laws.Tables
import Derived.Stop.IfaceNil
import Derived.Deep.MidRow
import Derived.Lib.AppendStr
import Derived.ProofKit
import Derived.OpenShut
import Derived.JoinedCond
import Derived.SizedLaws
import Derived.Deep.Matrix
import Derived.Carry
import Derived.Deep.Slices
import Derived.ChangeMaps5

/-
  The walk over Fold, and the fixed fact of the laws of texts.
-/
namespace Go.Proofs.Ytpnckagibkdcpaa
open Go.RowKit

section
variable {w w' : World} {B b c : Nat} {p : Value} {A X : Option Addr} {bs : List UInt8}
theorem Bd.gr (h : Bd w B b p A c bs) (g : Gr w w' X) (h1 : ∀ a, X = some a → a.block ≠ b) (h2 : ∀ a x, A = some a → X = some x → a.block ≠ x.block) : Bd w' B b p A c bs :=
  ⟨h.1, h.2.1.grA g h1, Ow.gr (base' := 0) (e' := 0) h.2.2.1 g h2, h.2.2.2.1, h.2.2.2.2⟩
theorem Bd.is (h : Bd w B b p A c bs) : Lib.IsBuilder 102 5 B b (Lib.byteCells bs) w := by
  obtain ⟨hB, ha, ho, hne, hp⟩ := h
  have hat : Lib.BuilderAt 102 5 B b p (Lib.byteCells bs) w := by
    refine ⟨hB, .slice A bs.length c, ha, ?_, ?_⟩
    · have : (Lib.byteCells bs).length = bs.length := by simp [Lib.byteCells]
      rw [this]; exact ho
    · rw [ownBlock_slice]
      cases A with
      | none => simp
      | some a => have := hne a rfl; simpa using this
  rcases hp with rfl | rfl
  · exact .inl hat
  · exact .inr hat
end
theorem bString_any {w : World} {B b c : Nat} {p : Value} {A : Option Addr} {bs : List UInt8} (h : Bd w B b p A c bs) :
    CallsV Try.prog 66 #[.pointer (some ⟨b, 0, none⟩)] w fun v w' => v = str bs ∧ Below B w w' :=
  (Try.Builder_String_any B b bs w h.is (Nat.le_trans h.1 (Nat.le_of_lt h.2.1.lt))).mono fun _ _ ⟨h1, h2⟩ => ⟨_, h1, rfl, h2⟩
theorem fold_any {l : List UInt8} (hl : l.length ≤ 1099511627776) (w : World) : CallsV Try.prog 42 #[str l] w fun v w' => v = str (foldB l) ∧ Below w.heap.size w w' := by
  refine calls_in (N := _) Try.func42 rfl Try.ntmps42 rfl ?_; show WC _ _ _ _ _ _
  refine wc_sr ?_; refine wl_as rfl rfl ?_; refine wl_ns ?_; refine wc_sr ?_
  refine wl_alloc (z := .agg #[.pointer none, .slice none 0 0]) (by kernel_rfl) rfl fun w1 a1 hb1 hs1 => ?_
  have d1 : Bd w1 w.heap.size w.heap.size (.pointer none) none 0 [] := ⟨Nat.le_refl _, a1, Ow.nil _ _ _, by simp, .inl rfl⟩
  refine wl_ns ?_; refine wc_seq ?_; refine wc_sr ?_; refine wl_mv rfl rfl ?_
  refine wl_range tyStr rfl rfl fun k w2 hk i2 hb2 => ?_
  have d2 : Bd w2 w.heap.size w.heap.size (.pointer none) none 0 [] := ⟨Nat.le_refl _, d1.2.1.bel hb2, Ow.nil _ _ _, by simp, .inl rfl⟩
  have hwk : w.heap.size < k := by omega
  obtain ⟨b, hb0⟩ : ∃ b, w.heap.size = b := ⟨_, rfl⟩
  have hbb := hb1.trans (hb2.mono hb1.size)
  refine wl_ns ?_; refine wc_block ?_
  refine wc_loop (fun L wr m => ∃ (q : Nat) (done : List Nat) (p : Value) (A : Option Addr) (c : Nat), L = [(3, .pointer (some ⟨w.heap.size, 0, none⟩)), (7, .pointer (some ⟨k, 0, none⟩))] ∧ Bd wr w.heap.size w.heap.size p A c (encs (done.map lowN)) ∧ It wr k l q ∧ Below w.heap.size w wr ∧ q ≤ l.length ∧ done.length ≤ q ∧ done ++ rs (l.drop q) = rs l ∧ m = l.length - q)
    [(3, .pointer (some ⟨w.heap.size, 0, none⟩)), (7, .pointer (some ⟨k, 0, none⟩))] l.length ⟨0, [], .pointer none, none, 0, rfl, d2, i2, hbb, by omega, by simp, rfl, rfl⟩ ⟨rfl, rfl, trivial⟩ ?_
  rintro _ w3 m ⟨q, done, p, A, c, rfl, d3, i3, hb3, hq, hn, he, rfl⟩
  have hel := encs_length (done.map lowN)
  rw [List.length_map] at hel
  refine wc_sr ?_
  by_cases hlt : q < l.length
  · have hd := dec_at hlt
    have hlv := lowN_val (dec_val (l.drop q))
    rw [rs_step hlt] at he
    refine wl_next rfl i3 hlt rfl fun w4 i4 g4 hs4 => ?_
    have d4 := d3.gr g4 (fun a ha => by cases ha; exact (show k ≠ w.heap.size by omega)) (fun a x ha hx => by cases hx; exact i3.ne_own d3.2.2.1 a ha)
    have hb4 := g4.belowI hb3 (by omega) hb3.size
    apply wl_val; apply opv_extract; exact rfl; exact rfl; exact rfl; refine wl_ns ?_; refine wc_seq ?_; apply wc_condTb; exact rfl; exact rfl; refine wc_skip ?_; refine we_seq ?_; refine wc_block ?_; refine wc_sr ?_; apply wl_val; apply opv_extract; exact rfl; exact rfl; exact rfl; refine wl_as rfl rfl ?_; refine wl_ns ?_; refine wc_region ?_; refine wl_mv rfl rfl ?_; apply wl_callX (vs := [_]) ok_text_low; exact ⟨rfl, trivial⟩; exact rfl; exact low_any _ (dec_le _) _; rintro _ _ ⟨rfl, rfl⟩
    refine wl_call ok_strings_Builder_WriteRune (writeRune_any d4 (by omega) hlv) ⟨rfl, rfl, trivial⟩ rfl ?_
    rintro _ w7 ⟨A7, c7, w5, w6, d7, g5, g6, g7⟩
    have i5 := i4.gr' g5 fun a ha => by cases ha; exact (show w.heap.size ≠ k by omega)
    have i6 := i5.gr' g6 fun a ha => i4.ne_own d4.2.2.1 a ha
    have i7 := i6.gr' g7 fun a ha => by cases ha; exact (show w.heap.size ≠ k by omega)
    have hb5 := g5.belowI hb4 (Nat.le_refl _) hb4.size
    have hb6 := g6.below hb5 (Ow.gr (base' := 0) (e' := 0) d4.2.2.1 g5 fun a x ha hx => by cases hx; exact d4.2.2.2.1 a ha) (Nat.le_refl _) hb5.size
    have hb7 := g7.belowI hb6 (Nat.le_refl _) hb6.size
    have e7 : encs (done.map lowN) ++ enc (lowN (dec (l.drop q)).1) = encs ((done ++ [(dec (l.drop q)).1]).map lowN) := by
      rw [List.map_append, encs_append]; simp [encs]
    rw [e7] at d7
    refine wl_nil ?_; refine we_block_norm ?_
    refine we_loop [(3, .pointer (some ⟨w.heap.size, 0, none⟩)), (7, .pointer (some ⟨k, 0, none⟩))] (l.length - (q + (dec (l.drop q)).2)) ⟨_, _, _, A7, c7, rfl, d7, i7, hb7, hd.2.1, by simp; omega, by rw [List.append_assoc]; exact he, rfl⟩ (by omega) ⟨rfl, rfl, trivial⟩
  · refine wl_nextE rfl i3 hlt rfl ?_
    rw [rs_end hlt, List.append_nil] at he
    subst he
    apply wl_val; apply opv_extract; exact rfl; exact rfl; exact rfl; refine wl_ns ?_; refine wc_seq ?_; apply wc_condFb; exact rfl; exact rfl; refine wc_exit ?_; refine we_seq_exit ?_; refine we_loop_exit ?_; refine we_block_exit ?_; refine we_seq ?_; refine wc_sr ?_
    refine wl_call ok_strings_Builder_String (bString_any d3) ⟨rfl, trivial⟩ rfl ?_
    rintro _ w4 ⟨rfl, hb4⟩
    refine wl_as rfl rfl ?_; refine wl_ns ?_; refine wc_ret ?_
    exact we_ret1 rfl rfl ⟨_, rfl, rfl, hb3.trans hb4⟩
end Go.Proofs.Ytpnckagibkdcpaa


/-
  The engine's rules for a region whose order Go leaves open and which makes memory: operations that yield one value in every world of a class are taken first; where one operation alone may come up, it is carried out. Nothing here names the program.
-/
namespace Go.Proofs.Ytpnckagibkdcpaa
open Go.RowKit

def WH (P : Program) (N : Nat) (ops : Array Oper) (Q : Exit → Act → World → Prop) (S : World → Prop) (fuel : Nat) (listed : Array Bool) (L : FL) (w : World) : Prop :=
  ∀ a, Has N a L → wpAnyH P .any ops (NoPanic Q) S fuel listed a w
/-- What must hold behind the one operation that could come up. -/
def HeldQ (P : Program) (ops : Array Oper) (Q : Exit → Act → World → Prop) (S : World → Prop) (fuel : Nat) (listed : Array Bool) : Exit → Act → World → Prop :=
  Exit.then (fun a w => S w ∧ wpAnyH P .any ops (NoPanic Q) S fuel listed a w) (NoPanic Q)

section
variable {P : Program} {N : Nat} {ops : Array Oper} {Q : Exit → Act → World → Prop} {S : World → Prop} {fuel : Nat} {listed : Array Bool} {L : FL} {w : World}

theorem wc_held {id : Nat} {l : List Oper} (S : World → Prop) (hm : P.follows .mixedOrders = true) (h : WH P N l.toArray Q S l.length (Array.replicate l.length false) L w.drew) : WC P N (.region id l.toArray true) Q L w := fun a ha =>
  wp_region_noPanic (wp_region_held (S := S) hm (by simpa using h a ha))
/-- The class of the worlds that extend the one ahead of the region. -/
theorem wc_heldB {id : Nat} {l : List Oper} (hm : P.follows .mixedOrders = true) (h : ∀ w1, Below w.heap.size w w1 → WH P N l.toArray Q (Below w.heap.size w) l.length (Array.replicate l.length false) L w1) : WC P N (.region id l.toArray true) Q L w :=
  wc_held (Below w.heap.size w) hm (h _ ((Below.refl _ _).drew))
theorem np {Q : Exit → Act → World → Prop} {a a' : Act} {c : List PanicEntry} {w : World} (h : NoPanic Q (.panic c) a' w) : NoPanic Q (.panic c) a w := by simp [NoPanic] at h
theorem wh_done (hr : Region.ready .any ops listed = []) (h : WE N Q .normal L w) : WH P N ops Q S fuel listed L w := fun a ha => wpAnyH_done (Q := NoPanic Q) hr (NoPanic.normal (h a ha)) fuel
theorem wh_take (i : Nat) {d : Nat} {op : Op} {ty : TypeId} {pos : String} {aft : Array Edge} {v : Value} (hi : ops[i]? = some ⟨some d, op, ty, pos, aft, none⟩) (hs : Region.noSelect ops = true)
    (hf : Region.free .any ops listed i = true) (hr : (Region.ready .any ops listed).contains i = true) (hS : S w) (hv : ∀ w, S w → OpV P op ty L w v w) (hd : Nat.blt d N = true)
    (h : WH P N ops Q S fuel (listed.setIfInBounds i true) ((d, v) :: L) w) : WH P N ops Q S (fuel + 1) listed L w := fun a ha =>
  wpAnyH_take hi hs hf hr (fun _ _ _ h => np h) (.inl ⟨by simp [Region.wanted], fun w hw => hv w hw a.eval _ (fun x u hx => ha.eval hx) rfl rfl⟩) hS (h _ (ha.put hd v))
theorem wh_takeG (i : Nat) {d j g : Nat} {b want : Bool} {op : Op} {ty : TypeId} {pos : String} {aft : Array Edge} {v : Value} (hi : ops[i]? = some ⟨some d, op, ty, pos, aft, some (j, want)⟩) (hs : Region.noSelect ops = true)
    (hf : Region.free .any ops listed i = true) (hr : (Region.ready .any ops listed).contains i = true) (hS : S w)
    (hj : (ops[j]?).bind (·.dst) = some g) (hb : lookT L g = some (.bool b)) (hg : Nat.blt g N = true) (he : b = want) (hv : ∀ w, S w → OpV P op ty L w v w) (hd : Nat.blt d N = true)
    (h : WH P N ops Q S fuel (listed.setIfInBounds i true) ((d, v) :: L) w) : WH P N ops Q S (fuel + 1) listed L w := fun a ha => by
  have hy := yielded_of ha hj hb hg
  exact wpAnyH_take hi hs hf hr (fun _ _ _ h => np h) (.inl ⟨by simp [Region.wanted, hy, he], fun w hw => hv w hw a.eval _ (fun x u hx => ha.eval hx) rfl rfl⟩) hS (h _ (ha.put hd v))
theorem wh_skipG (i : Nat) {d j g : Nat} {b want : Bool} {op : Op} {ty : TypeId} {pos : String} {aft : Array Edge} (hi : ops[i]? = some ⟨some d, op, ty, pos, aft, some (j, want)⟩) (hs : Region.noSelect ops = true)
    (hf : Region.free .any ops listed i = true) (hr : (Region.ready .any ops listed).contains i = true) (hS : S w)
    (hj : (ops[j]?).bind (·.dst) = some g) (hb : lookT L g = some (.bool b)) (hg : Nat.blt g N = true) (he : b = !want) (hd : Nat.blt d N = true)
    (h : WH P N ops Q S fuel (listed.setIfInBounds i true) ((d, undef) :: L) w) : WH P N ops Q S (fuel + 1) listed L w := fun a ha => by
  have hy := yielded_of ha hj hb hg
  exact wpAnyH_take hi hs hf hr (fun _ _ _ h => np h) (.inr ⟨by simp [Region.wanted, hy, he], rfl⟩) hS (h _ (ha.put hd undef))
theorem wh_skipU (i : Nat) {d j g : Nat} {want : Bool} {op : Op} {ty : TypeId} {pos : String} {aft : Array Edge} (hi : ops[i]? = some ⟨some d, op, ty, pos, aft, some (j, want)⟩) (hs : Region.noSelect ops = true)
    (hf : Region.free .any ops listed i = true) (hr : (Region.ready .any ops listed).contains i = true) (hS : S w)
    (hj : (ops[j]?).bind (·.dst) = some g) (hb : lookT L g = some undef) (hg : Nat.blt g N = true) (hd : Nat.blt d N = true)
    (h : WH P N ops Q S fuel (listed.setIfInBounds i true) ((d, undef) :: L) w) : WH P N ops Q S (fuel + 1) listed L w := fun a ha => by
  have hy := yielded_undef ha hj hb hg
  exact wpAnyH_take hi hs hf hr (fun _ _ _ h => np h) (.inr ⟨by simp [Region.wanted, hy], rfl⟩) hS (h _ (ha.put hd undef))
/-- The same with what must be computed in one piece, behind the guard. -/
def okAt (ops : Array Oper) (listed : Array Bool) (i : Nat) : Bool := Region.noSelect ops && (Region.free .any ops listed i && (Region.ready .any ops listed).contains i)
theorem okAt_of {i : Nat} (h : okAt ops listed i = true) : Region.noSelect ops = true ∧ Region.free .any ops listed i = true ∧ (Region.ready .any ops listed).contains i = true := by
  simpa only [okAt, Bool.and_eq_true] using h
theorem wh_takeH (i : Nat) {d : Nat} {op : Op} {ty : TypeId} {pos : String} {aft : Array Edge} {v : Value} (hi : ops[i]? = some ⟨some d, op, ty, pos, aft, none⟩) (hv : ∀ w, S w → OpV P op ty L w v w) (hd : Nat.blt d N = true) (hk : okAt ops listed i = true) (hS : S w)
    (h : WH P N ops Q S fuel (listed.setIfInBounds i true) ((d, v) :: L) w) : WH P N ops Q S (fuel + 1) listed L w :=
  wh_take i hi (okAt_of hk).1 (okAt_of hk).2.1 (okAt_of hk).2.2 hS hv hd h
theorem wh_takeGH (i : Nat) {d j g : Nat} {b want : Bool} {op : Op} {ty : TypeId} {pos : String} {aft : Array Edge} {v : Value} (hi : ops[i]? = some ⟨some d, op, ty, pos, aft, some (j, want)⟩)
    (hj : (ops[j]?).bind (·.dst) = some g) (hb : lookT L g = some (.bool b)) (hg : Nat.blt g N = true) (he : b = want) (hv : ∀ w, S w → OpV P op ty L w v w) (hd : Nat.blt d N = true) (hk : okAt ops listed i = true) (hS : S w)
    (h : WH P N ops Q S fuel (listed.setIfInBounds i true) ((d, v) :: L) w) : WH P N ops Q S (fuel + 1) listed L w :=
  wh_takeG i hi (okAt_of hk).1 (okAt_of hk).2.1 (okAt_of hk).2.2 hS hj hb hg he hv hd h
theorem wh_skipGH (i : Nat) {d j g : Nat} {b want : Bool} {op : Op} {ty : TypeId} {pos : String} {aft : Array Edge} (hi : ops[i]? = some ⟨some d, op, ty, pos, aft, some (j, want)⟩)
    (hj : (ops[j]?).bind (·.dst) = some g) (hb : lookT L g = some (.bool b)) (hg : Nat.blt g N = true) (he : b = !want) (hd : Nat.blt d N = true) (hk : okAt ops listed i = true) (hS : S w)
    (h : WH P N ops Q S fuel (listed.setIfInBounds i true) ((d, undef) :: L) w) : WH P N ops Q S (fuel + 1) listed L w :=
  wh_skipG i hi (okAt_of hk).1 (okAt_of hk).2.1 (okAt_of hk).2.2 hS hj hb hg he hd h
theorem wh_skipUH (i : Nat) {d j g : Nat} {want : Bool} {op : Op} {ty : TypeId} {pos : String} {aft : Array Edge} (hi : ops[i]? = some ⟨some d, op, ty, pos, aft, some (j, want)⟩)
    (hj : (ops[j]?).bind (·.dst) = some g) (hb : lookT L g = some undef) (hg : Nat.blt g N = true) (hd : Nat.blt d N = true) (hk : okAt ops listed i = true) (hS : S w)
    (h : WH P N ops Q S fuel (listed.setIfInBounds i true) ((d, undef) :: L) w) : WH P N ops Q S (fuel + 1) listed L w :=
  wh_skipU i hi (okAt_of hk).1 (okAt_of hk).2.1 (okAt_of hk).2.2 hS hj hb hg hd h
/-- One operation alone may come up. -/
theorem wh_one (i : Nat) {o : Oper} (hr : Region.ready .any ops listed = [i]) (hi : ops[i]? = some o)
    (h : WL P N ops (HeldQ P ops Q S fuel (listed.setIfInBounds i true)) [o] L w) : WH P N ops Q S (fuel + 1) listed L w := fun a ha => by
  refine wpAnyH_all hr (by simp) fun i' hi' => ?_
  obtain rfl : i' = i := by simpa using hi'
  have h' := h a ha
  unfold wpOp
  simp only [hi]
  unfold wpList at h'
  split
  · rename_i hw
    rw [if_pos hw] at h'
    rcases h' with h' | ⟨ha, a0, w0, h'⟩
    · exact .inl (upon_mono (fun a w h => h) (fun e a w he h => by cases e <;> first | exact absurd rfl he | exact h) h')
    · exact .inr ⟨ha, a0, w0, h'⟩
  · rename_i hw
    rw [if_neg hw] at h'
    exact h'
theorem we_held (hS : S w) (h : WH P N ops Q S fuel listed L w) : WE N (HeldQ P ops Q S fuel listed) .normal L w := fun a ha => ⟨hS, h a ha⟩
end
end Go.Proofs.Ytpnckagibkdcpaa


/-
  The fixed fact of the laws of texts.
-/
namespace Go.Proofs.Ytpnckagibkdcpaa
open Go.RowKit
/-- True is handed back, and nothing that stood has changed. -/
abbrev RetTr (w : World) (v : Value) (w' : World) : Prop := v = .bool true ∧ Below w.heap.size w w'
theorem rs_fact : (rs [97, 195, 169]).length = 2 := by decide +kernel
theorem fold_fact : foldB [195, 132, 114, 103, 101, 114] = [195, 164, 114, 103, 101, 114] := by decide +kernel
/-- The places at which the runes begin, and the end. -/
def pl (l : List UInt8) : List Nat := places l ++ [l.length]
theorem pl_length (l : List UInt8) : (pl l).length = (rs l).length + 1 := by simp [pl, places_length]
theorem starts_le : ∀ (n : Nat) (l : List UInt8) (p : Nat), l.length ≤ n → ∀ x ∈ starts p (rw l), x ≤ p + l.length
  | 0, l, p, h => by have : l = [] := List.eq_nil_of_length_eq_zero (by omega); subst this; simp [rw_nil, starts]
  | n + 1, l, p, h => by
    by_cases h0 : l = []
    · subst h0; simp [rw_nil, starts]
    · rw [rw_cons h0, starts]
      have hw := dec_width h0
      intro x hx
      rcases List.mem_cons.1 hx with rfl | hx
      · omega
      · have := starts_le n (l.drop (dec l).2) (p + (dec l).2) (by simp; omega) x hx
        simp at this; omega
theorem pl_le {l : List UInt8} {k x : Nat} (h : (pl l)[k]? = some x) : x ≤ l.length := by
  have hm := List.mem_of_getElem? h
  rw [pl, List.mem_append] at hm
  rcases hm with hm | hm
  · have := starts_le _ l 0 (Nat.le_refl _) x hm; omega
  · simp at hm; omega
theorem clipB_at {l : List UInt8} {n : Int} {k x : Nat} (hk : k = min n.toNat (rs l).length) (h : (pl l)[k]? = some x) : clipB l n = l.take x := by
  have hpl := places_length l
  unfold clipB
  by_cases hn : n.toNat < (rs l).length
  · have : k = n.toNat := by omega
    subst this
    rw [pl, List.getElem?_append_left (by omega)] at h
    rw [h]
  · have : k = (rs l).length := by omega
    subst this
    rw [pl, List.getElem?_append_right (by omega), hpl, Nat.sub_self] at h
    simp at h
    subst h
    rw [List.getElem?_eq_none (by omega)]
    simp
end Go.Proofs.Ytpnckagibkdcpaa


/-
  Plain functions on lists of bytes, for layer 1 (codec): bytes with an end are read back; numbers of eight bytes; frames; what stands next. Nothing here names the program or the model.
-/
namespace Go.Proofs.Ytpnckagibkdcpaa

/-- The bytes at the head of a list: acc is what has been read, n how many bytes that took; bytes, count, error. -/
def gotAux : List UInt8 → Nat → List UInt8 → List UInt8 × Nat × Nat
  | _, _, [] => ([], 0, 5)
  | _, _, [_] => ([], 0, 5)
  | acc, n, x :: y :: r =>
    if x = 0 then (if y = 1 then (acc, n + 2, 0) else if y = 255 then gotAux (acc ++ [0]) (n + 2) r else ([], 0, 3))
    else gotAux (acc ++ [x]) (n + 1) (y :: r)
def getOrd (b : List UInt8) (p : Int) : List UInt8 × Int × Nat :=
  if p < 0 ∨ (b.length : Int) < p then ([], 0, 1) else
  match gotAux [] 0 (b.drop p.toNat) with
  | (xs, k, 0) => (xs, p + k, 0)
  | (_, _, e) => ([], 0, e)

theorem got_nil {acc : List UInt8} {n : Nat} : gotAux acc n [] = ([], 0, 5) := by simp [gotAux]
theorem got_plain {acc : List UInt8} {n : Nat} {x : UInt8} {r : List UInt8} (h : ¬ x = 0) : gotAux acc n (x :: r) = gotAux (acc ++ [x]) (n + 1) r := by
  cases r with
  | nil => simp [gotAux]
  | cons y r => rw [gotAux, if_neg h]
theorem got_end {acc : List UInt8} {n : Nat} {x : UInt8} : gotAux acc n [x] = ([], 0, 5) := by simp [gotAux]
theorem got_fin {acc : List UInt8} {n : Nat} {r : List UInt8} : gotAux acc n (0 :: 1 :: r) = (acc, n + 2, 0) := by simp [gotAux]
theorem got_esc {acc : List UInt8} {n : Nat} {r : List UInt8} : gotAux acc n (0 :: 255 :: r) = gotAux (acc ++ [0]) (n + 2) r := by simp [gotAux]
theorem got_bad {acc : List UInt8} {n : Nat} {y : UInt8} {r : List UInt8} (h1 : ¬ y = 1) (h2 : ¬ y = 255) : gotAux acc n (0 :: y :: r) = ([], 0, 3) := by simp [gotAux, h1, h2]
theorem getOrd_arg {b : List UInt8} {p : Int} (h : ¬ (0 ≤ p ∧ p ≤ b.length)) : getOrd b p = ([], 0, 1) := by
  rw [getOrd, if_pos (by omega)]
theorem getOrd_ok {b xs : List UInt8} {q k : Nat} (hq : q ≤ b.length) (h : gotAux [] 0 (b.drop q) = (xs, k, 0)) : getOrd b q = (xs, (q : Int) + k, 0) := by
  rw [getOrd, if_neg (by omega)]
  simp [h]
theorem getOrd_bad {b : List UInt8} {q e : Nat} (hq : q ≤ b.length) (h : gotAux [] 0 (b.drop q) = ([], 0, e + 1)) : getOrd b q = ([], 0, e + 1) := by
  rw [getOrd, if_neg (by omega)]
  simp [h]
theorem esc_cons (x : UInt8) (r : List UInt8) : esc (x :: r) = (if x = 0 then [0, 255] else [x]) ++ esc r := by simp [esc]
theorem got_ord (t : List UInt8) : ∀ (xs acc : List UInt8) (n : Nat), gotAux acc n (esc xs ++ (0 :: 1 :: t)) = (acc ++ xs, n + (esc xs).length + 2, 0)
  | [], acc, n => by simp [esc, gotAux]
  | x :: xs, acc, n => by
    rw [esc_cons]
    by_cases h : x = 0
    · subst h
      simp only [if_true, List.cons_append, List.nil_append]
      rw [got_esc, got_ord t xs]
      simp; omega
    · simp only [if_neg h, List.cons_append, List.nil_append]
      rw [got_plain h, got_ord t xs]
      simp; omega
theorem getOrd_ordText (xs : List UInt8) : getOrd (ordText xs) 0 = (xs, ((ordText xs).length : Int), 0) := by
  have h := got_ord [] xs [] 0
  have e : gotAux [] 0 ((ordText xs).drop 0) = (xs, (ordText xs).length, 0) := by
    rw [List.drop_zero]; unfold ordText; rw [h]; simp
  have := getOrd_ok (b := ordText xs) (q := 0) (by omega) e
  simpa using this
theorem got_length : ∀ (f : Nat) (l acc : List UInt8) (n : Nat) (xs : List UInt8) (k e : Nat), l.length ≤ f → gotAux acc n l = (xs, k, e) → xs.length ≤ acc.length + l.length
  | f, [], acc, n, xs, k, e, _, h => by rw [got_nil] at h; injection h with h _; subst h; simp
  | 0, _ :: _, _, _, _, _, _, hf, _ => by simp at hf
  | f + 1, [x], acc, n, xs, k, e, _, h => by rw [got_end] at h; injection h with h _; subst h; simp
  | f + 1, x :: y :: r, acc, n, xs, k, e, hf, h => by
    simp only [List.length_cons] at hf
    by_cases h0 : x = 0
    · subst h0
      by_cases h1 : y = 1
      · subst h1; rw [got_fin] at h; injection h with h _; subst h; simp
      · by_cases h2 : y = 255
        · subst h2; rw [got_esc] at h
          have := got_length f r _ _ _ _ _ (by omega) h
          simp at this ⊢; omega
        · rw [got_bad h1 h2] at h; injection h with h _; subst h; simp
    · rw [got_plain h0] at h
      have := got_length f (y :: r) _ _ _ _ _ (by simp; omega) h
      simp at this ⊢; omega
theorem getOrd_length {b xs : List UInt8} {p x : Int} {e : Nat} (h : getOrd b p = (xs, x, e)) : xs.length ≤ b.length := by
  rw [getOrd] at h
  split at h
  · injection h with h _; subst h; simp
  · cases hg : gotAux [] 0 (b.drop p.toNat) with
    | mk ys ke =>
      obtain ⟨k, e'⟩ := ke
      rw [hg] at h
      have := got_length _ _ _ _ _ _ _ (Nat.le_refl _) hg
      rw [List.length_drop] at this
      cases e' with
      | zero => simp only [Prod.mk.injEq] at h; obtain ⟨rfl, _⟩ := h; simp at this; omega
      | succ _ => simp only [Prod.mk.injEq] at h; obtain ⟨rfl, _⟩ := h; simp

/-! ### What stands next -/
def nextB (p : List UInt8) : List UInt8 :=
  match p.reverse.dropWhile (· == 255) with
  | [] => []
  | x :: r => r.reverse ++ [x + 1]
theorem dropWhile_all : ∀ (l r : List UInt8), (∀ y ∈ l, y = 255) → (l ++ r).dropWhile (· == 255) = r.dropWhile (· == 255)
  | [], r, _ => rfl
  | x :: l, r, h => by
    have hx := h x (List.mem_cons_self ..)
    subst hx
    rw [List.cons_append, List.dropWhile_cons_of_pos (by rfl)]
    exact dropWhile_all l r fun y hy => h y (List.mem_cons_of_mem _ hy)
theorem next_none {p : List UInt8} (h : ∀ y ∈ p, y = 255) : nextB p = [] := by
  have := dropWhile_all p.reverse [] (fun y hy => h y (List.mem_reverse.1 hy))
  rw [List.append_nil] at this
  unfold nextB; rw [this]; rfl
theorem next_some {p : List UInt8} {k : Nat} {x : UInt8} (hx : p[k]? = some x) (hne : ¬ x = 255) (h : ∀ y ∈ p.drop (k + 1), y = 255) : nextB p = p.take k ++ [x + 1] := by
  have e : p = p.take k ++ x :: p.drop (k + 1) := by rw [← drop_get hx, List.take_append_drop]
  have e2 : p.reverse = (p.drop (k + 1)).reverse ++ (x :: (p.take k).reverse) := by
    rw [show p.reverse = (p.take k ++ x :: p.drop (k + 1)).reverse by rw [← e]]; simp
  have e3 := dropWhile_all (p.drop (k + 1)).reverse (x :: (p.take k).reverse) (fun y hy => h y (List.mem_reverse.1 hy))
  rw [List.dropWhile_cons_of_neg (by simpa using hne)] at e3
  unfold nextB; rw [e2, e3]; simp
/-- Its form: what stands ahead of the last byte that isn't 255, and that byte raised. -/
theorem next_form (p : List UInt8) : (∀ y ∈ p, y = 255) ∧ nextB p = [] ∨ ∃ t x r, p = t ++ x :: r ∧ ¬ x = 255 ∧ (∀ y ∈ r, y = 255) ∧ nextB p = t ++ [x + 1] := by
  induction p with
  | nil => exact .inl ⟨by simp, rfl⟩
  | cons a p ih =>
    rcases ih with ⟨h, _⟩ | ⟨t, x, r, rfl, hx, hr, _⟩
    · by_cases ha : a = 255
      · have hall : ∀ y ∈ a :: p, y = 255 := by
          intro y hy
          rcases List.mem_cons.1 hy with rfl | hy
          · exact ha
          · exact h y hy
        exact .inl ⟨hall, next_none hall⟩
      · exact .inr ⟨[], a, p, rfl, ha, h, next_some (k := 0) rfl ha (by simpa using h)⟩
    · refine .inr ⟨a :: t, x, r, rfl, hx, hr, ?_⟩
      have := next_some (p := a :: (t ++ x :: r)) (k := t.length + 1) (x := x) (by simp) hx (by simpa using hr)
      rw [this]; simp
theorem lt_succ {x : UInt8} (h : ¬ x = 255) : x < x + 1 := by
  have h1 : x.toNat ≠ 255 := fun e => h (UInt8.toNat_inj.1 e)
  have h2 := x.toNat_lt
  rw [UInt8.lt_iff_toNat_lt, UInt8.toNat_add]
  simp; omega
theorem cmp_pre : ∀ (t a b : List UInt8), cmpB (t ++ a) (t ++ b) = cmpB a b
  | [], _, _ => rfl
  | x :: t, a, b => by rw [List.cons_append, List.cons_append, cmp_same, cmp_pre t]
theorem cmp_next {p tail : List UInt8} (h : nextB p ≠ []) : cmpB (p ++ tail) (nextB p) = -1 := by
  rcases next_form p with ⟨_, h'⟩ | ⟨t, x, r, rfl, hx, hr, hn⟩
  · exact absurd h' h
  · rw [hn, List.append_assoc, cmp_pre, List.cons_append, cmp_lt (lt_succ hx)]
theorem begins_of : ∀ (r o : List UInt8), (∀ y ∈ r, y = 255) → 0 ≤ cmpB o r → o.take r.length = r ∧ r.length ≤ o.length
  | [], o, _, _ => by simp
  | x :: r, [], _, h => by simp [cmpB] at h
  | x :: r, z :: o, hr, h => by
    have hx := hr x (List.mem_cons_self ..)
    subst hx
    by_cases hz : z = 255
    · subst hz
      rw [cmp_same] at h
      have := begins_of r o (fun y hy => hr y (List.mem_cons_of_mem _ hy)) h
      simp [this.1, this.2]
    · have : z < 255 := by
        have h1 : z.toNat ≠ 255 := fun e => hz (UInt8.toNat_inj.1 e)
        have h2 := z.toNat_lt
        rw [UInt8.lt_iff_toNat_lt]; simp; omega
      rw [cmp_lt this] at h; omega
theorem cmp_between : ∀ (t o r : List UInt8) (x : UInt8), ¬ x = 255 → (∀ y ∈ r, y = 255) → 0 ≤ cmpB o (t ++ x :: r) → ¬ (o.take (t ++ x :: r).length = t ++ x :: r ∧ (t ++ x :: r).length ≤ o.length) → 0 ≤ cmpB o (t ++ [x + 1])
  | t, [], r, x, _, _, h, _ => by cases t <;> simp [cmpB] at h
  | [], z :: o, r, x, hx, hr, h, hb => by
    simp only [List.nil_append] at h hb ⊢
    by_cases h1 : z < x
    · rw [cmp_lt h1] at h; omega
    · by_cases h2 : x < z
      · by_cases h3 : x + 1 < z
        · rw [cmp_gt h3]; omega
        · have : z = x + 1 := by
            have h4 : x.toNat ≠ 255 := fun e => hx (UInt8.toNat_inj.1 e)
            have h5 := x.toNat_lt
            have e : (x + 1).toNat = x.toNat + 1 := by rw [UInt8.toNat_add]; simp; omega
            rw [UInt8.lt_iff_toNat_lt] at h2 h3
            exact UInt8.toNat_inj.1 (by omega)
          subst this
          rw [cmp_same]
          cases o <;> simp [cmpB]
      · obtain rfl : z = x := by
          rw [UInt8.lt_iff_toNat_lt] at h1 h2
          exact UInt8.toNat_inj.1 (by omega)
        rw [cmp_same] at h
        have := begins_of r o hr h
        exact absurd (by simp [this.1, this.2]) hb
  | c :: t, z :: o, r, x, hx, hr, h, hb => by
    simp only [List.cons_append] at h hb ⊢
    by_cases h1 : z < c
    · rw [cmp_lt h1] at h; omega
    · by_cases h2 : c < z
      · rw [cmp_gt h2]; omega
      · obtain rfl : z = c := by
          rw [UInt8.lt_iff_toNat_lt] at h1 h2
          exact UInt8.toNat_inj.1 (by omega)
        rw [cmp_same] at h ⊢
        exact cmp_between t o r x hx hr h (fun hh => hb (by simpa using hh))
end Go.Proofs.Ytpnckagibkdcpaa


/-
  Plain laws of lists: tuples of written lists, frames, numbers of eight bytes. No program in sight.
-/
namespace Go.Proofs.Ytpnckagibkdcpaa

/-! ### Tuples -/
/-- Lists of lists are compared list by list, then by how many they are. -/
def cmpT : List (List UInt8) → List (List UInt8) → Int
  | [], [] => 0
  | [], _ :: _ => -1
  | _ :: _, [] => 1
  | x :: a, y :: b => if cmpB x y = 0 then cmpT a b else cmpB x y
def ords (l : List (List UInt8)) : List UInt8 := l.flatMap ordText

theorem cmp_refl : ∀ (a : List UInt8), cmpB a a = 0
  | [] => by simp [cmpB]
  | x :: r => by rw [cmp_same]; exact cmp_refl r
theorem cmp_zero : ∀ {a b : List UInt8}, cmpB a b = 0 → a = b
  | [], [], _ => rfl
  | [], _ :: _, h => by simp [cmpB] at h
  | _ :: _, [], h => by simp [cmpB] at h
  | x :: a, y :: b, h => by
    by_cases h1 : x < y
    · rw [cmp_lt h1] at h; omega
    · by_cases h2 : y < x
      · rw [cmp_gt h2] at h; omega
      · have e : x = y := UInt8.le_antisymm (UInt8.not_lt.1 h2) (UInt8.not_lt.1 h1)
        subst e
        rw [cmp_same] at h
        rw [cmp_zero h]
theorem cmp_neg : ∀ (a b : List UInt8), cmpB b a = - cmpB a b
  | [], [] => by simp [cmpB]
  | [], _ :: _ => by simp [cmpB]
  | _ :: _, [] => by simp [cmpB]
  | x :: a, y :: b => by
    by_cases h1 : x < y
    · rw [cmp_lt h1, cmp_gt h1]; rfl
    · by_cases h2 : y < x
      · rw [cmp_gt h2, cmp_lt h2]
      · have e : x = y := UInt8.le_antisymm (UInt8.not_lt.1 h2) (UInt8.not_lt.1 h1)
        subst e
        rw [cmp_same, cmp_same]; exact cmp_neg a b
theorem cmp_range (a b : List UInt8) : cmpB a b = -1 ∨ cmpB a b = 0 ∨ cmpB a b = 1 := by
  induction a generalizing b with
  | nil => cases b <;> simp [cmpB]
  | cons x a ih =>
    cases b with
    | nil => simp [cmpB]
    | cons y b =>
      by_cases h1 : x < y
      · rw [cmp_lt h1]; simp
      · by_cases h2 : y < x
        · rw [cmp_gt h2]; simp
        · have e : x = y := UInt8.le_antisymm (UInt8.not_lt.1 h2) (UInt8.not_lt.1 h1)
          subst e
          rw [cmp_same]; exact ih b
theorem ne_zero_pos {x : UInt8} (h : ¬ x = 0) : (0 : UInt8) < x := by
  rw [UInt8.lt_iff_toNat_lt]
  have : x.toNat ≠ 0 := fun e => h (UInt8.toNat_inj.1 (by simpa using e))
  simp; omega
theorem ordText_cons (x : UInt8) (r : List UInt8) : ordText (x :: r) = (if x = 0 then [0, 255] else [x]) ++ ordText r := by simp [ordText, esc_cons]
/-- Written lists, and whatever stands behind them, stand in the lists' order. -/
theorem cmp_ord (s t : List UInt8) : ∀ (a b : List UInt8), ¬ cmpB a b = 0 → cmpB (ordText a ++ s) (ordText b ++ t) = cmpB a b
  | [], [], h => absurd (by simp [cmpB]) h
  | [], y :: b, _ => by
    by_cases h : y = 0
    · subst h
      simp only [ordText_cons, if_true]
      have e : cmpB ([] : List UInt8) (0 :: b) = -1 := by simp [cmpB]
      rw [e]
      simp only [ordText, esc, List.flatMap_nil, List.nil_append, List.cons_append]
      rw [cmp_same, cmp_lt (by decide)]
    · have e : cmpB ([] : List UInt8) (y :: b) = -1 := by simp [cmpB]
      rw [e]
      simp only [ordText_cons, if_neg h]
      simp only [ordText, esc, List.flatMap_nil, List.nil_append, List.cons_append]
      rw [cmp_lt (ne_zero_pos h)]
  | x :: a, [], _ => by
    by_cases h : x = 0
    · subst h
      simp only [ordText_cons, if_true]
      have e : cmpB (0 :: a) ([] : List UInt8) = 1 := by simp [cmpB]
      rw [e]
      simp only [ordText, esc, List.flatMap_nil, List.nil_append, List.cons_append]
      rw [cmp_same, cmp_gt (by decide)]
    · have e : cmpB (x :: a) ([] : List UInt8) = 1 := by simp [cmpB]
      rw [e]
      simp only [ordText_cons, if_neg h]
      simp only [ordText, esc, List.flatMap_nil, List.nil_append, List.cons_append]
      rw [cmp_gt (ne_zero_pos h)]
  | x :: a, y :: b, h => by
    by_cases hxy : x = y
    · subst hxy
      rw [cmp_same] at h ⊢
      have ih := cmp_ord s t a b h
      by_cases h0 : x = 0
      · simp only [ordText_cons, if_pos h0, List.cons_append, List.nil_append]
        rw [cmp_same, cmp_same, ih]
      · simp only [ordText_cons, if_neg h0, List.cons_append, List.nil_append]
        rw [cmp_same, ih]
    · by_cases h1 : x < y
      · rw [cmp_lt h1]
        by_cases h0 : x = 0
        · have hy : ¬ y = 0 := fun e => hxy (by rw [h0, e])
          simp only [ordText_cons, if_pos h0, if_neg hy, List.cons_append, List.nil_append]
          rw [cmp_lt (ne_zero_pos hy)]
        · have hy : ¬ y = 0 := by
            rintro rfl
            rw [UInt8.lt_iff_toNat_lt] at h1; simp at h1
          simp only [ordText_cons, if_neg h0, if_neg hy, List.cons_append, List.nil_append]
          rw [cmp_lt h1]
      · have h2 : y < x := by
          rcases UInt8.lt_or_lt_of_ne hxy with h | h
          · exact absurd h h1
          · exact h
        rw [cmp_gt h2]
        by_cases h0 : y = 0
        · have hx : ¬ x = 0 := fun e => hxy (by rw [h0, e])
          simp only [ordText_cons, if_pos h0, if_neg hx, List.cons_append, List.nil_append]
          rw [cmp_gt (ne_zero_pos hx)]
        · have hx : ¬ x = 0 := by
            rintro rfl
            rw [UInt8.lt_iff_toNat_lt] at h2; simp at h2
          simp only [ordText_cons, if_neg h0, if_neg hx, List.cons_append, List.nil_append]
          rw [cmp_gt h2]
theorem ordText_pos (x : List UInt8) : 0 < (ordText x).length := by simp [ordText]
theorem cmp_ords : ∀ (a b : List (List UInt8)), cmpB (ords a) (ords b) = cmpT a b
  | [], [] => by simp [ords, cmpB, cmpT]
  | [], y :: b => by
    have := ordText_pos y
    simp only [cmpT]
    exact cmp_short (by simp [ords]) (by simp [ords]; omega)
  | x :: a, [] => by
    have := ordText_pos x
    simp only [cmpT]
    exact cmp_long (by simp [ords]; omega) (by simp [ords])
  | x :: a, y :: b => by
    simp only [cmpT, ords, List.flatMap_cons]
    by_cases h : cmpB x y = 0
    · rw [if_pos h, cmp_zero h, cmp_pre]; exact cmp_ords a b
    · rw [if_neg h, cmp_ord _ _ x y h]
/-- What a loop over both has found so far. -/
theorem cmpT_drop {a b : List (List UInt8)} {k : Nat} {x y : List UInt8} (hx : a[k]? = some x) (hy : b[k]? = some y) : cmpT (a.drop k) (b.drop k) = if cmpB x y = 0 then cmpT (a.drop (k + 1)) (b.drop (k + 1)) else cmpB x y := by
  obtain ⟨h1, e1⟩ := List.getElem?_eq_some_iff.1 hx
  obtain ⟨h2, e2⟩ := List.getElem?_eq_some_iff.1 hy
  rw [List.drop_eq_getElem_cons h1, List.drop_eq_getElem_cons h2, e1, e2]
  rfl
theorem cmpT_end {a b : List (List UInt8)} {k : Nat} (h : ¬ (k < a.length ∧ k < b.length)) : k ≤ a.length → k ≤ b.length → cmpT (a.drop k) (b.drop k) = if a.length < b.length then -1 else if b.length < a.length then 1 else 0 := by
  intro h1 h2
  rcases Nat.lt_trichotomy a.length b.length with hl | hl | hl
  · rw [if_pos hl]
    have : k = a.length := by omega
    subst this
    rw [List.drop_length, List.drop_eq_getElem_cons hl]; rfl
  · have : k = a.length := by omega
    subst this
    rw [List.drop_length, hl, List.drop_length]; simp [cmpT]
  · rw [if_neg (by omega), if_pos hl]
    have : k = b.length := by omega
    subst this
    rw [List.drop_length, List.drop_eq_getElem_cons hl]; rfl
theorem take_getR {α : Type} {l : List α} {k : Nat} {b : α} (h : l[k]? = some b) : l.take (k + 1) = l.take k ++ [b] := by
  rw [List.take_add_one, h]; rfl
theorem ords_take {l : List (List UInt8)} {k : Nat} {x : List UInt8} (h : l[k]? = some x) : ords (l.take (k + 1)) = ords (l.take k) ++ ordText x := by
  rw [take_getR h]; simp [ords]
theorem ords_length : ∀ (l : List (List UInt8)), (ords l).length ≤ 2 * l.flatten.length + 2 * l.length
  | [] => by simp [ords]
  | x :: l => by
    have h1 := ords_length l
    have h2 := esc_length x
    simp only [ords, List.flatMap_cons, List.length_append, List.flatten_cons, List.length_cons, ordText, List.length_nil] at h1 ⊢
    omega
theorem ords_take_le (l : List (List UInt8)) (k : Nat) : (ords (l.take k)).length ≤ (ords l).length := by
  have : ords l = ords (l.take k) ++ ords (l.drop k) := by
    rw [ords, ords, ords, ← List.flatMap_append, List.take_append_drop]
  rw [this, List.length_append]; omega
theorem flat_mem : ∀ {l : List (List UInt8)} {k : Nat} {x : List UInt8}, l[k]? = some x → x.length ≤ l.flatten.length
  | [], _, _, h => by simp at h
  | y :: l, 0, x, h => by
    simp only [List.getElem?_cons_zero, Option.some.injEq] at h
    subst h
    rw [List.flatten_cons, List.length_append]; omega
  | y :: l, k + 1, x, h => by
    simp only [List.getElem?_cons_succ] at h
    have := flat_mem h
    rw [List.flatten_cons, List.length_append]; omega
end Go.Proofs.Ytpnckagibkdcpaa


/-
  Walks over OrdText of the program and of the reference.
-/
namespace Go.Proofs.Ytpnckagibkdcpaa
open Go.RowKit

theorem ordText_any {A : Option Addr} {n c : Nat} {xs : List UInt8} {w : World} (hr : RdB w A xs) (hn : xs.length = n) (hl : xs.length ≤ 1099511627776) : CallsV Try.prog 15 #[.slice A n c] w (RetB w (ordText xs)) := by
  subst hn
  refine calls_in (N := _) Try.func15 rfl Try.ntmps15 rfl ?_; show WC _ _ _ _ _ _
  refine wc_sr ?_; refine wl_as rfl rfl ?_; refine wl_ns ?_; refine wc_sr ?_; refine wl_mv rfl rfl ?_; apply wl_val; apply opv_len; exact rfl; exact tyB.sl; exact rfl; apply wl_val; apply opv_bin; exact rfl; exact rfl; exact bin_add64 (by omega); exact rfl
  refine wl_mk (n := 0) (c := xs.length + 2) tyB rfl rfl rfl (by simp) (by omega) (by omega) (by simp only [maxLen]; omega) rfl fun A1 w1 ho1 hb1 _ => ?_
  refine wl_as rfl rfl ?_; refine wl_ns ?_; refine wc_seq ?_; refine wc_sr ?_; refine wl_mv rfl rfl ?_; apply wl_val; apply opv_len; exact rfl; exact tyB.sl; exact rfl; refine wl_mv rfl rfl ?_; refine wl_ns ?_; refine wc_block ?_
  refine wc_loop (fun L wr m => ∃ (k : Nat) (A' : Option Addr) (c' : Nat), L = [(10, .slice A xs.length c), (11, .int .i64 (xs.length : Int)), (12, .int .i64 (k : Int)), (3, .slice A' (esc (xs.take k)).length c')] ∧ k ≤ xs.length ∧ OwB wr w.heap.size A' c' (esc (xs.take k)) ∧ Below w.heap.size w wr ∧ m = xs.length - k)
    [(10, .slice A xs.length c), (11, .int .i64 (xs.length : Int)), (12, .int .i64 (0 : Nat)), (3, .slice A1 0 (xs.length + 2))] xs.length ⟨0, A1, _, rfl, by omega, ho1, hb1, rfl⟩ ⟨rfl, rfl, rfl, rfl, trivial⟩ ?_
  rintro _ wr m ⟨k, A', c', rfl, hk, ho, hb, rfl⟩
  have hsz := hb.size
  have hrx := RdB.below hr hb
  have hel := esc_length (xs.take k)
  rw [List.length_take] at hel
  refine wc_sr ?_; refine wl_bin rfl rfl bin_lss rfl ?_; refine wl_ns ?_; refine wc_seq ?_
  refine wc_cond rfl (fun h1 => ?_) (fun h1 => ?_)
  · obtain ⟨x, hx⟩ : ∃ x, xs[k]? = some x := ⟨_, List.getElem?_eq_getElem (by omega)⟩
    have ht := esc_take hx
    refine wc_skip ?_; refine we_seq ?_; refine wc_seq ?_; refine wc_block ?_; refine wc_sr ?_; apply wl_byK (T := tyB) (hr := hrx) (hb := hx); exact rfl; exact rfl; exact rfl; exact rfl; exact rfl; intro _; refine wl_as rfl rfl ?_; refine wl_ns ?_; refine wc_sr ?_; refine wl_mv rfl rfl ?_; refine wl_mv rfl rfl ?_
    refine wl_push (vs := [_]) tyB rfl ho ⟨rfl, rfl, rfl, trivial⟩ rfl (by decide) rfl (by omega) (by simp only [maxLen]; omega) hsz rfl rfl fun p2 A2 c2 w2 ho2 hg2 hat2 => ?_
    have hb2 := hg2.below hb ho (Nat.le_refl _) hsz
    have hsz2 := hb2.size
    refine wl_as rfl rfl ?_; refine wl_ns ?_; refine wc_sr ?_; refine wl_mv rfl rfl ?_; refine wl_bin rfl rfl bin_eql rfl ?_; refine wl_ns ?_
    refine wc_cond rfl (fun h2 => ?_) (fun h2 => ?_)
    · have h0 := toNat_zero.1 h2
      rw [if_pos h0] at ht
      refine wc_region ?_; refine wl_mv rfl rfl ?_
      refine wl_push (vs := [_]) tyB rfl ho2 ⟨rfl, rfl, rfl, trivial⟩ rfl (by decide) rfl (by omega) (by simp only [maxLen]; omega) hsz2 rfl rfl fun p3 A3 c3 w3 ho3 hg3 hat3 => ?_
      have hb3 := hg3.below hb2 ho2 (Nat.le_refl _) hsz2
      refine wl_as rfl rfl ?_; refine wl_nil ?_; refine we_block_norm ?_; refine we_seq ?_; refine wc_region ?_; apply wl_val; apply opv_bin; exact rfl; exact rfl; exact bin_add64 (by omega); exact rfl; refine wl_mv rfl rfl ?_; refine wl_nil ?_
      refine we_loop [(10, .slice A xs.length c), (11, .int .i64 (xs.length : Int)), (12, .int .i64 ((k + 1 : Nat) : Int)), (3, .slice A3 (esc (xs.take (k + 1))).length c3)] (xs.length - (k + 1)) ⟨k + 1, A3, c3, rfl, by omega, ?_, hb3, rfl⟩ (by omega) ⟨rfl, rfl, rfl, ?_, trivial⟩
      · rw [ht, show esc (xs.take k) ++ [0, 255] = (esc (xs.take k) ++ [0]) ++ [255] by simp]
        have h4 : Ow w2 w.heap.size 5 A2 (esc (xs.take k) ++ [0]).length c2 (bvs (esc (xs.take k) ++ [0])) := OwB.snoc ho2 (by rw [h0]; rfl)
        refine OwB.snoc (v := .int .u8 255) ?_ rfl
        rw [bvs_append, List.length_append]
        rw [h0] at ho3
        simpa [bvs, bv] using ho3
      · rw [ht]; simp; rfl
    · have h0 : ¬ x = 0 := fun e => h2 (toNat_zero.2 e)
      rw [if_neg h0] at ht
      refine wc_skip ?_; refine we_block_norm ?_; refine we_seq ?_; refine wc_region ?_; apply wl_val; apply opv_bin; exact rfl; exact rfl; exact bin_add64 (by omega); exact rfl; refine wl_mv rfl rfl ?_; refine wl_nil ?_
      refine we_loop [(10, .slice A xs.length c), (11, .int .i64 (xs.length : Int)), (12, .int .i64 ((k + 1 : Nat) : Int)), (3, .slice A2 (esc (xs.take (k + 1))).length c2)] (xs.length - (k + 1)) ⟨k + 1, A2, c2, rfl, by omega, ?_, hb2, rfl⟩ (by omega) ⟨rfl, rfl, rfl, ?_, trivial⟩
      · rw [ht]; exact OwB.snoc ho2 rfl
      · rw [ht]; simp; rfl
  · have hke : k = xs.length := by omega
    subst hke
    rw [List.take_length] at ho hel ⊢
    rw [Nat.min_self] at hel
    refine wc_exit ?_; refine we_seq_exit ?_; refine we_loop_exit ?_; refine we_block_exit ?_; refine we_seq ?_; refine wc_sr ?_; refine wl_mv rfl rfl ?_
    refine wl_push (vs := [_, _]) tyB rfl ho ⟨rfl, rfl, rfl, rfl, rfl, rfl, trivial⟩ rfl (by decide) rfl (by omega) (by simp only [maxLen]; omega) hsz rfl rfl fun p2 A2 c2 w2 ho2 hg2 hat2 => ?_
    refine wl_as rfl rfl ?_; refine wl_ns ?_; refine wc_ret ?_
    refine we_ret1 rfl rfl ⟨_, rfl, A2, c2, ?_, OwB.snoc2 ho2 rfl rfl, hg2.below hb ho (Nat.le_refl _) hsz⟩
    simp [ordText]

end Go.Proofs.Ytpnckagibkdcpaa


/-
  Walks over PutU of the program and of the reference, inside, and GetU of both.
-/
namespace Go.Proofs.Ytpnckagibkdcpaa
open Go.RowKit

def PutI (w : World) (n : Nat) (s : Nat) : FL → World → Nat → Prop := fun L wr m =>
  ∃ (pre : List UInt8) (A : Option Addr) (c : Nat), L = [(0, .int .u64 m), (s, .slice A pre.length c)] ∧ OwB wr w.heap.size A c pre ∧ putU n = pre ++ putU m ∧ Below w.heap.size w wr ∧ m < 2 ^ (64 - 7 * pre.length) ∧ 7 * pre.length ≤ 63
theorem PutI.start {w : World} {n s : Nat} (hn : n < 2 ^ 64) : PutI w n s [(0, .int .u64 n), (s, .slice none 0 0)] w n :=
  ⟨[], none, 0, rfl, Ow.nil _ _ _, rfl, Below.refl _ _, hn, by decide⟩
theorem PutI.next {w wr w' : World} {n m s : Nat} {pre : List UInt8} {A A' : Option Addr} {c c' : Nat} {v : Value} (hown : OwB wr w.heap.size A c pre) (heq : putU n = pre ++ putU m) (hbel : Below w.heap.size w wr) (hm : m < 2 ^ (64 - 7 * pre.length)) (hl : 7 * pre.length ≤ 63)
    (h : 128 ≤ m) (ho : Ow w' w.heap.size 5 A' (pre.length + 1) c' (bvs pre ++ [v])) (hg : Gr wr w' A) (hv : bv (UInt8.ofNat (m % 128 + 128)) = v) :
    PutI w n s [(0, .int .u64 (m / 128 : Nat)), (s, .slice A' (pre.length + 1) c')] w' (m / 128) := by
  have h7 : 8 ≤ 64 - 7 * pre.length := by
    rcases Nat.lt_or_ge 7 (64 - 7 * pre.length) with h' | h'
    · exact h'
    · have := Nat.lt_of_lt_of_le hm (Nat.pow_le_pow_right (by decide) h'); omega
  refine ⟨pre ++ [UInt8.ofNat (m % 128 + 128)], A', c', by simp, OwB.snoc ho hv, ?_, hg.below hbel hown (Nat.le_refl _) hbel.size, ?_, ?_⟩
  · rw [heq, putU, if_neg (by omega)]; simp
  · refine Nat.div_lt_of_lt_mul ?_
    rw [show 128 = 2 ^ 7 from rfl, ← Nat.pow_add]
    simp only [List.length_append, List.length_cons, List.length_nil]
    rw [show 7 + (64 - 7 * (pre.length + (0 + 1))) = 64 - 7 * pre.length by omega]
    exact hm
  · simp; omega
theorem PutI.last {w wr w' : World} {n m : Nat} {pre : List UInt8} {A A' : Option Addr} {c c' : Nat} {v : Value} (hown : OwB wr w.heap.size A c pre) (heq : putU n = pre ++ putU m) (hbel : Below w.heap.size w wr)
    (h : m < 128) (ho : Ow w' w.heap.size 5 A' (pre.length + 1) c' (bvs pre ++ [v])) (hg : Gr wr w' A) (hv : bv (UInt8.ofNat m) = v) :
    RetB w (putU n) (.slice A' (pre.length + 1) c') w' := by
  have e : putU n = pre ++ [UInt8.ofNat m] := by rw [heq, putU, if_pos h]
  rw [e]
  exact ⟨A', c', by simp, OwB.snoc ho hv, hg.below hbel hown (Nat.le_refl _) hbel.size⟩

theorem inside_any {A : Option Addr} {n c : Nat} (p : Int) (w : World) : CallsV Try.prog 44 #[.slice A n c, .int .i64 p] w fun v w' => v = .bool (decide (0 ≤ p ∧ p ≤ n)) ∧ w = w' := by
  refine calls_in (N := _) Try.func44 rfl Try.ntmps44 rfl ?_; show WC _ _ _ _ _ _
  refine wc_sr ?_; refine wl_as rfl rfl ?_; refine wl_ns ?_; refine wc_sr ?_; refine wl_mv rfl rfl ?_; refine wl_bin rfl rfl bin_geq rfl ?_; refine wl_mv rfl rfl ?_
  refine wl_cutV 5 12 (.bool (decide ((0 ≤ p) ∧ (p ≤ n)))) ?c1 ?_; (case c1 => (dsimp only [List.take]; by_cases hc0 : (0 ≤ p); (focus (apply wl_take; exact rfl; exact rfl; exact rfl; refine bT ?_; (with_reducible assumption); refine wl_mv rfl rfl ?_; apply wl_take; exact rfl; exact rfl; exact rfl; refine bT ?_; (with_reducible assumption); refine wl_mv rfl rfl ?_; apply wl_take; exact rfl; exact rfl; exact rfl; refine bT ?_; (with_reducible assumption); apply wl_val; apply opv_len; exact rfl; exact tyB.sl; exact rfl; apply wl_take; exact rfl; exact rfl; exact rfl; refine bT ?_; (with_reducible assumption); refine wl_bin rfl rfl bin_leq rfl ?_; apply wl_val; apply opv_pickT; exact rfl; refine bT ?_; (with_reducible assumption); exact rfl; exact rfl; refine wl_nil ?_; refine we_cut _ ⟨rfl, rfl⟩ ⟨congrArg (fun b => some (Value.bool b)) ?e1_0, ?s1_0⟩; (case e1_0 => ((simp [hc0]; done))); (case s1_0 => (refine And.intro rfl ?_; refine And.intro rfl ?_; refine And.intro rfl ?_; refine And.intro rfl ?_; refine And.intro rfl ?_; refine And.intro rfl ?_; exact True.intro)))); (focus (apply wl_skip; exact rfl; exact rfl; exact rfl; refine bFn ?_; (with_reducible assumption); exact rfl; apply wl_skip; exact rfl; exact rfl; exact rfl; refine bFn ?_; (with_reducible assumption); exact rfl; apply wl_skip; exact rfl; exact rfl; exact rfl; refine bFn ?_; (with_reducible assumption); exact rfl; apply wl_skip; exact rfl; exact rfl; exact rfl; refine bFn ?_; (with_reducible assumption); exact rfl; apply wl_val; apply opv_pickF; exact rfl; refine bF ?_; (with_reducible assumption); exact rfl; exact rfl; refine wl_nil ?_; refine we_cut _ ⟨rfl, rfl⟩ ⟨congrArg (fun b => some (Value.bool b)) ?e1_1, ?s1_1⟩; (case e1_1 => ((simp [hc0]; done))); (case s1_1 => (refine And.intro rfl ?_; refine And.intro rfl ?_; refine And.intro rfl ?_; refine And.intro rfl ?_; refine And.intro rfl ?_; refine And.intro rfl ?_; exact True.intro)))))); dsimp only [List.drop]
  refine wl_as rfl rfl ?_; refine wl_ns ?_; refine wc_ret ?_
  exact we_ret1 rfl rfl ⟨_, rfl, rfl, rfl⟩
/-- A number, a place and an error are handed back. -/
def RetN (w : World) (r : Nat × Int × Nat) (v : Value) (w' : World) : Prop := v = .tuple #[.int .u64 (r.1 : Int), .int .i64 r.2.1, .int .i64 (r.2.2 : Int)] ∧ Below w.heap.size w w'

end Go.Proofs.Ytpnckagibkdcpaa


/-
  Walks over GetOrdText of the program and of the reference.
-/
namespace Go.Proofs.Ytpnckagibkdcpaa
open Go.RowKit

/-- New bytes, a place and an error are handed back. -/
def RetG (w : World) (r : List UInt8 × Int × Nat) (v : Value) (w' : World) : Prop :=
  ∃ A c, v = .tuple #[.slice A r.1.length c, .int .i64 r.2.1, .int .i64 (r.2.2 : Int)] ∧ OwB w' w.heap.size A c r.1 ∧ Below w.heap.size w w'
theorem RetG.err {w w' : World} {r : List UInt8 × Int × Nat} {e : Nat} (h : r = ([], 0, e)) (hb : Below w.heap.size w w') : RetG w r (.tuple #[.slice none 0 0, .int .i64 0, .int .i64 (e : Int)]) w' := by
  subst h; exact ⟨none, 0, rfl, Ow.nil _ _ _, hb⟩

def GotI (w : World) (xs : List UInt8) (A : Option Addr) (c q : Nat) : FL → World → Nat → Prop := fun L wr m =>
  ∃ (n : Nat) (acc : List UInt8) (A' : Option Addr) (c' : Nat), L = [(0, .slice A xs.length c), (7, .slice A' acc.length c'), (8, .int .i64 ((q + n : Nat) : Int))] ∧ q + n ≤ xs.length ∧ acc.length ≤ n ∧
    gotAux [] 0 (xs.drop q) = gotAux acc n (xs.drop (q + n)) ∧ OwB wr w.heap.size A' c' acc ∧ Below w.heap.size w wr ∧ m = xs.length - (q + n)

theorem getOrd_any {A : Option Addr} {n c : Nat} {xs : List UInt8} {p : Int} {w : World} (hr : RdB w A xs) (hn : xs.length = n) (hl : xs.length ≤ 1099511627776) :
    CallsV Try.prog 18 #[.slice A n c, .int .i64 p] w (RetG w (getOrd xs p)) := by
  subst hn
  refine calls_in (N := _) Try.func18 rfl Try.ntmps18 rfl ?_; show WC _ _ _ _ _ _
  refine wc_sr ?_; refine wl_as rfl rfl ?_; refine wl_as rfl rfl ?_; refine wl_as rfl rfl ?_; refine wl_ns ?_; refine wc_seq ?_; refine wc_sr ?_; refine wl_mv rfl rfl ?_; refine wl_mv rfl rfl ?_
  refine wl_call ok_codec_inside (inside_any p w) ⟨rfl, rfl, trivial⟩ rfl ?_
  rintro _ _ ⟨rfl, rfl⟩
  apply wl_val; apply opv_notD; exact rfl; exact rfl; refine wl_ns ?_
  refine wc_cond rfl (fun h => ?_) (fun h => ?_)
  · refine wc_sr ?_; refine wl_as rfl rfl ?_; refine wl_as rfl rfl ?_; refine wl_as rfl rfl ?_; refine wl_ns ?_; refine wc_ret ?_; refine we_seq_ret ?_
    exact we_ret3 rfl rfl rfl rfl ⟨_, rfl, RetG.err (getOrd_arg h) (Below.refl _ _)⟩
  · have h' : 0 ≤ p ∧ p ≤ xs.length := by simpa using h
    obtain ⟨q, rfl⟩ := Int.eq_ofNat_of_zero_le h'.1
    have hq : q ≤ xs.length := by omega
    refine wc_skip ?_; refine we_seq ?_; refine wc_sr ?_; refine wl_as rfl rfl ?_; refine wl_ns ?_; refine wc_seq ?_; refine wc_sr ?_; refine wl_mv rfl rfl ?_; refine wl_as rfl rfl ?_; refine wl_ns ?_; refine wc_block ?_
    refine wc_loop (GotI w xs A c q) [(0, .slice A xs.length c), (7, .slice none 0 0), (8, .int .i64 (q : Int))] (xs.length - q) ⟨0, [], none, 0, rfl, hq, by simp, rfl, Ow.nil _ _ _, Below.refl _ _, rfl⟩ ⟨rfl, rfl, rfl, trivial⟩ ?_
    rintro _ wr m ⟨n, acc, A', c', rfl, hqn, hal, heq, ho, hb, rfl⟩
    have hsz := hb.size
    have hrx := RdB.below hr hb
    refine wc_seq ?_; refine wc_sr ?_; refine wl_mv rfl rfl ?_; refine wl_mv rfl rfl ?_; apply wl_val; apply opv_len; exact rfl; exact tyB.sl; exact rfl; refine wl_bin rfl rfl bin_lss rfl ?_; refine wl_ns ?_
    refine wc_cond rfl (fun h1 => ?_) (fun h1 => ?_)
    · obtain ⟨x, hx⟩ : ∃ x, xs[q + n]? = some x := ⟨_, List.getElem?_eq_getElem (by omega)⟩
      have hd := drop_get hx
      refine wc_skip ?_; refine we_seq ?_; refine wc_seq ?_; refine wc_block ?_; refine wc_seq ?_; refine wc_sr ?_; refine wl_mv rfl rfl ?_; refine wl_mv rfl rfl ?_; apply wl_byK (T := tyB) (hr := hrx) (hb := hx); exact rfl; exact rfl; exact rfl; exact rfl; exact rfl; intro _; refine wl_bin rfl rfl bin_neq rfl ?_; refine wl_ns ?_
      refine wc_cond rfl (fun h2 => ?_) (fun h2 => ?_)
      · have h0 : ¬ x = 0 := fun e => h2 (toNat_zero.2 e)
        refine wc_sr ?_; refine wl_mv rfl rfl ?_; refine wl_mv rfl rfl ?_; refine wl_mv rfl rfl ?_; apply wl_byK (T := tyB) (hr := hrx) (hb := hx); exact rfl; exact rfl; exact rfl; exact rfl; exact rfl; intro _
        refine wl_push (vs := [_]) tyB rfl ho ⟨rfl, rfl, rfl, trivial⟩ rfl (by decide) rfl (by omega) (by simp only [maxLen]; omega) hsz rfl rfl fun p2 A2 c2 w2 ho2 hg2 hat2 => ?_
        refine wl_as rfl rfl ?_; refine wl_ns ?_; refine wc_exit ?_; refine we_seq_exit ?_; refine we_block_exit ?_; refine we_seq ?_; refine wc_region ?_; refine wl_mv rfl rfl ?_; apply wl_val; apply opv_bin; exact rfl; exact rfl; exact bin_add64 (by omega); exact rfl; refine wl_as rfl rfl ?_; refine wl_nil ?_
        refine we_loop [(0, .slice A xs.length c), (7, .slice A2 (acc ++ [x]).length c2), (8, .int .i64 ((q + (n + 1) : Nat) : Int))] (xs.length - (q + (n + 1))) ⟨n + 1, acc ++ [x], A2, c2, rfl, by omega, by simp; omega, ?_, OwB.snoc ho2 rfl, hg2.below hb ho (Nat.le_refl _) hsz, rfl⟩ (by omega) ⟨rfl, ?_, ?_, trivial⟩
        · rw [heq, hd, got_plain h0]; rfl
        · simp; rfl
        · rw [show ((q + (n + 1) : Nat) : Int) = ((q + n : Nat) : Int) + 1 by omega]; rfl
      · obtain rfl : x = 0 := toNat_zero.1 (by omega)
        refine wc_skip ?_; refine we_seq ?_; refine wc_sr ?_; refine wl_mv rfl rfl ?_; apply wl_val; apply opv_bin; exact rfl; exact rfl; exact bin_add64 (by omega); exact rfl; refine wl_as rfl rfl ?_; refine wl_ns ?_; refine wc_seq ?_; refine wc_block ?_; refine wc_sr ?_; refine wl_mv rfl rfl ?_; refine wl_mv rfl rfl ?_; apply wl_val; apply opv_len; exact rfl; exact tyB.sl; exact rfl; refine wl_bin rfl rfl bin_eql rfl ?_; refine wl_as rfl rfl ?_; refine wl_ns ?_
        refine wc_cond rfl (fun h3 => ?_) (fun h3 => ?_)
        · have hlast : xs.drop (q + n + 1) = [] := List.drop_of_length_le (by omega)
          refine wc_sr ?_; refine wl_as rfl rfl ?_; refine wl_as rfl rfl ?_; refine wl_as rfl rfl ?_; refine wl_ns ?_; refine wc_ret ?_; refine we_block_ret ?_; refine we_seq_ret ?_; refine we_block_ret ?_; refine we_seq_ret ?_; refine we_loop_ret ?_; refine we_block_ret ?_; refine we_seq_ret ?_
          exact we_ret3 rfl rfl rfl rfl ⟨_, rfl, RetG.err (getOrd_bad hq (heq.trans (by rw [hd, hlast, got_end]))) hb⟩
        · obtain ⟨y, hy⟩ : ∃ y, xs[q + n + 1]? = some y := ⟨_, List.getElem?_eq_getElem (by omega)⟩
          have hd2 := drop_get hy
          refine wc_sr ?_; refine wl_mv rfl rfl ?_; refine wl_mv rfl rfl ?_; apply wl_byK (T := tyB) (hr := hrx) (hb := hy); exact rfl; exact rfl; exact rfl; exact rfl; exact rfl; intro _; refine wl_bin rfl rfl bin_eql rfl ?_; refine wl_as rfl rfl ?_; refine wl_ns ?_
          refine wc_cond rfl (fun h4 => ?_) (fun h4 => ?_)
          · obtain rfl : y = 1 := UInt8.toNat_inj.1 (by simp; omega)
            have e := getOrd_ok hq (heq.trans (by rw [hd, hd2, got_fin]))
            refine wc_sr ?_; refine wl_mv rfl rfl ?_; refine wl_mv rfl rfl ?_; apply wl_val; apply opv_bin; exact rfl; exact rfl; exact bin_add64 (by omega); exact rfl; refine wl_as rfl rfl ?_; refine wl_as rfl rfl ?_; refine wl_as rfl rfl ?_; refine wl_ns ?_; refine wc_ret ?_; refine we_block_ret ?_; refine we_seq_ret ?_; refine we_block_ret ?_; refine we_seq_ret ?_; refine we_loop_ret ?_; refine we_block_ret ?_; refine we_seq_ret ?_
            refine we_ret3 rfl rfl rfl rfl ⟨_, rfl, ?_⟩
            rw [e]
            refine ⟨A', c', ?_, ho, hb⟩
            have : (q : Int) + ((n + 2 : Nat) : Int) = ((q + n : Nat) : Int) + 1 + 1 := by omega
            rw [this]; rfl
          · have h1' : ¬ y = 1 := fun e => h4 (by rw [e]; rfl)
            refine wc_sr ?_; refine wl_mv rfl rfl ?_; refine wl_mv rfl rfl ?_; apply wl_byK (T := tyB) (hr := hrx) (hb := hy); exact rfl; exact rfl; exact rfl; exact rfl; exact rfl; intro _; refine wl_bin rfl rfl bin_neq rfl ?_; refine wl_as rfl rfl ?_; refine wl_ns ?_
            refine wc_cond rfl (fun h5 => ?_) (fun h5 => ?_)
            · have h6 : ¬ y = 255 := fun e => h5 (by rw [e]; rfl)
              refine wc_sr ?_; refine wl_as rfl rfl ?_; refine wl_as rfl rfl ?_; refine wl_as rfl rfl ?_; refine wl_ns ?_; refine wc_ret ?_; refine we_block_ret ?_; refine we_seq_ret ?_; refine we_block_ret ?_; refine we_seq_ret ?_; refine we_loop_ret ?_; refine we_block_ret ?_; refine we_seq_ret ?_
              exact we_ret3 rfl rfl rfl rfl ⟨_, rfl, RetG.err (getOrd_bad hq (heq.trans (by rw [hd, hd2, got_bad h1' h6]))) hb⟩
            · obtain rfl : y = 255 := UInt8.toNat_inj.1 (by simp; omega)
              refine wc_skip ?_; refine we_block_norm ?_; refine we_seq ?_; refine wc_region ?_; refine wl_mv rfl rfl ?_
              refine wl_push (vs := [_]) tyB rfl ho ⟨rfl, rfl, rfl, trivial⟩ rfl (by decide) rfl (by omega) (by simp only [maxLen]; omega) hsz rfl rfl fun p2 A2 c2 w2 ho2 hg2 hat2 => ?_
              refine wl_as rfl rfl ?_; refine wl_nil ?_; refine we_block_norm ?_; refine we_seq ?_; refine wc_region ?_; refine wl_mv rfl rfl ?_; apply wl_val; apply opv_bin; exact rfl; exact rfl; exact bin_add64 (by omega); exact rfl; refine wl_as rfl rfl ?_; refine wl_nil ?_
              refine we_loop [(0, .slice A xs.length c), (7, .slice A2 (acc ++ [0]).length c2), (8, .int .i64 ((q + (n + 2) : Nat) : Int))] (xs.length - (q + (n + 2))) ⟨n + 2, acc ++ [0], A2, c2, rfl, by omega, by simp; omega, ?_, OwB.snoc ho2 rfl, hg2.below hb ho (Nat.le_refl _) hsz, rfl⟩ (by omega) ⟨rfl, ?_, ?_, trivial⟩
              · rw [heq, hd, hd2, got_esc]; rfl
              · simp; rfl
              · rw [show ((q + (n + 2) : Nat) : Int) = ((q + n : Nat) : Int) + 1 + 1 by omega]; rfl
    · have hlast : xs.drop (q + n) = [] := List.drop_of_length_le (by omega)
      refine wc_exit ?_; refine we_seq_exit ?_; refine we_loop_exit ?_; refine we_block_exit ?_; refine we_seq ?_; refine wc_sr ?_; refine wl_as rfl rfl ?_; refine wl_as rfl rfl ?_; refine wl_as rfl rfl ?_; refine wl_ns ?_; refine wc_ret ?_
      exact we_ret3 rfl rfl rfl rfl ⟨_, rfl, RetG.err (getOrd_bad hq (heq.trans (by rw [hlast, got_nil]))) hb⟩
theorem getOrd_at {A : Option Addr} {n c : Nat} {xs ys : List UInt8} {p x : Int} {e : Nat} {w : World} (h : getOrd xs p = (ys, x, e)) (hr : RdB w A xs) (hn : xs.length = n) (hl : xs.length ≤ 1099511627776) :
    CallsV Try.prog 18 #[.slice A n c, .int .i64 p] w fun v w' => ∃ A' c', v = .tuple #[.slice A' ys.length c', .int .i64 x, .int .i64 (e : Int)] ∧ OwB w' w.heap.size A' c' ys ∧ Below w.heap.size w w' := by
  have := getOrd_any (p := p) (c := c) hr hn hl
  rw [h] at this
  exact this
end Go.Proofs.Ytpnckagibkdcpaa


/-
  Walks over the smallest functions of layer 1: Copy, Equal, Cmp of the references, PutU of both.
-/
namespace Go.Proofs.Ytpnckagibkdcpaa
open Go.RowKit

theorem copy_any {A : Option Addr} {n c : Nat} {xs : List UInt8} {w : World} (hr : RdB w A xs) (hn : xs.length = n) (hl : xs.length ≤ 140737488355328) : CallsV Try.prog 38 #[.slice A n c] w (RetB w xs) := by
  subst hn
  refine calls_in (N := _) Try.func38 rfl Try.ntmps38 rfl ?_; show WC _ _ _ _ _ _
  refine wc_sr ?_; refine wl_as rfl rfl ?_; refine wl_ns ?_; refine wc_sr ?_
  refine wl_bs (vs := []) tyB trivial rfl (by decide) rfl fun A1 w1 ho hb _ => ?_
  refine wl_mv rfl rfl ?_
  refine wl_app tyB rfl ho rfl (RdB.below hr hb) (bvs_one _) (by omega) (by simp only [maxLen]; omega) hb.size rfl fun A' c' w' ho' hg _ => ?_
  refine wl_as rfl rfl ?_; refine wl_ns ?_; refine wc_ret ?_
  refine we_ret1 rfl rfl ⟨_, rfl, A', c', by simp, ?_, ?_⟩
  · have := ho'; simp only [Nat.zero_add, List.nil_append] at this; exact this
  · exact hg.below hb ho (Nat.le_refl _) hb.size

theorem equal_any {A B : Option Addr} {n m c d : Nat} {xs ys : List UInt8} {w : World} (hx : RdB w A xs) (hy : RdB w B ys) (hn : xs.length = n) (hm : ys.length = m) (hlx : xs.length ≤ maxLen) :
    CallsV Try.prog 10 #[.slice A n c, .slice B m d] w fun v w' => v = .bool (decide (xs = ys)) ∧ Below w.heap.size w w' := by
  subst hn hm
  simp only [maxLen] at hlx
  refine calls_in (N := _) Try.func10 rfl Try.ntmps10 rfl ?_; show WC _ _ _ _ _ _
  refine wc_sr ?_; refine wl_as rfl rfl ?_; refine wl_ns ?_; refine wc_seq ?_; refine wc_sr ?_; refine wl_mv rfl rfl ?_; apply wl_val; apply opv_len; exact rfl; exact tyB.sl; exact rfl; refine wl_mv rfl rfl ?_; apply wl_val; apply opv_len; exact rfl; exact tyB.sl; exact rfl; refine wl_bin rfl rfl bin_neq rfl ?_; refine wl_ns ?_
  refine wc_cond rfl (fun h => ?_) (fun h => ?_)
  · refine wc_sr ?_; refine wl_as rfl rfl ?_; refine wl_ns ?_; refine wc_ret ?_; refine we_seq_ret ?_
    refine we_ret1 rfl rfl ⟨_, rfl, ?_, Below.refl _ _⟩
    have hne : ¬ xs = ys := fun e => h (by rw [e])
    simp [hne]
  · have hlen : xs.length = ys.length := by omega
    refine wc_skip ?_; refine we_seq ?_; refine wc_seq ?_; refine wc_sr ?_; refine wl_as rfl rfl ?_; refine wl_ns ?_; refine wc_block ?_
    refine wc_loop (fun L wr m => ∃ k : Nat, L = [(0, .slice A xs.length c), (1, .slice B ys.length d), (5, .int .i64 k)] ∧ k ≤ xs.length ∧ xs.take k = ys.take k ∧ Below w.heap.size w wr ∧ m = xs.length - k)
      [(0, .slice A xs.length c), (1, .slice B ys.length d), (5, .int .i64 (0 : Nat))] xs.length ⟨0, rfl, by omega, rfl, Below.refl _ _, rfl⟩ ⟨rfl, rfl, rfl, trivial⟩ ?_
    rintro _ wr m ⟨k, rfl, hk, heq, hbel, rfl⟩
    have hrx := RdB.below hx hbel
    have hry := RdB.below hy hbel
    refine wc_seq ?_; refine wc_sr ?_; refine wl_mv rfl rfl ?_; refine wl_mv rfl rfl ?_; apply wl_val; apply opv_len; exact rfl; exact tyB.sl; exact rfl; refine wl_bin rfl rfl bin_lss rfl ?_; refine wl_ns ?_
    refine wc_cond rfl (fun h1 => ?_) (fun h1 => ?_)
    · refine wc_skip ?_; refine we_seq ?_; refine wc_seq ?_; refine wc_block ?_; refine wc_seq ?_
      refine wc_drawB mixed (by kernel_rfl) ?_
      apply wq_val; intro _ hw_; apply opv_move; exact rfl; exact rfl; apply wq_val; intro _ hw_; apply opv_move; exact rfl; exact rfl
      refine wq_by tyB rfl rfl hrx rfl (by omega) rfl rfl fun p1 x hxk => ?_
      apply wq_val; intro _ hw_; apply opv_move; exact rfl; exact rfl; apply wq_val; intro _ hw_; apply opv_move; exact rfl; exact rfl
      refine wq_by tyB rfl rfl hry rfl (by omega) rfl rfl fun p2 y hyk => ?_
      apply wq_val; intro _ hw_; apply opv_bin; exact rfl; exact rfl; exact bin_neq; exact rfl; refine wq_nil fun w1 hw1 => ?_
      have hb1 := hbel.trans (hw1.mono hbel.size)
      refine we_seq ?_
      refine wc_cond rfl (fun h2 => ?_) (fun h2 => ?_)
      · refine wc_sr ?_; refine wl_as rfl rfl ?_; refine wl_ns ?_; refine wc_ret ?_; refine we_block_ret ?_; refine we_seq_ret ?_; refine we_loop_ret ?_; refine we_block_ret ?_; refine we_seq_ret ?_
        refine we_ret1 rfl rfl ⟨_, rfl, ?_, hb1⟩
        have hne : ¬ xs = ys := fun e => by subst e; rw [hxk] at hyk; cases hyk; exact h2 rfl
        simp [hne]
      · refine wc_skip ?_; refine we_block_norm ?_; refine we_seq ?_; refine wc_region ?_; refine wl_mv rfl rfl ?_; apply wl_val; apply opv_bin; exact rfl; exact rfl; exact bin_add64 (by omega); exact rfl; refine wl_as rfl rfl ?_; refine wl_nil ?_
        refine we_loop [(0, .slice A xs.length c), (1, .slice B ys.length d), (5, .int .i64 (k + 1 : Nat))] (xs.length - (k + 1)) ⟨k + 1, rfl, by omega, ?_, hb1, rfl⟩ (by omega) ⟨rfl, rfl, by simp [lookT], trivial⟩
        have : x = y := UInt8.toNat_inj.1 (by omega)
        rw [take_get hxk, take_get hyk, heq, this]
    · refine wc_exit ?_; refine we_seq_exit ?_; refine we_loop_exit ?_; refine we_block_exit ?_; refine we_seq ?_; refine wc_sr ?_; refine wl_as rfl rfl ?_; refine wl_ns ?_; refine wc_ret ?_
      refine we_ret1 rfl rfl ⟨_, rfl, ?_, hbel⟩
      have hkl : k = xs.length := by omega
      rw [hkl, List.take_length, hlen, List.take_length] at heq
      simp [heq]
theorem equal_yes {A B : Option Addr} {n m c d : Nat} {xs ys : List UInt8} {w : World} (he : xs = ys) (hx : RdB w A xs) (hy : RdB w B ys) (hn : xs.length = n) (hm : ys.length = m) (hlx : xs.length ≤ maxLen) :
    CallsV Try.prog 10 #[.slice A n c, .slice B m d] w fun v w' => v = .bool true ∧ Below w.heap.size w w' :=
  (equal_any hx hy hn hm hlx).mono fun v w' ⟨h, hb⟩ => ⟨by rw [h]; simp [he], hb⟩
end Go.Proofs.Ytpnckagibkdcpaa


/-
  Walks over the keys of texts, and the law TextKeys.
-/
namespace Go.Proofs.Ytpnckagibkdcpaa
open Go.RowKit

/-- The key of a text. -/
def keyB (l : List UInt8) : List UInt8 := ordText (foldB l) ++ ordText l
theorem ordText_length (l : List UInt8) : (ordText l).length ≤ 2 * l.length + 2 := by
  have := esc_length l
  simp [ordText]; omega
theorem keyB_length (l : List UInt8) : (keyB l).length ≤ 10 * l.length + 4 := by
  have h1 := ordText_length (foldB l)
  have h2 := ordText_length l
  have h3 := foldB_length l
  rw [keyB, List.length_append]; omega
theorem key_any {l : List UInt8} (hl : l.length ≤ 68719476736) (w : World) : CallsV Try.prog 13 #[str l] w (RetB w (keyB l)) := by
  have hf := foldB_length l
  have h1 := ordText_length (foldB l)
  have h2 := ordText_length l
  have hb := Below.refl w.heap.size w
  refine calls_in (N := _) Try.func13 rfl Try.ntmps13 rfl ?_; show WC _ _ _ _ _ _
  refine wc_sr ?_; refine wl_as rfl rfl ?_; refine wl_ns ?_; refine wc_sr ?_; refine wl_mv rfl rfl ?_
  refine wl_call ok_text_Fold (fold_any (l := l) (by omega) w) ⟨rfl, trivial⟩ rfl ?_
  rintro _ w1 ⟨rfl, hbx⟩

  replace hb := hb.trans (hbx.mono hb.size)
  refine wl_toBytes tyStr Try.underlying24 Try.underlying5 rfl rfl fun A2 c2 w2 r2 hc2 hb2 => ?_
  replace hb := hb.trans (hb2.mono hb.size)
  refine wl_call ok_codec_OrdText (ordText_any r2 rfl (by omega)) ⟨rfl, trivial⟩ rfl ?_
  rintro _ w3 ⟨A3, c3, rfl, o3, hb3⟩
  have hs3 : w.heap.size ≤ w2.heap.size := hb.size
  replace hb := hb.trans (hb3.mono hb.size)
  refine wl_mv rfl rfl ?_
  refine wl_toBytes tyStr Try.underlying24 Try.underlying5 rfl rfl fun A4 c4 w4 r4 hc4 hb4 => ?_
  replace o3 := OwB.below o3 hb4
  replace hb := hb.trans (hb4.mono hb.size)
  refine wl_call ok_codec_OrdText (ordText_any r4 rfl (by omega)) ⟨rfl, trivial⟩ rfl ?_
  rintro _ w5 ⟨A5, c5, rfl, o5, hb5⟩
  replace o3 := OwB.below o3 hb5
  replace hb := hb.trans (hb5.mono hb.size)
  have hs5 : w2.heap.size ≤ w5.heap.size := by have := hb3.size; have := hb4.size; have := hb5.size; omega
  refine wl_app tyB rfl o3 rfl o5.rd (bvs_one _) (by omega) (by simp only [maxLen]; omega) hs5 rfl fun A6 c6 w6 o6 g6 _ => ?_
  have hb6 := g6.below hb o3 hs3 hb.size
  refine wl_as rfl rfl ?_; refine wl_ns ?_; refine wc_ret ?_
  refine we_ret1 rfl rfl ⟨_, rfl, A6, c6, ?_, Ow.mono (OwB.app o6) hs3, hb6⟩
  rw [← List.length_append]; rfl
/-- The text whose key begins at a place. -/
def fromKey (b : List UInt8) (p : Int) : List UInt8 × Int × Nat :=
  if (getOrd b p).2.2 = 0 then
    if (getOrd b (getOrd b p).2.1).2.2 = 0 then
      if foldB (getOrd b (getOrd b p).2.1).1 = (getOrd b p).1 then ((getOrd b (getOrd b p).2.1).1, (getOrd b (getOrd b p).2.1).2.1, 0) else ([], 0, 3)
    else ([], 0, (getOrd b (getOrd b p).2.1).2.2)
  else ([], 0, (getOrd b p).2.2)
theorem fromKey_1 {b x : List UInt8} {p n : Int} {e : Nat} (h : getOrd b p = (x, n, e)) (he : ¬ e = 0) : fromKey b p = ([], 0, e) := by simp [fromKey, h, he]
theorem fromKey_2 {b x y : List UInt8} {p n n2 : Int} {e : Nat} (h : getOrd b p = (x, n, 0)) (h2 : getOrd b n = (y, n2, e)) (he : ¬ e = 0) : fromKey b p = ([], 0, e) := by simp [fromKey, h, h2, he]
theorem fromKey_3 {b x y : List UInt8} {p n n2 : Int} (h : getOrd b p = (x, n, 0)) (h2 : getOrd b n = (y, n2, 0)) (he : ¬ foldB y = x) : fromKey b p = ([], 0, 3) := by simp [fromKey, h, h2, he]
theorem fromKey_4 {b x y : List UInt8} {p n n2 : Int} (h : getOrd b p = (x, n, 0)) (h2 : getOrd b n = (y, n2, 0)) (he : foldB y = x) : fromKey b p = (y, n2, 0) := by simp [fromKey, h, h2, he]
def RetK (w : World) (x : List UInt8 × Int × Nat) (v : Value) (w' : World) : Prop := v = .tuple #[str x.1, .int .i64 x.2.1, .int .i64 (x.2.2 : Int)] ∧ Below w.heap.size w w'
theorem fromKey_any {A : Option Addr} {n c : Nat} {xs : List UInt8} {p : Int} {w : World} (r1 : RdB w A xs) (hn : xs.length = n) (hl : xs.length ≤ 1099511627776) :
    CallsV Try.prog 16 #[.slice A n c, .int .i64 p] w (RetK w (fromKey xs p)) := by
  subst hn
  have hb := Below.refl w.heap.size w
  obtain ⟨x, n1, e1, h1⟩ : ∃ x n e, getOrd xs p = (x, n, e) := ⟨_, _, _, rfl⟩
  obtain ⟨y, n2, e2, h2⟩ : ∃ x n e, getOrd xs n1 = (x, n, e) := ⟨_, _, _, rfl⟩
  have hxl := getOrd_length h1
  have hyl := getOrd_length h2
  refine calls_in (N := _) Try.func16 rfl Try.ntmps16 rfl ?_; show WC _ _ _ _ _ _
  refine wc_sr ?_; refine wl_as rfl rfl ?_; refine wl_as rfl rfl ?_; refine wl_as rfl rfl ?_; refine wl_ns ?_; refine wc_sr ?_; refine wl_mv rfl rfl ?_; refine wl_mv rfl rfl ?_
  refine wl_call ok_codec_GetOrdText (getOrd_at h1 r1 rfl (by omega)) ⟨rfl, rfl, trivial⟩ rfl ?_
  rintro _ w1 ⟨A1, c1, rfl, o1, hbx⟩
  replace r1 := RdB.below r1 hbx
  replace hb := hb.trans (hbx.mono hb.size)
  refine wl_mv rfl rfl ?_; apply wl_val; apply opv_extract; exact rfl; exact rfl; exact rfl; apply wl_val; apply opv_extract; exact rfl; exact rfl; exact rfl; apply wl_val; apply opv_extract; exact rfl; exact rfl; exact rfl; refine wl_as rfl rfl ?_; refine wl_as rfl rfl ?_; refine wl_as rfl rfl ?_; refine wl_ns ?_; refine wc_seq ?_; refine wc_sr ?_; refine wl_mv rfl rfl ?_; refine wl_bin rfl rfl bin_neq rfl ?_; refine wl_ns ?_
  refine wc_cond rfl (fun he => ?_) (fun he => ?_)
  · refine wc_sr ?_; refine wl_mv rfl rfl ?_; refine wl_as rfl rfl ?_; refine wl_as rfl rfl ?_; refine wl_as rfl rfl ?_; refine wl_ns ?_; refine wc_ret ?_; refine we_seq_ret ?_
    exact we_ret3 rfl rfl rfl rfl ⟨_, rfl, by rw [fromKey_1 h1 (by omega)], hb⟩
  obtain rfl : e1 = 0 := by omega
  refine wc_skip ?_; refine we_seq ?_; refine wc_sr ?_; refine wl_mv rfl rfl ?_; refine wl_mv rfl rfl ?_
  refine wl_call ok_codec_GetOrdText (getOrd_at h2 r1 rfl (by omega)) ⟨rfl, rfl, trivial⟩ rfl ?_
  rintro _ w2 ⟨A2, c2, rfl, o2, hbx2⟩
  replace o1 := OwB.below o1 hbx2
  replace hb := hb.trans (hbx2.mono hb.size)
  refine wl_mv rfl rfl ?_; apply wl_val; apply opv_extract; exact rfl; exact rfl; exact rfl; apply wl_val; apply opv_extract; exact rfl; exact rfl; exact rfl; apply wl_val; apply opv_extract; exact rfl; exact rfl; exact rfl; refine wl_as rfl rfl ?_; refine wl_as rfl rfl ?_; refine wl_as rfl rfl ?_; refine wl_ns ?_; refine wc_seq ?_; refine wc_seq ?_
  by_cases he2 : e2 = 0
  · subst he2
    refine wc_heldB mixed fun w3 hS => ?_
    apply wh_take 0; exact rfl; kernel_rfl; kernel_rfl; kernel_rfl; exact hS; intro _ hw_; apply opv_move; exact rfl; exact rfl; apply wh_take 1; exact rfl; kernel_rfl; kernel_rfl; kernel_rfl; exact hS; intro _ hw_; apply opv_bin; exact rfl; exact rfl; exact bin_eql; exact rfl; apply wh_take 2; exact rfl; kernel_rfl; kernel_rfl; kernel_rfl; exact hS; intro _ hw_; apply opv_move; exact rfl; exact rfl; apply wh_takeG 3; exact rfl; kernel_rfl; kernel_rfl; kernel_rfl; exact hS; exact rfl; exact rfl; exact rfl; refine bT ?_; omega; intro _ hw_; apply opv_move; exact rfl; exact rfl; apply wh_takeG 6; exact rfl; kernel_rfl; kernel_rfl; kernel_rfl; exact hS; exact rfl; exact rfl; exact rfl; refine bT ?_; omega; intro _ hw_; apply opv_move; exact rfl; exact rfl
    refine wh_takeG 4 rfl (by kernel_rfl) (by kernel_rfl) (by kernel_rfl) hS rfl rfl rfl (bT rfl) (fun _ hw => opv_ofBytes Try.underlying24 Try.underlying5 tyStr rfl (o2.rd.below hw)) rfl ?_
    refine wh_takeG 7 rfl (by kernel_rfl) (by kernel_rfl) (by kernel_rfl) hS rfl rfl rfl (bT rfl) (fun _ hw => opv_ofBytes Try.underlying24 Try.underlying5 tyStr rfl (o1.rd.below hw)) rfl ?_
    refine wh_one 5 (o := ⟨_, _, _, _, _, _⟩) (by kernel_rfl) rfl ?_
    apply wl_take; exact rfl; exact rfl; exact rfl; refine bT ?_; omega
    refine wl_call ok_text_Fold (fold_any (l := y) (by omega) _) ⟨rfl, trivial⟩ rfl ?_
    rintro _ w4 ⟨rfl, hb4⟩
    have hS4 := hS.trans (hb4.mono hS.size)
    have o4 := OwB.below o2 hS4
    refine wl_nil ?_
    refine we_held hS4 ?_
    apply wh_takeG 8; exact rfl; kernel_rfl; kernel_rfl; kernel_rfl; exact hS4; exact rfl; exact rfl; exact rfl; refine bT ?_; omega; intro _ hw_; apply opv_bin; exact rfl; exact rfl; exact bin_neqS; exact rfl; apply wh_take 9; exact rfl; kernel_rfl; kernel_rfl; kernel_rfl; exact hS4; intro _ hw_; apply opv_pickT; exact rfl; refine bT ?_; omega; exact rfl; exact rfl
    refine wh_done (by kernel_rfl) ?_
    have hb5 := hb.trans (hS4.mono hb.size)
    by_cases hf : foldB y ≠ x
    · refine we_seq ?_; apply wc_decT; exact rfl; (with_reducible assumption); refine wc_region ?_; refine wl_as rfl rfl ?_; refine wl_ns ?_; refine wc_seq ?_; refine wc_sr ?_; refine wl_mv rfl rfl ?_; refine wl_bin rfl rfl bin_neq rfl ?_; refine wl_ns ?_; apply wc_condTb; exact rfl; exact rfl; refine wc_sr ?_; refine wl_mv rfl rfl ?_; refine wl_as rfl rfl ?_; refine wl_as rfl rfl ?_; refine wl_as rfl rfl ?_; refine wl_ns ?_; refine wc_ret ?_; refine we_seq_ret ?_
      exact we_ret3 rfl rfl rfl rfl ⟨_, rfl, by rw [fromKey_3 h1 h2 hf]; rfl, hb5⟩
    · refine we_seq ?_; apply wc_decF; exact rfl; (with_reducible assumption); refine wc_skip ?_; refine we_seq ?_; refine wc_seq ?_; refine wc_sr ?_; refine wl_mv rfl rfl ?_; refine wl_bin rfl rfl bin_neq rfl ?_; refine wl_ns ?_; apply wc_condFb; exact rfl; exact rfl; refine wc_skip ?_; refine we_seq ?_; refine wc_sr ?_; refine wl_mv rfl rfl ?_
      refine wl_val (opv_ofBytes Try.underlying24 Try.underlying5 tyStr rfl (o4.rd)) rfl ?_
      refine wl_mv rfl rfl ?_; refine wl_mv rfl rfl ?_; refine wl_as rfl rfl ?_; refine wl_as rfl rfl ?_; refine wl_as rfl rfl ?_; refine wl_ns ?_; refine wc_ret ?_
      exact we_ret3 rfl rfl rfl rfl ⟨_, rfl, by rw [fromKey_4 h1 h2 (Decidable.not_not.1 hf)], hb5⟩
  · refine wc_heldB mixed fun w3 hS => ?_
    apply wh_take 0; exact rfl; kernel_rfl; kernel_rfl; kernel_rfl; exact hS; intro _ hw_; apply opv_move; exact rfl; exact rfl; apply wh_take 1; exact rfl; kernel_rfl; kernel_rfl; kernel_rfl; exact hS; intro _ hw_; apply opv_bin; exact rfl; exact rfl; exact bin_eql; exact rfl; apply wh_take 2; exact rfl; kernel_rfl; kernel_rfl; kernel_rfl; exact hS; intro _ hw_; apply opv_move; exact rfl; exact rfl; apply wh_skipG 3; exact rfl; kernel_rfl; kernel_rfl; kernel_rfl; exact hS; exact rfl; exact rfl; exact rfl; refine bFn ?_; omega; exact rfl; apply wh_skipG 4; exact rfl; kernel_rfl; kernel_rfl; kernel_rfl; exact hS; exact rfl; exact rfl; exact rfl; refine bFn ?_; omega; exact rfl; apply wh_skipG 5; exact rfl; kernel_rfl; kernel_rfl; kernel_rfl; exact hS; exact rfl; exact rfl; exact rfl; refine bFn ?_; omega; exact rfl; apply wh_skipG 6; exact rfl; kernel_rfl; kernel_rfl; kernel_rfl; exact hS; exact rfl; exact rfl; exact rfl; refine bFn ?_; omega; exact rfl; apply wh_skipG 7; exact rfl; kernel_rfl; kernel_rfl; kernel_rfl; exact hS; exact rfl; exact rfl; exact rfl; refine bFn ?_; omega; exact rfl; apply wh_skipG 8; exact rfl; kernel_rfl; kernel_rfl; kernel_rfl; exact hS; exact rfl; exact rfl; exact rfl; refine bFn ?_; omega; exact rfl; apply wh_take 9; exact rfl; kernel_rfl; kernel_rfl; kernel_rfl; exact hS; intro _ hw_; apply opv_pickF; exact rfl; refine bF ?_; omega; exact rfl; exact rfl
    refine wh_done (by kernel_rfl) ?_
    refine we_seq ?_; apply wc_condFb; exact rfl; exact rfl; refine wc_skip ?_; refine we_seq ?_; refine wc_seq ?_; refine wc_sr ?_; refine wl_mv rfl rfl ?_; refine wl_bin rfl rfl bin_neq rfl ?_; refine wl_ns ?_; apply wc_decT; exact rfl; omega; refine wc_sr ?_; refine wl_mv rfl rfl ?_; refine wl_as rfl rfl ?_; refine wl_as rfl rfl ?_; refine wl_as rfl rfl ?_; refine wl_ns ?_; refine wc_ret ?_; refine we_seq_ret ?_
    exact we_ret3 rfl rfl rfl rfl ⟨_, rfl, by rw [fromKey_2 h1 h2 he2], hb.trans (hS.mono hb.size)⟩
theorem gotOrd_at (pre xs r : List UInt8) : getOrd (pre ++ (ordText xs ++ r)) (pre.length : Int) = (xs, ((pre.length + (ordText xs).length : Nat) : Int), 0) := by
  have h := got_ord r xs [] 0
  have e : (pre ++ (ordText xs ++ r)).drop pre.length = esc xs ++ (0 :: 1 :: r) := by
    rw [List.drop_left]; simp [ordText]
  rw [getOrd_ok (q := pre.length) (by simp) (by rw [e]; exact h)]
  simp [ordText]
theorem fromKey_key (l : List UInt8) : fromKey (keyB l) 0 = (l, ((keyB l).length : Int), 0) := by
  have h1 := gotOrd_at [] (foldB l) (ordText l)
  have h2 := gotOrd_at (ordText (foldB l)) l []
  simp only [List.append_nil, List.nil_append, List.length_nil, Nat.zero_add] at h1 h2
  refine (fromKey_4 (b := keyB l) (p := ((0 : Nat) : Int)) (n := ((ordText (foldB l)).length : Int)) h1 h2 rfl).trans ?_
  simp [keyB]
theorem cmp_key (a b : List UInt8) : cmpB (keyB a) (keyB b) = if cmpB (foldB a) (foldB b) = 0 then cmpB a b else cmpB (foldB a) (foldB b) := by
  have h := cmp_ords [foldB a, a] [foldB b, b]
  have e : ∀ l : List UInt8, ords [foldB l, l] = keyB l := fun l => by simp [ords, keyB]
  rw [e, e] at h
  rw [h]
  by_cases h1 : cmpB (foldB a) (foldB b) = 0 <;> by_cases h2 : cmpB a b = 0 <;> simp [cmpT, h1, h2]
theorem fromKey_len {b y : List UInt8} {p n : Int} {e : Nat} (h : fromKey b p = (y, n, e)) : True := trivial
end Go.Proofs.Ytpnckagibkdcpaa


/-
  Walks over bytes.Clone and over Next of the program and of the reference.
-/
namespace Go.Proofs.Ytpnckagibkdcpaa
open Go.RowKit

theorem rd_none {w : World} {xs : List UInt8} (h : RdB w none xs) : xs = [] := by
  cases xs with
  | nil => rfl
  | cons x r => obtain ⟨_, _, h, _⟩ := h.2 (by simp); cases h

theorem clone_any {A : Option Addr} {n c : Nat} {xs : List UInt8} {w : World} (hr : RdB w A xs) (hn : xs.length = n) (hl : xs.length ≤ 140737488355328) : CallsV Try.prog 60 #[.slice A n c] w (RetB w xs) := by
  subst hn
  refine calls_in (N := _) Try.func60 rfl Try.ntmps60 rfl ?_; show WC _ _ _ _ _ _
  refine wc_sr ?_; refine wl_as rfl rfl ?_; refine wl_ns ?_; refine wc_seq ?_; refine wc_sr ?_; refine wl_mv rfl rfl ?_
  refine wl_val (opv_bin rfl rfl (bin_eqlSliceNil Try.underlying24)) rfl ?_
  refine wl_ns ?_
  refine wc_condB rfl (fun h => ?_) (fun h => ?_)
  · obtain rfl : A = none := by cases A <;> simp at h ⊢
    obtain rfl := rd_none hr
    refine wc_sr ?_; refine wl_as rfl rfl ?_; refine wl_ns ?_; refine wc_ret ?_; refine we_seq_ret ?_
    exact we_ret1 rfl rfl ⟨_, rfl, none, 0, rfl, Ow.nil _ _ _, Below.refl _ _⟩
  · refine wc_skip ?_; refine we_seq ?_; refine wc_sr ?_
    refine wl_bs (vs := []) tyB trivial rfl (by decide) rfl fun A1 w1 ho hb _ => ?_
    refine wl_mv rfl rfl ?_
    refine wl_app tyB rfl ho rfl (RdB.below hr hb) (bvs_one _) (by omega) (by simp only [maxLen]; omega) hb.size rfl fun A' c' w' ho' hg _ => ?_
    refine wl_as rfl rfl ?_; refine wl_ns ?_; refine wc_ret ?_
    refine we_ret1 rfl rfl ⟨_, rfl, A', c', by simp, ?_, ?_⟩
    · have := ho'; simp only [Nat.zero_add, List.nil_append] at this; exact this
    · exact hg.below hb ho (Nat.le_refl _) hb.size

theorem rd_pre {w : World} {A : Option Addr} {xs : List UInt8} {c h : Nat} (hr : RdB w A xs) (hh : h ≤ xs.length) (hc : xs.length ≤ c) : RdB w (cutA A c 0) (xs.take h) := by
  have := Rd.cut (l := 0) (h := h) hr (by omega) hh hc
  rw [bvs_cut] at this
  simp only [Nat.sub_zero, List.drop_zero] at this
  have e : (xs.take h).length = h := by simp; omega
  unfold RdB; rw [e]; exact this

theorem add1_val (x : UInt8) : Value.int .u8 (((x.toNat + 1) % 2 ^ IntKind.u8.bits : Nat) : Int) = bv (x + 1) := by
  rw [bv, UInt8.toNat_add]; rfl

end Go.Proofs.Ytpnckagibkdcpaa


/-
  Walks over Copies and Equals of the references.
-/
namespace Go.Proofs.Ytpnckagibkdcpaa
open Go.RowKit

end Go.Proofs.Ytpnckagibkdcpaa


/-
  Plain laws of frames. No program in sight.
-/
namespace Go.Proofs.Ytpnckagibkdcpaa

def framed (l : List (List UInt8)) : List UInt8 := l.flatMap fun r => putU r.length ++ r
/-- The parts behind place q; out: those ahead of it. -/
def partsF : Nat → List UInt8 → Nat → List (List UInt8) → List (List UInt8) × Nat
  | 0, _, _, out => (out, 0)
  | f + 1, b, q, out =>
    if b.length ≤ q then (out, 0)
    else if (getU b q).2.2 = 0 then
      if b.length < (getU b q).2.1.toNat + (getU b q).1 then ([], 5)
      else partsF f b ((getU b q).2.1.toNat + (getU b q).1) (out ++ [(b.take ((getU b q).2.1.toNat + (getU b q).1)).drop (getU b q).2.1.toNat])
    else ([], (getU b q).2.2)
def parts (b : List UInt8) : List (List UInt8) × Nat := partsF b.length b 0 []

theorem putU_pos (n : Nat) : 0 < (putU n).length := by
  rw [putU]; split <;> simp
theorem getU_next {b : List UInt8} {q n : Nat} {x : Int} (h : getU b q = (n, x, 0)) : ∃ k : Nat, x = k ∧ q < k ∧ k ≤ b.length := by
  obtain ⟨q', k, hq, rfl, h1, h2, h3, _⟩ := getU_inv h
  obtain rfl : q = q' := by omega
  have := congrArg List.length h3
  have hp := putU_pos n
  refine ⟨k, rfl, ?_, h2⟩
  simp at this; omega
theorem partsF_end {f : Nat} {b : List UInt8} {q : Nat} {out : List (List UInt8)} (h : b.length ≤ q) : partsF f b q out = (out, 0) := by
  cases f with
  | zero => rfl
  | succ f => rw [partsF, if_pos h]
theorem partsF_err {f : Nat} {b : List UInt8} {q n e : Nat} {x : Int} {out : List (List UInt8)} (h : ¬ b.length ≤ q) (hu : getU b q = (n, x, e)) (he : ¬ e = 0) : partsF (f + 1) b q out = ([], e) := by
  rw [partsF, if_neg h, hu, if_neg he]
theorem partsF_short {f : Nat} {b : List UInt8} {q n k : Nat} {out : List (List UInt8)} (h : ¬ b.length ≤ q) (hu : getU b q = (n, (k : Int), 0)) (hs : b.length < k + n) : partsF (f + 1) b q out = ([], 5) := by
  rw [partsF, if_neg h, hu, if_pos rfl]
  simp only [Int.toNat_natCast]
  rw [if_pos hs]
theorem partsF_step {f : Nat} {b : List UInt8} {q n k : Nat} {out : List (List UInt8)} (h : ¬ b.length ≤ q) (hu : getU b q = (n, (k : Int), 0)) (hs : ¬ b.length < k + n) : partsF (f + 1) b q out = partsF f b (k + n) (out ++ [(b.take (k + n)).drop k]) := by
  rw [partsF, if_neg h, hu, if_pos rfl]
  simp only [Int.toNat_natCast]
  rw [if_neg hs]
/-- How much a list's parts hold, and what error there is. -/
theorem partsF_size : ∀ (f : Nat) (b : List UInt8) (q : Nat) (out : List (List UInt8)), q ≤ b.length → out.length + out.flatten.length ≤ q → (partsF f b q out).1.length + (partsF f b q out).1.flatten.length ≤ b.length
  | 0, b, q, out, hq, h => by simp only [partsF]; omega
  | f + 1, b, q, out, hq, h => by
    by_cases h1 : b.length ≤ q
    · rw [partsF_end h1]; exact Nat.le_trans h hq
    · obtain ⟨n, x, e, hu⟩ : ∃ n x e, getU b q = (n, x, e) := ⟨_, _, _, rfl⟩
      by_cases he : e = 0
      · subst he
        obtain ⟨k, rfl, h2, h3⟩ := getU_next hu
        by_cases hs : b.length < k + n
        · rw [partsF_short h1 hu hs]; simp
        · rw [partsF_step h1 hu hs]
          refine partsF_size f b _ _ (by omega) ?_
          simp only [List.flatten_append, List.flatten_cons, List.flatten_nil, List.length_append, List.length_cons, List.length_nil, List.length_drop, List.length_take]
          omega
      · rw [partsF_err h1 hu he]; simp
theorem getU_mid {pre rest : List UInt8} {n : Nat} (hn : n < 2 ^ 64) : getU (pre ++ (putU n ++ rest)) pre.length = (n, ((pre.length + (putU n).length : Nat) : Int), 0) := by
  have h := getAux_putU rest n 0 0 (by decide) hn (by omega) (.inl rfl)
  have := getU_ok (b := pre ++ (putU n ++ rest)) (q := pre.length) (n := n) (k := (putU n).length) (by simp) (by rw [List.drop_left, h]; simp)
  rw [this]; simp
theorem partsF_framed : ∀ (l : List (List UInt8)) (f : Nat) (pre : List UInt8) (out : List (List UInt8)), (∀ r ∈ l, r.length < 2 ^ 64) → (framed l).length ≤ f → partsF f (pre ++ framed l) pre.length out = (out ++ l, 0)
  | [], f, pre, out, _, _ => by rw [partsF_end (by simp [framed])]; simp
  | r :: l, f, pre, out, hr, hf => by
    have e : framed (r :: l) = putU r.length ++ (r ++ framed l) := by simp [framed]
    rw [e] at hf ⊢
    have hp := putU_pos r.length
    simp only [List.length_append] at hf
    obtain ⟨f, rfl⟩ : ∃ g, f = g + 1 := ⟨f - 1, by omega⟩
    have hg := getU_mid (pre := pre) (rest := r ++ framed l) (hr r (by simp))
    rw [partsF_step (by simp; omega) hg (by simp only [List.length_append]; omega)]
    have hb : pre ++ (putU r.length ++ (r ++ framed l)) = (pre ++ putU r.length ++ r) ++ framed l := by simp
    have hlen : (pre ++ putU r.length ++ r).length = pre.length + (putU r.length).length + r.length := by simp only [List.length_append]
    have hcut : ((pre ++ (putU r.length ++ (r ++ framed l))).take (pre.length + (putU r.length).length + r.length)).drop (pre.length + (putU r.length).length) = r := by
      rw [hb, ← hlen, List.take_left, show pre.length + (putU r.length).length = (pre ++ putU r.length).length by simp, List.drop_left]
    rw [hcut, hb, ← hlen, partsF_framed l f _ _ (fun x hx => hr x (by simp [hx])) (by omega)]
    simp
theorem parts_framed {l : List (List UInt8)} (h : ∀ r ∈ l, r.length < 2 ^ 64) : parts (framed l) = (l, 0) := by
  have := partsF_framed l (framed l).length [] [] h (Nat.le_refl _)
  simpa [parts] using this
theorem framed_take {l : List (List UInt8)} {k : Nat} {x : List UInt8} (h : l[k]? = some x) : framed (l.take (k + 1)) = framed (l.take k) ++ putU x.length ++ x := by
  rw [take_getR h]; simp [framed]
theorem framed_length : ∀ (l : List (List UInt8)), (∀ r ∈ l, r.length < 2 ^ 64) → (framed l).length ≤ l.flatten.length + 10 * l.length
  | [], _ => by simp [framed]
  | x :: l, h => by
    have h1 := framed_length l (fun r hr => h r (by simp [hr]))
    have h2 := putU_le (h x (by simp))
    simp only [framed, List.flatMap_cons, List.length_append, List.flatten_cons, List.length_cons] at h1 ⊢
    omega
theorem framed_take_le (l : List (List UInt8)) (k : Nat) : (framed (l.take k)).length ≤ (framed l).length := by
  have : framed l = framed (l.take k) ++ framed (l.drop k) := by
    rw [framed, framed, framed, ← List.flatMap_append, List.take_append_drop]
  rw [this, List.length_append]; omega
theorem mem_flat {l : List (List UInt8)} {x : List UInt8} (h : x ∈ l) : x.length ≤ l.flatten.length := by
  obtain ⟨k, hk, rfl⟩ := List.getElem_of_mem h
  exact flat_mem (List.getElem?_eq_getElem hk)
end Go.Proofs.Ytpnckagibkdcpaa


/-
  Walks over Frame and Parts of the program and of the references.
-/
namespace Go.Proofs.Ytpnckagibkdcpaa
open Go.RowKit

end Go.Proofs.Ytpnckagibkdcpaa


/-
  Walks over Parts of the program and of the reference.
-/
namespace Go.Proofs.Ytpnckagibkdcpaa
open Go.RowKit

theorem rd_cut {w : World} {A : Option Addr} {xs : List UInt8} {c l h : Nat} (hr : RdB w A xs) (h1 : l ≤ h) (hh : h ≤ xs.length) (hc : xs.length ≤ c) : RdB w (cutA A c l) ((xs.take h).drop l) := by
  have := Rd.cut (l := l) (h := h) hr h1 hh hc
  rw [bvs_cut] at this
  have e : ((xs.take h).drop l).length = h - l := by simp; omega
  unfold RdB; rw [e]; exact this
def RetP (w : World) (x : List (List UInt8) × Nat) (v : Value) (w' : World) : Prop :=
  ∃ (A : Option Addr) (c : Nat), v = .tuple #[.slice A x.1.length c, .int .i64 (x.2 : Int)] ∧ OwBB w' w.heap.size A c x.1 ∧ Below w.heap.size w w'

end Go.Proofs.Ytpnckagibkdcpaa


/-
  Plain laws of numbers written in eight bytes, the greatest first. No program in sight.
-/
namespace Go.Proofs.Ytpnckagibkdcpaa

/-- The lowest k bytes of a number, the greatest first. -/
def ordK : Nat → Nat → List UInt8
  | 0, _ => []
  | k + 1, n => ordK k (n / 256) ++ [UInt8.ofNat n]
def ordU (n : Nat) : List UInt8 := ordK 8 n
def numB (l : List UInt8) : Nat := l.foldl (fun n x => n * 256 + x.toNat) 0
def getOrdU (b : List UInt8) (p : Int) : Nat × Int × Nat :=
  if p < 0 ∨ (b.length : Int) < p then (0, 0, 1)
  else if (b.length : Int) - p < 8 then (0, 0, 5)
  else (numB ((b.drop p.toNat).take 8), p + 8, 0)

theorem ordK_length : ∀ (k n : Nat), (ordK k n).length = k
  | 0, _ => rfl
  | k + 1, n => by simp [ordK, ordK_length k]
theorem ordU_length (n : Nat) : (ordU n).length = 8 := ordK_length 8 n
theorem numB_snoc (l : List UInt8) (x : UInt8) : numB (l ++ [x]) = numB l * 256 + x.toNat := by simp [numB]
theorem numB_ordK : ∀ (k n : Nat), numB (ordK k n) = n % 256 ^ k
  | 0, n => by simp [ordK, numB, Nat.mod_one]
  | k + 1, n => by
    rw [ordK, numB_snoc, numB_ordK k]
    rw [Nat.pow_succ, Nat.mul_comm (256 ^ k) 256, Nat.mod_mul]
    simp
    omega
theorem numB_ordU {n : Nat} (h : n < 2 ^ 64) : numB (ordU n) = n := by
  rw [ordU, numB_ordK]; exact Nat.mod_eq_of_lt h
theorem ordK_numB : ∀ (k : Nat) (l : List UInt8), l.length = k → ordK k (numB l) = l
  | 0, l, h => by simp [ordK, List.length_eq_zero_iff.1 h]
  | k + 1, l, h => by
    have hne : l ≠ [] := by rintro rfl; simp at h
    have e := List.dropLast_concat_getLast hne
    rw [← e, numB_snoc, ordK]
    have hx := (l.getLast hne).toNat_lt
    have e1 : (numB l.dropLast * 256 + (l.getLast hne).toNat) / 256 = numB l.dropLast := by omega
    rw [e1, ordK_numB k _ (by simp [h])]
    congr 2
    apply UInt8.toNat_inj.1
    simp
theorem ordU_numB {l : List UInt8} (h : l.length = 8) : ordU (numB l) = l := ordK_numB 8 l h
theorem numB_cons : ∀ (l : List UInt8) (a : Nat), l.foldl (fun n x => n * 256 + x.toNat) a = a * 256 ^ l.length + numB l
  | [], a => by simp [numB]
  | x :: l, a => by
    have h1 := numB_cons l (a * 256 + x.toNat)
    have h2 := numB_cons l (0 * 256 + x.toNat)
    simp only [numB, List.foldl_cons, List.length_cons] at h1 h2 ⊢
    rw [h1, h2, Nat.pow_succ]
    simp only [Nat.add_mul, Nat.mul_assoc, Nat.zero_mul, Nat.zero_add]
    rw [Nat.mul_comm 256 (256 ^ l.length)]
    omega
theorem numB_lt (l : List UInt8) : numB l < 256 ^ l.length := by
  have h := numB_ordK l.length (numB l)
  rw [ordK_numB _ l rfl] at h
  rw [h]; exact Nat.mod_lt _ (Nat.pow_pos (by decide))
theorem cmp_num : ∀ (a b : List UInt8), a.length = b.length → (cmpB a b < 0 ↔ numB a < numB b)
  | [], [], _ => by simp [cmpB, numB]
  | [], _ :: _, h => by simp at h
  | _ :: _, [], h => by simp at h
  | x :: a, y :: b, h => by
    simp only [List.length_cons, Nat.add_right_cancel_iff] at h
    have ha : numB (x :: a) = x.toNat * 256 ^ a.length + numB a := by
      have := numB_cons a (0 * 256 + x.toNat); simp only [numB, List.foldl_cons] at this ⊢; rw [this]; simp
    have hb : numB (y :: b) = y.toNat * 256 ^ a.length + numB b := by
      have := numB_cons b (0 * 256 + y.toNat); simp only [numB, List.foldl_cons] at this ⊢; rw [this, h]; simp
    have la := numB_lt a
    have lb := numB_lt b
    rw [← h] at lb
    rw [ha, hb]
    by_cases h1 : x < y
    · rw [cmp_lt h1]
      rw [UInt8.lt_iff_toNat_lt] at h1
      have := Nat.mul_le_mul_right (256 ^ a.length) (show x.toNat + 1 ≤ y.toNat from h1)
      rw [Nat.add_mul, Nat.one_mul] at this
      constructor
      · intro _; omega
      · intro _; decide
    · by_cases h2 : y < x
      · rw [cmp_gt h2]
        rw [UInt8.lt_iff_toNat_lt] at h2
        have := Nat.mul_le_mul_right (256 ^ a.length) (show y.toNat + 1 ≤ x.toNat from h2)
        rw [Nat.add_mul, Nat.one_mul] at this
        constructor
        · intro h; omega
        · intro h; omega
      · have e : x = y := UInt8.le_antisymm (UInt8.not_lt.1 h2) (UInt8.not_lt.1 h1)
        subst e
        rw [cmp_same, cmp_num a b h]
        omega
theorem cmp_ordU {n m : Nat} (hn : n < 2 ^ 64) (hm : m < 2 ^ 64) : (cmpB (ordU n) (ordU m) < 0) = (n < m) := by
  rw [cmp_num _ _ (by rw [ordU_length, ordU_length]), numB_ordU hn, numB_ordU hm]
theorem ordK_get : ∀ (k n i : Nat), i < k → (ordK k n)[i]? = some (UInt8.ofNat (n / 256 ^ (k - 1 - i)))
  | 0, _, _, h => by omega
  | k + 1, n, i, h => by
    rw [ordK]
    by_cases hi : i < k
    · rw [List.getElem?_append_left (by rw [ordK_length]; exact hi), ordK_get k _ i hi, Nat.div_div_eq_div_mul]
      have e : 256 * 256 ^ (k - 1 - i) = 256 ^ (k + 1 - 1 - i) := by
        rw [show k + 1 - 1 - i = (k - 1 - i) + 1 by omega, Nat.pow_succ, Nat.mul_comm]
      rw [e]
    · have : i = k := by omega
      subst this
      rw [List.getElem?_append_right (by rw [ordK_length]; omega), ordK_length]
      simp
theorem numB_step {l : List UInt8} {k : Nat} {x : UInt8} (h : l[k]? = some x) : numB (l.take (k + 1)) = numB (l.take k) * 256 + x.toNat := by
  rw [take_getR h, numB_snoc]
theorem xor_top {u : Nat} (h : u < 2 ^ 64) : u ^^^ 9223372036854775808 = (u + 9223372036854775808) % 18446744073709551616 := by
  rw [show 9223372036854775808 = 2 ^ 63 from rfl, show 18446744073709551616 = 2 ^ 64 from rfl]
  apply Nat.eq_of_testBit_eq
  intro j
  rw [Nat.testBit_xor, Nat.testBit_mod_two_pow, Nat.add_comm]
  rcases Nat.lt_trichotomy j 63 with hj | hj | hj
  · rw [Nat.testBit_two_pow_of_ne (by omega), Nat.testBit_two_pow_add_gt hj]
    have : j < 64 := by omega
    simp [this]
  · subst hj
    rw [Nat.testBit_two_pow_self, Nat.testBit_two_pow_add_eq]
    simp
  · rw [Nat.testBit_two_pow_of_ne (by omega), Nat.testBit_lt_two_pow (Nat.lt_of_lt_of_le h (Nat.pow_le_pow_right (by decide) (by omega)))]
    have : ¬ j < 64 := by omega
    simp [this]
theorem getOrdU_arg {b : List UInt8} {p : Int} (h : ¬ (0 ≤ p ∧ p ≤ b.length)) : getOrdU b p = (0, 0, 1) := by
  rw [getOrdU, if_pos (by omega)]
theorem getOrdU_end {b : List UInt8} {p : Int} (h : 0 ≤ p ∧ p ≤ b.length) (h8 : (b.length : Int) - p < 8) : getOrdU b p = (0, 0, 5) := by
  rw [getOrdU, if_neg (by omega), if_pos h8]
theorem getOrdU_ok {b : List UInt8} {q : Nat} (h : q + 8 ≤ b.length) : getOrdU b q = (numB ((b.drop q).take 8), (q : Int) + 8, 0) := by
  rw [getOrdU, if_neg (by omega), if_neg (by omega)]; simp
theorem getOrdU_cases (b : List UInt8) (p : Int) : (∃ e : Nat, ¬ e = 0 ∧ getOrdU b p = (0, 0, e)) ∨ ∃ q : Nat, p = q ∧ q + 8 ≤ b.length ∧ getOrdU b p = (numB ((b.drop q).take 8), (q : Int) + 8, 0) := by
  by_cases h : 0 ≤ p ∧ p ≤ b.length
  · by_cases h8 : (b.length : Int) - p < 8
    · exact .inl ⟨5, by decide, getOrdU_end h h8⟩
    · obtain ⟨q, rfl⟩ := Int.eq_ofNat_of_zero_le h.1
      exact .inr ⟨q, rfl, by omega, getOrdU_ok (by omega)⟩
  · exact .inl ⟨1, by decide, getOrdU_arg h⟩
end Go.Proofs.Ytpnckagibkdcpaa


/-
  Walks over the numbers of eight bytes of the program and of the references.
-/
namespace Go.Proofs.Ytpnckagibkdcpaa
open Go.RowKit

theorem fill_up {α : Type} {l : List α} {z x : α} {k m : Nat} (h : l[k]? = some x) : (l.take k ++ List.replicate (m + 1) z).set k x = l.take (k + 1) ++ List.replicate m z := by
  have hk := (List.getElem?_eq_some_iff.1 h).1
  have e : (l.take k).length = k := by simp; omega
  rw [List.set_append_right _ _ (by omega), e, Nat.sub_self, List.replicate_succ, List.set_cons_zero, take_getR h]
  simp
theorem fill_down {α : Type} {l : List α} {z x : α} {k : Nat} (h : l[k]? = some x) : (List.replicate (k + 1) z ++ l.drop (k + 1)).set k x = List.replicate k z ++ l.drop k := by
  obtain ⟨hk, e⟩ := List.getElem?_eq_some_iff.1 h
  rw [List.set_append_left _ _ (by simp), List.replicate_succ', List.set_append_right _ _ (by simp)]
  rw [List.drop_eq_getElem_cons hk, e]
  simp
theorem byte_of (m : Nat) : Value.int .u8 ((m % 2 ^ IntKind.u8.bits : Nat) : Int) = bv (UInt8.ofNat m) := by
  simp [bv, IntKind.bits]

theorem ordU_any (n : Nat) (hn : n < 2 ^ 64) (w : World) : CallsV Try.prog 11 #[.int .u64 n] w (RetB w (ordU n)) := by
  refine calls_in (N := _) Try.func11 rfl Try.ntmps11 rfl ?_; show WC _ _ _ _ _ _
  refine wc_sr ?_; refine wl_as rfl rfl ?_; refine wl_ns ?_; refine wc_sr ?_
  refine wl_mk (n := 8) (c := 8) tyB rfl rfl rfl rfl (by omega) (by omega) (by simp only [maxLen]; omega) rfl fun A1 w1 o1 hb1 _ => ?_
  refine wl_as rfl rfl ?_; refine wl_ns ?_; refine wc_seq ?_; refine wc_sr ?_; refine wl_mv rfl rfl ?_; apply wl_val; apply opv_len; exact rfl; exact tyB.sl; exact rfl; refine wl_mv rfl rfl ?_; refine wl_ns ?_; refine wc_block ?_
  refine wc_loop (fun L wr m => ∃ k : Nat, L = [(0, .int .u64 (n : Int)), (3, .slice A1 8 8), (7, .int .i64 (8 : Int)), (8, .int .i64 (k : Int))] ∧ k ≤ 8 ∧ Ow wr w.heap.size 5 A1 8 8 (bvs ((ordU n).take k ++ List.replicate (8 - k) 0)) ∧ Below w.heap.size w wr ∧ m = 8 - k)
    [(0, .int .u64 (n : Int)), (3, .slice A1 8 8), (7, .int .i64 (8 : Int)), (8, .int .i64 (0 : Nat))] 8 ⟨0, rfl, by omega, by simpa [bvs, bv] using o1, hb1, rfl⟩ ⟨rfl, rfl, rfl, rfl, trivial⟩ ?_
  rintro _ w2 m ⟨k, rfl, hk, o2, hb2, rfl⟩
  refine wc_sr ?_; refine wl_bin rfl rfl bin_lss rfl ?_; refine wl_ns ?_; refine wc_seq ?_
  refine wc_cond rfl (fun h1 => ?_) (fun h1 => ?_)
  · have hg := ordK_get 8 n k (by omega)
    have hk7 : k ≤ 7 := by omega
    refine wc_skip ?_; refine we_seq ?_; refine wc_seq ?_; refine wc_block ?_; refine wc_sr ?_; refine wl_mv rfl rfl ?_; refine wl_as rfl rfl ?_; refine wl_ns ?_; refine wc_region ?_; refine wl_mv rfl rfl ?_; refine wl_mv rfl rfl ?_; refine wl_mv rfl rfl ?_; refine wl_mv rfl rfl ?_; apply wl_val; apply opv_bin; exact rfl; exact rfl; exact bin_sub64 (by omega); exact rfl
    refine wl_val (opv_bin rfl rfl ((bin_mul64 (by omega)).to (show _ = Value.int .i64 ((8 * (7 - k) : Nat) : Int) from by congr 1; omega))) rfl ?_
    refine wl_val (opv_bin rfl rfl (bin_shr hn)) rfl ?_
    apply wl_val; apply opv_convR; exact rfl; exact Try.underlying26; exact Try.underlying5; exact wrap_nat rfl _; exact rfl
    refine wl_set (kk := k) tyB rfl rfl o2 rfl (by omega) (fun _ => rfl) rfl rfl fun p w3 o3 g3 _ => ?_
    have hb3 := g3.below hb2 o2 (Nat.le_refl _) hb2.size
    rw [byte_of, bvs_set, show 8 - k = (7 - k) + 1 by omega, Nat.pow_mul, fill_up (l := ordU n) (by rw [ordU, hg])] at o3
    refine wl_nil ?_; refine we_block_norm ?_; refine we_seq ?_; refine wc_region ?_; apply wl_val; apply opv_bin; exact rfl; exact rfl; exact bin_add64 (by omega); exact rfl; refine wl_mv rfl rfl ?_; refine wl_nil ?_
    refine we_loop [(0, .int .u64 (n : Int)), (3, .slice A1 8 8), (7, .int .i64 (8 : Int)), (8, .int .i64 ((k + 1 : Nat) : Int))] (8 - (k + 1)) ⟨k + 1, rfl, by omega, by rw [show 8 - (k + 1) = 7 - k by omega]; exact o3, hb3, rfl⟩ (by omega) ⟨rfl, rfl, rfl, rfl, trivial⟩
  · obtain rfl : k = 8 := by omega
    have e : (ordU n).take 8 ++ List.replicate (8 - 8) 0 = ordU n := by rw [List.take_of_length_le (by rw [ordU_length]; omega)]; simp
    rw [e] at o2
    refine wc_exit ?_; refine we_seq_exit ?_; refine we_loop_exit ?_; refine we_block_exit ?_; refine we_seq ?_; refine wc_sr ?_; refine wl_mv rfl rfl ?_; refine wl_as rfl rfl ?_; refine wl_ns ?_; refine wc_ret ?_
    exact we_ret1 rfl rfl ⟨_, rfl, A1, 8, by rw [ordU_length], by unfold OwB; rw [ordU_length]; exact o2, hb2⟩

end Go.Proofs.Ytpnckagibkdcpaa


/-
  Walks over OrdI and the reading of eight bytes, of the program and of the references.
-/
namespace Go.Proofs.Ytpnckagibkdcpaa
open Go.RowKit

/-- A signed number as the unsigned one that stands in its place. -/
def lift (i : Int) : Nat := (i + 9223372036854775808).toNat
theorem lift_lt {i : Int} (h : -9223372036854775808 ≤ i ∧ i ≤ 9223372036854775807) : lift i < 2 ^ 64 := by
  unfold lift; omega
theorem lift_wrap {i : Int} (h : -9223372036854775808 ≤ i ∧ i ≤ 9223372036854775807) : ∃ u : Nat, IntKind.u64.wrap i = u ∧ u < 2 ^ 64 ∧ (u + 9223372036854775808) % 18446744073709551616 = lift i := by
  unfold lift
  have e : IntKind.u64.wrap i = i % 18446744073709551616 := by simp [IntKind.wrap, IntKind.bits, IntKind.signed]
  rw [e]
  by_cases h0 : 0 ≤ i
  · exact ⟨i.toNat, by omega, by omega, by omega⟩
  · exact ⟨(i + 18446744073709551616).toNat, by omega, by omega, by omega⟩

theorem ordI_any (i : Int) (hi : -9223372036854775808 ≤ i ∧ i ≤ 9223372036854775807) (w : World) : CallsV Try.prog 14 #[.int .i64 i] w (RetB w (ordU (lift i))) := by
  obtain ⟨u, hu, hlt, hl⟩ := lift_wrap hi
  have hll := lift_lt hi
  refine calls_in (N := _) Try.func14 rfl Try.ntmps14 rfl ?_; show WC _ _ _ _ _ _
  refine wc_sr ?_; refine wl_as rfl rfl ?_; refine wl_ns ?_; refine wc_sr ?_; refine wl_mv rfl rfl ?_
  refine wl_val (opv_convR rfl Try.underlying2 Try.underlying26 hu) rfl ?_
  refine wl_val (opv_bin (b := .int .u64 (9223372036854775808 : Nat)) rfl rfl (bin_xor rfl hlt (by decide))) rfl ?_
  rw [xor_top hlt, hl]
  refine wl_call ok_codec_OrdU (ordU_any _ hll _) ⟨rfl, trivial⟩ rfl ?_
  rintro _ w2 ⟨A2, c2, rfl, o2, h2⟩
  refine wl_as rfl rfl ?_; refine wl_ns ?_; refine wc_ret ?_
  exact we_ret1 rfl rfl ⟨_, rfl, A2, c2, rfl, o2, h2⟩
theorem or_byte {n : Nat} (x : UInt8) : n * 2 ^ 8 ||| x.toNat = n * 256 + x.toNat := by
  rw [show n * 256 = 2 ^ 8 * n by omega, Nat.two_pow_add_eq_or_of_lt x.toNat_lt]
theorem numB_lt' (l : List UInt8) (k : Nat) (h : k ≤ 7) : numB (l.take k) < 72057594037927936 := by
  refine Nat.lt_of_lt_of_le (numB_lt _) ?_
  refine Nat.le_trans (Nat.pow_le_pow_right (by decide) (show (l.take k).length ≤ 7 by simp; omega)) (by decide)

theorem getOrdU_any {A : Option Addr} {n c : Nat} {xs : List UInt8} {p : Int} {w : World} (hr : RdB w A xs) (hn : xs.length = n) (hc : xs.length ≤ c) (hl : xs.length ≤ 1125899906842624) (hp : -9223372036854775808 ≤ p ∧ p ≤ 9223372036854775807) :
    CallsV Try.prog 43 #[.slice A n c, .int .i64 p] w (RetN w (getOrdU xs p)) := by
  subst hn
  refine calls_in (N := _) Try.func43 rfl Try.ntmps43 rfl ?_; show WC _ _ _ _ _ _
  refine wc_sr ?_; refine wl_as rfl rfl ?_; refine wl_as rfl rfl ?_; refine wl_as rfl rfl ?_; refine wl_ns ?_; refine wc_seq ?_; refine wc_sr ?_; refine wl_mv rfl rfl ?_; refine wl_mv rfl rfl ?_
  refine wl_call ok_codec_inside (inside_any p w) ⟨rfl, rfl, trivial⟩ rfl ?_
  rintro _ _ ⟨rfl, rfl⟩
  apply wl_val; apply opv_notD; exact rfl; exact rfl; refine wl_ns ?_
  refine wc_cond rfl (fun h => ?_) (fun h => ?_)
  · refine wc_sr ?_; refine wl_as rfl rfl ?_; refine wl_as rfl rfl ?_; refine wl_as rfl rfl ?_; refine wl_ns ?_; refine wc_ret ?_; refine we_seq_ret ?_
    exact we_ret3 rfl rfl rfl rfl ⟨_, rfl, by rw [getOrdU_arg h]; rfl, Below.refl _ _⟩
  · have h' : 0 ≤ p ∧ p ≤ xs.length := by simpa using h
    obtain ⟨q, rfl⟩ := Int.eq_ofNat_of_zero_le h'.1
    refine wc_skip ?_; refine we_seq ?_; refine wc_seq ?_; refine wc_sr ?_; refine wl_mv rfl rfl ?_; apply wl_val; apply opv_len; exact rfl; exact tyB.sl; exact rfl; refine wl_mv rfl rfl ?_; apply wl_val; apply opv_bin; exact rfl; exact rfl; exact bin_sub64 (by omega); exact rfl; refine wl_bin rfl rfl bin_lss rfl ?_; refine wl_ns ?_
    refine wc_cond rfl (fun h8 => ?_) (fun h8 => ?_)
    · refine wc_sr ?_; refine wl_as rfl rfl ?_; refine wl_as rfl rfl ?_; refine wl_as rfl rfl ?_; refine wl_ns ?_; refine wc_ret ?_; refine we_seq_ret ?_
      exact we_ret3 rfl rfl rfl rfl ⟨_, rfl, by rw [getOrdU_end h' h8]; rfl, Below.refl _ _⟩
    · have hq : q + 8 ≤ xs.length := by omega
      refine wc_skip ?_; refine we_seq ?_; refine wc_sr ?_; refine wl_as rfl rfl ?_; refine wl_ns ?_; refine wc_seq ?_; refine wc_sr ?_; refine wl_mv rfl rfl ?_; refine wl_mv rfl rfl ?_; refine wl_mv rfl rfl ?_; apply wl_val; apply opv_bin; exact rfl; exact rfl; exact bin_add64 (by omega); exact rfl
      refine wl_sl (l := q) (h := q + 8) tyB rfl ⟨_, rfl⟩ ⟨_, by simp only [Int.natCast_add]; rfl⟩ (by omega) (by omega) rfl ?_
      have r1 := rd_cut hr (show q ≤ q + 8 by omega) hq hc
      have el : (xs.take (q + 8)).drop q = (xs.drop q).take 8 := by rw [List.drop_take]; congr 1; omega
      rw [el] at r1
      have hlen : ((xs.drop q).take 8).length = 8 := by simp; omega
      obtain ⟨ys, hys⟩ : ∃ ys, (xs.drop q).take 8 = ys := ⟨_, rfl⟩
      rw [hys] at r1 hlen
      unfold RdB at r1
      rw [hlen] at r1
      rw [show q + 8 - q = 8 by omega]
      apply wl_val; apply opv_len; exact rfl; exact tyB.sl; exact rfl; refine wl_mv rfl rfl ?_; refine wl_ns ?_; refine wc_block ?_
      refine wc_loop (fun L wr m => ∃ k : Nat, L = [(1, .int .i64 (q : Int)), (7, .int .u64 (numB (ys.take k) : Int)), (23, .slice (cutA A c q) 8 (c - q)), (24, .int .i64 (8 : Int)), (25, .int .i64 (k : Int))] ∧ k ≤ 8 ∧ w = wr ∧ m = 8 - k)
        [(1, .int .i64 (q : Int)), (7, .int .u64 (0 : Nat)), (23, .slice (cutA A c q) 8 (c - q)), (24, .int .i64 (8 : Int)), (25, .int .i64 (0 : Nat))] 8 ⟨0, rfl, by omega, rfl, rfl⟩ ⟨rfl, rfl, rfl, rfl, rfl, trivial⟩ ?_
      rintro _ _ m ⟨k, rfl, hk, rfl, rfl⟩
      refine wc_sr ?_; refine wl_bin rfl rfl bin_lss rfl ?_; refine wl_ns ?_; refine wc_seq ?_
      refine wc_cond rfl (fun h1 => ?_) (fun h1 => ?_)
      · obtain ⟨x, hx⟩ : ∃ x, ys[k]? = some x := ⟨_, List.getElem?_eq_getElem (by omega)⟩
        have hnl := numB_lt' ys k (by omega)
        refine wc_skip ?_; refine we_seq ?_; refine wc_seq ?_; refine wc_block ?_; refine wc_sr ?_; apply wl_byK (T := tyB) (hr := r1) (hb := hx); exact rfl; exact rfl; exact rfl; exact rfl; exact rfl; intro _; refine wl_as rfl rfl ?_; refine wl_ns ?_; refine wc_region ?_; refine wl_mv rfl rfl ?_
        refine wl_val ((opv_bin (b := .int .u64 (8 : Nat)) rfl rfl (bin_shl rfl)).to (congrArg (fun z : Nat => Value.int .u64 (z : Int)) (Nat.mod_eq_of_lt (show numB (ys.take k) * 2 ^ 8 < 2 ^ IntKind.u64.bits from by simp only [IntKind.bits]; omega)))) rfl ?_
        have hxl := x.toNat_lt
        refine wl_mv rfl rfl ?_; apply wl_val; apply opv_convR; exact rfl; exact Try.underlying5; exact Try.underlying26; exact IntWalk.u64_in _ (by omega); exact rfl
        refine wl_val (opv_bin rfl rfl (bin_or rfl (by simp only [IntKind.bits]; omega) (by simp only [IntKind.bits]; omega))) rfl ?_
        rw [or_byte, ← numB_step hx]
        refine wl_as rfl rfl ?_; refine wl_nil ?_; refine we_block_norm ?_; refine we_seq ?_; refine wc_region ?_; apply wl_val; apply opv_bin; exact rfl; exact rfl; exact bin_add64 (by omega); exact rfl; refine wl_mv rfl rfl ?_; refine wl_nil ?_
        refine we_loop [(1, .int .i64 (q : Int)), (7, .int .u64 (numB (ys.take (k + 1)) : Int)), (23, .slice (cutA A c q) 8 (c - q)), (24, .int .i64 (8 : Int)), (25, .int .i64 ((k + 1 : Nat) : Int))] (8 - (k + 1)) ⟨k + 1, rfl, by omega, rfl, rfl⟩ (by omega) ⟨rfl, rfl, rfl, rfl, rfl, trivial⟩
      · obtain rfl : k = 8 := by omega
        rw [List.take_of_length_le (by omega)]
        refine wc_exit ?_; refine we_seq_exit ?_; refine we_loop_exit ?_; refine we_block_exit ?_; refine we_seq ?_; refine wc_sr ?_; refine wl_mv rfl rfl ?_; refine wl_mv rfl rfl ?_; apply wl_val; apply opv_bin; exact rfl; exact rfl; exact bin_add64 (by omega); exact rfl; refine wl_as rfl rfl ?_; refine wl_as rfl rfl ?_; refine wl_as rfl rfl ?_; refine wl_ns ?_; refine wc_ret ?_
        exact we_ret3 rfl rfl rfl rfl ⟨_, rfl, by rw [getOrdU_ok hq, hys]; rfl, Below.refl _ _⟩

/-- What GetOrdI answers. -/
def RetI (w : World) (r : Nat × Int × Nat) (v : Value) (w' : World) : Prop :=
  v = .tuple #[.int .i64 (if r.2.2 = 0 then (r.1 : Int) - 9223372036854775808 else 0), .int .i64 r.2.1, .int .i64 (r.2.2 : Int)] ∧ Below w.heap.size w w'
theorem getOrdI_any {A : Option Addr} {n c : Nat} {xs : List UInt8} {p : Int} {w : World} (hr : RdB w A xs) (hn : xs.length = n) (hc : xs.length ≤ c) (hl : xs.length ≤ 1125899906842624) (hp : -9223372036854775808 ≤ p ∧ p ≤ 9223372036854775807) :
    CallsV Try.prog 17 #[.slice A n c, .int .i64 p] w (RetI w (getOrdU xs p)) := by
  refine calls_in (N := _) Try.func17 rfl Try.ntmps17 rfl ?_; show WC _ _ _ _ _ _
  refine wc_sr ?_; refine wl_as rfl rfl ?_; refine wl_as rfl rfl ?_; refine wl_as rfl rfl ?_; refine wl_ns ?_; refine wc_sr ?_; refine wl_mv rfl rfl ?_; refine wl_mv rfl rfl ?_
  refine wl_call ok_codec_GetOrdU (getOrdU_any hr hn hc hl hp) ⟨rfl, rfl, trivial⟩ rfl ?_
  rintro _ w2 ⟨rfl, hb⟩
  rcases getOrdU_cases xs p with ⟨e, he, hv⟩ | ⟨q, rfl, hq, hv⟩
  · rw [hv]
    refine wl_mv rfl rfl ?_; apply wl_val; apply opv_extract; exact rfl; exact rfl; exact rfl; apply wl_val; apply opv_extract; exact rfl; exact rfl; exact rfl; apply wl_val; apply opv_extract; exact rfl; exact rfl; exact rfl; refine wl_as rfl rfl ?_; refine wl_as rfl rfl ?_; refine wl_as rfl rfl ?_; refine wl_ns ?_; refine wc_seq ?_; refine wc_sr ?_; refine wl_mv rfl rfl ?_; refine wl_bin rfl rfl bin_neq rfl ?_; refine wl_ns ?_
    refine wc_cond rfl (fun _ => ?_) (fun h => absurd (fun h' => he (by exact_mod_cast h')) h)
    refine wc_sr ?_; refine wl_mv rfl rfl ?_; refine wl_as rfl rfl ?_; refine wl_as rfl rfl ?_; refine wl_as rfl rfl ?_; refine wl_ns ?_; refine wc_ret ?_; refine we_seq_ret ?_
    exact we_ret3 rfl rfl rfl rfl ⟨_, rfl, by simp only [if_neg he], hb⟩
  · rw [hv]
    have hlt : numB ((xs.drop q).take 8) < 2 ^ 64 := by
      refine Nat.lt_of_lt_of_le (numB_lt _) ?_
      refine Nat.le_trans (Nat.pow_le_pow_right (by decide) (show ((xs.drop q).take 8).length ≤ 8 by simp; omega)) (by decide)
    obtain ⟨v, hvv⟩ : ∃ v, numB ((xs.drop q).take 8) = v := ⟨_, rfl⟩
    rw [hvv] at hlt ⊢
    refine wl_mv rfl rfl ?_; apply wl_val; apply opv_extract; exact rfl; exact rfl; exact rfl; apply wl_val; apply opv_extract; exact rfl; exact rfl; exact rfl; apply wl_val; apply opv_extract; exact rfl; exact rfl; exact rfl; refine wl_as rfl rfl ?_; refine wl_as rfl rfl ?_; refine wl_as rfl rfl ?_; refine wl_ns ?_; refine wc_seq ?_; refine wc_sr ?_; refine wl_mv rfl rfl ?_; refine wl_bin rfl rfl bin_neq rfl ?_; refine wl_ns ?_
    refine wc_cond rfl (fun h => absurd rfl h) (fun _ => ?_)
    refine wc_skip ?_; refine we_seq ?_; refine wc_sr ?_; refine wl_mv rfl rfl ?_
    refine wl_val (opv_bin (b := .int .u64 (9223372036854775808 : Nat)) rfl rfl (bin_xor rfl hlt (by decide))) rfl ?_
    rw [xor_top hlt]
    refine wl_val (opv_convR rfl Try.underlying26 Try.underlying2 (r := (v : Int) - 9223372036854775808) ?_) rfl ?_
    · rw [IntKind.wrap_i64]; omega
    refine wl_mv rfl rfl ?_; refine wl_mv rfl rfl ?_; refine wl_as rfl rfl ?_; refine wl_as rfl rfl ?_; refine wl_as rfl rfl ?_; refine wl_ns ?_; refine wc_ret ?_
    exact we_ret3 rfl rfl rfl rfl ⟨_, rfl, rfl, hb⟩
end Go.Proofs.Ytpnckagibkdcpaa


/-
  The engine's rules for structs that have a block of their own (made, read, written whole; built; handed back), and for interface values: made, asked for their type, held against nil. Nothing here names the program.
-/
namespace Go.Proofs.Ytpnckagibkdcpaa
open Go.RowKit

/-- A struct type of k cells. -/
structure StT (P : Program) (t : TypeId) (k : Nat) : Prop where
  un : (match P.underlying t with | some (.struct _) => true | _ => false) = true
  size : (P.info? t).map (·.size) = some k
section
variable {P : Program} {N : Nat} {ops : Array Oper} {Q : Exit → Act → World → Prop} {rest : List Oper} {L : FL} {w w' : World} {t e : TypeId} {g : Nat} {cs cs' : List Value}
theorem StT.get {k : Nat} (T : StT P t k) : ∃ fs, P.underlying t = some (.struct fs) := by
  have h := T.un
  cases hu : P.underlying t with
  | none => rw [hu] at h; cases h
  | some d => rw [hu] at h; cases d <;> first | exact ⟨_, rfl⟩ | cases h
theorem opv_box {x : Operand} {ty : TypeId} {v : Value} (hx : look L x = some v) : OpV P (.box t x) ty L w (.pointer (some ⟨w.heap.size, 0, none⟩)) (w.alloc (.cells v.cells t)) := fun ρ o hρ ho _ => by
  simp [execOp, ho, Instr.box, hρ x _ hx, newVar, newRow]
theorem cells_agg (xs : Array Value) : (Value.agg xs).cells = xs := by simp [Value.cells]
theorem wl_box {d : Nat} {x : Operand} {ty : TypeId} {pos : String} {aft : Array Edge} (hx : look L x = some (.agg cs.toArray)) (hd : Nat.blt d N = true)
    (h : ∀ g w', w.heap.size ≤ g → Ar w' g t cs → Below w.heap.size w w' → WL P N ops Q rest ((d, .pointer (some ⟨g, 0, none⟩)) :: L) w') :
    WL P N ops Q (⟨some d, .box t x, ty, pos, aft, none⟩ :: rest) L w :=
  wl_val (opv_box hx) hd (h _ _ (Nat.le_refl _) (by rw [cells_agg]; exact Ar.new w t cs) ((Below.refl _ _).alloc (Nat.le_refl _) _))
/-- A new variable of a struct type, zero. -/
theorem wl_new {d : Nat} {ty : TypeId} {pos : String} {aft : Array Edge} (hz : (P.info? t).map (·.zero) = some (some (.agg cs.toArray))) (hd : Nat.blt d N = true)
    (h : ∀ g w', w.heap.size ≤ g → Ar w' g t cs → Below w.heap.size w w' → WL P N ops Q rest ((d, .pointer (some ⟨g, 0, none⟩)) :: L) w') :
    WL P N ops Q (⟨some d, .alloc t, ty, pos, aft, none⟩ :: rest) L w :=
  wl_val (opv_alloc hz) hd (h _ _ (Nat.le_refl _) (by rw [cells_agg]; exact Ar.new w t cs) ((Below.refl _ _).alloc (Nat.le_refl _) _))
theorem opv_loadS {x : Operand} {ty T : TypeId} (S : StT P t cs.length) (hx : look L x = some (.pointer (some ⟨g, 0, none⟩))) (ha : Ar w g T cs) : OpV P (.load t x) ty L w (.agg cs.toArray) w := fun ρ op hρ ho _ => by
  obtain ⟨fs, hu⟩ := S.get
  have := run_loadVar_row (P := P) w g T t cs.toArray (0, 0) _ ha hu rfl (by simpa using S.size)
  simp [execOp, ho, Instr.loadAt, Instr.sureAddr, hρ x _ hx, this]
theorem opv_loadX {x : Operand} {ty T : TypeId} (hx : look L x = some (.pointer (some ⟨g, 0, none⟩))) (ha : Ar w g T cs) (S : StT P t cs.length) : OpV P (.load t x) ty L w (.agg cs.toArray) w := opv_loadS S hx ha
theorem opv_ldX {x : Operand} {ty : TypeId} {k : Nat} {T : TypeId} {u : Value} (hx : look L x = some (.pointer (some ⟨g, k, none⟩))) (ha : Ar w g T cs) (E : Cell1 P e) (hk : cs[k]? = some u) : OpV P (.load e x) ty L w u w := opv_ldA E ha hx hk
theorem gr_setRow {x : Array Value} : Gr w (w.setRow g x) (some ⟨g, 0, none⟩) := ⟨rfl, rfl, rfl, by simp [World.setRow], fun j _ hj => by
  simp only [World.setRow, Array.getElem?_modify]
  rw [if_neg (by simp at hj; exact fun h => hj h.symm)]⟩
theorem wl_storeS {x y : Operand} {ty T : TypeId} {pos : String} {aft : Array Edge} (S : StT P t cs'.length) (ha : Ar w g T cs) (hx : look L x = some (.pointer (some ⟨g, 0, none⟩))) (hy : look L y = some (.agg cs'.toArray)) (hl : cs.length = cs'.length) (h1 : cs'.all (·.oneCell') = true)
    (h : ∀ w', Ar w' g T cs' → Gr w w' (some ⟨g, 0, none⟩) → w'.heap.size = w.heap.size → WL P N ops Q rest L w') :
    WL P N ops Q (⟨none, .store t x y, ty, pos, aft, none⟩ :: rest) L w := by
  refine wl_unitN (w' := w.setRow g cs'.toArray) (fun ρ o hρ ho _ => ?_) (h _ ha.setRow gr_setRow (by simp [World.setRow]))
  have := run_storeVar_row (P := P) w g T t cs.toArray cs'.toArray ha (by simpa using S.size) (by simpa using hl) (by simpa [Array.all_eq_true_iff_forall_mem] using h1)
  simp [execOp, ho, Instr.storeAt, Instr.sureAddr, hρ x _ hx, hρ y _ hy, this]
/-- A struct is handed back by value; beside another result. -/
theorem we_retC {fn : Func} {R : Ending → World → Prop} {p : Nat} {T : TypeId} (hr : fn.results = #[.cell p t]) (hx : lookT L p = some (.pointer (some ⟨g, 0, none⟩))) (ha : Ar w g T cs) (S : StT P t cs.length)
    (h : R (.returned (.agg cs.toArray)) w) : WE N (bodyPost P fn R) .ret L w := fun a hA =>
  ⟨hA.nodefer, _, by
    obtain ⟨fs, hu⟩ := S.get
    have := run_loadVar_row (P := P) w g T t cs.toArray (0, 0) _ ha hu rfl (by simpa using S.size)
    have e := hA.get p _ hx
    rw [Array.getD_eq_getD_getElem?] at e
    simp [results, hr, e, asAddr, this], h⟩
theorem we_retC1 {fn : Func} {R : Ending → World → Prop} {p q : Nat} {T : TypeId} {v : Value} (hr : fn.results = #[.cell p t, .tmp q]) (hx : lookT L p = some (.pointer (some ⟨g, 0, none⟩))) (hq : lookT L q = some v) (ha : Ar w g T cs) (S : StT P t cs.length)
    (h : R (.returned (.tuple #[.agg cs.toArray, v])) w) : WE N (bodyPost P fn R) .ret L w := fun a hA =>
  ⟨hA.nodefer, _, by
    obtain ⟨fs, hu⟩ := S.get
    have := run_loadVar_row (P := P) w g T t cs.toArray (0, 0) _ ha hu rfl (by simpa using S.size)
    have e := hA.get p _ hx
    have e2 := hA.get q _ hq
    rw [Array.getD_eq_getD_getElem?] at e e2
    simp [results, hr, e, e2, asAddr, this], h⟩
/-- Parts of a struct. -/
def LooksP (L : FL) : List (Nat × Operand) → List (Nat × Value) → Prop
  | [], [] => True
  | (i, x) :: xs, (j, v) :: vs => i = j ∧ look L x = some v ∧ LooksP L xs vs
  | _, _ => False
theorem LooksP.map {ρ : Operand → Value} (hρ : ∀ x u, look L x = some u → ρ x = u) : ∀ {xs : List (Nat × Operand)} {vs : List (Nat × Value)}, LooksP L xs vs → xs.map (fun p => (p.1, ρ p.2)) = vs
  | [], [], _ => rfl
  | (i, x) :: xs, (j, v) :: vs, h => by rw [List.map_cons, LooksP.map hρ h.2.2, h.1, hρ x v h.2.1]
theorem opv_build {xs : List (Nat × Operand)} {vs : List (Nat × Value)} {ty : TypeId} (hx : LooksP L xs vs) (hb : P.built t vs = some cs.toArray) : OpV P (.build t xs.toArray) ty L w (.agg cs.toArray) w := fun ρ o hρ ho _ => by
  have hm : (xs.toArray.map fun (p : Nat × Operand) => (p.1, ρ p.2)) = vs.toArray := by
    rw [List.map_toArray, LooksP.map hρ hx]
  have := run_build (P := P) w t vs.toArray cs.toArray (by simpa using hb)
  unfold execOp
  simp only [ho]
  rw [hm, Sem.run_bind, this]
  simp
/-- Interface values. -/
def conT (P : Program) (t : TypeId) : Bool := match P.underlying t with | some (.interface _) => false | some _ => true | none => false
theorem conT_get (h : conT P t = true) : ∃ d, P.underlying t = some d ∧ ∀ ms, d ≠ .interface ms := by
  unfold conT at h
  cases hu : P.underlying t with
  | none => rw [hu] at h; cases h
  | some d => rw [hu] at h; exact ⟨d, rfl, fun ms e => by subst e; cases h⟩
theorem opv_mkI {x : Operand} {ty : TypeId} {v : Value} (hc : P.concrete t = true) (hx : look L x = some v) : OpV P (.makeInterface t x) ty L w (.iface t v) w := fun ρ o hρ ho _ => by
  have := run_makeInterface (P := P) w t v hc
  simp [execOp, ho, hρ x _ hx, this]
theorem opv_asT {x : Operand} {ty xT : TypeId} {v : Value} (hc : conT P t = true) (hx : look L x = some (.iface t v)) : OpV P (.typeAssert x xT t true) ty L w (.tuple #[v, .bool true]) w := fun ρ o hρ ho _ => by
  obtain ⟨d, hu, hne⟩ := conT_get hc
  cases d <;> first | exact absurd rfl (hne _) | simp [execOp, ho, hρ x _ hx, Instr.typeAssert, run_underlying hu]
theorem opv_asV {x : Operand} {ty xT : TypeId} {v : Value} (hc : conT P t = true) (hx : look L x = some (.iface t v)) : OpV P (.typeAssert x xT t false) ty L w v w := fun ρ o hρ ho _ => by
  obtain ⟨d, hu, hne⟩ := conT_get hc
  cases d <;> first | exact absurd rfl (hne _) | simp [execOp, ho, hρ x _ hx, Instr.typeAssert, run_underlying hu]
theorem opv_asF {x : Operand} {ty xT u : TypeId} {v z : Value} (hc : conT P t = true) (hz : (P.info? t).map (·.zero) = some (some z)) (hx : look L x = some (.iface u v)) (hn : (u == t) = false) : OpV P (.typeAssert x xT t true) ty L w (.tuple #[z, .bool false]) w := fun ρ o hρ ho _ => by
  obtain ⟨d, hu, hne⟩ := conT_get hc
  have hn' : ¬ u = t := by simpa using hn
  cases hq : P.info? t with
  | none => simp [hq] at hz
  | some i =>
    have hi : i.zero = some z := by simpa [hq] using hz
    cases d <;> first | exact absurd rfl (hne _) | simp [execOp, ho, hρ x _ hx, Instr.typeAssert, run_underlying hu, hn', zeroValue, typeInfo, hq, hi]
theorem opv_asN {x : Operand} {ty xT : TypeId} {z : Value} (hc : conT P t = true) (hz : (P.info? t).map (·.zero) = some (some z)) (hx : look L x = some .nilIface) : OpV P (.typeAssert x xT t true) ty L w (.tuple #[z, .bool false]) w := fun ρ o hρ ho _ => by
  obtain ⟨d, hu, hne⟩ := conT_get hc
  cases hq : P.info? t with
  | none => simp [hq] at hz
  | some i =>
    have hi : i.zero = some z := by simpa [hq] using hz
    cases d <;> first | exact absurd rfl (hne _) | simp [execOp, ho, hρ x _ hx, Instr.typeAssert, run_underlying hu, zeroValue, typeInfo, hq, hi]
theorem bin_eqlIN {u : TypeId} {v : Value} (h : P.isIface t = true) : BinV P .eql t (.iface u v) .nilIface (.bool false) := .mk fun x y w => by
  simp [eqGuard, run_eql_iface_nil (P := P) w t h u v]
theorem bin_eqlNN (h : P.underlying t = some (.interface #[])) : BinV P .eql t .nilIface .nilIface (.bool true) := .mk fun x y w => by
  have hi : P.isIface t = true := by unfold Program.isIface; rw [h]
  have h9 : ∀ d : Nat, (Op.eqGuardIn (d + 1) t .nilIface .nilIface).run P w = .ok false w := fun d => by simp [Op.eqGuardIn, run_underlying h]
  have hg : (eqGuard .eql t x y .nilIface .nilIface).run P w = .ok () w := by
    cases x <;> cases y <;> simp [eqGuard, Op.maxDepth, h9 9999]
  rw [Sem.run_bind, hg]
  exact run_eql_nil_nil_at (P := P) w t hi
end
end Go.Proofs.Ytpnckagibkdcpaa


/-
  Rows whose elements have several cells, and whose cells may lead on to other rows: read, and held in rows of the call's own; the rules to index, load, write out, append and cut them. Nothing here names the program.
-/
namespace Go.Proofs.Ytpnckagibkdcpaa
open Go.RowKit

/-- What some cells hold, as far as the blocks of a set tell it. -/
structure El where
  P : World → (Nat → Prop) → List Value → Prop
  move : ∀ {w w' : World} {S S' : Nat → Prop} {cs : List Value}, P w S cs → w.heap.size ≤ w'.heap.size → (∀ b, b < w.heap.size → S b → S' b ∧ w'.heap[b]? = w.heap[b]?) → P w' S' cs
/-- All blocks. -/
def All : Nat → Prop := fun _ => True
/-- All blocks but that of an address. -/
def But (A : Option Addr) : Nat → Prop := fun b => ∀ a, A = some a → b ≠ a.block
section
variable {w w' : World} {S S' : Nat → Prop} {cs : List Value} {E : El}
theorem El.mono (h : E.P w S cs) (hs : ∀ b, b < w.heap.size → S b → S' b) : E.P w S' cs := E.move h (Nat.le_refl _) fun b hb h => ⟨hs b hb h, rfl⟩
theorem El.all (h : E.P w S cs) : E.P w All cs := El.mono h fun _ _ _ => trivial
theorem El.below (h : E.P w S cs) (hb : Below w.heap.size w w') : E.P w' S cs := E.move h hb.size fun b hlt h => ⟨h, hb.block b hlt⟩
theorem El.belowI {B : Nat} (h : E.P w S cs) (hb : Below B w w') (hs : ∀ b, b < w.heap.size → S b → b < B) : E.P w' S cs := E.move h hb.size fun b hlt h => ⟨h, hb.block b (hs b hlt h)⟩
theorem El.gr {A : Option Addr} (h : E.P w S cs) (g : Gr w w' A) (hs : ∀ b, b < w.heap.size → S b → But A b) : E.P w' S cs := E.move h g.size fun b hlt h => ⟨h, g.block b hlt fun hk => by
  cases A with
  | none => simp at hk
  | some a => simp at hk; exact hs b hlt h a rfl hk⟩
end
/-- A cell that holds just this. -/
def vEl (u : Value) : El where
  P _ _ cs := cs = [u]
  move h _ _ := h
/-- A cell that holds bytes. -/
def byEl (xs : List UInt8) : El where
  P w S cs := ∃ (A : Option Addr) (c : Nat), cs = [.slice A xs.length c] ∧ xs.length ≤ c ∧ Rd w A xs.length (bvs xs) ∧ (∀ a, A = some a → 0 < xs.length → S a.block)
  move := by
    rintro w w' S S' cs ⟨A, c, rfl, hc, hr, hs⟩ hz h
    refine ⟨A, c, rfl, hc, ⟨hr.1, fun hn => ?_⟩, fun a ha hn => ?_⟩
    · obtain ⟨b, o, rfl, hb, hcell⟩ := hr.2 hn
      exact ⟨b, o, rfl, by omega, fun j u hu => (World.cell?_of_block (a := ⟨b, o + j, none⟩) (h b hb (hs _ rfl hn)).2).trans (hcell j u hu)⟩
    · obtain ⟨b, o, rfl, hb, _⟩ := hr.2 hn
      cases ha
      exact (h b hb (hs _ rfl hn)).1
theorem byEl.mk {w : World} {A : Option Addr} {c : Nat} {xs : List UInt8} {S : Nat → Prop} (hr : Rd w A xs.length (bvs xs)) (hc : xs.length ≤ c) (hs : ∀ a, A = some a → 0 < xs.length → S a.block) : (byEl xs).P w S [.slice A xs.length c] := ⟨A, c, rfl, hc, hr, hs⟩

/-- Groups of k cells hold the elements. -/
def Grp (k : Nat) (w : World) (S : Nat → Prop) (els : List El) (css : List (List Value)) : Prop :=
  css.length = els.length ∧ ∀ (i : Nat) cs, css[i]? = some cs → cs.length = k ∧ ∃ E, els[i]? = some E ∧ E.P w S cs
section
variable {k : Nat} {w w' : World} {S S' : Nat → Prop} {els : List El} {css : List (List Value)}
theorem Grp.move (h : Grp k w S els css) (hz : w.heap.size ≤ w'.heap.size) (hm : ∀ b, b < w.heap.size → S b → S' b ∧ w'.heap[b]? = w.heap[b]?) : Grp k w' S' els css :=
  ⟨h.1, fun i cs hi => by obtain ⟨h1, E, h2, h3⟩ := h.2 i cs hi; exact ⟨h1, E, h2, E.move h3 hz hm⟩⟩
theorem Grp.mono (h : Grp k w S els css) (hs : ∀ b, b < w.heap.size → S b → S' b) : Grp k w S' els css := h.move (Nat.le_refl _) fun b hb h => ⟨hs b hb h, rfl⟩
theorem Grp.all (h : Grp k w S els css) : Grp k w All els css := h.mono fun _ _ _ => trivial
theorem Grp.below (h : Grp k w S els css) (hb : Below w.heap.size w w') : Grp k w' S els css := h.move hb.size fun b hlt h => ⟨h, hb.block b hlt⟩
theorem Grp.gr {A : Option Addr} (h : Grp k w S els css) (g : Gr w w' A) (hs : ∀ b, b < w.heap.size → S b → But A b) : Grp k w' S els css := h.move g.size fun b hlt h => ⟨h, g.block b hlt fun hk => by
  cases A with
  | none => simp at hk
  | some a => simp at hk; exact hs b hlt h a rfl hk⟩
theorem Grp.len (h : Grp k w S els css) : css.flatten.length = els.length * k := by
  rw [← h.1]
  have h2 : ∀ cs ∈ css, cs.length = k := fun cs hc => by obtain ⟨i, hi, rfl⟩ := List.getElem_of_mem hc; exact (h.2 i _ (List.getElem?_eq_getElem hi)).1
  clear h
  induction css with
  | nil => simp
  | cons x css ih =>
    simp only [List.flatten_cons, List.length_append, List.length_cons, ih fun cs hc => h2 cs (List.mem_cons_of_mem _ hc), h2 x List.mem_cons_self]
    rw [Nat.add_mul]; omega
theorem Grp.nil (k : Nat) (w : World) (S : Nat → Prop) : Grp k w S [] [] := ⟨rfl, by simp⟩
theorem Grp.append {els' : List El} {css' : List (List Value)} (h : Grp k w S els css) (h' : Grp k w S els' css') : Grp k w S (els ++ els') (css ++ css') := by
  refine ⟨by simp [h.1, h'.1], fun i cs hi => ?_⟩
  rw [List.getElem?_append] at hi ⊢
  rw [← h.1]
  split at hi
  · rename_i hlt
    rw [if_pos hlt]; exact h.2 i cs hi
  · rename_i hlt
    rw [if_neg hlt]; exact h'.2 _ cs hi
theorem Grp.one {cs : List Value} {E : El} (h : E.P w S cs) (hk : cs.length = k) : Grp k w S [E] [cs] := by
  refine ⟨rfl, fun i cs' hi => ?_⟩
  match i, hi with
  | 0, hi => simp at hi; subst hi; exact ⟨hk, E, rfl, h⟩
theorem Grp.take (h : Grp k w S els css) (n : Nat) : Grp k w S (els.take n) (css.take n) := by
  refine ⟨by simp [h.1], fun i cs hi => ?_⟩
  rw [List.getElem?_take] at hi ⊢
  split at hi
  · rename_i hlt; rw [if_pos hlt]; exact h.2 i cs hi
  · cases hi
theorem Grp.drop (h : Grp k w S els css) (n : Nat) : Grp k w S (els.drop n) (css.drop n) := by
  refine ⟨by simp [h.1], fun i cs hi => ?_⟩
  rw [List.getElem?_drop] at hi ⊢
  exact h.2 _ cs hi
theorem Grp.at (h : Grp k w S els css) {i : Nat} {E : El} (hi : els[i]? = some E) : ∃ cs, css[i]? = some cs ∧ cs.length = k ∧ E.P w S cs := by
  have hlt : i < css.length := by rw [h.1]; exact (List.getElem?_eq_some_iff.1 hi).1
  obtain ⟨h1, E', h2, h3⟩ := h.2 i _ (List.getElem?_eq_getElem hlt)
  rw [hi] at h2; cases h2
  exact ⟨_, List.getElem?_eq_getElem hlt, h1, h3⟩
theorem flat_get : ∀ {css : List (List Value)} {i j : Nat} {cs : List Value} {u : Value}, (∀ cs ∈ css, cs.length = k) → css[i]? = some cs → cs[j]? = some u → css.flatten[i * k + j]? = some u
  | [], i, j, cs, u, _, hi, _ => by simp at hi
  | x :: css, 0, j, cs, u, hk, hi, hj => by
    simp at hi; subst hi
    have hl := (List.getElem?_eq_some_iff.1 hj).1
    rw [List.flatten_cons, Nat.zero_mul, Nat.zero_add, List.getElem?_append_left hl]; exact hj
  | x :: css, i + 1, j, cs, u, hk, hi, hj => by
    have hx := hk x List.mem_cons_self
    rw [List.flatten_cons, List.getElem?_append_right (by rw [hx, Nat.add_mul]; omega), hx, show (i + 1) * k + j - k = i * k + j by rw [Nat.add_mul]; omega]
    exact flat_get (fun cs hc => hk cs (List.mem_cons_of_mem _ hc)) (by simpa using hi) hj
theorem Grp.ks (h : Grp k w S els css) : ∀ cs ∈ css, cs.length = k := fun cs hc => by obtain ⟨i, hi, rfl⟩ := List.getElem_of_mem hc; exact (h.2 i _ (List.getElem?_eq_getElem hi)).1
theorem flat_take (n : Nat) : ∀ {css : List (List Value)}, (∀ cs ∈ css, cs.length = k) → css.flatten.take (n * k) = (css.take n).flatten := by
  induction n with
  | zero => intro css _; simp
  | succ n ih =>
    intro css hk
    cases css with
    | nil => simp
    | cons x css =>
      have hx := hk x List.mem_cons_self
      rw [List.flatten_cons, List.take_succ_cons, List.flatten_cons, List.take_append, hx, List.take_of_length_le (by rw [hx, Nat.add_mul]; omega), show (n + 1) * k - k = n * k by rw [Nat.add_mul]; omega, ih fun cs hc => hk cs (List.mem_cons_of_mem _ hc)]
theorem flat_drop (n : Nat) : ∀ {css : List (List Value)}, (∀ cs ∈ css, cs.length = k) → css.flatten.drop (n * k) = (css.drop n).flatten := by
  induction n with
  | zero => intro css _; simp
  | succ n ih =>
    intro css hk
    cases css with
    | nil => simp
    | cons x css =>
      have hx := hk x List.mem_cons_self
      rw [List.flatten_cons, List.drop_succ_cons, List.drop_append, hx, List.drop_of_length_le (by rw [hx, Nat.add_mul]; omega), show (n + 1) * k - k = n * k by rw [Nat.add_mul]; omega, ih fun cs hc => hk cs (List.mem_cons_of_mem _ hc)]
      simp
end

/-- The slice at A reads as these elements, of k cells each. -/
def RdR (k : Nat) (w : World) (S : Nat → Prop) (A : Option Addr) (els : List El) : Prop :=
  ∃ css, Grp k w S els css ∧ Rd w A (els.length * k) css.flatten ∧ (∀ a, A = some a → 0 < els.length → S a.block)
/-- It is a row of the call's own, the elements' own memory lying in blocks of S and in other blocks than the row. -/
def OwR (k : Nat) (e : TypeId) (w : World) (base : Nat) (S : Nat → Prop) (A : Option Addr) (c : Nat) (els : List El) : Prop :=
  ∃ css, Grp k w (fun b => S b ∧ But A b) els css ∧ w.ownsRow base e k (.slice A els.length c) els.length css.flatten
/-- The cells from offset o of block b on. -/
def Wi (w : World) (b o : Nat) (cs : List Value) : Prop := b < w.heap.size ∧ w.rangeAt b o cs
section
variable {k : Nat} {w w' : World} {S S' : Nat → Prop} {els : List El} {A : Option Addr} {e : TypeId} {base c : Nat}
theorem Wi.below {b o : Nat} {cs : List Value} (h : Wi w b o cs) (hb : Below w.heap.size w w') : Wi w' b o cs := ⟨Nat.lt_of_lt_of_le h.1 hb.size, fun j u hu => (World.cell?_of_block (a := ⟨b, o + j, none⟩) (hb.block b h.1)).trans (h.2 j u hu)⟩
theorem Wi.gr {b o : Nat} {cs : List Value} (h : Wi w b o cs) (g : Gr w w' A) (hne : But A b) : Wi w' b o cs := ⟨Nat.lt_of_lt_of_le h.1 g.size, fun j u hu => (World.cell?_of_block (a := ⟨b, o + j, none⟩) (g.block b h.1 fun hk => by
  cases A with
  | none => simp at hk
  | some a => simp at hk; exact hne a rfl hk)).trans (h.2 j u hu)⟩
theorem Rd.sizes {n : Nat} {xs : List Value} (h : Rd w A n xs) (hz : w.heap.size ≤ w'.heap.size) (hm : ∀ a, A = some a → 0 < n → a.block < w.heap.size → w'.heap[a.block]? = w.heap[a.block]?) : Rd w' A n xs := ⟨h.1, fun hn => by
  obtain ⟨b, o, rfl, hb, hc⟩ := h.2 hn
  exact ⟨b, o, rfl, by omega, fun j u hu => (World.cell?_of_block (a := ⟨b, o + j, none⟩) (hm ⟨b, o, none⟩ rfl hn hb)).trans (hc j u hu)⟩⟩
theorem RdR.move (hk : 0 < k) (h : RdR k w S A els) (hz : w.heap.size ≤ w'.heap.size) (hm : ∀ b, b < w.heap.size → S b → S' b ∧ w'.heap[b]? = w.heap[b]?) : RdR k w' S' A els := by
  obtain ⟨css, h1, h2, h3⟩ := h
  have hpos : 0 < els.length → 0 < els.length * k := fun hn => Nat.mul_pos hn hk
  refine ⟨css, h1.move hz hm, h2.sizes hz fun a ha hn hb => (hm _ hb (h3 a ha ?_)).2, fun a ha hn => ?_⟩
  · rcases Nat.eq_zero_or_pos els.length with h0 | h0
    · rw [h0] at hn; simp at hn
    · exact h0
  · obtain ⟨b, o, rfl, hb, _⟩ := h2.2 (hpos hn)
    cases ha
    exact (hm b hb (h3 _ rfl hn)).1
theorem RdR.below (h : RdR k w S A els) (hb : Below w.heap.size w w') : RdR k w' S A els := by
  obtain ⟨css, h1, h2, h3⟩ := h
  exact ⟨css, h1.below hb, h2.below hb, h3⟩
theorem RdR.all (h : RdR k w S A els) : RdR k w All A els := by
  obtain ⟨css, h1, h2, h3⟩ := h
  exact ⟨css, h1.all, h2, fun _ _ _ => trivial⟩
theorem RdR.nil (A : Option Addr) : RdR k w S A [] := ⟨[], Grp.nil _ _ _, by simpa using Rd.nil w A, fun _ _ h => absurd h (by simp)⟩
theorem RdR.at (hk : 0 < k) (h : RdR k w S A els) {i : Nat} {E : El} (hi : els[i]? = some E) : ∃ b o cs, A = some ⟨b, o, none⟩ ∧ S b ∧ cs.length = k ∧ E.P w S cs ∧ Wi w b (o + i * k) cs := by
  obtain ⟨css, h1, h2, h3⟩ := h
  have hlt := (List.getElem?_eq_some_iff.1 hi).1
  have hn : 0 < els.length := by omega
  obtain ⟨b, o, rfl, hb, hc⟩ := h2.2 (Nat.mul_pos hn hk)
  obtain ⟨cs, hcs, hl, hp⟩ := h1.at hi
  exact ⟨b, o, cs, rfl, h3 _ rfl hn, hl, hp, hb, fun j u hu => by rw [Nat.add_assoc]; exact hc _ u (flat_get h1.ks hcs hu)⟩
/-- The address of the part of a slice from l on. -/
def cutK (A : Option Addr) (c l k : Nat) : Option Addr := if c = l then A else A.map (·.add (l * k))
theorem RdR.cut {n l h : Nat} (hr : RdR k w S A els) (hn : els.length = n) (h1 : l ≤ h) (h2 : h ≤ n) (hc : n ≤ c) : RdR k w S (cutK A c l k) ((els.take h).drop l) := by
  subst hn
  obtain ⟨css, g1, g2, g3⟩ := hr
  have hle : h ≤ css.length := by rw [g1.1]; exact h2
  refine ⟨(css.take h).drop l, (g1.take h).drop l, ⟨?_, fun hp => ?_⟩, fun a ha hp => ?_⟩
  · rw [((g1.take h).drop l).len]
  · have hlt : l < h := by
      rcases Nat.lt_or_ge l h with h' | h'
      · exact h'
      · exfalso
        have : ((els.take h).drop l).length = 0 := by simp; omega
        rw [this] at hp; simp at hp
    have hk : 0 < k := by
      rcases Nat.eq_zero_or_pos k with h0 | h0
      · rw [h0] at hp; simp at hp
      · exact h0
    obtain ⟨b, o, rfl, hb, hcell⟩ := g2.2 (Nat.mul_pos (by omega) hk)
    have hne : ¬ c = l := by omega
    refine ⟨b, o + l * k, by simp [cutK, hne, Addr.add_lit], hb, fun j u hu => ?_⟩
    rw [← flat_drop l (fun cs hcs => g1.ks cs (List.mem_of_mem_take hcs)), ← flat_take h g1.ks, List.getElem?_drop, List.getElem?_take] at hu
    split at hu
    · rw [Nat.add_assoc]; exact hcell _ u hu
    · cases hu
  · have hlt : l < h := by simp at hp; omega
    have hne : ¬ c = l := by omega
    unfold cutK at ha
    rw [if_neg hne] at ha
    cases A with
    | none => simp at ha
    | some a0 =>
      have : a.block = a0.block := by
        simp only [Option.map_some, Option.some.injEq] at ha
        rw [← ha]; unfold Addr.add; split <;> rfl
      rw [this]
      exact g3 a0 rfl (by omega)
theorem OwR.len_le (h : OwR k e w base S A c els) : els.length ≤ c := by
  obtain ⟨css, _, h2⟩ := h
  rcases h2.2 with ⟨hv, hn⟩ | ⟨g, cap, cur, hv, _, _, hnc, _⟩
  · omega
  · injection hv with _ _ hc; omega
theorem OwR.lt (h : OwR k e w base S A c els) : ∀ a, A = some a → base ≤ a.block ∧ a.block < w.heap.size := fun a ha => by
  obtain ⟨css, _, h2⟩ := h
  exact World.ownsRow.lt h2 a.block (by rw [ha]; rfl)
theorem own_rd {n : Nat} {xs : List Value} (h : w.ownsRow base e k (.slice A n c) n xs) : Rd w A (n * k) xs := by
  refine ⟨h.1, fun hn => ?_⟩
  rcases h.2 with ⟨hv, h0⟩ | ⟨g, cap, cur, hv, _, hg, _⟩
  · rw [h0] at hn; simp at hn
  · injection hv with hA hn' hc
    subst hA
    have hcells := World.ownsRow.cells h (g := g) rfl
    exact ⟨g, 0, rfl, (Array.getElem?_eq_some_iff.1 hg).1, fun j u hu => by have := hcells j u hu; simpa [Addr.add_lit] using this⟩
theorem OwR.rd (h : OwR k e w base S A c els) : RdR k w All A els := by
  obtain ⟨css, h1, h2⟩ := h
  exact ⟨css, h1.all, own_rd h2, fun _ _ _ => trivial⟩
theorem OwR.rdS (h : OwR k e w base S A c els) (hs : ∀ b, base ≤ b → S b) : RdR k w S A els := by
  have hl := OwR.lt h
  obtain ⟨css, h1, h2⟩ := h
  exact ⟨css, h1.mono fun b _ hb => hb.1, own_rd h2, fun a ha _ => hs _ (hl a ha).1⟩
theorem OwR.below (h : OwR k e w base S A c els) (hb : Below w.heap.size w w') : OwR k e w' base S A c els := by
  have hl := OwR.lt h
  obtain ⟨css, h1, h2⟩ := h
  refine ⟨css, h1.below hb, World.ownsRow.kept (row := none) h2 ⟨hb.os, hb.tape, hb.output, hb.size, fun k hk _ => hb.block k hk⟩ ?_⟩
  cases A with
  | none => exact .inl rfl
  | some a => exact .inr (by simp [Value.ownBlock])
theorem OwR.gr {B : Option Addr} (h : OwR k e w base S A c els) (g : Gr w w' B) (hs : ∀ b, b < w.heap.size → S b → But A b → But B b) (hA : ∀ a, A = some a → But B a.block) : OwR k e w' base S A c els := by
  obtain ⟨css, h1, h2⟩ := h
  refine ⟨css, h1.gr g fun b hb h => hs b hb h.1 h.2, World.ownsRow.kept h2 g ?_⟩
  cases A with
  | none => exact .inl rfl
  | some a =>
    refine .inr ?_
    cases B with
    | none => simp [Value.ownBlock]
    | some b => simpa [Value.ownBlock] using hA a rfl b rfl
theorem OwR.mono {base' : Nat} (h : OwR k e w base S A c els) (hb : base' ≤ base) (hs : ∀ b, b < w.heap.size → S b → S' b) : OwR k e w base' S' A c els := by
  obtain ⟨css, h1, h2⟩ := h
  refine ⟨css, h1.mono fun b hl h => ⟨hs b hl h.1, h.2⟩, h2.1, ?_⟩
  rcases h2.2 with hn | ⟨g, cap, cur, hv, hg, rest⟩
  · exact .inl hn
  · exact .inr ⟨g, cap, cur, hv, Nat.le_trans hb hg, rest⟩
theorem OwR.nil (w : World) (base : Nat) (S : Nat → Prop) : OwR k e w base S none 0 [] := ⟨[], Grp.nil _ _ _, World.ownsRow_nil w base e k⟩
theorem OwR.nilc (h : w.ownsRow base e k (.slice A 0 c) 0 []) : OwR k e w base S A c [] := ⟨[], Grp.nil _ _ _, h⟩
end

/-- A slice type whose elements have k cells. -/
structure RowK (P : Program) (t e : TypeId) (k : Nat) (z : Value) (bytes : Nat) : Prop where
  sl : P.underlying t = some (.slice e)
  info : (P.info? e).map (fun i => (i.zero, i.size, i.bytes)) = some (some z, k, bytes)
  zs : z.cells.size = k
  pos : 0 < k
section
variable {P : Program} {N : Nat} {ops : Array Oper} {Q : Exit → Act → World → Prop} {rest : List Oper} {L : FL} {w : World} {t e : TypeId} {z : Value} {bytes k : Nat}
theorem RowK.size (T : RowK P t e k z bytes) (w : World) : (sizeOf e).run P w = .ok k w := by
  obtain ⟨i, hi, _, hs, _⟩ := info_parts T.info
  simp [sizeOf, typeInfo, hi, hs]
theorem RowK.zero (T : RowK P t e k z bytes) (w : World) : (zeroValue e).run P w = .ok z w := by
  obtain ⟨i, hi, hz, _, _⟩ := info_parts T.info
  simp [zeroValue, typeInfo, hi, hz]
theorem opv_idxG {x i : Operand} {ty : TypeId} {b o : Nat} {n c kk : Nat} {ik : IntKind} {q : Int} (T : RowK P t e k z bytes) (hx : look L x = some (.slice (some ⟨b, o, none⟩) n c)) (hi : look L i = some (.int ik q)) (hq : q = (kk : Int)) (hk : kk < n) :
    OpV P (.indexAddr t x i) ty L w (.pointer (some ⟨b, o + kk * k, none⟩)) w := fun ρ op hρ ho _ => by
  subst hq
  simp [execOp, ho, Instr.indexAt, asIntOf, hρ x _ hx, hρ i _ hi, run_underlying T.sl, hk, T.size, Addr.add_lit]
/-- A whole element, of several cells. -/
theorem opv_ldG {x : Operand} {ty : TypeId} {b o : Nat} {cs : List Value} (hx : look L x = some (.pointer (some ⟨b, o, none⟩))) (hr : Wi w b o cs) (S : StT P e cs.length) : OpV P (.load e x) ty L w (.agg cs.toArray) w := fun ρ op hρ ho _ => by
  obtain ⟨fs, hu⟩ := S.get
  have := run_loadVar_mid (P := P) w b o e cs _ hr.2 hu rfl S.size
  simp [execOp, ho, Instr.loadAt, Instr.sureAddr, hρ x _ hx, this]
/-- One of its cells. -/
theorem opv_ldW {x : Operand} {ty : TypeId} {b o j : Nat} {cs : List Value} {u : Value} (hx : look L x = some (.pointer (some ⟨b, o + j, none⟩))) (hr : Wi w b o cs) (E : Cell1 P e) (hj : cs[j]? = some u) : OpV P (.load e x) ty L w u w :=
  opv_loadC E hx (hr.2 j u hj)
theorem opv_ldW0 {x : Operand} {ty : TypeId} {b o : Nat} {cs : List Value} {u : Value} (hx : look L x = some (.pointer (some ⟨b, o, none⟩))) (hr : Wi w b o cs) (E : Cell1 P e) (hj : cs[0]? = some u) : OpV P (.load e x) ty L w u w :=
  opv_loadC E hx (hr.2 0 u hj)
theorem opv_sliceK {x : Operand} {lo hi : Option Operand} {ty : TypeId} {A : Option Addr} {n c l h : Nat} (T : RowK P t e k z bytes) (hx : look L x = some (.slice A n c)) (hl : SLo L lo l) (hh : SHi L n hi h) (h1 : l ≤ h) (h2 : h ≤ c) :
    OpV P (.slice t x lo hi none) ty L w (.slice (cutK A c l k) (h - l) (c - l)) w := fun ρ o hρ ho _ => by
  have e1 : (Instr.sliceBounds true n c (lo.map ρ) (hi.map ρ) none).run P w = .ok (l, h, c) w := by
    cases lo with
    | none =>
      cases hi with
      | none => have a := hl; have b := hh; simp only [SLo, SHi] at a b; subst a b; simp [Instr.sliceBounds]
      | some y =>
        have a := hl; obtain ⟨k, b⟩ := hh; simp only [SLo] at a; subst a
        simp [Instr.sliceBounds, Instr.sliceBound, hρ y _ b, asIntOf, h2]
    | some u =>
      obtain ⟨k, a⟩ := hl
      cases hi with
      | none => have b := hh; simp only [SHi] at b; subst b; simp [Instr.sliceBounds, Instr.sliceBound, hρ u _ a, asIntOf, h1]
      | some y =>
        obtain ⟨k', b⟩ := hh
        simp [Instr.sliceBounds, Instr.sliceBound, hρ u _ a, hρ y _ b, asIntOf, h1, h2]
  unfold execOp
  simp only [ho, Instr.sliceAt, Instr.slice, Sem.run_bind, run_underlying T.sl, Result.andThen_ok, hρ x _ hx, Option.map_none, e1, T.size]
  simp [cutK]
theorem wl_slK {d : Nat} {x : Operand} {lo hi : Option Operand} {ty : TypeId} {pos : String} {aft : Array Edge} {A : Option Addr} {n c l h : Nat} (T : RowK P t e k z bytes) (hx : look L x = some (.slice A n c)) (hl : SLo L lo l) (hh : SHi L n hi h) (h1 : l ≤ h) (h2 : h ≤ c)
    (hd : Nat.blt d N = true) (hK : WL P N ops Q rest ((d, .slice (cutK A c l k) (h - l) (c - l)) :: L) w) :
    WL P N ops Q (⟨some d, .slice t x lo hi none, ty, pos, aft, none⟩ :: rest) L w :=
  wl_val (opv_sliceK T hx hl hh h1 h2) hd hK

/-- The parts of a slice that a statement writes out, each of k cells. -/
def GLooks (L : FL) (k : Nat) : Nat → List (Nat × Operand) → List (List Value) → Prop
  | _, [], [] => True
  | j, (i, x) :: ps, cs :: css => i = j ∧ (∃ v, look L x = some v ∧ v.cells = cs.toArray) ∧ cs.length = k ∧ GLooks L k (j + 1) ps css
  | _, _, _ => False
theorem put_at (cs : List Value) : ∀ (off : Nat) (cur : Array Value), off + cs.length ≤ cur.size →
    ((cs.toArray.zipIdx.foldl (fun cs (x : Value × Nat) => cs.setIfInBounds (off + x.2) x.1) cur)).toList = cur.toList.take off ++ cs ++ cur.toList.drop (off + cs.length) := by
  intro off cur h
  have key : ∀ (cs : List Value) (j : Nat) (cur : Array Value), off + j + cs.length ≤ cur.size →
      (((cs.zipIdx j).foldl (fun cs (x : Value × Nat) => cs.setIfInBounds (off + x.2) x.1) cur)).toList = cur.toList.take (off + j) ++ cs ++ cur.toList.drop (off + j + cs.length) := by
    intro cs
    induction cs with
    | nil => intro j cur h; simp
    | cons x cs ih =>
      intro j cur h
      simp only [List.length_cons] at h
      rw [List.zipIdx_cons, List.foldl_cons, ih (j + 1) _ (by simp; omega)]
      rw [Array.toList_setIfInBounds]
      apply List.ext_getElem?
      intro i
      have m1 : min (off + (j + 1)) cur.size = off + (j + 1) := by omega
      have m2 : min (off + j) cur.size = off + j := by omega
      simp only [List.getElem?_append, List.length_append, List.length_take, List.length_set, List.getElem?_take, List.getElem?_set, List.getElem?_drop, List.length_cons, Array.length_toList, m1, m2]
      rcases Nat.lt_trichotomy i (off + j) with hi | hi | hi
      · have e1 : i < off + (j + 1) := by omega
        have e2 : i < off + (j + 1) + cs.length := by omega
        have e3 : i < off + j + (cs.length + 1) := by omega
        have e4 : ¬ off + j = i := by omega
        simp [hi, e1, e2, e3, e4]
      · subst hi
        have e1 : off + j < off + (j + 1) := by omega
        have e2 : off + j < off + (j + 1) + cs.length := by omega
        have e5 : off + j < cur.size := by omega
        simp [e1, e2, e5]
      · have e1 : ¬ i < off + (j + 1) := by omega
        have e2 : ¬ i < off + j := by omega
        have e6 : i - (off + j) = (i - (off + (j + 1))) + 1 := by omega
        by_cases e7 : i < off + (j + 1) + cs.length
        · have e8 : i < off + j + (cs.length + 1) := by omega
          rw [if_pos e7, if_neg e1, if_pos e8, if_neg e2, e6]; simp
        · have e8 : ¬ i < off + j + (cs.length + 1) := by omega
          have e9 : off + (j + 1) + cs.length + (i - (off + (j + 1) + cs.length)) = i := by omega
          have e10 : off + j + (cs.length + 1) + (i - (off + j + (cs.length + 1))) = i := by omega
          rw [if_neg e7, if_neg e8, e9, e10]
          rw [if_neg (by omega)]
  have := key cs 0 cur (by omega)
  rw [← Array.foldl_toList, Array.toList_zipIdx]
  simpa using this
theorem GLooks.fill {ρ : Operand → Value} (hρ : ∀ x u, look L x = some u → ρ x = u) : ∀ {ps : List (Nat × Operand)} {css : List (List Value)} {j : Nat} (cur : Array Value), GLooks L k j ps css → (j + css.length) * k = cur.size →
    Instr.fill (fun i => some (i * k, k)) cur (ps.map fun p => (p.1, ρ p.2)) = some (cur.toList.take (j * k) ++ css.flatten).toArray
  | [], [], j, cur, _, hk => by
    simp only [List.map_nil, Instr.fill, List.flatten_nil, List.append_nil]
    rw [List.take_of_length_le (by simp at hk ⊢; omega)]
  | (i, x) :: ps, cs :: css, j, cur, h, hk => by
    obtain ⟨rfl, ⟨v, hx, hv⟩, h1, h2⟩ := h
    simp only [List.length_cons] at hk
    have e1 : (i + (css.length + 1)) * k = i * k + k + css.length * k := by rw [Nat.add_mul, Nat.add_mul]; omega
    simp only [List.map_cons, Instr.fill, hρ x v hx, hv]
    have hcond : ¬ (cs.toArray.size ≠ k ∨ i * k + cs.toArray.size > cur.size) := by simp [h1]; omega
    have hbool : ((cs.toArray.size ≠ k) || decide (i * k + cs.toArray.size > cur.size)) = false := by simp [h1]; omega
    rw [if_neg (by simpa using hcond)]
    have hput := put_at cs (i * k) cur (by omega)
    have hsz : (cs.toArray.zipIdx.foldl (fun cs (x : Value × Nat) => cs.setIfInBounds (i * k + x.2) x.1) cur).size = cur.size := by
      rw [← Array.length_toList, hput]
      simp; omega
    rw [GLooks.fill hρ _ h2 (by rw [hsz, ← hk]; congr 1; omega), hput]
    congr 2
    rw [List.flatten_cons]
    have : (cur.toList.take (i * k) ++ cs ++ cur.toList.drop (i * k + cs.length)).take ((i + 1) * k) = cur.toList.take (i * k) ++ cs := by
      rw [List.take_append_of_le_length (by simp [h1, Nat.add_mul]; omega), List.take_of_length_le (by simp [h1, Nat.add_mul]; omega)]
    rw [this, List.append_assoc]
  | [], _ :: _, _, _, h, _ => h.elim
  | _ :: _, [], _, _, h, _ => h.elim

theorem opv_bsG {len : Nat} {ps : List (Nat × Operand)} {css : List (List Value)} {ty : TypeId} (T : RowK P t e k z bytes) (hp : GLooks L k 0 ps css) (hl : css.length = len) (hle : len * k ≤ 16777216) (h0 : 0 < len) :
    OpV P (.buildSlice t len ps.toArray) ty L w (.slice (some ⟨w.heap.size, 0, none⟩) len len) (w.alloc (.cells css.flatten.toArray e)) := fun ρ o hρ ho _ => by
  have hne : ¬ len * k = 0 := by have := Nat.mul_pos h0 T.pos; omega
  have hf := GLooks.fill hρ ((Array.range (len * k)).map fun i => z.cells[i % z.cells.size]!) hp (by simp [hl])
  simp only [Nat.zero_mul, List.take_zero, List.nil_append] at hf
  have hmap : (Array.map (fun (x : Nat × Operand) => (x.1, ρ x.2)) ps.toArray).toList = ps.map fun p => (p.1, ρ p.2) := by simp
  unfold execOp
  simp only [ho, Instr.buildSlice, Sem.run_bind, run_underlying T.sl, Result.andThen_ok, T.size]
  have h24 : ¬ (len * k > 2 ^ 24) := by omega
  rw [if_neg h24]
  simp only [hne, if_false, Sem.run_bind, Sem.run_pure, Result.andThen_ok, T.zero]
  rw [hmap, hf]
  simp [newRow]
theorem GLooks.ks : ∀ {ps : List (Nat × Operand)} {css : List (List Value)} {j : Nat}, GLooks L k j ps css → css.flatten.length = css.length * k
  | [], [], _, _ => by simp
  | (i, x) :: ps, cs :: css, j, h => by
    obtain ⟨_, _, h1, h2⟩ := h
    rw [List.flatten_cons, List.length_append, h1, GLooks.ks h2, List.length_cons, Nat.add_mul]; omega
  | [], _ :: _, _, h => h.elim
  | _ :: _, [], _, h => h.elim
/-- A slice of elements of k cells that a statement writes out. -/
theorem wl_bsG {d len : Nat} {ps : List (Nat × Operand)} {css : List (List Value)} {S : Nat → Prop} {els : List El} {ty : TypeId} {pos : String} {aft : Array Edge} (T : RowK P t e k z bytes) (hp : GLooks L k 0 ps css) (hl : els.length = len) (hle : len * k ≤ 16777216) (h0 : 0 < len)
    (hg : Grp k w S els css) (hd : Nat.blt d N = true)
    (h : ∀ A w', OwR k e w' w.heap.size S A len els → Below w.heap.size w w' → w'.heap.size = w.heap.size + 1 → WL P N ops Q rest ((d, .slice A len len) :: L) w') :
    WL P N ops Q (⟨some d, .buildSlice t len ps.toArray, ty, pos, aft, none⟩ :: rest) L w := by
  have hcl : css.length = len := by rw [hg.1, hl]
  have hb : Below w.heap.size w (w.alloc (.cells css.flatten.toArray e)) := (Below.refl _ _).alloc (Nat.le_refl _) _
  refine wl_val (opv_bsG T hp hcl hle h0) hd (h (some ⟨w.heap.size, 0, none⟩) _ ⟨css, hg.move hb.size fun b hlt hs => ⟨⟨hs, ?_⟩, hb.block b hlt⟩, ?_⟩ hb (by simp))
  · intro a ha; cases ha; exact Nat.ne_of_lt hlt
  · subst hl
    have hk := T.pos
    have hmax : els.length ≤ maxLen := by
      have : els.length * 1 ≤ els.length * k := Nat.mul_le_mul_left _ hk
      simp only [maxLen]; omega
    have := World.ownsRow_lit (e := e) (size := k) (base := w.heap.size) w css.flatten.toArray els.length (Nat.le_refl _) hmax (by simpa using hg.len)
    simpa using this
theorem wpList_appG {o : Oper} {a : Act} {base : Nat} {A : Option Addr} {n c : Nat} {xs : List Value} (T : RowK P t e k z bytes) (hgd : o.guard = none) (s x : Operand)
    (ho : o.op = .call { callee := .builtin .append, args := #[s, x], argTypes := #[t, t] })
    (hs : a.eval s = .slice A n c) (hown : w.ownsRow base e k (.slice A n c) n xs) {B : Option Addr} {m d : Nat} {ys : List Value} (hx : a.eval x = .slice B m d) (hr : Rd w B (m * k) ys) (h1 : ∀ u ∈ ys, u.oneCell' = true)
    (hbytes : (n + m) * bytes ≤ 140737488355328) (hmax : n + m ≤ maxLen) (hbase : base ≤ w.heap.size)
    (h : ∀ A' c' w', w'.ownsRow base e k (.slice A' (n + m) c') (n + m) (xs ++ ys) → Gr w w' A → (A'.map (·.block) = A.map (·.block) ∨ A'.map (·.block) = some w.heap.size) → wpList P ops Q rest (a.put o.dst (.slice A' (n + m) c')) w') : wpList P ops Q (o :: rest) a w := by
  obtain ⟨i, hi0, hz, hs1, hby⟩ := info_parts T.info
  have hk := T.pos
  have hob : ∀ (A : Option Addr) n c, (Value.slice A n c).ownBlock = A.map (·.block) := fun A _ _ => by cases A <;> rfl
  have hfin : ∀ v' w', w'.ownsRow base e k v' (n + m) (xs ++ ys) → w.grownBy w' (Value.slice A n c).ownBlock → (v'.ownBlock = (Value.slice A n c).ownBlock ∨ v'.ownBlock = some w.heap.size) →
      wpList P ops Q rest (a.put o.dst v') w' := by
    intro v' w' h2 h3 h4
    rw [hob] at h3
    rcases h2.2 with ⟨rfl, h0⟩ | ⟨g, cap, cur, rfl, _⟩
    · have := h none 0 w' (by rw [h0] at h2 ⊢; exact h2) h3 (by simpa only [hob] using h4)
      rw [h0] at this
      exact this
    · exact h _ _ w' h2 h3 (by simpa only [hob] using h4)
  by_cases h0 : 0 < m
  · obtain ⟨b, of, hA, _, hc⟩ := hr.2 (Nat.mul_pos h0 hk)
    subst hA
    exact wpList_append_own_at w hgd s x t ho base e i z k bytes T.sl hi0 hz hs1 hby T.zs hk _ n xs hs hown _ m d ys hx (by simpa using hr.1)
      (fun j u hu => by rw [Addr.add_lit]; exact hc j u hu) h1 hmax hbytes hbase fun v' w' h2 h3 _ h4 => hfin v' w' h2 h3 h4
  · have hm : m = 0 := by omega
    subst hm
    have hn : ys = [] := List.eq_nil_of_length_eq_zero (by simpa using hr.1)
    subst hn
    cases B with
    | some ad =>
      exact wpList_append_own_at w hgd s x t ho base e i z k bytes T.sl hi0 hz hs1 hby T.zs hk _ n xs hs hown ad 0 d [] hx (by simp)
        (fun j u hu => by simp at hu) h1 hmax hbytes hbase fun v' w' h2 h3 _ h4 => hfin v' w' h2 h3 h4
    | none =>
      have hrun : (Builtin.append_ #[t, t] o.type #[.slice A n c, .slice none 0 d]).run P w = .ok (.slice A n c) w := by
        rcases hown.2 with ⟨hv, hn0⟩ | ⟨g, cap, cur, hv, _, _, hnc, _⟩
        · injection hv with hA hn hc; subst hA hn0 hc
          simp [Builtin.append_, run_underlying T.sl, sizeOf, typeInfo, hi0, Builtin.lenOf, Builtin.firstCells]
        · injection hv with hA hn hc; subst hA hc
          simp [Builtin.append_, run_underlying T.sl, sizeOf, typeInfo, hi0, Builtin.lenOf, Builtin.firstCells, hnc, storeCells]
      refine wpList_plain hgd fun K hK => ?_
      unfold Oper.wp execOp
      simp only [ho, resolve, invoke, builtin, Sem.run_bind, Sem.run_pure, Result.andThen_ok, List.map_toArray, List.map_cons, List.map_nil, hs, hx, hrun]
      refine hK _ _ (hfin _ _ (by rw [List.append_nil]; exact hown) ⟨rfl, rfl, rfl, Nat.le_refl _, fun _ _ _ => rfl⟩ (.inl rfl))
/-- append(s, x...): whole rows of elements of k cells. -/
theorem wl_appG {d : Nat} {s x : Operand} {ty : TypeId} {pos : String} {aft : Array Edge} {base : Nat} {S : Nat → Prop} {A : Option Addr} {n c : Nat} {els : List El} {B : Option Addr} {m c' : Nat} {els' : List El} (T : RowK P t e k z bytes)
    (hs : look L s = some (.slice A n c)) (hown : OwR k e w base S A c els) (hn : els.length = n) (hx : look L x = some (.slice B m c')) (hr : RdR k w (fun b => S b ∧ But A b) B els') (hm : els'.length = m) (h1 : ∀ css, Grp k w (fun b => S b ∧ But A b) els' css → ∀ u ∈ css.flatten, u.oneCell' = true)
    (hbytes : (n + m) * bytes ≤ 140737488355328) (hmax : n + m ≤ maxLen) (hbase : base ≤ w.heap.size) (hd : Nat.blt d N = true)
    (h : ∀ A' c' w', OwR k e w' base S A' c' (els ++ els') → Gr w w' A → (A'.map (·.block) = A.map (·.block) ∨ A'.map (·.block) = some w.heap.size) → WL P N ops Q rest ((d, .slice A' (n + m) c') :: L) w') :
    WL P N ops Q (⟨some d, .call { callee := .builtin .append, args := #[s, x], argTypes := #[t, t] }, ty, pos, aft, none⟩ :: rest) L w := fun a ha => by
  subst hn hm
  obtain ⟨css, hg, ho⟩ := hown
  obtain ⟨css', hg', hr', hS'⟩ := hr
  refine wpList_appG T rfl s x rfl (ha.eval hs) ho (ha.eval hx) hr' (h1 _ hg') hbytes hmax hbase fun A' c' w' ho' hgr hat => ?_
  refine h A' c' w' ⟨css ++ css', ?_, by rw [List.length_append, List.flatten_append]; exact ho'⟩ hgr hat _ (ha.put hd _)
  refine (hg.append hg').move hgr.size fun b hlt hb => ⟨⟨hb.1, fun a' ha' => ?_⟩, hgr.block b hlt ?_⟩
  · subst ha'
    rcases hat with e | e
    · cases A with
      | none => simp at e
      | some a0 => simp only [Option.map_some, Option.some.injEq] at e; rw [e]; exact hb.2 a0 rfl
    · simp only [Option.map_some, Option.some.injEq] at e; omega
  · intro hk
    cases A with
    | none => simp at hk
    | some a0 => simp only [Option.map_some, Option.some.injEq] at hk; exact hb.2 a0 rfl hk
/-- append(s, x, y ..): the elements written out. -/
theorem wl_pushG {d1 d2 len : Nat} {ps : List (Nat × Operand)} {css' : List (List Value)} {s : Operand} {ty1 ty2 : TypeId} {p1 p2 : String} {f1 f2 : Array Edge} {base : Nat} {S : Nat → Prop} {A : Option Addr} {n c : Nat} {els els' : List El} (T : RowK P t e k z bytes)
    (hs1 : ∀ p, look ((d1, p) :: L) s = some (.slice A n c)) (hown : OwR k e w base S A c els) (hn : els.length = n) (hp : GLooks L k 0 ps css') (hg' : Grp k w (fun b => S b ∧ But A b) els' css') (hl : els'.length = len) (h1 : ∀ u ∈ css'.flatten, u.oneCell' = true) (hle : len * k ≤ 16777216) (h0 : 0 < len)
    (hbytes : (n + len) * bytes ≤ 140737488355328) (hmax : n + len ≤ maxLen) (hbase : base ≤ w.heap.size) (hd1 : Nat.blt d1 N = true) (hd2 : Nat.blt d2 N = true)
    (h : ∀ p A' c' w', OwR k e w' base S A' c' (els ++ els') → Gr w w' A → (A'.map (·.block) = A.map (·.block) ∨ ∀ a', A' = some a' → w.heap.size ≤ a'.block) → WL P N ops Q rest ((d2, .slice A' (n + len) c') :: (d1, p) :: L) w') :
    WL P N ops Q (⟨some d1, .buildSlice t len ps.toArray, ty1, p1, f1, none⟩ :: ⟨some d2, .call { callee := .builtin .append, args := #[s, .tmp d1], argTypes := #[t, t] }, ty2, p2, f2, none⟩ :: rest) L w := by
  subst hl
  have hcl : css'.length = els'.length := hg'.1
  refine wl_val (opv_bsG T hp hcl hle h0) hd1 ?_
  have hb : Below w.heap.size w (w.alloc (.cells css'.flatten.toArray e)) := (Below.refl _ _).alloc (Nat.le_refl _) _
  have hl := hg'.len
  intro a ha
  obtain ⟨css, hg, ho⟩ := hown
  subst hn
  have hrd : Rd (w.alloc (.cells css'.flatten.toArray e)) (some ⟨w.heap.size, 0, none⟩) (els'.length * k) css'.flatten := by
    have := Rd.new w css'.flatten.toArray e
    simpa [hl] using this
  have ho1 := World.ownsRow.alloc ho (.cells css'.flatten.toArray e)
  refine wpList_appG (B := some ⟨w.heap.size, 0, none⟩) (m := els'.length) (d := els'.length) T rfl s (.tmp d1) rfl (ha.eval (hs1 _)) ho1 (ha.eval (by simp [look, lookT])) hrd h1 hbytes hmax (by simp; omega) fun A' c' w' ho' hgr hat => ?_
  have hgr' : Gr w w' A := (Gr.of_below A hb (Nat.le_refl _)).trans hgr
  refine h _ A' c' w' ⟨css ++ css', ?_, by rw [List.length_append, List.flatten_append]; exact ho'⟩ hgr' ?_ _ (ha.put hd2 _)
  · refine (hg.append hg').move hgr'.size fun b hlt hb => ⟨⟨hb.1, fun a' ha' => ?_⟩, hgr'.block b hlt ?_⟩
    · subst ha'
      rcases hat with e | e
      · cases A with
        | none => simp at e
        | some a0 => simp only [Option.map_some, Option.some.injEq] at e; rw [e]; exact hb.2 a0 rfl
      · simp only [Option.map_some, Option.some.injEq] at e; simp at e; omega
    · intro hk
      cases A with
      | none => simp at hk
      | some a0 => simp only [Option.map_some, Option.some.injEq] at hk; exact hb.2 a0 rfl hk
  · rcases hat with e | e
    · exact .inl e
    · refine .inr fun a' ha' => ?_
      rw [ha'] at e
      simp at e
      omega
end
end Go.Proofs.Ytpnckagibkdcpaa


/-
  More of the engine's rules: a variable that is made and set at once, append of a text to bytes, values without memory. Nothing here names the program.
-/
namespace Go.Proofs.Ytpnckagibkdcpaa
open Go.RowKit
section
variable {P : Program} {N : Nat} {ops : Array Oper} {Q : Exit → Act → World → Prop} {rest : List Oper} {L : FL} {w w' : World} {t e : TypeId} {g : Nat} {cs cs' : List Value}
theorem setRow_same {w : World} {g : Nat} {cs cs' : List Value} {t : TypeId} (h : Ar w g t cs) : ∀ k, k ≠ g → (w.setRow g cs'.toArray).heap[k]? = w.heap[k]? := fun k hk => by
  simp only [World.setRow, Array.getElem?_modify]
  rw [if_neg (fun h => hk h.symm)]
/-- A variable of a struct type that is made and set. -/
theorem wl_var {d : Nat} {x : Operand} {ty1 ty2 : TypeId} {p1 p2 : String} {f1 f2 : Array Edge} {zs : List Value} (hz : (P.info? t).map (·.zero) = some (some (.agg zs.toArray))) (S : StT P t cs.length) (hl : zs.length = cs.length)
    (hx : ∀ p, look ((d, p) :: L) x = some (.agg cs.toArray)) (h1 : cs.all (·.oneCell') = true) (hd : Nat.blt d N = true)
    (h : ∀ g w', w.heap.size ≤ g → Ar w' g t cs → Below w.heap.size w w' → WL P N ops Q rest ((d, .pointer (some ⟨g, 0, none⟩)) :: L) w') :
    WL P N ops Q (⟨some d, .alloc t, ty1, p1, f1, none⟩ :: ⟨none, .store t (.tmp d) x, ty2, p2, f2, none⟩ :: rest) L w := by
  refine wl_new hz hd fun g w1 hg a1 hb1 => ?_
  refine wl_storeS S a1 (by simp [look, lookT]) (hx _) hl h1 fun w2 a2 g2 _ => ?_
  exact h g w2 hg a2 (Gr.belowI g2 hb1 hg hb1.size)
/-- A block of another type is another block. -/
theorem Ar.ne_row {k base n c : Nat} {A : Option Addr} {xs : List Value} (h : Ar w g t cs) (ho : w.ownsRow base e k (.slice A n c) n xs) (hne : (t == e) = false) : ∀ a, A = some a → a.block ≠ g := by
  rintro a rfl hk
  rcases ho.2 with ⟨hv, _⟩ | ⟨g', cap, cur, hv, _, hg, _⟩
  · cases hv
  · injection hv with hA
    injection hA with hA
    subst hA
    simp only at hk
    subst hk
    unfold Ar at h
    rw [h] at hg
    simp only [Option.some.injEq, Obj.cells.injEq] at hg
    simp [hg.2.1] at hne
theorem Ar.ne_ow {base n c : Nat} {A : Option Addr} {xs : List Value} (h : Ar w g t cs) (ho : Ow w base e A n c xs) (hne : (t == e) = false) : ∀ a, A = some a → a.block ≠ g := Ar.ne_row h ho hne
theorem Ar.ne_owR {k base c : Nat} {S : Nat → Prop} {A : Option Addr} {els : List El} (h : Ar w g t cs) (ho : OwR k e w base S A c els) (hne : (t == e) = false) : ∀ a, A = some a → a.block ≠ g := by
  obtain ⟨css, _, h2⟩ := ho
  exact Ar.ne_row h h2 hne
theorem Ow.bel {base n c : Nat} {A : Option Addr} {xs : List Value} (h : Ow w base e A n c xs) (hb : Below w.heap.size w w') : Ow w' base e A n c xs := Ow.below h hb (Nat.le_refl _)
theorem Ow.re {base n c : Nat} {A : Option Addr} {xs : List UInt8} (h : Ow w base e A xs.length c (bvs xs)) (hn : xs.length = n) : Ow w base e A n c (bvs xs) := hn ▸ h
theorem Ow.gr2 {base n c : Nat} {A B : Option Addr} {xs : List Value} (h : Ow w base e A n c xs) (g : Gr w w' B) (hB : ∀ b, B = some b → b.block < base) : Ow w' base e A n c xs :=
  Ow.gr (base' := 0) (e' := 0) h g fun a b ha hb => by have := (Ow.lt h a ha).1; have := hB b hb; omega
/-- Rows of elements where another row has been written. -/
theorem But.upd {A A' : Option Addr} (hat : A'.map (·.block) = A.map (·.block) ∨ ∀ a', A' = some a' → w.heap.size ≤ a'.block) : ∀ b, b < w.heap.size → But A b → But A' b := by
  rintro b hb h a rfl
  rcases hat with hat | hat
  · cases A with
    | none => simp at hat
    | some a0 => simp only [Option.map_some, Option.some.injEq] at hat; rw [hat]; exact h a0 rfl
  · have := hat a rfl; omega
theorem OwR.move {k base c : Nat} {S S' : Nat → Prop} {A B : Option Addr} {els : List El} (h : OwR k e w base S A c els) (g : Gr w w' B) (hs : ∀ b, b < w.heap.size → S b → But A b → S' b ∧ But B b) (hA : ∀ a, A = some a → But B a.block) : OwR k e w' base S' A c els := by
  obtain ⟨css, h1, h2⟩ := h
  refine ⟨css, h1.move g.size fun b hb h => ⟨⟨(hs b hb h.1 h.2).1, h.2⟩, g.block b hb fun hk => ?_⟩, World.ownsRow.kept h2 g ?_⟩
  · cases B with
    | none => simp at hk
    | some x => simp at hk; exact (hs b hb h.1 h.2).2 x rfl hk
  · cases A with
    | none => exact .inl rfl
    | some a =>
      refine .inr ?_
      cases B with
      | none => simp [Value.ownBlock]
      | some b => simpa [Value.ownBlock] using hA a rfl b rfl
/-- A row that is older than all that its neighbour holds is written. -/
theorem OwR.gr2 {k base c : Nat} {S : Nat → Prop} {A B : Option Addr} {els : List El} (h : OwR k e w base S A c els) (g : Gr w w' B) (hB : ∀ b, B = some b → b.block < base) (hs : ∀ b, b < w.heap.size → S b → But A b → But B b) : OwR k e w' base S A c els :=
  h.move g (fun b hb h1 h2 => ⟨h1, hs b hb h1 h2⟩) fun a ha b hb' => by have := (OwR.lt h a ha).1; have := hB b hb'; omega
theorem Gr.belowR {k base c B : Nat} {w0 : World} {S : Nat → Prop} {A : Option Addr} {els : List El} (g : Gr w w' A) (h : Below B w0 w) (ho : OwR k e w base S A c els) (hb : B ≤ base) (hB : B ≤ w.heap.size) : Below B w0 w' :=
  h.grown g hB fun k hk => by
    cases A with
    | none => simp at hk
    | some a => simp at hk; have := (OwR.lt ho a rfl).1; omega
theorem row_ne {e' : TypeId} {k k' base base' n m c d : Nat} {A B : Option Addr} {xs ys : List Value} (h : w.ownsRow base e k (.slice A n c) n xs) (h' : w.ownsRow base' e' k' (.slice B m d) m ys) (hne : (e == e') = false) : ∀ a b, A = some a → B = some b → a.block ≠ b.block := by
  rintro a b rfl rfl hk
  rcases h.2 with ⟨hv, _⟩ | ⟨g, cap, cur, hv, _, hg, _⟩
  · cases hv
  rcases h'.2 with ⟨hv', _⟩ | ⟨g', cap', cur', hv', _, hg', _⟩
  · cases hv'
  injection hv with hA; injection hA with hA; subst hA
  injection hv' with hB; injection hB with hB; subst hB
  simp only at hk
  subst hk
  rw [hg] at hg'
  simp only [Option.some.injEq, Obj.cells.injEq] at hg'
  simp [hg'.2.1] at hne
theorem OwR.ne {e' : TypeId} {k k' base base' c d : Nat} {S S' : Nat → Prop} {A B : Option Addr} {els els' : List El} (h : OwR k e w base S A c els) (h' : OwR k' e' w base' S' B d els') (hne : (e == e') = false) : ∀ a, A = some a → But B a.block := by
  obtain ⟨_, _, h2⟩ := h
  obtain ⟨_, _, h3⟩ := h'
  exact fun a ha b hb => row_ne h2 h3 hne a b ha hb
theorem OwR.ne_ow {e' : TypeId} {k base base' n c d : Nat} {S : Nat → Prop} {A B : Option Addr} {els : List El} {xs : List Value} (h : OwR k e w base S A c els) (h' : Ow w base' e' B n d xs) (hne : (e == e') = false) : ∀ a, A = some a → But B a.block := by
  obtain ⟨_, _, h2⟩ := h
  exact fun a ha b hb => row_ne h2 h' hne a b ha hb
theorem OwR.below' {k base c B : Nat} {S : Nat → Prop} {A : Option Addr} {els : List El} (h : OwR k e w base S A c els) (hb : Below B w w') (hB : w.heap.size ≤ B) : OwR k e w' base S A c els := h.below (hb.mono hB)
/-- The same of a type of one cell. -/
theorem wl_var1 {d : Nat} {x : Operand} {ty1 ty2 : TypeId} {p1 p2 : String} {f1 f2 : Array Edge} {z u : Value} (hz : (P.info? t).map (·.zero) = some (some z)) (hz1 : z.oneCell' = true) (E : Cell1 P t)
    (hx : ∀ p, look ((d, p) :: L) x = some u) (h1 : u.oneCell' = true) (hd : Nat.blt d N = true)
    (h : ∀ g w', w.heap.size ≤ g → Ar w' g t [u] → Below w.heap.size w w' → WL P N ops Q rest ((d, .pointer (some ⟨g, 0, none⟩)) :: L) w') :
    WL P N ops Q (⟨some d, .alloc t, ty1, p1, f1, none⟩ :: ⟨none, .store t (.tmp d) x, ty2, p2, f2, none⟩ :: rest) L w := by
  refine wl_val (opv_alloc hz) hd ?_
  rw [cells_one hz1]
  have a1 : Ar (w.alloc (.cells #[z] t)) w.heap.size t [z] := Ar.new w t [z]
  have hb1 : Below w.heap.size w (w.alloc (.cells #[z] t)) := (Below.refl _ _).alloc (Nat.le_refl _) _
  refine wl_stA (k := 0) E a1 (by simp [look, lookT]) (by simp) (hx _) h1 fun w2 a2 g2 _ => ?_
  exact h _ w2 (Nat.le_refl _) a2 (Gr.belowI g2 hb1 (Nat.le_refl _) hb1.size)
theorem opv_neg64 {x : Operand} {tt ty : TypeId} {q : Int} (hx : look L x = some (.int .i64 q)) (hq : -9223372036854775807 ≤ q ∧ q ≤ 9223372036854775807) : OpV P (.unOp .neg tt x) ty L w (.int .i64 (-q)) w := fun ρ o hρ ho _ => by
  have e := IntWalk.i64_in (-q) (by omega)
  simp [execOp, ho, hρ x _ hx, Op.unary, Op.intArith, e]
/-- append(b, s...) of a text s. -/
theorem wl_appS {d : Nat} {s x : Operand} {ty : TypeId} {u : TypeId} {pos : String} {aft : Array Edge} {base : Nat} {A : Option Addr} {n c : Nat} {xs : List Value} {ys : List UInt8} (T : Row1 P t e (.int .u8 0) 1) (hu : P.underlying u = some .string)
    (hs : look L s = some (.slice A n c)) (hown : Ow w base e A n c xs) (hx : look L x = some (str ys)) (hbytes : n + ys.length ≤ 140737488355328) (hbase : base ≤ w.heap.size) (hd : Nat.blt d N = true)
    (h : ∀ A' c' w', Ow w' base e A' (n + ys.length) c' (xs ++ bvs ys) → Gr w w' A → WL P N ops Q rest ((d, .slice A' (n + ys.length) c') :: L) w') :
    WL P N ops Q (⟨some d, .call { callee := .builtin .append, args := #[s, x], argTypes := #[t, u] }, ty, pos, aft, none⟩ :: rest) L w := fun a ha => by
  obtain ⟨i, hi, hz, hs1, hby⟩ := info_parts T.info
  have e1 : Lib.strCells ⟨ys.toArray⟩ = bvs ys := by simp [Lib.strCells, bvs, bv]
  refine Lib.wpList_append_own_string w rfl s x t u rfl base e i T.sl hu hi hz hs1 hby _ n xs (ha.eval hs) hown ⟨ys.toArray⟩ (ha.eval hx) (by simp only [maxLen, size_list]; omega) (by simpa only [size_list] using hbytes) hbase fun v' w' h2 h3 _ => ?_
  rw [size_list, e1] at h2
  rw [ownBlock_slice] at h3
  rcases h2.2 with ⟨rfl, h0⟩ | ⟨g, cap, cur, rfl, _⟩
  · rw [h0] at h2
    have := h none 0 w' (by rw [h0]; exact h2) h3
    rw [h0] at this
    exact this _ (ha.put hd _)
  · exact h _ _ w' h2 h3 _ (ha.put hd _)
end
end Go.Proofs.Ytpnckagibkdcpaa


/-
  How the arguments of a law are read: bytes, and lists of bytes; what a bound on all that is read gives.
-/
namespace Go.Proofs.Ytpnckagibkdcpaa
open Go.RowKit Go.ChangeShapes Go.WideShapes Go.ChangeAt

theorem own : ownKnob Try.prog.godebug = none := by kernel_rfl
theorem laidOut : laidOutB Try.prog = true := by kernel_rfl

theorem bulk_one {H : Type} (d : DataW H) : 1 ≤ Rows.uptoBulk d := by
  cases d with
  | lit l => cases l <;> simp [Rows.uptoBulk]
  | nil => simp [Rows.uptoBulk]
  | ptr d => simp [Rows.uptoBulk]
  | slice elems spare => simp [Rows.uptoBulk]
  | agg parts => simp [Rows.uptoBulk]
  | iface t d => simp [Rows.uptoBulk]
  | map entries => simp [Rows.uptoBulk]
  | held h => simp [Rows.uptoBulk]
theorem bulk_len {H : Type} (l : List (DataW H)) : l.length ≤ Rows.uptoBulkAll l := by
  induction l with
  | nil => simp [Rows.uptoBulkAll]
  | cons x r ih => have := bulk_one x; simp only [Rows.uptoBulkAll, List.length_cons]; omega

section
variable {H : Type} {enc : TypeId × Value → H} {W : World} {a0 : Option Addr} {len0 cap0 : Nat} {d0 : DataW H} {p0 : List MemPlace}

theorem bytes_of {w : World} {x : Addr} {zs : List Int} {n : Nat} (hn : n ≤ zs.length) (hcell : ∀ i, i < zs.length → w.cell? (x.add i) = some (.int .u8 (zs.getD i 0))) (hw : ∀ z ∈ zs, (Lit.int .u8 z).wf = true) :
    ∃ xs : List UInt8, xs.length = n ∧ RdB w (some x) xs := by
  refine ⟨(zs.take n).map fun z => UInt8.ofNat z.toNat, by simp; omega, by simp [bvs], fun h0 => ?_⟩
  have hpos : 0 < zs.length := by simp at h0; omega
  obtain ⟨b, o, spot⟩ := x
  have hc := hcell 0 hpos
  have hspot : spot = none := by simpa [Addr.add] using World.cell?_spot hc
  subst hspot
  refine ⟨b, o, rfl, World.block_lt_of_cell? w _ (by simpa [Addr.add] using hc), fun j u hu => ?_⟩
  simp only [bvs, List.map_map, List.getElem?_map, List.getElem?_take] at hu
  by_cases hj : j < n
  · rw [if_pos hj] at hu
    have hjz : j < zs.length := by omega
    rw [List.getElem?_eq_getElem hjz] at hu
    simp only [Option.map_some, Option.some.injEq, Function.comp_apply] at hu
    have h1 := hcell j hjz
    rw [Addr.add_lit] at h1
    rw [h1, ← hu]
    have hz := hw zs[j] (List.getElem_mem hjz)
    have hb : 0 ≤ zs[j] ∧ zs[j] ≤ 255 := by simpa [Lit.wf, IntKind.min, IntKind.max, IntKind.signed, IntKind.bits] using hz
    have e : zs.getD j 0 = zs[j] := by simp [List.getD, List.getElem?_eq_getElem hjz]
    have e2 : zs[j].toNat % 256 = zs[j].toNat := Nat.mod_eq_of_lt (by omega)
    rw [e]
    simp [bv, e2]
    omega
  · rw [if_neg hj] at hu; cases hu

theorem arg_bytes (h0 : DataW.Trod enc Try.prog W 0 (fun _ => true) true 24 (.slice a0 len0 cap0) d0 p0) :
    ∃ xs : List UInt8, xs.length = len0 ∧ RdB W a0 xs ∧ len0 ≤ cap0 ∧ cap0 ≤ maxLen ∧ len0 + 1 ≤ Rows.uptoBulk d0 ∧ ((d0 = .nil ∧ cap0 = 0) ∨ ∃ e s, d0 = .slice e s ∧ e.length + s.length = cap0) := by
  obtain ⟨fuel, hf⟩ := h0
  rcases open_ints Try.underlying24 Try.underlying5 (by kernel_rfl) hf with ⟨hcs, hx⟩ | ⟨x, l, c, zs, hcs, _, hl, hm, hz, hx, hcell, hwz⟩
  · simp [Value.cells] at hcs
    obtain ⟨rfl, rfl, rfl⟩ := hcs
    injection hx with hd _
    subst hd
    exact ⟨[], rfl, Rd.nil _ _, by omega, by simp [maxLen], by simp [Rows.uptoBulk], .inl ⟨rfl, rfl⟩⟩
  · simp [Value.cells] at hcs
    obtain ⟨rfl, rfl, rfl⟩ := hcs
    injection hx with hd _
    have hz' : zs.length = cap0 := by simpa using hz
    obtain ⟨xs, h1, h2⟩ := bytes_of (n := len0) (by omega) hcell hwz
    have h3 := bulk_len (H := H) (lits .u8 (zs.take len0))
    refine ⟨xs, h1, h2, hl, hm, ?_, .inr ⟨_, _, hd, by simp [lits]; omega⟩⟩
    rw [hd]
    simp only [Rows.uptoBulk]
    simp [lits] at h3 ⊢
    omega
end
end Go.Proofs.Ytpnckagibkdcpaa


/-
  How arguments of any type are read: a reading of a type as data, for numbers, texts, bytes, slices of what can be read; structs are opened field by field.
-/
namespace Go.Proofs.Ytpnckagibkdcpaa
open Go.RowKit Go.ChangeShapes Go.WideShapes Go.ChangeAt Go.Deep

/-- A cell that holds a row of elements. -/
def rowEl (k : Nat) (els : List El) : El where
  P w S cs := ∃ (A : Option Addr) (c : Nat), cs = [.slice A els.length c] ∧ els.length ≤ c ∧ RdR k w S A els ∧ 0 < k
  move := by rintro w w' S S' cs ⟨A, c, h, hc, hb, hk⟩ hz hm; exact ⟨A, c, h, hc, RdR.move hk hb hz hm, hk⟩
theorem rowEl.rd {k : Nat} {els : List El} {w : World} {S : Nat → Prop} {A : Option Addr} {n c : Nat} (h : (rowEl k els).P w S [.slice A n c]) : els.length = n ∧ n ≤ c ∧ RdR k w S A els := by
  obtain ⟨A', c', h1, h2, h3, _⟩ := h
  simp only [List.cons.injEq, Value.slice.injEq, and_true] at h1
  obtain ⟨rfl, rfl, rfl⟩ := h1
  exact ⟨rfl, h2, h3⟩
theorem rowEl.mk {k : Nat} {els : List El} {w : World} {S : Nat → Prop} {A : Option Addr} {c : Nat} (h : RdR k w S A els) (hc : els.length ≤ c) (hk : 0 < k) : (rowEl k els).P w S [.slice A els.length c] := ⟨A, c, rfl, hc, h, hk⟩

/-- What stands at type t is read as some a, in k cells; its bulk; what is known of a. -/
def Opens (P : Program) (t : TypeId) {α : Type} (R : α → El) (k : Nat) (bulk : α → Nat) (ok : α → Prop) : Prop :=
  ∀ {H : Type} (enc : TypeId × Value → H) (W : World) (fuel : Nat) (cs : List Value) (x : DataW H × List MemPlace), DataW.trod enc P W 0 (fun _ => true) true fuel t cs = some x →
    ∃ a, (R a).P W All cs ∧ cs.length = k ∧ ok a ∧ bulk a + 1 ≤ Rows.uptoBulk x.1
section
variable {P : Program} {t e : TypeId} {α : Type} {R : α → El} {k : Nat} {bulk : α → Nat} {ok : α → Prop}
theorem opens_int {ik : IntKind} (ht : P.underlying t = some (.int ik)) : Opens P t (fun n : Int => vEl (.int ik n)) 1 (fun _ => 0) (fun n => (Lit.int ik n).wf = true) := fun enc W fuel cs x h => by
  obtain ⟨n, rfl, rfl, hw⟩ := DataW.trod_int ht h
  exact ⟨n, rfl, rfl, hw, by simp [Rows.uptoBulk]⟩
theorem opens_bool (ht : P.underlying t = some .bool) : Opens P t (fun b : Bool => vEl (.bool b)) 1 (fun _ => 0) (fun _ => True) := fun enc W fuel cs x h => by
  obtain ⟨n, rfl, rfl⟩ := DataW.trod_bool ht h
  exact ⟨n, rfl, rfl, trivial, by simp [Rows.uptoBulk]⟩
theorem opens_str (ht : P.underlying t = some .string) : Opens P t (fun s : List UInt8 => vEl (str s)) 1 (fun s => s.length) (fun _ => True) := fun enc W fuel cs x h => by
  obtain ⟨s, rfl, rfl, _⟩ := DataW.trod_string ht h
  obtain ⟨l, rfl⟩ := str_of s
  exact ⟨l, rfl, rfl, trivial, by simp [Rows.uptoBulk]⟩
def sumB (bulk : α → Nat) (l : List α) : Nat := (l.map fun a => bulk a + 1).sum
theorem sumB_cons (a : α) (l : List α) : sumB bulk (a :: l) = bulk a + 1 + sumB bulk l := by simp [sumB]
theorem sumB_mem {l : List α} {a : α} (h : a ∈ l) : bulk a + 1 ≤ sumB bulk l := by
  induction l with
  | nil => cases h
  | cons x l ih =>
    rw [sumB_cons]
    rcases List.mem_cons.1 h with rfl | h
    · omega
    · have := ih h; omega
theorem sumB_len (l : List α) : l.length ≤ sumB bulk l := by
  induction l with
  | nil => simp
  | cons x l ih => rw [sumB_cons]; simp only [List.length_cons]; omega
theorem opens_slice {z : Value} {bytes : Nat} (T : RowK P t e k z bytes) (hC : P.cellsOf e = k) (he : Opens P e R k bulk ok) :
    Opens P t (fun l : List α => rowEl k (l.map R)) 1 (sumB bulk) (fun l => (∀ a ∈ l, ok a)) := fun {H} enc W fuel cs x h => by
  rcases open_slice T.sl h with ⟨rfl, rfl⟩ | ⟨a, len, cap, m, n, D, Pl, rfl, hb, hl, hm, hmm, rfl, hi⟩
  · exact ⟨[], ⟨none, 0, rfl, by simp, RdR.nil _, T.pos⟩, rfl, by simp, by simp [sumB, Rows.uptoBulk]⟩
  · have hmc : m = cap := by simpa using hmm
    subst hmc
    rw [hC] at hi
    have each : ∀ i, i < m → ∃ (v : α) (cs' : List Value), (R v).P W All cs' ∧ cs'.length = k ∧ ok v ∧ bulk v + 1 ≤ Rows.uptoBulk (D i) ∧ ∀ j u, cs'[j]? = some u → W.cell? (a.add (i * k + j)) = some u := by
      intro i him
      obtain ⟨cs', hc, ht'⟩ := hi i him
      obtain ⟨v, h1, h2, h3, h4⟩ := he enc W n cs' _ ht'
      obtain ⟨_, hcl, hat⟩ := World.cells?_some hc
      refine ⟨v, cs', h1, h2, h3, h4, fun j u hu => ?_⟩
      have hj : j < k := by have := (List.getElem?_eq_some_iff.1 hu).1; omega
      rw [← Go.Deep.add_add, hat j hj, hu]
    have hch : ∃ (V : Nat → Option α) (C : Nat → List Value), ∀ i, i < m → ∃ v, V i = some v ∧ (R v).P W All (C i) ∧ (C i).length = k ∧ ok v ∧ bulk v + 1 ≤ Rows.uptoBulk (D i) ∧ ∀ j u, (C i)[j]? = some u → W.cell? (a.add (i * k + j)) = some u :=
      ⟨fun i => if h : i < m then some (Classical.choose (each i h)) else none, fun i => if h : i < m then Classical.choose (Classical.choose_spec (each i h)) else [], fun i him => ⟨Classical.choose (each i him), by simp only [dif_pos him], by simp only [dif_pos him]; exact Classical.choose_spec (Classical.choose_spec (each i him))⟩⟩
    obtain ⟨V, C, hV⟩ := hch
    have build : ∀ q, q ≤ m → ∃ l : List α, l.length = q ∧ (∀ i, i < q → l[i]? = V i) ∧ (∀ v ∈ l, ok v) ∧ sumB bulk l ≤ Rows.uptoBulkAll ((List.range q).map D) := by
      intro q
      induction q with
      | zero => intro _; exact ⟨[], rfl, by simp, by simp, by simp [sumB]⟩
      | succ q ih =>
        intro hq
        obtain ⟨l, h1, h2, h3, h4⟩ := ih (by omega)
        obtain ⟨v, hv, _, _, hok, hbk, _⟩ := hV q (by omega)
        refine ⟨l ++ [v], by simp [h1], fun i hi => ?_, fun u hu => ?_, ?_⟩
        · by_cases hiq : i < q
          · rw [List.getElem?_append_left (by omega)]; exact h2 i hiq
          · obtain rfl : i = q := by omega
            rw [← h1, List.getElem?_concat_length, h1, hv]
        · rcases List.mem_append.1 hu with hu | hu
          · exact h3 u hu
          · simp at hu; subst hu; exact hok
        · have e1 : ∀ (l : List α) (v : α), sumB bulk (l ++ [v]) = sumB bulk l + (bulk v + 1) := fun l v => by simp [sumB]
          have e2 : ∀ (l : List (DataW H)) (d : DataW H), Rows.uptoBulkAll (l ++ [d]) = Rows.uptoBulkAll l + Rows.uptoBulk d := by
            intro l d
            induction l with
            | nil => simp [Rows.uptoBulkAll]
            | cons x l ih => simp only [List.cons_append, Rows.uptoBulkAll, ih]; omega
          rw [e1, List.range_succ, List.map_append, List.map_cons, List.map_nil, e2]; omega
    obtain ⟨l, hlen, hget, hok, hsum⟩ := build len hl
    subst hlen
    refine ⟨l, ⟨some a, m, by simp, by simpa using hl, ⟨(List.range l.length).map C, ⟨by simp, fun i cs hi' => ?_⟩, ?_, fun _ _ _ => trivial⟩, T.pos⟩, rfl, hok, ?_⟩
    · rw [List.getElem?_map] at hi'
      by_cases hil : i < l.length
      · rw [List.getElem?_range hil] at hi'
        simp only [Option.map_some, Option.some.injEq] at hi'
        subst hi'
        obtain ⟨v, hv, hp, hk, _⟩ := hV i (by omega)
        refine ⟨hk, R v, ?_, hp⟩
        rw [List.getElem?_map, hget i hil, hv]; rfl
      · rw [List.getElem?_eq_none (by simp; omega)] at hi'; simp at hi'
    · have hks : ∀ cs ∈ (List.range l.length).map C, cs.length = k := by
        intro cs hcs
        obtain ⟨i, hi', rfl⟩ := List.mem_map.1 hcs
        obtain ⟨v, _, _, hk, _⟩ := hV i (by have := List.mem_range.1 hi'; omega)
        exact hk
      have hfl : ((List.range l.length).map C).flatten.length = l.length * k := by
        rw [List.length_flatten]
        have : ((List.range l.length).map C).map List.length = List.replicate l.length k := by
          apply List.ext_getElem?
          intro i
          rw [List.getElem?_map, List.getElem?_map, List.getElem?_replicate]
          by_cases hil : i < l.length
          · rw [List.getElem?_range hil, if_pos hil]
            simp only [Option.map_some]
            rw [hks _ (List.mem_map.2 ⟨i, List.mem_range.2 hil, rfl⟩)]
          · rw [if_neg hil, List.getElem?_eq_none (by simp; omega)]; rfl
        rw [this]; simp
      refine ⟨by simpa using hfl, fun hpos => ?_⟩
      simp only [List.length_map] at hpos
      have hk0 := T.pos
      have hl0 : 0 < l.length := by
        rcases Nat.eq_zero_or_pos l.length with h0 | h0
        · rw [h0] at hpos; simp at hpos
        · exact h0
      obtain ⟨b, o, spot⟩ := a
      obtain ⟨v0, _, _, hk0', _, _, hc0⟩ := hV 0 (by omega)
      obtain ⟨u0, hu0⟩ : ∃ u, (C 0)[0]? = some u := ⟨_, List.getElem?_eq_getElem (by omega)⟩
      have hc00 := hc0 0 u0 hu0
      have hspot : spot = none := by simpa [Addr.add] using World.cell?_spot hc00
      subst hspot
      refine ⟨b, o, rfl, World.block_lt_of_cell? W _ (by simpa [Addr.add] using hc00), fun j u hu => ?_⟩
      have hjl : j < l.length * k := by rw [← hfl]; exact (List.getElem?_eq_some_iff.1 hu).1
      have hi0 : j / k < l.length := (Nat.div_lt_iff_lt_mul hk0).2 hjl
      have hjk : j % k < k := Nat.mod_lt _ hk0
      obtain ⟨v, hv, _, hk', _, _, hc⟩ := hV (j / k) (by omega)
      obtain ⟨u', hu'⟩ : ∃ u', (C (j / k))[j % k]? = some u' := ⟨_, List.getElem?_eq_getElem (by omega)⟩
      have hf := flat_get hks (i := j / k) (j := j % k) (by rw [List.getElem?_map, List.getElem?_range hi0]; rfl) hu'
      rw [Nat.div_add_mod'] at hf
      rw [hu] at hf
      cases hf
      have := hc _ u hu'
      rw [Nat.div_add_mod', Addr.add_lit] at this
      exact this
    · simp only [Rows.uptoBulk]; omega
theorem len1 {α : Type _} {l : List α} (h : l.length = 1) : ∃ a0, l = [a0] := match l, h with | [a0], _ => ⟨a0, rfl⟩
theorem len2 {α : Type _} {l : List α} (h : l.length = 2) : ∃ a0 a1, l = [a0, a1] := match l, h with | [a0, a1], _ => ⟨a0, a1, rfl⟩
theorem len3 {α : Type _} {l : List α} (h : l.length = 3) : ∃ a0 a1 a2, l = [a0, a1, a2] := match l, h with | [a0, a1, a2], _ => ⟨a0, a1, a2, rfl⟩
theorem len4 {α : Type _} {l : List α} (h : l.length = 4) : ∃ a0 a1 a2 a3, l = [a0, a1, a2, a3] := match l, h with | [a0, a1, a2, a3], _ => ⟨a0, a1, a2, a3, rfl⟩
theorem len5 {α : Type _} {l : List α} (h : l.length = 5) : ∃ a0 a1 a2 a3 a4, l = [a0, a1, a2, a3, a4] := match l, h with | [a0, a1, a2, a3, a4], _ => ⟨a0, a1, a2, a3, a4, rfl⟩
theorem len6 {α : Type _} {l : List α} (h : l.length = 6) : ∃ a0 a1 a2 a3 a4 a5, l = [a0, a1, a2, a3, a4, a5] := match l, h with | [a0, a1, a2, a3, a4, a5], _ => ⟨a0, a1, a2, a3, a4, a5, rfl⟩
theorem len7 {α : Type _} {l : List α} (h : l.length = 7) : ∃ a0 a1 a2 a3 a4 a5 a6, l = [a0, a1, a2, a3, a4, a5, a6] := match l, h with | [a0, a1, a2, a3, a4, a5, a6], _ => ⟨a0, a1, a2, a3, a4, a5, a6, rfl⟩
theorem len8 {α : Type _} {l : List α} (h : l.length = 8) : ∃ a0 a1 a2 a3 a4 a5 a6 a7, l = [a0, a1, a2, a3, a4, a5, a6, a7] := match l, h with | [a0, a1, a2, a3, a4, a5, a6, a7], _ => ⟨a0, a1, a2, a3, a4, a5, a6, a7, rfl⟩
theorem field_at {H : Type} {enc : TypeId × Value → H} {w : World} {base : Nat} {spare : Nat → Bool} {held : Bool} {n : Nat} {fs : Array Field} {cs : List Value} {xs : List (DataW H × List MemPlace)}
    (hf : ∀ (i : Nat) (f : Field), fs[i]? = some f → DataW.trod enc P w base spare held n f.type ((cs.drop f.offset).take (P.cellsOf f.type)) = xs[i]?) {i off k : Nat} {f : Field} {t : TypeId}
    (hi : fs[i]? = some f) (ht : f.type = t) (ho : f.offset = off) (hk : P.cellsOf t = k) : DataW.trod enc P w base spare held n t ((cs.drop off).take k) = xs[i]? := by
  subst ht ho hk; exact hf i f hi
theorem El.P_congr {E E' : El} (h : E = E') {w : World} {S : Nat → Prop} {cs : List Value} (hp : E.P w S cs) : E'.P w S cs := h ▸ hp
end
theorem opens_bytes : Opens Try.prog 24 byEl 1 (fun l => l.length) (fun _ => True) := fun enc W fuel cs x h => by
  have hs : (∃ a len cap, cs = [.slice a len cap]) := by
    rcases open_slice Try.underlying24 h with ⟨rfl, _⟩ | ⟨a, len, cap, m, n, D, Pl, rfl, _⟩
    · exact ⟨_, _, _, rfl⟩
    · exact ⟨_, _, _, rfl⟩
  obtain ⟨a, len, cap, rfl⟩ := hs
  obtain ⟨xs, hl, hr, hc, hm, hb, _⟩ := arg_bytes (enc := enc) (W := W) (a0 := a) (len0 := len) (cap0 := cap) (d0 := x.1) (p0 := x.2) ⟨fuel, by simpa [Value.cells] using h⟩
  subst hl
  exact ⟨xs, byEl.mk hr hc fun _ _ _ => trivial, rfl, trivial, hb⟩
end Go.Proofs.Ytpnckagibkdcpaa


/-
  What a call holds, told as a list of pieces that lie apart: blocks, rows, rows of elements with their own memory, and pieces that a reader of this list names; the laws by which a piece changes, comes in and goes, and what a call leaves alone. Nothing here names the program.
-/
namespace Go.Proofs.Ytpnckagibkdcpaa
open Go.RowKit

abbrev BS := Nat → Prop
/-- Outside a set of blocks the world w' is as w was. -/
structure Mod (M : BS) (w w' : World) : Prop where
  os : w'.os = w.os
  tape : w'.tape = w.tape
  output : w'.output = w.output
  size : w.heap.size ≤ w'.heap.size
  block : ∀ b, b < w.heap.size → ¬ M b → w'.heap[b]? = w.heap[b]?
def NoB : BS := fun _ => False
section
variable {w w' w'' : World} {M M' : BS}
theorem Mod.refl (M : BS) (w : World) : Mod M w w := ⟨rfl, rfl, rfl, Nat.le_refl _, fun _ _ _ => rfl⟩
theorem Mod.trans (h : Mod M w w') (h2 : Mod M' w' w'') (hs : ∀ b, b < w.heap.size → M' b → M b) : Mod M w w'' :=
  ⟨h2.os.trans h.os, h2.tape.trans h.tape, h2.output.trans h.output, Nat.le_trans h.size h2.size, fun b hb hm => (h2.block b (Nat.lt_of_lt_of_le hb h.size) fun hk => hm (hs b hb hk)).trans (h.block b hb hm)⟩
theorem Mod.of_below (h : Below w.heap.size w w') (M : BS) : Mod M w w' := ⟨h.os, h.tape, h.output, h.size, fun b hb _ => h.block b hb⟩
theorem Mod.below (h : Mod NoB w w') : Below w.heap.size w w' := ⟨h.os, h.tape, h.output, h.size, fun b hb => h.block b hb id⟩
theorem Mod.of_gr {A : Option Addr} (h : Gr w w' A) (hA : ∀ a, A = some a → M a.block) : Mod M w w' := ⟨h.os, h.tape, h.output, World.grownBy.size h, fun b hb hm => h.block b hb fun hk => by
  cases A with
  | none => simp at hk
  | some a => simp at hk; exact hm (hk ▸ hA a rfl)⟩
theorem Mod.mono (h : Mod M w w') (hs : ∀ b, b < w.heap.size → M b → M' b) : Mod M' w w' := ⟨h.os, h.tape, h.output, h.size, fun b hb hm => h.block b hb fun hk => hm (hs b hb hk)⟩
theorem Mod.below_of {B : Nat} (h : Mod M w w') (hB : B ≤ w.heap.size) (hM : ∀ b, M b → B ≤ b) : Below B w w' := ⟨h.os, h.tape, h.output, h.size, fun b hb => h.block b (Nat.lt_of_lt_of_le hb hB) fun hm => by have := hM b hm; omega⟩
end

/-- A piece that a reader names. -/
structure Ck where
  P : World → BS → Prop
  move : ∀ {w w' : World} {S S' : BS}, P w S → w.heap.size ≤ w'.heap.size → (∀ b, b < w.heap.size → S b → S' b ∧ w'.heap[b]? = w.heap[b]?) → P w' S'
/-- The pieces. -/
inductive Cd
  | blk (g : Nat) (t : TypeId) (cs : List Value)
  | ow (e : TypeId) (A : Option Addr) (n c : Nat) (xs : List Value)
  | rg (k : Nat) (e : TypeId) (A : Option Addr) (c : Nat) (els : List El)
  | ce (E : El) (cs : List Value)
  | ck (c : Ck)
def Cd.P : Cd → World → BS → Prop
  | .blk g t cs, w, S => S g ∧ Ar w g t cs
  | .ow e A n c xs, w, S => (∀ a, A = some a → S a.block) ∧ Ow w 0 e A n c xs
  | .rg k e A c els, w, S => (∀ a, A = some a → S a.block) ∧ OwR k e w 0 S A c els
  | .ce E cs, w, S => E.P w S cs
  | .ck c, w, S => c.P w S
theorem OwR.moveS {k base c : Nat} {e : TypeId} {w w' : World} {S S' : BS} {A : Option Addr} {els : List El} (h : OwR k e w base S A c els) (hA : ∀ a, A = some a → S a.block) (hz : w.heap.size ≤ w'.heap.size) (hm : ∀ b, b < w.heap.size → S b → S' b ∧ w'.heap[b]? = w.heap[b]?) :
    OwR k e w' base S' A c els := by
  have hl := OwR.lt h
  obtain ⟨css, h1, h2⟩ := h
  refine ⟨css, h1.move hz fun b hb hs => ⟨⟨(hm b hb hs.1).1, hs.2⟩, (hm b hb hs.1).2⟩, h2.1, ?_⟩
  rcases h2.2 with hn | ⟨g, cap, cur, hv, hg, hc, rest⟩
  · exact .inl hn
  · injection hv with hA' hn hc'
    subst hA'
    exact .inr ⟨g, cap, cur, by rw [hc'], hg, by rw [(hm g (hl _ rfl).2 (hA _ rfl)).2]; exact hc, rest⟩
theorem Ow.moveS {base n c : Nat} {e : TypeId} {w w' : World} {A : Option Addr} {xs : List Value} (h : Ow w base e A n c xs) (hm : ∀ a, A = some a → w'.heap[a.block]? = w.heap[a.block]?) : Ow w' base e A n c xs := by
  refine ⟨h.1, ?_⟩
  rcases h.2 with hn | ⟨g, cap, cur, hv, hg, hc, rest⟩
  · exact .inl hn
  · injection hv with hA' hn hc'
    subst hA'
    exact .inr ⟨g, cap, cur, by rw [hc'], hg, by rw [hm _ rfl]; exact hc, rest⟩
theorem Cd.move : ∀ {c : Cd} {w w' : World} {S S' : BS}, c.P w S → w.heap.size ≤ w'.heap.size → (∀ b, b < w.heap.size → S b → S' b ∧ w'.heap[b]? = w.heap[b]?) → c.P w' S'
  | .blk g t cs, w, w', S, S', h, _, hm => ⟨(hm g h.2.lt h.1).1, (hm g h.2.lt h.1).2.trans h.2⟩
  | .ow e A n c xs, w, w', S, S', h, _, hm => ⟨fun a ha => (hm _ (Ow.lt h.2 a ha).2 (h.1 a ha)).1, h.2.moveS fun a ha => (hm _ (Ow.lt h.2 a ha).2 (h.1 a ha)).2⟩
  | .rg k e A c els, w, w', S, S', h, hz, hm => ⟨fun a ha => (hm _ (OwR.lt h.2 a ha).2 (h.1 a ha)).1, h.2.moveS h.1 hz hm⟩
  | .ce E cs, w, w', S, S', h, hz, hm => E.move h hz hm
  | .ck c, w, w', S, S', h, hz, hm => c.move h hz hm

/-- The pieces hold, each in blocks of its own. -/
def Sat (w : World) : List Cd → BS → Prop
  | [], _ => True
  | c :: H, S => ∃ T : BS, (∀ b, T b → S b) ∧ c.P w T ∧ Sat w H fun b => S b ∧ ¬ T b
section
variable {w w' : World} {S S' : BS} {H H1 H2 : List Cd} {c c' : Cd}
theorem Sat.move : ∀ {H : List Cd} {S S' : BS}, Sat w H S → w.heap.size ≤ w'.heap.size → (∀ b, b < w.heap.size → S b → S' b ∧ w'.heap[b]? = w.heap[b]?) → Sat w' H S'
  | [], _, _, _, _, _ => trivial
  | c :: H, S, S', ⟨T, hT, hc, hr⟩, hz, hm => ⟨fun b => T b ∧ b < w.heap.size, fun b hb => (hm b hb.2 (hT b hb.1)).1, Cd.move hc hz fun b hb h => ⟨⟨h, hb⟩, (hm b hb (hT b h)).2⟩,
      Sat.move hr hz fun b hb h => ⟨⟨(hm b hb h.1).1, fun k => h.2 k.1⟩, (hm b hb h.1).2⟩⟩
theorem Sat.mono (h : Sat w H S) (hs : ∀ b, b < w.heap.size → S b → S' b) : Sat w H S' := h.move (Nat.le_refl _) fun b hb h => ⟨hs b hb h, rfl⟩
theorem Sat.append : ∀ {H1 : List Cd} {S : BS}, Sat w (H1 ++ H2) S → ∃ T : BS, (∀ b, T b → S b) ∧ Sat w H1 T ∧ Sat w H2 fun b => S b ∧ ¬ T b
  | [], S, h => ⟨NoB, fun _ h => h.elim, trivial, h.mono fun b _ h => ⟨h, id⟩⟩
  | c :: H1, S, ⟨T, hT, hc, hr⟩ => by
    obtain ⟨T2, h2, h3, h4⟩ := Sat.append hr
    exact ⟨fun b => T b ∨ T2 b, fun b hb => hb.elim (hT b) fun h => (h2 b h).1, ⟨T, fun b => .inl, hc, h3.mono fun b _ hb => ⟨.inr hb, (h2 b hb).2⟩⟩,
      h4.mono fun b _ hb => ⟨hb.1.1, fun k => k.elim hb.1.2 hb.2⟩⟩
theorem Sat.join : ∀ {H1 : List Cd} {S T : BS}, (∀ b, T b → S b) → Sat w H1 T → (Sat w H2 fun b => S b ∧ ¬ T b) → Sat w (H1 ++ H2) S
  | [], S, T, _, _, h2 => h2.mono fun b _ h => h.1
  | c :: H1, S, T, hT, ⟨U, hU, hc, hr⟩, h2 => ⟨U, fun b h => hT b (hU b h), hc, Sat.join (T := fun b => T b ∧ ¬ U b) (fun b h => ⟨hT b h.1, h.2⟩) hr (h2.mono fun b _ h => ⟨⟨h.1, fun k => h.2 (hU b k)⟩, fun k => h.2 k.1⟩)⟩
theorem Sat.swap (h : Sat w (H1 ++ H2) S) : Sat w (H2 ++ H1) S := by
  obtain ⟨T, h1, h2, h3⟩ := h.append
  exact Sat.join (T := fun b => S b ∧ ¬ T b) (fun b h => h.1) h3 (h2.mono fun b _ h => ⟨h1 b h, fun k => k.2 h⟩)
/-- A piece in front of the others. -/
def nthC : List Cd → Nat → Option Cd
  | [], _ => none
  | c :: _, 0 => some c
  | _ :: H, k + 1 => nthC H k
def delC : List Cd → Nat → List Cd
  | [], _ => []
  | _ :: H, 0 => H
  | c :: H, k + 1 => c :: delC H k
def setC : List Cd → Nat → Cd → List Cd
  | [], _, _ => []
  | _ :: H, 0, d => d :: H
  | c :: H, k + 1, d => c :: setC H k d
theorem Sat.front : ∀ {H : List Cd} {i : Nat} {S : BS}, Sat w H S → nthC H i = some c → Sat w (c :: delC H i) S
  | d :: H, 0, S, h, hi => by simp only [nthC, Option.some.injEq] at hi; subst hi; exact h
  | d :: H, i + 1, S, ⟨T, hT, hd, hr⟩, hi => by
    obtain ⟨U, hU, hc, hr2⟩ := Sat.front hr hi
    exact ⟨U, fun b h => (hU b h).1, hc, T, fun b h => ⟨hT b h, fun k => (hU b k).2 h⟩, hd, hr2.mono fun b _ h => ⟨⟨h.1.1, h.2⟩, h.1.2⟩⟩
theorem Sat.back : ∀ {H : List Cd} {i : Nat} {S : BS}, Sat w (c' :: delC H i) S → nthC H i = some c → Sat w (setC H i c') S
  | d :: H, 0, S, h, hi => h
  | d :: H, i + 1, S, ⟨U, hU, hc, T, hT, hd, hr⟩, hi =>
    ⟨T, fun b h => (hT b h).1, hd, Sat.back (H := H) (i := i) ⟨U, fun b h => ⟨hU b h, fun k => (hT b k).2 h⟩, hc, hr.mono fun b _ h => ⟨⟨h.1.1, h.2⟩, h.1.2⟩⟩ hi⟩
  | [], i, S, h, hi => by simp [nthC] at hi
end

/-- What the call may touch: the blocks that came with it, and new ones. -/
def Fr (M : BS) (w0 : World) : BS := fun b => M b ∨ w0.heap.size ≤ b
/-- The state of a call that began in the world w0 and may write in the blocks of M: it holds these pieces. -/
def St (M : BS) (w0 w : World) (H : List Cd) : Prop := Mod M w0 w ∧ Sat w H (Fr M w0)
section
variable {w0 w w' : World} {M : BS} {H H' H1 H2 : List Cd} {c c' : Cd} {i : Nat}
theorem St.start (h : Sat w H M) : St M w w H := ⟨Mod.refl _ _, h.mono fun _ _ h => .inl h⟩
theorem St.init (w : World) : St NoB w w [] := ⟨Mod.refl _ _, trivial⟩
theorem St.bel (h : St NoB w0 w H) : Below w0.heap.size w0 w := h.1.below
theorem St.nil (h : St M w0 w H) : St M w0 w [] := ⟨h.1, trivial⟩
theorem St.size (h : St M w0 w H) : w0.heap.size ≤ w.heap.size := h.1.size
/-- Other words for the same pieces. -/
theorem St.map (h : St M w0 w H) (hH : ∀ S, Sat w H S → Sat w H' S) : St M w0 w H' := ⟨h.1, hH _ h.2⟩
theorem St.front (h : St M w0 w H) (i : Nat) (hi : nthC H i = some c) : St M w0 w (c :: delC H i) := ⟨h.1, h.2.front hi⟩
theorem St.drop (h : St M w0 w H) (i : Nat) (hi : nthC H i = some c) : St M w0 w (delC H i) := ⟨h.1, by obtain ⟨T, hT, _, hr⟩ := h.2.front hi; exact hr.mono fun _ _ h => h.1⟩
/-- The pieces in front are handed to a call. -/
theorem St.lend (h : St M w0 w (H1 ++ H2)) : ∃ S : BS, Sat w H1 S ∧ (∀ b, S b → b < w.heap.size) ∧ (∀ w', Mod S w w' → Mod M w0 w') ∧ (∀ w', Mod S w w' → Sat w' H2 fun b => Fr M w0 b ∧ ¬ S b) ∧ ∀ w' H1', St S w w' H1' → St M w0 w' (H1' ++ H2) := by
  obtain ⟨T, hT, h1, h2⟩ := h.2.append
  have hM : ∀ w', Mod (fun b => T b ∧ b < w.heap.size) w w' → Mod M w0 w' := fun w' hm => h.1.trans hm fun b hb k => (hT b k.1).elim id fun k => absurd k (Nat.not_le.2 hb)
  refine ⟨fun b => T b ∧ b < w.heap.size, h1.mono fun b hb h => ⟨h, hb⟩, fun b h => h.2, hM, fun w' hm => h2.move hm.size fun b hb k => ⟨⟨k.1, fun k2 => k.2 k2.1⟩, hm.block b hb fun k2 => k.2 k2.1⟩, fun w' H1' hs => ⟨hM _ hs.1, ?_⟩⟩
  refine Sat.join (T := Fr (fun b => T b ∧ b < w.heap.size) w) (fun b hb => hb.elim (fun k => hT b k.1) fun k => .inr (Nat.le_trans h.1.size k)) hs.2 ?_
  refine h2.move hs.1.size fun b hb k => ⟨⟨k.1, ?_⟩, hs.1.block b hb fun k2 => k.2 k2.1⟩
  rintro (k2 | k2)
  · exact k.2 k2.1
  · omega
/-- A step that leaves all blocks that are there. -/
theorem St.below (h : St M w0 w H) (hb : Below w.heap.size w w') : St M w0 w' H := by
  obtain ⟨_, _, _, _, _, hB⟩ := St.lend (H1 := []) h
  exact hB w' [] ⟨Mod.of_below hb _, trivial⟩
/-- A call that only reads brings pieces. -/
theorem St.call (h : St M w0 w H) (hb : St NoB w w' H1) : St M w0 w' (H1 ++ H) := by
  obtain ⟨S, _, _, _, _, hB⟩ := St.lend (H1 := []) h
  exact hB w' H1 ⟨hb.1.mono fun _ _ h => h.elim, hb.2.mono fun b _ h => h.elim (fun k => k.elim) .inr⟩
/-- New blocks hold a piece. -/
theorem St.fresh {T : BS} (hb : Below w.heap.size w w') (hc : c.P w' T) (hT : ∀ b, b < w'.heap.size → T b → w.heap.size ≤ b) : St NoB w w' [c] :=
  ⟨Mod.of_below hb _, fun b => T b ∧ b < w'.heap.size, fun b k => .inr (hT b k.2 k.1), Cd.move hc (Nat.le_refl _) fun b hb k => ⟨⟨k, hb⟩, rfl⟩, trivial⟩
theorem St.new {T : BS} (h : St M w0 w H) (hb : Below w.heap.size w w') (hc : c.P w' T) (hT : ∀ b, b < w'.heap.size → T b → w.heap.size ≤ b) : St M w0 w' (c :: H) := h.call (St.fresh hb hc hT)
theorem St.newO {e : TypeId} {A : Option Addr} {base n cc : Nat} {xs : List Value} (h : St M w0 w H) (hb : Below w.heap.size w w') (hc : Ow w' base e A n cc xs) (hB : w.heap.size ≤ base) : St M w0 w' (.ow e A n cc xs :: H) :=
  h.new (T := fun b => w.heap.size ≤ b) (c := .ow e A n cc xs) hb ⟨fun a ha => Nat.le_trans hB (Ow.lt hc a ha).1, hc.mono (Nat.zero_le _)⟩ fun _ _ h => h
theorem St.newG {k : Nat} {e : TypeId} {A : Option Addr} {base cc : Nat} {S : BS} {els : List El} (h : St M w0 w H) (hb : Below w.heap.size w w') (hc : OwR k e w' base S A cc els) (hB : w.heap.size ≤ base) (hS : ∀ b, b < w'.heap.size → S b → w.heap.size ≤ b) : St M w0 w' (.rg k e A cc els :: H) :=
  h.new (T := fun b => w.heap.size ≤ b) (c := .rg k e A cc els) hb ⟨fun a ha => Nat.le_trans hB (OwR.lt hc a ha).1, hc.mono (Nat.zero_le _) hS⟩ fun _ _ h => h
theorem St.newA {g : Nat} {t : TypeId} {cs : List Value} (h : St M w0 w H) (hb : Below w.heap.size w w') (hg : w.heap.size ≤ g) (hc : Ar w' g t cs) : St M w0 w' (.blk g t cs :: H) :=
  h.new (T := fun b => w.heap.size ≤ b) (c := .blk g t cs) hb ⟨hg, hc⟩ fun _ _ h => h
/-- What a piece says. -/
theorem St.get (h : St M w0 w H) (i : Nat) (hi : nthC H i = some c) : ∃ T : BS, c.P w T ∧ (∀ b, T b → Fr M w0 b) := by
  obtain ⟨T, hT, hc, _⟩ := h.2.front hi
  exact ⟨T, hc, hT⟩
theorem St.ar {g : Nat} {t : TypeId} {cs : List Value} (h : St M w0 w H) (i : Nat) (hi : nthC H i = some (.blk g t cs)) : Ar w g t cs := by obtain ⟨T, hc, _⟩ := h.get i hi; exact hc.2
theorem St.ow {e : TypeId} {A : Option Addr} {n c : Nat} {xs : List Value} (h : St M w0 w H) (i : Nat) (hi : nthC H i = some (.ow e A n c xs)) : Ow w 0 e A n c xs := by obtain ⟨T, hc, _⟩ := h.get i hi; exact hc.2
theorem St.rg {k : Nat} {e : TypeId} {A : Option Addr} {c : Nat} {els : List El} (h : St M w0 w H) (i : Nat) (hi : nthC H i = some (.rg k e A c els)) : OwR k e w 0 All A c els := by obtain ⟨T, hc, _⟩ := h.get i hi; exact hc.2.mono (Nat.le_refl _) fun _ _ _ => trivial
theorem St.ce {E : El} {cs : List Value} (h : St M w0 w H) (i : Nat) (hi : nthC H i = some (.ce E cs)) : E.P w All cs := by obtain ⟨T, hc, _⟩ := h.get i hi; exact El.all hc
theorem St.new_lt {g : Nat} {t : TypeId} {cs : List Value} (h : St NoB w0 w H) (i : Nat) (hi : nthC H i = some (.blk g t cs)) : w0.heap.size ≤ g := by obtain ⟨T, hc, hT⟩ := h.get i hi; exact (hT g hc.1).elim (fun k => k.elim) id
/-- One piece is written. -/
theorem St.upd (h : St M w0 w H) (i : Nat) (hi : nthC H i = some c) : ∃ T : BS, c.P w T ∧ (∀ b, T b → b < w.heap.size) ∧ ∀ w' c' (T' : BS), Mod T w w' → c'.P w' T' → (∀ b, b < w'.heap.size → T' b → T b ∨ w.heap.size ≤ b) → St M w0 w' (setC H i c') := by
  have h0 := h.front i hi
  obtain ⟨S, ⟨T, hT, hc, _⟩, hS, _, _, hB⟩ := St.lend (H1 := [c]) (H2 := delC H i) h0
  refine ⟨S, Cd.move hc (Nat.le_refl _) fun b _ k => ⟨hT b k, rfl⟩, hS, fun w' c' T' hm hc' hT' => ?_⟩
  have := hB w' [c'] ⟨hm, fun b => T' b ∧ b < w'.heap.size, fun b k => (hT' b k.2 k.1).elim .inl .inr, Cd.move hc' (Nat.le_refl _) fun b hb k => ⟨⟨k, hb⟩, rfl⟩, trivial⟩
  exact ⟨this.1, this.2.back hi⟩
theorem St.updA {g : Nat} {t : TypeId} {cs cs' : List Value} (h : St M w0 w H) (i : Nat) (hi : nthC H i = some (.blk g t cs)) (ha : Ar w' g t cs') (hg : Gr w w' (some ⟨g, 0, none⟩)) : St M w0 w' (setC H i (.blk g t cs')) := by
  obtain ⟨T, hc, hT, hK⟩ := h.upd i hi
  exact hK w' (.blk g t cs') T (Mod.of_gr hg fun a h => by cases h; exact hc.1) ⟨hc.1, ha⟩ fun _ _ h => .inl h
theorem at_in {A A' : Option Addr} {T : BS} (hat : A'.map (·.block) = A.map (·.block) ∨ ∀ a', A' = some a' → w.heap.size ≤ a'.block) (hA : ∀ a, A = some a → T a.block) : ∀ a, A' = some a → T a.block ∨ w.heap.size ≤ a.block := by
  rintro a rfl
  rcases hat with k | k
  · cases A with
    | none => simp at k
    | some a0 => simp at k; exact .inl (k ▸ hA a0 rfl)
  · exact .inr (k a rfl)
theorem at_new {A A' : Option Addr} (h : A'.map (·.block) = A.map (·.block) ∨ A'.map (·.block) = some w.heap.size) : A'.map (·.block) = A.map (·.block) ∨ ∀ a', A' = some a' → w.heap.size ≤ a'.block := h.imp id fun k a ha => by subst ha; simp at k; omega
theorem St.updO {e : TypeId} {A A' : Option Addr} {n n' c c' base : Nat} {xs xs' : List Value} (h : St M w0 w H) (i : Nat) (hi : nthC H i = some (.ow e A n c xs)) (ho : Ow w' base e A' n' c' xs') (hg : Gr w w' A)
    (hat : A'.map (·.block) = A.map (·.block) ∨ ∀ a', A' = some a' → w.heap.size ≤ a'.block) : St M w0 w' (setC H i (.ow e A' n' c' xs')) := by
  obtain ⟨T, hc, hT, hK⟩ := h.upd i hi
  exact hK w' (.ow e A' n' c' xs') (fun b => T b ∨ w.heap.size ≤ b) (Mod.of_gr hg hc.1) ⟨fun a ha => at_in hat hc.1 a ha, ho.mono (Nat.zero_le _)⟩ fun _ _ h => h
end
end Go.Proofs.Ytpnckagibkdcpaa


/-
  The engine's rules over what a call holds: blocks are made, read and written, rows are made, appended to and set, and the list of pieces keeps count. Nothing here names the program.
-/
namespace Go.Proofs.Ytpnckagibkdcpaa
open Go.RowKit

section
variable {P : Program} {N : Nat} {ops : Array Oper} {Q : Exit → Act → World → Prop} {rest : List Oper} {L : FL} {w0 w : World} {M : BS} {H : List Cd} {t e : TypeId} {g : Nat} {cs cs' : List Value} {z : Value} {bytes k : Nat}
/-! #### Blocks -/
theorem ws_st {x y : Operand} {ty : TypeId} {pos : String} {aft : Array Edge} {kk : Nat} {T : TypeId} {u : Value} (hs : St M w0 w H) (i : Nat) (hx : look L x = some (.pointer (some ⟨g, kk, none⟩))) (hi : nthC H i = some (.blk g T cs)) (E : Cell1 P e) (hk : Nat.blt kk cs.length = true)
    (hy : look L y = some u) (h1 : u.oneCell' = true)
    (h : ∀ w', St M w0 w' (setC H i (.blk g T (cs.set kk u))) → WL P N ops Q rest L w') :
    WL P N ops Q (⟨none, .store e x y, ty, pos, aft, none⟩ :: rest) L w :=
  wl_stA E (hs.ar i hi) hx (by simpa [Nat.blt_eq] using hk) hy h1 fun _ a2 g2 _ => h _ (hs.updA i hi a2 g2)
theorem ws_stS {x y : Operand} {ty T : TypeId} {pos : String} {aft : Array Edge} (hs : St M w0 w H) (i : Nat) (hx : look L x = some (.pointer (some ⟨g, 0, none⟩))) (hi : nthC H i = some (.blk g T cs)) (hy : look L y = some (.agg cs'.toArray)) (S : StT P t cs'.length) (hl : cs.length = cs'.length) (h1 : cs'.all (·.oneCell') = true)
    (h : ∀ w', St M w0 w' (setC H i (.blk g T cs')) → WL P N ops Q rest L w') :
    WL P N ops Q (⟨none, .store t x y, ty, pos, aft, none⟩ :: rest) L w :=
  wl_storeS S (hs.ar i hi) hx hy hl h1 fun _ a2 g2 _ => h _ (hs.updA i hi a2 g2)
theorem ws_box {d : Nat} {x : Operand} {ty : TypeId} {pos : String} {aft : Array Edge} (hs : St M w0 w H) (hx : look L x = some (.agg cs.toArray)) (hd : Nat.blt d N = true)
    (h : ∀ g w', St M w0 w' (.blk g t cs :: H) → WL P N ops Q rest ((d, .pointer (some ⟨g, 0, none⟩)) :: L) w') :
    WL P N ops Q (⟨some d, .box t x, ty, pos, aft, none⟩ :: rest) L w :=
  wl_box hx hd fun g _ hg a hb => h g _ (hs.newA hb hg a)
theorem ws_new {d : Nat} {ty : TypeId} {pos : String} {aft : Array Edge} (hs : St M w0 w H) (hz : (P.info? t).map (·.zero) = some (some (.agg cs.toArray))) (hd : Nat.blt d N = true)
    (h : ∀ g w', St M w0 w' (.blk g t cs :: H) → WL P N ops Q rest ((d, .pointer (some ⟨g, 0, none⟩)) :: L) w') :
    WL P N ops Q (⟨some d, .alloc t, ty, pos, aft, none⟩ :: rest) L w :=
  wl_new hz hd fun g _ hg a hb => h g _ (hs.newA hb hg a)
theorem ws_new1 {d : Nat} {ty : TypeId} {pos : String} {aft : Array Edge} (hs : St M w0 w H) (hz : (P.info? t).map (·.zero) = some (some z)) (hz1 : z.oneCell' = true) (hd : Nat.blt d N = true)
    (h : ∀ g w', St M w0 w' (.blk g t [z] :: H) → WL P N ops Q rest ((d, .pointer (some ⟨g, 0, none⟩)) :: L) w') :
    WL P N ops Q (⟨some d, .alloc t, ty, pos, aft, none⟩ :: rest) L w :=
  wl_alloc hz hd fun w' a hb _ => h _ w' (hs.newA hb (Nat.le_refl _) (by rw [cells_one hz1] at a; exact a))
theorem ws_var {d : Nat} {x : Operand} {ty1 ty2 : TypeId} {p1 p2 : String} {f1 f2 : Array Edge} {zs : List Value} (hs : St M w0 w H) (hz : (P.info? t).map (·.zero) = some (some (.agg zs.toArray))) (S : StT P t cs.length) (hl : zs.length = cs.length)
    (hx : ∀ p, look ((d, p) :: L) x = some (.agg cs.toArray)) (h1 : cs.all (·.oneCell') = true) (hd : Nat.blt d N = true)
    (h : ∀ g w', St M w0 w' (.blk g t cs :: H) → WL P N ops Q rest ((d, .pointer (some ⟨g, 0, none⟩)) :: L) w') :
    WL P N ops Q (⟨some d, .alloc t, ty1, p1, f1, none⟩ :: ⟨none, .store t (.tmp d) x, ty2, p2, f2, none⟩ :: rest) L w :=
  wl_var hz S hl hx h1 hd fun g _ hg a hb => h g _ (hs.newA hb hg a)
theorem ws_var1 {d : Nat} {x : Operand} {ty1 ty2 : TypeId} {p1 p2 : String} {f1 f2 : Array Edge} {u : Value} (hs : St M w0 w H) (hz : (P.info? t).map (·.zero) = some (some z)) (hz1 : z.oneCell' = true) (E : Cell1 P t)
    (hx : ∀ p, look ((d, p) :: L) x = some u) (h1 : u.oneCell' = true) (hd : Nat.blt d N = true)
    (h : ∀ g w', St M w0 w' (.blk g t [u] :: H) → WL P N ops Q rest ((d, .pointer (some ⟨g, 0, none⟩)) :: L) w') :
    WL P N ops Q (⟨some d, .alloc t, ty1, p1, f1, none⟩ :: ⟨none, .store t (.tmp d) x, ty2, p2, f2, none⟩ :: rest) L w :=
  wl_var1 hz hz1 E hx h1 hd fun g _ hg a hb => h g _ (hs.newA hb hg a)
/-! #### Rows of one cell an element -/
theorem ws_bs {d len : Nat} {ps : List (Nat × Operand)} {vs : List Value} {ty : TypeId} {pos : String} {aft : Array Edge} (hs : St M w0 w H) (T : Row1 P t e z bytes) (hp : PLooks L 0 ps vs) (hl : vs.length = len) (hle : len ≤ 16777216) (hd : Nat.blt d N = true)
    (h : ∀ A w', St M w0 w' (.ow e A len len vs :: H) → WL P N ops Q rest ((d, .slice A len len) :: L) w') :
    WL P N ops Q (⟨some d, .buildSlice t len ps.toArray, ty, pos, aft, none⟩ :: rest) L w :=
  wl_bs T hp hl hle hd fun A w' ho hb _ => h A w' (hs.newO hb ho (Nat.le_refl _))
theorem ws_mk {d : Nat} {x y : Operand} {ty : TypeId} {pos : String} {aft : Array Edge} {n c : Nat} {p q : Int} {k1 k2 : IntKind} (hs : St M w0 w H) (T : Row1 P t e z bytes) (hx : look L x = some (.int k1 p)) (hy : look L y = some (.int k2 q)) (hp : p = (n : Int)) (hq : q = (c : Int)) (hnc : n ≤ c)
    (hb : bytes * c ≤ 281474976710656) (hm : c ≤ maxLen) (hd : Nat.blt d N = true)
    (h : ∀ A w', St M w0 w' (.ow e A n c (List.replicate n z) :: H) → WL P N ops Q rest ((d, .slice A n c) :: L) w') :
    WL P N ops Q (⟨some d, .makeSlice t x y, ty, pos, aft, none⟩ :: rest) L w :=
  wl_mk T hx hy hp hq hnc hb hm hd fun A w' ho hb _ => h A w' (hs.newO hb ho (Nat.le_refl _))
theorem ws_app {d : Nat} {s x : Operand} {ty : TypeId} {pos : String} {aft : Array Edge} {A : Option Addr} {n c : Nat} {xs : List Value} {B : Option Addr} {m c' : Nat} {ys : List Value} (hs : St M w0 w H) (i : Nat) (hx0 : look L s = some (.slice A n c)) (hi : nthC H i = some (.ow e A n c xs)) (T : Row1 P t e z bytes)
    (hx : look L x = some (.slice B m c')) (hr : Rd w B m ys) (h1 : ∀ u ∈ ys, u.oneCell' = true)
    (hbytes : (n + m) * bytes ≤ 140737488355328) (hmax : n + m ≤ maxLen) (hd : Nat.blt d N = true)
    (h : ∀ A' c' w', St M w0 w' (setC H i (.ow e A' (n + m) c' (xs ++ ys))) → WL P N ops Q rest ((d, .slice A' (n + m) c') :: L) w') :
    WL P N ops Q (⟨some d, .call { callee := .builtin .append, args := #[s, x], argTypes := #[t, t] }, ty, pos, aft, none⟩ :: rest) L w :=
  wl_app T hx0 (hs.ow i hi) hx hr h1 hbytes hmax (Nat.zero_le _) hd fun A' c' w' ho hg hat => h A' c' w' (hs.updO i hi ho hg (at_new hat))
theorem Gr.at_any {A A' : Option Addr} {n c base : Nat} {xs : List Value} {w' : World} (hg : Gr w w' A) (ho : Ow w' base e A' n c xs) (h : A'.map (·.block) = A.map (·.block) ∨ ∀ a', A' = some a' → w.heap.size ≤ a'.block) : A'.map (·.block) = A.map (·.block) ∨ ∀ a', A' = some a' → w.heap.size ≤ a'.block := h
theorem ws_push {d1 d2 len : Nat} {ps : List (Nat × Operand)} {vs : List Value} {s : Operand} {ty1 ty2 : TypeId} {p1 p2 : String} {f1 f2 : Array Edge} {A : Option Addr} {n c : Nat} {xs : List Value} (hs : St M w0 w H) (i : Nat) (hx0 : look L s = some (.slice A n c)) (hi : nthC H i = some (.ow e A n c xs)) (T : Row1 P t e z bytes)
    (hp : PLooks L 0 ps vs) (hl : vs.length = len) (hle : len ≤ 16777216) (hs1 : look ((d1, .slice (some ⟨w.heap.size, 0, none⟩) len len) :: L) s = some (.slice A n c))
    (hbytes : (n + len) * bytes ≤ 140737488355328) (hmax : n + len ≤ maxLen) (hd1 : Nat.blt d1 N = true) (hd2 : Nat.blt d2 N = true)
    (h : ∀ p A' c' w', St M w0 w' (setC H i (.ow e A' (n + len) c' (xs ++ vs))) → WL P N ops Q rest ((d2, .slice A' (n + len) c') :: (d1, p) :: L) w') :
    WL P N ops Q (⟨some d1, .buildSlice t len ps.toArray, ty1, p1, f1, none⟩ :: ⟨some d2, .call { callee := .builtin .append, args := #[s, .tmp d1], argTypes := #[t, t] }, ty2, p2, f2, none⟩ :: rest) L w :=
  wl_push T hx0 (hs.ow i hi) hp hl hle hs1 hbytes hmax (Nat.zero_le _) hd1 hd2 fun p A' c' w' ho hg hat => h p A' c' w' (hs.updO i hi ho hg hat)
theorem ws_set {d1 : Nat} {x i y : Operand} {ty1 ty2 : TypeId} {p1 p2 : String} {f1 f2 : Array Edge} {A : Option Addr} {n c kk : Nat} {ik : IntKind} {q : Int} {u : Value} {xs : List Value} (hs : St M w0 w H) (j : Nat) (hx : look L x = some (.slice A n c)) (hj : nthC H j = some (.ow e A n c xs)) (T : Row1 P t e z bytes)
    (hi : look L i = some (.int ik q)) (hq : q = (kk : Int)) (hk : kk < n)
    (hy : ∀ p, look ((d1, p) :: L) y = some u) (h1 : u.oneCell' = true) (hd1 : Nat.blt d1 N = true)
    (h : ∀ p w', St M w0 w' (setC H j (.ow e A n c (xs.set kk u))) → WL P N ops Q rest ((d1, p) :: L) w') :
    WL P N ops Q (⟨some d1, .indexAddr t x i, ty1, p1, f1, none⟩ :: ⟨none, .store e (.tmp d1) y, ty2, p2, f2, none⟩ :: rest) L w :=
  wl_set T hx hi (hs.ow j hj) hq hk hy h1 hd1 fun p w' ho hg _ => h p w' (hs.updO j hj ho hg (.inl rfl))
theorem ws_appS {d : Nat} {s x : Operand} {ty : TypeId} {u : TypeId} {pos : String} {aft : Array Edge} {A : Option Addr} {n c : Nat} {xs : List Value} {ys : List UInt8} (hs : St M w0 w H) (i : Nat) (hx0 : look L s = some (.slice A n c)) (hi : nthC H i = some (.ow e A n c xs)) (T : Row1 P t e (.int .u8 0) 1) (hu : P.underlying u = some .string)
    (hx : look L x = some (str ys)) (hbytes : n + ys.length ≤ 140737488355328) (hd : Nat.blt d N = true)
    (h : ∀ A' c' w', St M w0 w' (.ow e A' (n + ys.length) c' (xs ++ bvs ys) :: delC H i) → WL P N ops Q rest ((d, .slice A' (n + ys.length) c') :: L) w') (hfr : A = none) :
    WL P N ops Q (⟨some d, .call { callee := .builtin .append, args := #[s, x], argTypes := #[t, u] }, ty, pos, aft, none⟩ :: rest) L w := by
  subst hfr
  have hn : n = 0 := by
    rcases (hs.ow i hi).2 with ⟨_, hn⟩ | ⟨_, _, _, hv, _⟩
    · exact hn
    · injection hv with hA _ _; cases hA
  subst hn
  have hxs : xs = [] := List.eq_nil_of_length_eq_zero (hs.ow i hi).len
  subst hxs
  have hc : c = 0 := by
    rcases (hs.ow i hi).2 with ⟨hv, _⟩ | ⟨_, _, _, hv, _⟩
    · injection hv
    · injection hv with hA _ _; cases hA
  subst hc
  refine wl_appS (base := w.heap.size) T hu hx0 (Ow.nil _ _ _) hx hbytes (Nat.le_refl _) hd fun A' c' w' ho hg => h A' c' w' ((hs.drop i hi).newO ?_ ho (Nat.le_refl _))
  exact ⟨hg.os, hg.tape, hg.output, World.grownBy.size hg, fun b hb => hg.block b hb (by simp)⟩
/-! #### Rows of elements -/
/-- What is known by its cells alone. -/
def rawEl (cs : List Value) : El := ⟨fun _ _ cs' => cs' = cs, fun h _ _ => h⟩
theorem St.raw (hs : St M w0 w H) (cs : List Value) : St M w0 w (.ce (rawEl cs) cs :: H) := ⟨hs.1, NoB, fun _ h => h.elim, rfl, hs.2.mono fun _ _ h => ⟨h, id⟩⟩
theorem St.nilO (hs : St M w0 w H) (e : TypeId) : St M w0 w (.ow e none 0 0 [] :: H) := ⟨hs.1, NoB, fun _ h => h.elim, ⟨by simp, Ow.nil _ _ _⟩, hs.2.mono fun _ _ h => ⟨h, id⟩⟩
theorem St.nilG (hs : St M w0 w H) (k : Nat) (e : TypeId) : St M w0 w (.rg k e none 0 [] :: H) := ⟨hs.1, NoB, fun _ h => h.elim, ⟨by simp, OwR.nil _ _ _⟩, hs.2.mono fun _ _ h => ⟨h, id⟩⟩
/-- Pieces in front are told as one. -/
theorem St.pack {H1 : List Cd} (hs : St M w0 w (H1 ++ H)) (c : Cd) (h : ∀ w S, Sat w H1 S → c.P w S) : St M w0 w (c :: H) := by
  obtain ⟨T, hT, h1, h2⟩ := hs.2.append
  exact ⟨hs.1, T, hT, h _ _ h1, h2⟩
theorem Sat.split {c : Cd} {S : BS} (h : Sat w (c :: H) S) {H1 : List Cd} (hc : ∀ T, c.P w T → Sat w H1 T) : Sat w (H1 ++ H) S := by
  obtain ⟨T, hT, h1, h2⟩ := h
  exact Sat.join hT (hc _ h1) h2
/-- A piece in front is told as some. -/
theorem St.unpack {c : Cd} (hs : St M w0 w (c :: H)) {H1 : List Cd} (h : ∀ T, c.P w T → Sat w H1 T) : St M w0 w (H1 ++ H) := ⟨hs.1, hs.2.split h⟩
theorem St.unpackE {c : Cd} (hs : St M w0 w (c :: H)) {α : Type} {H1 : α → List Cd} (h : ∀ T, c.P w T → ∃ a, Sat w (H1 a) T) : ∃ a, St M w0 w (H1 a ++ H) := by
  obtain ⟨T, hT, hc, hr⟩ := hs.2
  obtain ⟨a, ha⟩ := h T hc
  exact ⟨a, hs.1, Sat.join hT ha hr⟩
/-- An element, with the memory that is its own, goes into a row. -/
theorem ws_pushG {d1 d2 : Nat} {x : Operand} {E : El} {s : Operand} {ty1 ty2 : TypeId} {p1 p2 : String} {f1 f2 : Array Edge} {A : Option Addr} {n c : Nat} {els : List El} (hs : St M w0 w (.rg k e A c els :: .ce E cs :: H)) (T : RowK P t e k z bytes)
    (hs1 : ∀ p, look ((d1, p) :: L) s = some (.slice A n c)) (hn : els.length = n) (hx : ∃ v, look L x = some v ∧ v.cells = cs.toArray) (hl : cs.length = k) (h1 : cs.all (·.oneCell') = true) (hk : k ≤ 16777216)
    (hbytes : (n + 1) * bytes ≤ 140737488355328) (hmax : n + 1 ≤ maxLen) (hd1 : Nat.blt d1 N = true) (hd2 : Nat.blt d2 N = true)
    (h : ∀ p A' c' w', St M w0 w' (.rg k e A' c' (els ++ [E]) :: H) → WL P N ops Q rest ((d2, .slice A' (n + 1) c') :: (d1, p) :: L) w') :
    WL P N ops Q (⟨some d1, .buildSlice t 1 #[(0, x)], ty1, p1, f1, none⟩ :: ⟨some d2, .call { callee := .builtin .append, args := #[s, .tmp d1], argTypes := #[t, t] }, ty2, p2, f2, none⟩ :: rest) L w := by
  obtain ⟨S, ⟨T1, hT1, hc1, T2, hT2, hc2, _⟩, hS, _, _, hB⟩ := St.lend (H1 := [.rg k e A c els, .ce E cs]) (H2 := H) hs
  have hown : OwR k e w 0 S A c els := hc1.2.mono (Nat.le_refl _) fun b _ h => hT1 b h
  have hbut : ∀ b, b < w.heap.size → T2 b → But A b := fun b _ hb a ha hk => (hT2 b hb).2 (hk ▸ hc1.1 a ha)
  refine wl_pushG (css' := [cs]) (els' := [E]) (ps := [(0, x)]) T hs1 hown hn ⟨rfl, hx, hl, trivial⟩ (Grp.one (El.mono hc2 fun b hb hh => ⟨(hT2 b hh).1, hbut b hb hh⟩) hl) rfl (by simpa using h1) (by simpa using hk) (by decide) hbytes hmax (Nat.zero_le _) hd1 hd2 fun p A' c' w' hO hG hat => h p A' c' w' ?_
  have hA : ∀ a, A = some a → S a.block := fun a ha => hT1 _ (hc1.1 a ha)
  refine hB w' [.rg k e A' c' (els ++ [E])] ⟨Mod.of_gr hG hA, Fr S w, fun b h => h, ⟨fun a ha => at_in hat hA a ha, hO.mono (Nat.le_refl _) fun b _ h => .inl h⟩, trivial⟩
theorem ws_bsG0 {d : Nat} {ty : TypeId} {pos : String} {aft : Array Edge} (hs : St M w0 w H) (hv : OpV P (.buildSlice t 0 #[]) ty L w (.slice (some ⟨w.heap.size, 0, none⟩) 0 0) (w.alloc (.cells #[] e))) (hd : Nat.blt d N = true)
    (h : ∀ A w', St M w0 w' (.rg k e A 0 [] :: H) → WL P N ops Q rest ((d, .slice A 0 0) :: L) w') :
    WL P N ops Q (⟨some d, .buildSlice t 0 #[], ty, pos, aft, none⟩ :: rest) L w := by
  have hb : Below w.heap.size w (w.alloc (.cells #[] e)) := (Below.refl _ _).alloc (Nat.le_refl _) _
  refine wl_val hv hd (h _ _ (hs.newG (S := NoB) (base := w.heap.size) hb (OwR.nilc ?_) (Nat.le_refl _) fun _ _ h => h.elim))
  have := World.ownsRow_lit (e := e) (size := k) (base := w.heap.size) w #[] 0 (Nat.le_refl _) (by simp) (by simp)
  simpa using this
theorem opv_bsG0 {ty : TypeId} (T : RowK P t e k z bytes) : OpV P (.buildSlice t 0 #[]) ty L w (.slice (some ⟨w.heap.size, 0, none⟩) 0 0) (w.alloc (.cells #[] e)) := fun ρ o hρ ho _ => by
  unfold execOp
  simp only [ho, Instr.buildSlice, Sem.run_bind, run_underlying T.sl, Result.andThen_ok, T.size]
  have h0 : Array.range 0 = #[] := Array.eq_empty_of_size_eq_zero (by simp)
  simp [newRow, Instr.fill, h0]
theorem RdR.raw {w : World} {S : BS} {A : Option Addr} {css : List (List Value)} (h : RdR k w S A (css.map rawEl)) : Rd w A (css.length * k) css.flatten ∧ ∀ cs ∈ css, cs.length = k := by
  obtain ⟨css', h1, h2, _⟩ := h
  have he : css' = css := by
    apply List.ext_getElem?
    intro i
    cases hi : css'[i]? with
    | none => rw [List.getElem?_eq_none]; have := h1.1; rw [List.length_map] at this; have := List.getElem?_eq_none_iff.1 hi; omega
    | some cs =>
      obtain ⟨_, E, hE, hp⟩ := h1.2 i cs hi
      rw [List.getElem?_map] at hE
      cases hc : css[i]? with
      | none => rw [hc] at hE; cases hE
      | some x => rw [hc] at hE; cases hE; have hp' : cs = x := hp; rw [hp']
  subst he
  rw [List.length_map] at h2
  exact ⟨h2, h1.ks⟩
theorem RdR.to_raw {w : World} {S : BS} {A : Option Addr} {els : List El} (h : RdR k w S A els) : ∃ css, Grp k w S els css ∧ RdR k w S A (css.map rawEl) := by
  obtain ⟨css, h1, h2, h3⟩ := h
  exact ⟨css, h1, css, ⟨by simp, fun i cs hcs => ⟨h1.ks cs (List.mem_of_getElem? hcs), rawEl cs, by simp [hcs], rfl⟩⟩, by rw [List.length_map, h1.1]; exact h2, by rw [List.length_map, h1.1]; exact h3⟩
theorem grp_raw {w : World} {S : BS} {css : List (List Value)} (hk : ∀ cs ∈ css, cs.length = k) : Grp k w S (css.map rawEl) css := ⟨by simp, fun i cs hcs => ⟨hk cs (List.mem_of_getElem? hcs), rawEl cs, by simp [hcs], rfl⟩⟩
theorem OwR.raw {w : World} {S : BS} {A : Option Addr} {css : List (List Value)} {base c : Nat} (h : OwR k e w base S A c (css.map rawEl)) : w.ownsRow base e k (.slice A css.length c) css.length css.flatten ∧ ∀ cs ∈ css, cs.length = k := by
  obtain ⟨css', h1, h2⟩ := h
  have he : css' = css := by
    apply List.ext_getElem?
    intro i
    cases hi : css'[i]? with
    | none => rw [List.getElem?_eq_none]; have := h1.1; rw [List.length_map] at this; have := List.getElem?_eq_none_iff.1 hi; omega
    | some cs =>
      obtain ⟨_, E, hE, hp⟩ := h1.2 i cs hi
      rw [List.getElem?_map] at hE
      cases hc : css[i]? with
      | none => rw [hc] at hE; cases hE
      | some x => rw [hc] at hE; cases hE; have hp' : cs = x := hp; rw [hp']
  subst he
  rw [List.length_map] at h2
  exact ⟨h2, h1.ks⟩
/-- What was handed on cell by cell is told as elements again. -/
theorem St.rawOut (hs : St NoB w0 w H) (i : Nat) {A : Option Addr} {c : Nat} {css : List (List Value)} {els : List El} {S : BS} (hi : nthC H i = some (.rg k e A c (css.map rawEl))) (hg : Grp k w0 S els css) : OwR k e w w0.heap.size S A c els := by
  obtain ⟨T, hc, hT⟩ := hs.get i hi
  have hA : ∀ a, A = some a → w0.heap.size ≤ a.block := fun a ha => (hT _ (hc.1 a ha)).elim (fun h => h.elim) id
  obtain ⟨ho, hk⟩ := OwR.raw hc.2
  have hl : css.length = els.length := hg.1
  refine ⟨css, hg.move hs.1.size fun b hb h => ⟨⟨h, fun a ha => by have := hA a ha; omega⟩, hs.1.block b hb id⟩, by rw [← hl]; exact ho.1, ?_⟩
  rcases ho.2 with ⟨hv, hn⟩ | ⟨g, cap, cur, hv, _, rest⟩
  · exact .inl ⟨by rw [← hl]; exact hv, by rw [← hl]; exact hn⟩
  · injection hv with hv1 hv2 hv3
    subst hv1 hv3
    exact .inr ⟨g, c, cur, rfl, hA _ rfl, by rw [← hl]; exact rest⟩
/-- append(s, x...): elements that are known by their cells alone. -/
theorem ws_appR {d : Nat} {s x : Operand} {ty : TypeId} {pos : String} {aft : Array Edge} {A : Option Addr} {n c : Nat} {els : List El} {B : Option Addr} {m c' : Nat} {css : List (List Value)} {S' : BS} (hs : St M w0 w H) (i : Nat) (hx0 : look L s = some (.slice A n c)) (hi : nthC H i = some (.rg k e A c els)) (T : RowK P t e k z bytes)
    (hn : els.length = n) (hx : look L x = some (.slice B m c')) (hr : RdR k w S' B (css.map rawEl)) (hm : css.length = m) (h1 : ∀ u ∈ css.flatten, u.oneCell' = true)
    (hbytes : (n + m) * bytes ≤ 140737488355328) (hmax : n + m ≤ maxLen) (hd : Nat.blt d N = true)
    (h : ∀ A' c' w', St M w0 w' (setC H i (.rg k e A' c' (els ++ css.map rawEl))) → WL P N ops Q rest ((d, .slice A' (n + m) c') :: L) w') :
    WL P N ops Q (⟨some d, .call { callee := .builtin .append, args := #[s, x], argTypes := #[t, t] }, ty, pos, aft, none⟩ :: rest) L w := fun a ha => by
  subst hn hm
  obtain ⟨S, hc, hS, hK⟩ := hs.upd i hi
  obtain ⟨css0, hg, ho⟩ := hc.2
  obtain ⟨hr, hk⟩ := RdR.raw hr
  refine wpList_appG T rfl s x rfl (ha.eval hx0) ho (ha.eval hx) hr h1 hbytes hmax (Nat.zero_le _) fun A' c' w' ho' hgr hat => ?_
  refine h A' c' w' (hK w' (.rg k e A' c' (els ++ css.map rawEl)) (fun b => S b ∨ w.heap.size ≤ b) (Mod.of_gr hgr hc.1) ⟨fun a ha => at_in (at_new hat) hc.1 a ha, css0 ++ css, ?_, ?_⟩ fun _ _ h => h) _ (ha.put hd _)
  · have hg' : Grp k w (fun b => S b ∧ But A b) (css.map rawEl) css := grp_raw hk
    refine (hg.append hg').move hgr.size fun b hlt hb => ⟨⟨.inl hb.1, fun a' ha' => ?_⟩, hgr.block b hlt ?_⟩
    · subst ha'
      rcases hat with e | e
      · cases A with
        | none => simp at e
        | some a0 => simp only [Option.map_some, Option.some.injEq] at e; rw [e]; exact hb.2 a0 rfl
      · simp only [Option.map_some, Option.some.injEq] at e; omega
    · intro hk
      cases A with
      | none => simp at hk
      | some a0 => simp only [Option.map_some, Option.some.injEq] at hk; exact hb.2 a0 rfl hk
  · have : (els ++ css.map rawEl).length = els.length + css.length := by simp
    rw [this, List.flatten_append]; exact ho'
/-- append(s, x): an element that is known by its cells alone. -/
theorem ws_pushR {d1 d2 : Nat} {x : Operand} {s : Operand} {ty1 ty2 : TypeId} {p1 p2 : String} {f1 f2 : Array Edge} {A : Option Addr} {n c : Nat} {els : List El} (hs : St M w0 w H) (i : Nat) (hs1 : ∀ p, look ((d1, p) :: L) s = some (.slice A n c)) (hi : nthC H i = some (.rg k e A c els)) (T : RowK P t e k z bytes)
    (hn : els.length = n) (hx : ∃ v, look L x = some v ∧ v.cells = cs.toArray) (hl : cs.length = k) (h1 : cs.all (·.oneCell') = true) (hk : k ≤ 16777216)
    (hbytes : (n + 1) * bytes ≤ 140737488355328) (hmax : n + 1 ≤ maxLen) (hd1 : Nat.blt d1 N = true) (hd2 : Nat.blt d2 N = true)
    (h : ∀ p A' c' w', St M w0 w' (setC H i (.rg k e A' c' (els ++ [rawEl cs]))) → WL P N ops Q rest ((d2, .slice A' (n + 1) c') :: (d1, p) :: L) w') :
    WL P N ops Q (⟨some d1, .buildSlice t 1 #[(0, x)], ty1, p1, f1, none⟩ :: ⟨some d2, .call { callee := .builtin .append, args := #[s, .tmp d1], argTypes := #[t, t] }, ty2, p2, f2, none⟩ :: rest) L w := by
  obtain ⟨S, hc, hS, hK⟩ := hs.upd i hi
  refine wl_pushG (css' := [cs]) (els' := [rawEl cs]) (ps := [(0, x)]) T hs1 hc.2 hn ⟨rfl, hx, hl, trivial⟩ (grp_raw (css := [cs]) (by simpa using hl)) rfl (by simpa using h1) (by simpa using hk) (by decide) hbytes hmax (Nat.zero_le _) hd1 hd2 fun p A' c' w' hO hG hat => h p A' c' w' ?_
  exact hK w' (.rg k e A' c' (els ++ [rawEl cs])) (fun b => S b ∨ w.heap.size ≤ b) (Mod.of_gr hG hc.1) ⟨fun a ha => at_in hat hc.1 a ha, hO.mono (Nat.le_refl _) fun b _ h => .inl h⟩ fun _ _ h => h
/-- A beginning of a row. -/
theorem OwR.pre {w : World} {S : BS} {A : Option Addr} {base c m : Nat} {els : List El} (h : OwR k e w base S A c els) (hm : m ≤ els.length) : OwR k e w base S A c (els.take m) := by
  obtain ⟨css, hg, ho⟩ := h
  have hl : (els.take m).length = m := by simp; omega
  refine ⟨css.take m, hg.take m, ?_⟩
  rw [hl]
  refine ⟨by have := (hg.take m).len; rw [hl] at this; exact this, ?_⟩
  rcases ho.2 with ⟨hv, hn⟩ | ⟨g, cap, cur, hv, hg', h1, h2, h3, h4, h5⟩
  · injection hv with hA _ hc
    have : m = 0 := by omega
    subst this
    exact .inl ⟨by rw [hA, hc], rfl⟩
  · injection hv with hA _ hc
    subst hA hc
    refine .inr ⟨g, c, cur, rfl, hg', h1, by omega, h3, h4, ?_⟩
    rw [← flat_take m hg.ks, ← h5, List.take_take, Nat.min_eq_left (Nat.mul_le_mul_right _ hm)]
theorem St.pre {A : Option Addr} {c m : Nat} {els : List El} (hs : St M w0 w (.rg k e A c els :: H)) (hm : m ≤ els.length) : St M w0 w (.rg k e A c (els.take m) :: H) := by
  obtain ⟨T, hT, hc, hr⟩ := hs.2
  exact ⟨hs.1, T, hT, ⟨hc.1, hc.2.pre hm⟩, hr⟩
/-- append(s, x...): the elements of the one row, with the memory that is their own, go into the other. -/
theorem ws_appG2 {d : Nat} {s x : Operand} {ty : TypeId} {pos : String} {aft : Array Edge} {A : Option Addr} {n c : Nat} {els els' : List El} {B : Option Addr} {m c' : Nat} (hs : St M w0 w (.rg k e A c els :: .rg k e B c' els' :: H)) (hx0 : look L s = some (.slice A n c)) (T : RowK P t e k z bytes)
    (hn : els.length = n) (hx : look L x = some (.slice B m c')) (hm : els'.length = m) (h1 : ∀ css w S, Grp k w S els' css → ∀ u ∈ css.flatten, u.oneCell' = true)
    (hbytes : (n + m) * bytes ≤ 140737488355328) (hmax : n + m ≤ maxLen) (hd : Nat.blt d N = true)
    (h : ∀ A' c' w', St M w0 w' (.rg k e A' c' (els ++ els') :: H) → WL P N ops Q rest ((d, .slice A' (n + m) c') :: L) w') :
    WL P N ops Q (⟨some d, .call { callee := .builtin .append, args := #[s, x], argTypes := #[t, t] }, ty, pos, aft, none⟩ :: rest) L w := by
  obtain ⟨S, ⟨T1, hT1, hc1, T2, hT2, hc2, _⟩, hS, _, _, hB⟩ := St.lend (H1 := [.rg k e A c els, .rg k e B c' els']) (H2 := H) hs
  have hown : OwR k e w 0 S A c els := hc1.2.mono (Nat.le_refl _) fun b _ h => hT1 b h
  have hbut : ∀ b, b < w.heap.size → T2 b → But A b := fun b _ hb a ha hk => (hT2 b hb).2 (hk ▸ hc1.1 a ha)
  have hr : RdR k w (fun b => S b ∧ But A b) B els' := by
    obtain ⟨css, g1, g2⟩ := hc2.2
    exact ⟨css, g1.mono fun b hb h => ⟨(hT2 b h.1).1, hbut b hb h.1⟩, own_rd g2, fun a ha _ => ⟨(hT2 _ (hc2.1 a ha)).1, hbut _ (OwR.lt hc2.2 a ha).2 (hc2.1 a ha)⟩⟩
  have hA : ∀ a, A = some a → S a.block := fun a ha => hT1 _ (hc1.1 a ha)
  refine wl_appG T hx0 hown hn hx hr hm (fun css hg => h1 css _ _ hg) hbytes hmax (Nat.zero_le _) hd fun A' c2 w' hO hG hat => h A' c2 w' ?_
  exact hB w' [.rg k e A' c2 (els ++ els')] ⟨Mod.of_gr hG hA, Fr S w, fun b h => h, ⟨fun a ha => at_in (at_new hat) hA a ha, hO.mono (Nat.le_refl _) fun b _ h => .inl h⟩, trivial⟩
end
end Go.Proofs.Ytpnckagibkdcpaa


/-
  The bytes of a constant string, over pieces: made, marked, and read from then on. Nothing here names the program.
-/
namespace Go.Proofs.Ytpnckagibkdcpaa
open Go.RowKit

theorem zell_freeze (w : World) (a : Addr) (n : Nat) (p : Addr) : (w.freeze a n).cell? p = w.cell? p := by
  unfold World.freeze
  split
  · rfl
  · unfold World.cell?
    simp only [Array.getElem?_modify]
    by_cases h : a.block = p.block
    · rw [if_pos h]
      cases w.heap[p.block]? with
      | none => rfl
      | some o => cases o <;> rfl
    · rw [if_neg h]
theorem zelow_freeze {B : Nat} (w : World) (a : Addr) (n : Nat) (h : B ≤ a.block) : Below B w (w.freeze a n) := by
  unfold World.freeze
  split
  · exact Below.refl _ _
  · refine ⟨rfl, rfl, rfl, by simp, fun j hj => ?_⟩
    simp only [Array.getElem?_modify]
    rw [if_neg (by omega)]
section
variable {P : Program} {N : Nat} {ops : Array Oper} {Q : Exit → Act → World → Prop} {rest : List Oper} {L : FL} {w0 w : World} {M : BS} {H : List Cd} {t e : TypeId} {bytes : Nat}
theorem ws_lit {d1 d2 len : Nat} {ps : List (Nat × Operand)} {ty1 ty2 : TypeId} {p1 p2 : String} {f1 f2 : Array Edge} (hs : St M w0 w H) (xs : List UInt8) (T : Row1 P t e (.int .u8 0) bytes) (he : P.underlying e = some (.int .u8)) (hp : PLooks L 0 ps (bvs xs)) (hl : xs.length = len) (hle : len ≤ 16777216) (h0 : 0 < len) (hd1 : Nat.blt d1 N = true) (hd2 : Nat.blt d2 N = true)
    (h : ∀ p A w', St M w0 w' (.ce (byEl xs) [.slice A xs.length xs.length] :: H) → WL P N ops Q rest ((d2, .slice A xs.length xs.length) :: (d1, p) :: L) w') :
    WL P N ops Q (⟨some d1, .buildSlice t len ps.toArray, ty1, p1, f1, none⟩ :: ⟨some d2, .convert t t (.tmp d1), ty2, p2, f2, none⟩ :: rest) L w := by
  subst hl
  refine wl_bs T hp (bvs_length xs) hle hd1 fun A w1 ho hb _ => ?_
  have hr : RdR 1 w1 All A [] := RdR.nil _
  have hr : Rd w1 A xs.length (bvs xs) := ho.rd
  obtain ⟨b, o, rfl, hb1, hc⟩ := hr.2 h0
  have hlen : 0 < (bvs xs).length := by rw [bvs_length]; exact h0
  have h0c := hc 0 (bvs xs)[0] (List.getElem?_eq_getElem hlen)
  obtain ⟨k, hk⟩ : ∃ k, w1.shape? b = some k := by
    unfold World.cell? at h0c
    unfold World.shape?
    simp only at h0c
    cases hh : w1.heap[b]? with
    | none => rw [hh] at h0c; cases h0c
    | some ob => cases ob <;> first | exact ⟨_, rfl⟩ | (rw [hh] at h0c; cases h0c)
  have hge : w.heap.size ≤ b := (Ow.lt ho _ rfl).1
  have hbf : Below w.heap.size w (w1.freeze ⟨b, k.2, none⟩ 1) := hb.trans (zelow_freeze _ _ _ hge)
  refine wl_val (v := .slice (some ⟨b, o, none⟩) xs.length xs.length) (w' := w1.freeze ⟨b, k.2, none⟩ 1) (fun ρ op hρ ho _ => ?_) hd2 (h _ _ _ ?_)
  · unfold execOp
    simp only [ho, hρ (.tmp d1) (.slice (some ⟨b, o, none⟩) xs.length xs.length) (by simp [look, lookT]), convert, Sem.run_bind, run_underlying T.sl, Result.andThen_ok]
    simp [run_underlying he, markStringish, hk]
  · refine hs.new (T := fun b => w.heap.size ≤ b) (c := .ce (byEl xs) [.slice (some ⟨b, o, none⟩) xs.length xs.length]) hbf ?_ fun _ _ h => h
    refine byEl.mk ⟨hr.1, fun _ => ⟨b, o, rfl, ?_, fun j u hu => by rw [zell_freeze]; exact hc j u hu⟩⟩ (Nat.le_refl _) fun a ha _ => by cases ha; exact hge
    unfold World.freeze; simp; exact hb1
end
end Go.Proofs.Ytpnckagibkdcpaa
