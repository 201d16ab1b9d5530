/-
  The texts of this proof, joined: Zc, I1, I2, I3, I4, Shelf, I5, I7, Pf, Pg, I6, Va, Wc, Wd, Vb, Vc, Vd, Ve, Vf, Vg, I8, I9.
-/
import Derived.Test.YtdgagffieobiiaaJouM1
import Derived.Test.YtdgagffieobiiaaJouM3
import Derived.Shelf.SlIter.Nil
import Derived.Shelf.SortM.Plain
import Derived.Shelf.SortM.SortNone
import Derived.Test.YtdgagffieobiiaaProg
import Derived.Test.YtdgagffieobiiaaJouM2
import Derived.Lib.Hide
import Derived.Laws.CopyOwn
import Derived.Lib.MakeNoZero
import Derived.Laws.Externs

/-
  The engine's rules for a region whose order Go leaves open and which stores at its end: up to the first store (number m, for which all others wait) operations that yield one value in every world of a class are taken first; from there on the class no longer counts. Nothing here names the program.
-/
namespace Go.Proofs.Ytdgagffieobiiaa
open Go.RowKit

def AnyM (P : Program) (ops : Array Oper) (Q : Exit → Act → World → Prop) (S : World → Prop) (m : Nat) : Nat → Array Bool → Act → World → Prop
  | 0, listed, a, w => Region.ready .any ops listed = [] ∧ Q .normal a w
  | fuel + 1, listed, a, w =>
    (Region.ready .any ops listed = [] → Q .normal a w) ∧
    ∀ i ∈ Region.ready .any ops listed, wpOp P ops Q i (fun a' w' => ((listed.setIfInBounds i true).getD m false = false → S w') ∧ AnyM P ops Q S m fuel (listed.setIfInBounds i true) a' w') a w
section
variable {P : Program} {ops : Array Oper} {Q : Exit → Act → World → Prop} {S : World → Prop} {m : Nat}
theorem any_of_M : ∀ (fuel : Nat) (listed : Array Bool) (a : Act) (w : World), AnyM P ops Q S m fuel listed a w → wpAny P .any ops Q fuel listed a w
  | 0, _, _, _, h => h
  | fuel + 1, _, _, _, h => ⟨h.1, fun i hi => wpOp_mono (fun a' w' h' => any_of_M fuel _ a' w' h'.2) (h.2 i hi)⟩
theorem anyM_first {i : Nat} {oi om : Oper} {v : Value} (hi : ops[i]? = some oi) (hsel : ∀ (j : Nat) (o : Oper) cs b, ops[j]? = some o → o.op ≠ .select cs b)
    (hQ : ∀ c a w, Q (.panic c) (a.put oi.dst v) w → Q (.panic c) a w) (hm : ops[m]? = some om) (hmi : m ≠ i) (hwait : ∃ e ∈ om.after, Region.binds .any e = true ∧ e.on = i) :
    ∀ (fuel : Nat) (listed : Array Bool) (a : Act) (w : World),
      (∀ j oj, ops[j]? = some oj → j ≠ i → listed.getD j true = false → (∀ e ∈ oj.after, Region.binds .any e = true → e.on ≠ i) → oi.apart ops oj = true) →
      i ∈ Region.ready .any ops listed → YieldsIf P ops S oi v a → S w → listed.getD m false = false →
      AnyM P ops Q S m fuel (listed.setIfInBounds i true) (a.put oi.dst v) w → AnyM P ops Q S m (fuel + 1) listed a w := by
  have hset : ∀ (l : Array Bool) (j : Nat), m ≠ j → (l.setIfInBounds j true).getD m false = l.getD m false := fun l j h => getD_set_ne false (Ne.symm h)
  intro fuel
  induction fuel with
  | zero =>
    intro listed a w _ hr hy hS hlm H
    refine ⟨fun h => (by rw [h] at hr; cases hr), fun j hj => ?_⟩
    by_cases hji : j = i
    · subst hji; exact hy.wpOp hi hS ⟨fun _ => hS, H⟩
    · have := ready_mono hj hji
      rw [H.1] at this
      cases this
  | succ fuel ih =>
    intro listed a w hfree hr hy hS hlm H
    refine ⟨fun h => (by rw [h] at hr; cases hr), fun j hj => ?_⟩
    by_cases hji : j = i
    · subst hji; exact hy.wpOp hi hS ⟨fun _ => hS, H⟩
    · have h1 := H.2 j (ready_mono hj hji)
      obtain ⟨hjun, oj, hoj, hall⟩ := mem_ready.1 hj
      have hnot : ∀ e ∈ oj.after, Region.binds .any e = true → e.on ≠ i := fun e he hb heq => by
        have h1 := hall e he hb
        have h0 := (mem_ready.1 hr).1
        rw [heq] at h1
        rcases Nat.lt_or_ge i listed.size with h' | h'
        · simp [h'] at h0 h1; rw [h0] at h1; cases h1
        · simp [Array.getElem?_eq_none h'] at h1
      have hjm : m ≠ j := by
        rintro rfl
        rw [hm] at hoj; cases hoj
        obtain ⟨e, he, hb, hon⟩ := hwait
        exact hnot e he hb hon
      have h2 := wpOp_putIf hoj (hfree j oj hoj hji hjun hnot) (fun cs b => hsel i oi cs b hi) (fun cs b => hsel j oj cs b hoj) hQ hy h1
      have hfree' : ∀ k ok, ops[k]? = some ok → k ≠ i → (listed.setIfInBounds j true).getD k true = false →
          (∀ e ∈ ok.after, Region.binds .any e = true → e.on ≠ i) → oi.apart ops ok = true := fun k ok hk hki hun hno => by
        refine hfree k ok hk hki ?_ hno
        by_cases hjk : j = k
        · subst hjk; exact hjun
        · rw [getD_set_ne true hjk] at hun; exact hun
      have hl2 : (listed.setIfInBounds j true).getD m false = false := by rw [hset _ _ hjm]; exact hlm
      refine wpOp_mono (fun a' w' h3 => ?_) h2
      have hSw : S w' := h3.2.1 (by rw [hset _ _ hjm, hset _ _ hmi]; exact hlm)
      refine ⟨fun _ => hSw, ih (listed.setIfInBounds j true) a' w' hfree' (ready_mono hr (Ne.symm hji)) h3.1 hSw hl2 ?_⟩
      rw [Array.setIfInBounds_comm _ _ hji]
      exact h3.2.2
theorem anyM_firstP {i : Nat} {oi : Oper} {v : Value} (hi : ops[i]? = some oi) (hsel : ∀ (j : Nat) (o : Oper) cs b, ops[j]? = some o → o.op ≠ .select cs b)
    (hQ : ∀ c a w, Q (.panic c) (a.put oi.dst v) w → Q (.panic c) a w) (hmi : m ≠ i) :
    ∀ (fuel : Nat) (listed : Array Bool) (a : Act) (w : World),
      (∀ j oj, ops[j]? = some oj → j ≠ i → listed.getD j true = false → (∀ e ∈ oj.after, Region.binds .any e = true → e.on ≠ i) → oi.apart ops oj = true) →
      i ∈ Region.ready .any ops listed → YieldsIf P ops (fun _ => True) oi v a → (listed.getD m false = false → S w) →
      AnyM P ops Q S m fuel (listed.setIfInBounds i true) (a.put oi.dst v) w → AnyM P ops Q S m (fuel + 1) listed a w := by
  have hset : ∀ (l : Array Bool) (j : Nat), m ≠ j → (l.setIfInBounds j true).getD m false = l.getD m false := fun l j h => getD_set_ne false (Ne.symm h)
  intro fuel
  induction fuel with
  | zero =>
    intro listed a w _ hr hy hS H
    refine ⟨fun h => (by rw [h] at hr; cases hr), fun j hj => ?_⟩
    by_cases hji : j = i
    · subst hji; exact hy.wpOp hi trivial ⟨fun h => hS (by rw [← hset _ _ hmi]; exact h), H⟩
    · have := ready_mono hj hji
      rw [H.1] at this
      cases this
  | succ fuel ih =>
    intro listed a w hfree hr hy hS H
    refine ⟨fun h => (by rw [h] at hr; cases hr), fun j hj => ?_⟩
    by_cases hji : j = i
    · subst hji; exact hy.wpOp hi trivial ⟨fun h => hS (by rw [← hset _ _ hmi]; exact h), H⟩
    · have h1 := H.2 j (ready_mono hj hji)
      obtain ⟨hjun, oj, hoj, hall⟩ := mem_ready.1 hj
      have hnot : ∀ e ∈ oj.after, Region.binds .any e = true → e.on ≠ i := fun e he hb heq => by
        have h1 := hall e he hb
        have h0 := (mem_ready.1 hr).1
        rw [heq] at h1
        rcases Nat.lt_or_ge i listed.size with h' | h'
        · simp [h'] at h0 h1; rw [h0] at h1; cases h1
        · simp [Array.getElem?_eq_none h'] at h1
      have h2 := wpOp_putIf hoj (hfree j oj hoj hji hjun hnot) (fun cs b => hsel i oi cs b hi) (fun cs b => hsel j oj cs b hoj) hQ hy h1
      have hfree' : ∀ k ok, ops[k]? = some ok → k ≠ i → (listed.setIfInBounds j true).getD k true = false →
          (∀ e ∈ ok.after, Region.binds .any e = true → e.on ≠ i) → oi.apart ops ok = true := fun k ok hk hki hun hno => by
        refine hfree k ok hk hki ?_ hno
        by_cases hjk : j = k
        · subst hjk; exact hjun
        · rw [getD_set_ne true hjk] at hun; exact hun
      refine wpOp_mono (fun a' w' h3 => ?_) h2
      have hSw : (listed.setIfInBounds j true).getD m false = false → S w' := fun h => h3.2.1 (by rw [Array.setIfInBounds_comm _ _ (Ne.symm hji), hset _ _ hmi]; exact h)
      refine ⟨hSw, ih (listed.setIfInBounds j true) a' w' hfree' (ready_mono hr (Ne.symm hji)) h3.1 hSw ?_⟩
      rw [Array.setIfInBounds_comm _ _ hji]
      exact h3.2.2
end

def waits (ops : Array Oper) (m i : Nat) : Bool := match ops[m]? with
  | some o => o.after.toList.any fun e => Region.binds .any e && Nat.beq e.on i
  | none => false
def okM (ops : Array Oper) (listed : Array Bool) (m i : Nat) : Bool := okAt ops listed i && (waits ops m i && (!Nat.beq m i && !listed.getD m false))
def WM (P : Program) (N : Nat) (ops : Array Oper) (Q : Exit → Act → World → Prop) (S : World → Prop) (m fuel : Nat) (listed : Array Bool) (L : FL) (w : World) : Prop :=
  ∀ a, Has N a L → AnyM P ops (NoPanic Q) S m fuel listed a w
def HeldM (P : Program) (ops : Array Oper) (Q : Exit → Act → World → Prop) (S : World → Prop) (m fuel : Nat) (listed : Array Bool) : Exit → Act → World → Prop :=
  Exit.then (fun a w => (listed.getD m false = false → S w) ∧ AnyM P ops (NoPanic Q) S m fuel listed a w) (NoPanic Q)
section
variable {P : Program} {N : Nat} {ops : Array Oper} {Q : Exit → Act → World → Prop} {S : World → Prop} {m fuel : Nat} {listed : Array Bool} {L : FL} {w : World}
theorem wc_heldM (m : Nat) {id : Nat} {l : List Oper} (hm : P.follows .mixedOrders = true) (h : ∀ w1, Below w.heap.size w w1 → WM P N l.toArray Q (Below w.heap.size w) m l.length (Array.replicate l.length false) L w1) : WC P N (.region id l.toArray true) Q L w := fun a ha =>
  wp_region_noPanic (wp_region_any hm (any_of_M (S := Below w.heap.size w) (m := m) _ _ _ _ (by simpa using h _ ((Below.refl _ _).drew) a ha)))
theorem okM_of {i : Nat} (h : okM ops listed m i = true) : okAt ops listed i = true ∧ (∃ om, ops[m]? = some om ∧ ∃ e ∈ om.after, Region.binds .any e = true ∧ e.on = i) ∧ m ≠ i ∧ listed.getD m false = false := by
  simp only [okM, Bool.and_eq_true, Bool.not_eq_true'] at h
  obtain ⟨h1, h2, h3, h4⟩ := h
  refine ⟨h1, ?_, Nat.ne_of_beq_eq_false h3, h4⟩
  unfold waits at h2
  split at h2
  · rename_i o ho
    obtain ⟨e, he, hb⟩ := List.any_eq_true.1 h2
    rw [Bool.and_eq_true] at hb
    exact ⟨o, ho, e, by simpa using he, hb.1, Nat.eq_of_beq_eq_true hb.2⟩
  · cases h2
theorem wm_done (hr : Region.ready .any ops listed = []) (h : WE N Q .normal L w) : WM P N ops Q S m fuel listed L w := fun a ha => by
  have hq : NoPanic Q .normal a w := NoPanic.normal (h a ha)
  cases fuel with
  | zero => exact ⟨hr, hq⟩
  | succ fuel => exact ⟨fun _ => hq, by rw [hr]; simp⟩
theorem anyM_take {i : Nat} {o : Oper} {v : Value} {a : Act} (hi : ops[i]? = some o) (hk : okM ops listed m i = true) (hS : S w) (hy : YieldsIf P ops S o v a)
    (h : AnyM P ops (NoPanic Q) S m fuel (listed.setIfInBounds i true) (a.put o.dst v) w) : AnyM P ops (NoPanic Q) S m (fuel + 1) listed a w := by
  obtain ⟨h1, ⟨om, h2, h3⟩, h4, h5⟩ := okM_of hk
  obtain ⟨k1, k2, k3⟩ := okAt_of h1
  exact anyM_first hi (Region.noSelect_spec k1) (fun _ _ _ h => np h) h2 h4 h3 fuel listed a w (Region.free_spec hi k2) (by simpa using k3) hy hS h5 h
theorem wm_take (i : Nat) {d : Nat} {op : Op} {ty : TypeId} {pos : String} {aft : Array Edge} {v : Value} (hi : ops[i]? = some ⟨some d, op, ty, pos, aft, none⟩) (hv : ∀ w, S w → OpV P op ty L w v w) (hd : Nat.blt d N = true) (hk : okM ops listed m i = true) (hS : S w)
    (h : WM P N ops Q S m fuel (listed.setIfInBounds i true) ((d, v) :: L) w) : WM P N ops Q S m (fuel + 1) listed L w := fun a ha =>
  anyM_take hi hk hS (.inl ⟨by simp [Region.wanted], fun w hw => hv w hw a.eval _ (fun x u hx => ha.eval hx) rfl rfl⟩) (h _ (ha.put hd v))
/-- The same of an operation that does not look at the world. -/
theorem wm_takeP (i : Nat) {d : Nat} {op : Op} {ty : TypeId} {pos : String} {aft : Array Edge} {v : Value} (hi : ops[i]? = some ⟨some d, op, ty, pos, aft, none⟩) (hv : ∀ w, OpV P op ty L w v w) (hd : Nat.blt d N = true) (hk : (okAt ops listed i && !Nat.beq m i) = true) (hS : listed.getD m false = false → S w)
    (h : WM P N ops Q S m fuel (listed.setIfInBounds i true) ((d, v) :: L) w) : WM P N ops Q S m (fuel + 1) listed L w := fun a ha => by
  rw [Bool.and_eq_true, Bool.not_eq_true'] at hk
  obtain ⟨k1, k2, k3⟩ := okAt_of hk.1
  exact anyM_firstP hi (Region.noSelect_spec k1) (fun _ _ _ h => np h) (Nat.ne_of_beq_eq_false hk.2) fuel listed a w (Region.free_spec hi k2) (by simpa using k3) (.inl ⟨by simp [Region.wanted], fun w _ => hv w a.eval _ (fun x u hx => ha.eval hx) rfl rfl⟩) hS (h _ (ha.put hd v))
/-- One operation alone may come up. -/
theorem wm_one (i : Nat) {o : Oper} (hr : Region.ready .any ops listed = [i]) (hi : ops[i]? = some o)
    (h : WL P N ops (HeldM P ops Q S m fuel (listed.setIfInBounds i true)) [o] L w) : WM P N ops Q S m (fuel + 1) listed L w := fun a ha => by
  refine ⟨fun h0 => absurd (hr ▸ h0) (by simp), hr ▸ fun i' hi' => ?_⟩
  obtain rfl : i' = i := by simpa using hi'
  have h' := h a ha
  unfold wpOp
  simp only [hi]
  unfold wpList at h'
  split
  · rename_i hw
    rw [if_pos hw] at h'
    rcases h' with h' | ⟨ha, a0, w0, h'⟩
    · exact .inl (upon_mono (fun a w h => h) (fun e a w he h => by cases e <;> first | exact absurd rfl he | exact h) h')
    · exact .inr ⟨ha, a0, w0, h'⟩
  · rename_i hw
    rw [if_neg hw] at h'
    exact h'
/-- Two may come up. -/
theorem wm_two (i j : Nat) {o o' : Oper} (hr : Region.ready .any ops listed = [i, j]) (hi : ops[i]? = some o) (hj : ops[j]? = some o')
    (h : WL P N ops (HeldM P ops Q S m fuel (listed.setIfInBounds i true)) [o] L w) (h' : WL P N ops (HeldM P ops Q S m fuel (listed.setIfInBounds j true)) [o'] L w) : WM P N ops Q S m (fuel + 1) listed L w := fun a ha => by
  have key : ∀ {i : Nat} {o : Oper}, ops[i]? = some o → WL P N ops (HeldM P ops Q S m fuel (listed.setIfInBounds i true)) [o] L w → wpOp P ops (NoPanic Q) i (fun a' w' => ((listed.setIfInBounds i true).getD m false = false → S w') ∧ AnyM P ops (NoPanic Q) S m fuel (listed.setIfInBounds i true) a' w') a w := by
    intro i o hi h
    have h' := h a ha
    unfold wpOp
    simp only [hi]
    unfold wpList at h'
    split
    · rename_i hw
      rw [if_pos hw] at h'
      rcases h' with h' | ⟨ha, a0, w0, h'⟩
      · exact .inl (upon_mono (fun a w h => h) (fun e a w he h => by cases e <;> first | exact absurd rfl he | exact h) h')
      · exact .inr ⟨ha, a0, w0, h'⟩
    · rename_i hw
      rw [if_neg hw] at h'
      exact h'
  refine ⟨fun h0 => absurd (hr ▸ h0) (by simp), hr ▸ fun i' hi' => ?_⟩
  rw [List.mem_cons, List.mem_singleton] at hi'
  rcases hi' with rfl | rfl
  · exact key hi h
  · exact key hj h'
theorem we_heldM (hS : listed.getD m false = false → S w) (h : WM P N ops Q S m fuel listed L w) : WE N (HeldM P ops Q S m fuel listed) .normal L w := fun a ha => ⟨hS, h a ha⟩
end
end Go.Proofs.Ytdgagffieobiiaa

/-
  Walks over disks: turn, put, New, Arm.
-/
namespace Go.Proofs.Ytdgagffieobiiaa
open Go.RowKit

section
variable {M : BS} {w0 w : World} {H : List Cd} {g : Nat} {d : Dk}
theorem St.flAdd {xs : List FE} {x : FE} (hs : St M w0 w (.ck (flC xs) :: x.cd :: H)) : St M w0 w (.ck (flC (xs ++ [x])) :: H) := by
  refine hs.pack (H1 := [_, _]) _ fun w S h => ?_
  have h1 := Sat.split h (H1 := xs.map FE.cd) fun _ k => k
  show Sat w ((xs ++ [x]).map FE.cd) S
  rw [List.map_append]; exact h1
theorem St.flSet {X Y : List FE} {x y : FE} (hs : St M w0 w (.ck (flC (X ++ x :: Y)) :: y.cd :: H)) : St M w0 w (.ck (flC (X ++ y :: Y)) :: H) := by
  refine hs.pack (H1 := [_, _]) _ fun w S h => ?_
  have h1 := Sat.split h (H1 := (X ++ x :: Y).map FE.cd) fun _ k => k
  show Sat w ((X ++ y :: Y).map FE.cd) S
  rw [List.map_append, List.map_cons] at h1 ⊢
  refine Sat.dropC (c := x.cd) (Sat.permL ?_ h1)
  rw [List.append_assoc, List.cons_append]
  refine (List.perm_middle (a := x.cd)).trans (List.Perm.cons _ ?_)
  rw [← List.append_assoc]
  exact (List.perm_append_comm (l₁ := X.map FE.cd ++ Y.map FE.cd) (l₂ := [y.cd])).trans (show (y.cd :: (X.map FE.cd ++ Y.map FE.cd)).Perm (X.map FE.cd ++ y.cd :: Y.map FE.cd) from List.perm_middle.symm)
end
theorem turn_any {S : BS} {g e : Nat} {d : Dk} {b : Option Nat} {w : World} (h0 : Sat w [.blk g 67 (dkV d b)] S) (hl : d.armed = true → 0 ≤ d.left) (hl2 : d.left ≤ 9223372036854775807) :
    CallsV Try.prog 27 #[.pointer (some ⟨g, 0, none⟩), .int .i64 (e : Nat)] w fun v w' => v = .tuple #[.bool (turnD d e).1, .int .i64 ((turnD d e).2.1 : Nat)] ∧ St S w w' [.blk g 67 (dkV (turnD d e).2.2 b)] := by
  have hs := St.start h0
  refine calls_in (N := _) Try.func27 rfl Try.ntmps27 rfl ?_; show WC _ _ _ _ _ _
  obtain ⟨fs, room, armed, left, dead⟩ := d
  unfold dkV at hs ⊢
  simp only at hs hl hl2
  cases dead with
  | true =>
    refine wc_sr ?_; refine wl_as rfl rfl ?_; refine wl_as rfl rfl ?_; refine wl_ns ?_; refine wc_seq ?_; refine wc_block ?_; refine wc_sr ?_; refine wl_mv rfl rfl ?_; apply wl_val; apply opv_nilOk; exact rfl; exact rfl; apply wl_val; apply opv_fa; exact fa_sD (by decide); exact rfl; exact rfl; apply wl_val; apply opv_ldX; exact rfl; exact hs.ar 0 rfl; exact d1_bool; exact rfl; exact rfl; refine wl_as rfl rfl ?_; refine wl_ns ?_; apply wc_condTb; exact rfl; exact rfl; refine wc_sr ?_; refine wl_as rfl rfl ?_; refine wl_as rfl rfl ?_; refine wl_ns ?_; refine wc_ret ?_; refine we_block_ret ?_; refine we_seq_ret ?_
    exact we_ret2 rfl rfl rfl ⟨_, rfl, rfl, hs⟩
  | false =>
    refine wc_sr ?_; refine wl_as rfl rfl ?_; refine wl_as rfl rfl ?_; refine wl_ns ?_; refine wc_seq ?_; refine wc_block ?_; refine wc_sr ?_; refine wl_mv rfl rfl ?_; apply wl_val; apply opv_nilOk; exact rfl; exact rfl; apply wl_val; apply opv_fa; exact fa_sD (by decide); exact rfl; exact rfl; apply wl_val; apply opv_ldX; exact rfl; exact hs.ar 0 rfl; exact d1_bool; exact rfl; exact rfl; refine wl_as rfl rfl ?_; refine wl_ns ?_; apply wc_condFb; exact rfl; exact rfl; refine wc_sr ?_; refine wl_mv rfl rfl ?_; refine wl_bin rfl rfl bin_neq rfl ?_; refine wl_as rfl rfl ?_; refine wl_ns ?_
    refine wc_cond rfl (fun h1 => ?_) (fun h1 => ?_)
    · have h1' : ¬ e = 0 := by omega
      simp only [turnD, h1', ne_eq, not_false_eq_true, if_true, Bool.false_eq_true, if_false]
      refine wc_sr ?_; refine wl_mv rfl rfl ?_; refine wl_as rfl rfl ?_; refine wl_as rfl rfl ?_; refine wl_ns ?_; refine wc_ret ?_; refine we_block_ret ?_; refine we_seq_ret ?_
      exact we_ret2 rfl rfl rfl ⟨_, rfl, rfl, hs⟩
    · have h1' : e = 0 := by omega
      subst h1'
      cases armed with
      | false =>
        refine wc_sr ?_; refine wl_mv rfl rfl ?_; apply wl_val; apply opv_nilOk; exact rfl; exact rfl; apply wl_val; apply opv_fa; exact fa_sD (by decide); exact rfl; exact rfl; apply wl_val; apply opv_ldX; exact rfl; exact hs.ar 0 rfl; exact d1_bool; exact rfl; exact rfl; refine wl_mv rfl rfl ?_; apply wl_skip; exact rfl; exact rfl; exact rfl; exact bR2; exact rfl; apply wl_skip; exact rfl; exact rfl; exact rfl; exact bR2; exact rfl; apply wl_skip; exact rfl; exact rfl; exact rfl; exact bR2; exact rfl; apply wl_skip; exact rfl; exact rfl; exact rfl; exact bR2; exact rfl; apply wl_skip; exact rfl; exact rfl; exact rfl; exact bR2; exact rfl; apply wl_val; apply opv_pickF; exact rfl; exact rfl; exact rfl; exact rfl; refine wl_as rfl rfl ?_; refine wl_ns ?_; apply wc_condFb; exact rfl; exact rfl; refine wc_sr ?_; refine wl_mv rfl rfl ?_; apply wl_val; apply opv_nilOk; exact rfl; exact rfl; apply wl_val; apply opv_fa; exact fa_sD (by decide); exact rfl; exact rfl; apply wl_val; apply opv_ldX; exact rfl; exact hs.ar 0 rfl; exact d1_bool; exact rfl; exact rfl; refine wl_as rfl rfl ?_; refine wl_ns ?_; apply wc_condFb; exact rfl; exact rfl; refine wc_skip ?_; refine we_block_norm ?_; refine we_seq ?_; refine wc_sr ?_; refine wl_as rfl rfl ?_; refine wl_as rfl rfl ?_; refine wl_ns ?_; refine wc_ret ?_
        exact we_ret2 rfl rfl rfl ⟨_, rfl, rfl, hs⟩
      | true =>
        have hl := hl rfl
        by_cases h2 : left = 0
        · subst h2
          refine wc_sr ?_; refine wl_mv rfl rfl ?_; apply wl_val; apply opv_nilOk; exact rfl; exact rfl; apply wl_val; apply opv_fa; exact fa_sD (by decide); exact rfl; exact rfl; apply wl_val; apply opv_ldX; exact rfl; exact hs.ar 0 rfl; exact d1_bool; exact rfl; exact rfl; refine wl_mv rfl rfl ?_; apply wl_take; exact rfl; exact rfl; exact rfl; exact rfl; refine wl_mv rfl rfl ?_; apply wl_take; exact rfl; exact rfl; exact rfl; exact rfl; apply wl_val; apply opv_nilOk; exact rfl; exact rfl; apply wl_take; exact rfl; exact rfl; exact rfl; exact rfl; apply wl_val; apply opv_fa; exact fa_sD (by decide); exact rfl; exact rfl; apply wl_take; exact rfl; exact rfl; exact rfl; exact rfl; apply wl_val; apply opv_ldX; exact rfl; exact hs.ar 0 rfl; exact d1_int; exact rfl; exact rfl; apply wl_take; exact rfl; exact rfl; exact rfl; exact rfl; refine wl_bin rfl rfl bin_eql rfl ?_; apply wl_val; apply opv_pickT; exact rfl; exact rfl; exact rfl; exact rfl; refine wl_as rfl rfl ?_; refine wl_ns ?_; apply wc_condTb; exact rfl; exact rfl; refine wc_sr ?_; refine wl_mv rfl rfl ?_; apply wl_val; apply opv_nilOk; exact rfl; exact rfl; apply wl_val; apply opv_fa; exact fa_sD (by decide); exact rfl; exact rfl; apply ws_st hs 0; exact rfl; exact rfl; exact d1_bool; exact rfl; exact rfl; exact rfl; clear hs; intro _ hs; dsimp only [setC, List.set] at hs; refine wl_ns ?_; refine wc_sr ?_; refine wl_as rfl rfl ?_; refine wl_as rfl rfl ?_; refine wl_ns ?_; refine wc_ret ?_; refine we_block_ret ?_; refine we_seq_ret ?_
          exact we_ret2 rfl rfl rfl ⟨_, rfl, rfl, hs⟩
        · simp only [turnD, h2, ne_eq, not_true_eq_false, and_false, if_true, Bool.false_eq_true, if_false]
          refine wc_sr ?_; refine wl_mv rfl rfl ?_; apply wl_val; apply opv_nilOk; exact rfl; exact rfl; apply wl_val; apply opv_fa; exact fa_sD (by decide); exact rfl; exact rfl; apply wl_val; apply opv_ldX; exact rfl; exact hs.ar 0 rfl; exact d1_bool; exact rfl; exact rfl; refine wl_mv rfl rfl ?_; apply wl_take; exact rfl; exact rfl; exact rfl; exact rfl; refine wl_mv rfl rfl ?_; apply wl_take; exact rfl; exact rfl; exact rfl; exact rfl; apply wl_val; apply opv_nilOk; exact rfl; exact rfl; apply wl_take; exact rfl; exact rfl; exact rfl; exact rfl; apply wl_val; apply opv_fa; exact fa_sD (by decide); exact rfl; exact rfl; apply wl_take; exact rfl; exact rfl; exact rfl; exact rfl; apply wl_val; apply opv_ldX; exact rfl; exact hs.ar 0 rfl; exact d1_int; exact rfl; exact rfl; apply wl_take; exact rfl; exact rfl; exact rfl; exact rfl; refine wl_bin rfl rfl bin_eql rfl ?_; apply wl_val; apply opv_pickT; exact rfl; exact rfl; exact rfl; exact rfl; refine wl_as rfl rfl ?_; refine wl_ns ?_; apply wc_decF; exact rfl; (with_reducible assumption); refine wc_sr ?_; refine wl_mv rfl rfl ?_; apply wl_val; apply opv_nilOk; exact rfl; exact rfl; apply wl_val; apply opv_fa; exact fa_sD (by decide); exact rfl; exact rfl; apply wl_val; apply opv_ldX; exact rfl; exact hs.ar 0 rfl; exact d1_bool; exact rfl; exact rfl; refine wl_as rfl rfl ?_; refine wl_ns ?_; apply wc_condTb; exact rfl; exact rfl; refine wc_region ?_; refine wl_mv rfl rfl ?_; apply wl_val; apply opv_nilOk; exact rfl; exact rfl; apply wl_val; apply opv_fa; exact fa_sD (by decide); exact rfl; exact rfl; apply wl_val; apply opv_ldX; exact rfl; exact hs.ar 0 rfl; exact d1_int; exact rfl; exact rfl; apply wl_val; apply opv_bin; exact rfl; exact rfl; exact bin_sub64 (by omega); exact rfl; apply wl_val; apply opv_nilOk; exact rfl; exact rfl; apply wl_val; apply opv_fa; exact fa_sD (by decide); exact rfl; exact rfl; apply ws_st hs 0; exact rfl; exact rfl; exact d1_int; exact rfl; exact rfl; exact rfl; clear hs; intro _ hs; dsimp only [setC, List.set] at hs; refine wl_nil ?_; refine we_block_norm ?_; refine we_seq ?_; refine wc_sr ?_; refine wl_as rfl rfl ?_; refine wl_as rfl rfl ?_; refine wl_ns ?_; refine wc_ret ?_
          exact we_ret2 rfl rfl rfl ⟨_, rfl, rfl, hs⟩
theorem put_any {S : BS} {g c : Nat} {d : Dk} {n : List UInt8} {f : Fl} {A : Option Addr} {w : World} (h0 : Sat w [.ck (dkC g d), .ow 5 A f.data.length c (bvs f.data)] S) :
    CallsV Try.prog 29 #[.pointer (some ⟨g, 0, none⟩), str n, .agg (flV f A c).toArray] w fun v w' => v = .tuple #[] ∧ St S w w' [.ck (dkC g (putD d n f))] := by
  have hs := St.start h0
  refine calls_in (N := _) Try.func29 rfl Try.ntmps29 rfl ?_; show WC _ _ _ _ _ _
  refine wc_sr ?_
  refine ws_box (cs := flV f A c) hs rfl rfl ?_; clear hs; intro g5 _ hs
  replace hs := hs.front 1 rfl
  dsimp only [delC] at hs
  rcases hs.opn with ⟨hfs, hs1⟩ | ⟨m, xs, clk, hI, hs1⟩
  · replace hs := hs1
    clear hs1
    unfold dkV at hs
    refine wl_ns ?_; refine wc_seq ?_; refine wc_sr ?_; refine wl_mv rfl rfl ?_; apply wl_val; apply opv_nilOk; exact rfl; exact rfl; apply wl_val; apply opv_fa; exact fa_sD (by decide); exact rfl; exact rfl; apply wl_val; apply opv_ldX; exact rfl; exact hs.ar 0 rfl; exact d1_map; exact rfl; exact rfl; apply wl_val; apply opv_bin; exact rfl; exact rfl; exact bin_eqlMapNN tyDM; exact rfl; refine wl_ns ?_; apply wc_condTb; exact rfl; exact rfl; refine wc_region ?_; refine wl_mv rfl rfl ?_
    refine ws_mkMap hs rfl ?_
    clear hs; intro m _ hs
    apply wl_val; apply opv_nilOk; exact rfl; exact rfl; apply wl_val; apply opv_fa; exact fa_sD (by decide); exact rfl; exact rfl; apply ws_st hs 1; exact rfl; exact rfl; exact d1_map; exact rfl; exact rfl; exact rfl; clear hs; intro _ hs; dsimp only [setC, List.set] at hs; refine wl_ns ?_
    refine wc_heldM 6 mixed fun w_ hS => ?_
    apply wm_take 0; exact rfl; intro _ hw_; apply opv_move; exact rfl; exact rfl; kernel_rfl; exact hS; apply wm_take 1; exact rfl; intro _ hw_; apply opv_nilOk; exact rfl; exact rfl; kernel_rfl; exact hS; apply wm_take 2; exact rfl; intro _ hw_; apply opv_fa; exact fa_sD (by decide); exact rfl; exact rfl; kernel_rfl; exact hS; apply wm_take 3; exact rfl; intro _ hw_; apply opv_ldX; exact rfl; exact Ar.bel (hs.ar 1 rfl) hw_; exact d1_map; exact rfl; exact rfl; kernel_rfl; exact hS; apply wm_take 4; exact rfl; intro _ hw_; apply opv_move; exact rfl; exact rfl; kernel_rfl; exact hS; apply wm_take 5; exact rfl; intro _ hw_; apply opv_loadX; exact rfl; exact Ar.bel (hs.ar 2 rfl) hw_; exact sF; exact rfl; kernel_rfl; exact hS
    replace hs := hs.below hS
    refine wm_one 6 (by kernel_rfl) rfl ?_; dsimp only [List.getElem_toArray, List.getElem_cons_succ, List.getElem_cons_zero]
    refine ws_mput hs 0 rfl tyDM tyStrD rfl rfl rfl ?_
    clear hs; intro _ hs
    refine wl_nil ?_
    refine we_heldM (fun h => absurd h (by decide)) ?_
    refine wm_done (by kernel_rfl) ?_
    have hI : DkI (putF n f d.fs) ([] ++ [⟨n, A, c, f, 0⟩]) 1 := DkI.new (fs := d.fs) (xs := []) (clk := 0) ⟨by rw [hfs]; rfl, List.nodup_nil, (fun _ h => absurd h List.not_mem_nil), List.nodup_nil⟩ List.not_mem_nil (by rw [hfs]; rfl) A c f
    replace hs := (((hs.drop 2 rfl).front 2 rfl).pack (H1 := [_]) (.ck (flC [⟨n, A, c, f, 0⟩])) fun _ _ h => h).front 1 rfl
    dsimp only [delC] at hs
    replace hs := (hs.front 2 rfl)
    dsimp only [delC] at hs
    exact we_end0 rfl ⟨_, rfl, rfl, St.cls (d := putD d n f) (m := m) (clk := 1) (xs := [⟨n, A, c, f, 0⟩]) hs hI⟩
  · replace hs := hs1
    clear hs1
    unfold dkV at hs
    refine wl_ns ?_; refine wc_seq ?_; refine wc_sr ?_; refine wl_mv rfl rfl ?_; apply wl_val; apply opv_nilOk; exact rfl; exact rfl; apply wl_val; apply opv_fa; exact fa_sD (by decide); exact rfl; exact rfl; apply wl_val; apply opv_ldX; exact rfl; exact hs.ar 0 rfl; exact d1_map; exact rfl; exact rfl; apply wl_val; apply opv_bin; exact rfl; exact rfl; exact bin_eqlMapNil tyDM; exact rfl; refine wl_ns ?_; apply wc_condFb; exact rfl; exact rfl; refine wc_skip ?_; refine we_seq ?_
    refine wc_heldM 6 mixed fun w_ hS => ?_
    apply wm_take 0; exact rfl; intro _ hw_; apply opv_move; exact rfl; exact rfl; kernel_rfl; exact hS; apply wm_take 1; exact rfl; intro _ hw_; apply opv_nilOk; exact rfl; exact rfl; kernel_rfl; exact hS; apply wm_take 2; exact rfl; intro _ hw_; apply opv_fa; exact fa_sD (by decide); exact rfl; exact rfl; kernel_rfl; exact hS; apply wm_take 3; exact rfl; intro _ hw_; apply opv_ldX; exact rfl; exact Ar.bel (hs.ar 0 rfl) hw_; exact d1_map; exact rfl; exact rfl; kernel_rfl; exact hS; apply wm_take 4; exact rfl; intro _ hw_; apply opv_move; exact rfl; exact rfl; kernel_rfl; exact hS; apply wm_take 5; exact rfl; intro _ hw_; apply opv_loadX; exact rfl; exact Ar.bel (hs.ar 3 rfl) hw_; exact sF; exact rfl; kernel_rfl; exact hS
    replace hs := hs.below hS
    refine wm_one 6 (by kernel_rfl) rfl ?_; dsimp only [List.getElem_toArray, List.getElem_cons_succ, List.getElem_cons_zero]
    refine ws_mput hs 1 rfl tyDM tyStrD rfl rfl rfl ?_
    clear hs; intro _ hs
    refine wl_nil ?_
    refine we_heldM (fun h => absurd h (by decide)) ?_
    refine wm_done (by kernel_rfl) ?_
    dsimp only [setC] at hs
    rcases fnd_split n xs 0 with ⟨h1, h2, h3⟩ | ⟨X, x, Y, rfl, h2, h3, h4, h5⟩
    · rw [hI.fs] at h2
      rw [mput_new h1 A c f] at hs
      replace hs := ((hs.drop 3 rfl).front 3 rfl).front 3 rfl
      dsimp only [delC] at hs
      replace hs := St.flAdd (x := ⟨n, A, c, f, clk⟩) hs
      replace hs := (hs.front 2 rfl).front 2 rfl
      dsimp only [delC] at hs
      exact we_end0 rfl ⟨_, rfl, rfl, St.cls (d := putD d n f) (m := m) hs (hI.new h3 h2 A c f)⟩
    · rw [mput_old h4 h2 A c f] at hs
      replace hs := ((hs.drop 3 rfl).front 3 rfl).front 3 rfl
      dsimp only [delC] at hs
      replace hs := St.flSet (y := ⟨n, A, c, f, x.born⟩) hs
      replace hs := (hs.front 2 rfl).front 2 rfl
      dsimp only [delC] at hs
      exact we_end0 rfl ⟨_, rfl, rfl, St.cls (d := putD d n f) (m := m) hs (hI.old' h2 h3 A c f)⟩
end Go.Proofs.Ytdgagffieobiiaa

/-
  Walks over disks: Append.
-/
namespace Go.Proofs.Ytdgagffieobiiaa
open Go.RowKit

theorem turnC_any {S : BS} {g e : Nat} {d : Dk} {w : World} (h0 : Sat w [.ck (dkC g d)] S) (hok : DkOk d) :
    CallsV Try.prog 27 #[.pointer (some ⟨g, 0, none⟩), .int .i64 (e : Nat)] w fun v w' => v = .tuple #[.bool (turnD d e).1, .int .i64 ((turnD d e).2.1 : Nat)] ∧ St S w w' [.ck (dkC g (turnD d e).2.2)] := by
  have hl := hok.left
  rcases (St.start h0).opn with ⟨h1, hs⟩ | ⟨m, xs, clk, hI, hs⟩
  · obtain ⟨S2, hS2, _, _, _, hB⟩ := St.lend (H1 := [.blk g 67 (dkV d none)]) (H2 := []) hs
    exact (turn_any hS2 hl.2.2 hl.2.1).mono fun v w' h => ⟨h.1, St.cls0 (hB _ _ h.2) (by rw [(turnD_fs d e).1]; exact h1)⟩
  · obtain ⟨S2, hS2, _, _, _, hB⟩ := St.lend (H1 := [.blk g 67 (dkV d (some m))]) (H2 := [_, _]) hs
    exact (turn_any hS2 hl.2.2 hl.2.1).mono fun v w' h => ⟨h.1, St.cls (hB _ _ h.2) (by rw [(turnD_fs d e).1]; exact hI)⟩
theorem RdD.ar {w : World} {g : Nat} {d : Dk} (h : RdD w g d) : ∃ b, Ar w g 67 (dkV d b) := by
  rcases h with ⟨_, a⟩ | ⟨m, xs, clk, _, a, _⟩
  · exact ⟨_, a⟩
  · exact ⟨_, a⟩
/-- A file is looked up. -/
theorem RdD.look {w : World} {g : Nat} {d : Dk} (h : RdD w g d) (n : List UInt8) : ∃ (b : Option Nat) (A : Option Addr) (c : Nat), Ar w g 67 (dkV d b) ∧ RdB w A (fileD d n).data ∧ (fileD d n).data.length ≤ c ∧
    ∀ (L : FL) (x y : Operand) (ty : TypeId), look L x = some (.map b) → look L y = some (str n) → OpV Try.prog (.lookup 65 x y false) ty L w (.agg (flV (fileD d n) A c).toArray) w := by
  rcases h with ⟨h1, a⟩ | ⟨m, xs, clk, hI, a, hm, hrd⟩
  · have hf : fileD d n = ⟨[], 0⟩ := by rw [fileD, h1]; rfl
    rw [hf]
    exact ⟨none, none, 0, a, Rd.nil _ _, Nat.le_refl _, fun L x y ty hx hy => lk1_nil hx hy⟩
  · rcases mget_split n xs with ⟨hg, hf, _⟩ | ⟨X, x, Y, hx, hn, _, _, hg, hf⟩
    · have hf : fileD d n = ⟨[], 0⟩ := by rw [fileD, ← hI.fs, hf]; rfl
      rw [hf]
      exact ⟨some m, none, 0, a, Rd.nil _ _, Nat.le_refl _, fun L x y ty hx hy => lk1_none hx hy hm hg⟩
    · have hf : fileD d n = x.f := by rw [fileD, ← hI.fs, hf]; rfl
      rw [hf]
      have hm' : x ∈ xs := by rw [hx]; exact List.mem_append_right _ List.mem_cons_self
      exact ⟨some m, x.A, x.c, a, (hrd x hm').1, (hrd x hm').2, fun L x y ty hx hy => lk1_some hx hy hm hg⟩
theorem St.rdd {M : BS} {w0 w : World} {H : List Cd} (hs : St M w0 w H) (i : Nat) {g : Nat} {d : Dk} (hi : nthC H i = some (.ck (dkC g d))) : RdD w g d := by
  obtain ⟨T, hc, _⟩ := hs.get i hi
  exact dkC_rd hc
theorem append_any {S : BS} {g cb : Nat} {d : Dk} {n b : List UInt8} {B : Option Addr} {w : World} (h0 : Sat w [.ck (dkC g d)] S) (hok : DkOk d) (hb : ∀ w', Mod S w w' → RdB w' B b) (hc : b.length ≤ cb) (hl : b.length ≤ 1099511627776) :
    CallsV Try.prog 6 #[.pointer (some ⟨g, 0, none⟩), str n, .slice B b.length cb] w fun v w' => v = .int .i64 ((appD d n b).2 : Nat) ∧ St S w w' [.ck (dkC g (appD d n b).1)] := by
  have hs := St.start h0
  have hu := Nat.le_trans hok.used hok.room
  have hru := hok.used
  have hro := hok.room
  refine calls_in (N := _) Try.func6 rfl Try.ntmps6 rfl ?_; show WC _ _ _ _ _ _
  have rd := hs.rdd 0 rfl
  obtain ⟨bb, a1⟩ := rd.ar
  obtain ⟨e, he⟩ : ∃ e, (if d.room < used d.fs + b.length then 8 else 0) = e := ⟨_, rfl⟩
  have hap : appD d n b = (if (turnD d e).1 = true ∨ (turnD d e).2.2.dead = true ∧ d.dead = false then putD (turnD d e).2.2 n ⟨(fileD (turnD d e).2.2 n).data ++ b, (fileD (turnD d e).2.2 n).safe⟩ else (turnD d e).2.2, (turnD d e).2.1) := by rw [← he]; rfl
  rw [hap]
  clear hap
  unfold dkV at a1
  refine wc_sr ?_; refine wl_as rfl rfl ?_; refine wl_ns ?_; refine wc_sr ?_; refine wl_as rfl rfl ?_; refine wl_ns ?_; refine wc_seq ?_; refine wc_seq ?_
  refine wc_drawB mixed (by kernel_rfl) ?_
  apply wq_val; intro _ hw_; apply opv_move; exact rfl; exact rfl; apply wq_val; intro _ hw_; apply opv_len; exact rfl; exact tyB.sl; exact rfl; apply wq_val; intro _ hw_; apply opv_move; exact rfl; exact rfl; apply wq_val; intro _ hw_; apply opv_nilOk; exact rfl; exact rfl; apply wq_val; intro _ hw_; apply opv_fa; exact fa_sD (by decide); exact rfl; exact rfl; apply wq_val; intro _ hw_; apply opv_ldX; exact rfl; exact Ar.bel (by assumption) hw_; exact d1_int; exact rfl; exact rfl; apply wq_val; intro _ hw_; apply opv_move; exact rfl; exact rfl
  refine wq_call (v := .int .i64 (used d.fs : Nat)) ok_disk_Disk_Used (fun w' hw => (used_any (rd.below hw) hu).mono (fun v w2 h => ⟨h.1, hw.trans (h.2.mono hw.size)⟩)) ⟨rfl, trivial⟩ rfl ?_
  apply wq_val; intro _ hw_; apply opv_bin; exact rfl; exact rfl; exact bin_sub64 (by omega); exact rfl; apply wq_val; intro _ hw_; apply opv_bin; exact rfl; exact rfl; exact bin_gtr; exact rfl; refine wq_nil fun w1 hw1 => ?_
  replace hs := hs.below hw1
  replace a1 := a1.below hw1 (Nat.le_refl _)
  clear rd hw1
  refine wc_cutE (fun L w' => L = [(0, .pointer (some ⟨g, 0, none⟩)), (1, str n), (2, .slice B b.length cb), (7, .int .i64 (e : Nat))] ∧ w' = w1) ?_ ?_
  · refine wc_cond rfl (fun h1 => ?_) (fun h1 => ?_)
    · rw [if_pos (by omega)] at he
      subst he
      refine wc_region ?_; refine wl_as rfl rfl ?_; refine wl_nil ?_
      exact we_cut _ ⟨rfl, rfl⟩ ⟨rfl, rfl, rfl, rfl, trivial⟩
    · rw [if_neg (by omega)] at he
      subst he
      refine wc_skip ?_
      exact we_cut _ ⟨rfl, rfl⟩ ⟨rfl, rfl, rfl, rfl, trivial⟩
  · rintro _ _ ⟨rfl, rfl⟩
    clear he
    refine we_seq ?_; refine wc_sr ?_; refine wl_mv rfl rfl ?_; apply wl_val; apply opv_nilOk; exact rfl; exact rfl; apply wl_val; apply opv_fa; exact fa_sD (by decide); exact rfl; exact rfl; apply wl_val; apply opv_ldX; exact rfl; assumption; exact d1_bool; exact rfl; exact rfl; refine wl_as rfl rfl ?_; refine wl_ns ?_; refine wc_sr ?_; refine wl_mv rfl rfl ?_; refine wl_mv rfl rfl ?_
    obtain ⟨S2, hS2, _, _, _, hB⟩ := St.lend (H1 := [.ck (dkC g d)]) (H2 := []) hs
    refine wl_call ok_disk_Disk_turn (turnC_any hS2 hok) ⟨rfl, rfl, trivial⟩ rfl ?_
    rintro _ w4 ⟨rfl, hsx⟩
    replace hs := hB _ _ hsx
    clear hB hS2 hsx a1
    have hok2 := hok.turn e
    have hfs2 := (turnD_fs d e).1
    obtain ⟨t, ht⟩ : ∃ t, turnD d e = t := ⟨_, rfl⟩
    rw [ht] at hs hok2 hfs2 ⊢
    obtain ⟨okt, e2, d2⟩ := t
    simp only at hs hok2 hfs2 ⊢
    rw [← hfs2] at hu
    rw [List.append_nil] at hs
    have rd := hs.rdd 0 rfl
    obtain ⟨bb2, a1⟩ := rd.ar
    unfold dkV at a1
    refine wl_mv rfl rfl ?_; apply wl_val; apply opv_extract; exact rfl; exact rfl; exact rfl; apply wl_val; apply opv_extract; exact rfl; exact rfl; exact rfl; refine wl_as rfl rfl ?_; refine wl_as rfl rfl ?_; refine wl_ns ?_; refine wc_seq ?_; refine wc_sr ?_; refine wl_mv rfl rfl ?_; refine wl_mv rfl rfl ?_
    obtain ⟨q, hq⟩ : ∃ q, d.dead = q := ⟨_, rfl⟩
    rw [hq]
    obtain ⟨q2, hq2⟩ : ∃ q, d2.dead = q := ⟨_, rfl⟩
    rw [hq2] at a1 ⊢
    refine wl_cutE (fun L w' => L = [(0, .pointer (some ⟨g, 0, none⟩)), (1, str n), (2, .slice B b.length cb), (7, .int .i64 (e2 : Nat)), (41, .bool (decide (okt = true ∨ q2 = true ∧ q = false)))] ∧ w' = w4) ?_ ?_
    · cases okt with
      | true =>
        apply wl_skip; exact rfl; exact rfl; exact rfl; exact bR1; exact rfl; apply wl_skip; exact rfl; exact rfl; exact rfl; exact bR1; exact rfl; apply wl_skip; exact rfl; exact rfl; exact rfl; exact bR1; exact rfl; apply wl_skip; exact rfl; exact rfl; exact rfl; exact bR1; exact rfl; apply wl_skip; exact rfl; exact rfl; exact rfl; exact bR1; exact rfl; apply wl_skipU; exact rfl; exact rfl; exact rfl; exact rfl; apply wl_skipU; exact rfl; exact rfl; exact rfl; exact rfl; apply wl_skip; exact rfl; exact rfl; exact rfl; exact bR1; exact rfl; apply wl_val; apply opv_pickT; exact rfl; exact rfl; exact rfl; exact rfl; refine wl_nil ?_
        exact we_cut _ ⟨rfl, rfl⟩ ⟨rfl, rfl, rfl, rfl, rfl, trivial⟩
      | false =>
        cases q2 with
        | true =>
          cases q with
          | true =>
            apply wl_take; exact rfl; exact rfl; exact rfl; exact rfl; refine wl_mv rfl rfl ?_; apply wl_take; exact rfl; exact rfl; exact rfl; exact rfl; apply wl_val; apply opv_nilOk; exact rfl; exact rfl; apply wl_take; exact rfl; exact rfl; exact rfl; exact rfl; apply wl_val; apply opv_fa; exact fa_sD (by decide); exact rfl; exact rfl; apply wl_take; exact rfl; exact rfl; exact rfl; exact rfl; apply wl_val; apply opv_ldX; exact rfl; assumption; exact d1_bool; exact rfl; exact rfl; apply wl_take; exact rfl; exact rfl; exact rfl; exact rfl; refine wl_mv rfl rfl ?_; apply wl_take; exact rfl; exact rfl; exact rfl; exact rfl; refine wl_mv rfl rfl ?_; apply wl_take; exact rfl; exact rfl; exact rfl; exact rfl; apply wl_val; apply opv_not; exact rfl; exact rfl; apply wl_take; exact rfl; exact rfl; exact rfl; exact rfl; apply wl_val; apply opv_pickT; exact rfl; exact rfl; exact rfl; exact rfl; apply wl_val; apply opv_pickF; exact rfl; exact rfl; exact rfl; exact rfl; refine wl_nil ?_
            exact we_cut _ ⟨rfl, rfl⟩ ⟨rfl, rfl, rfl, rfl, rfl, trivial⟩
          | false =>
            apply wl_take; exact rfl; exact rfl; exact rfl; exact rfl; refine wl_mv rfl rfl ?_; apply wl_take; exact rfl; exact rfl; exact rfl; exact rfl; apply wl_val; apply opv_nilOk; exact rfl; exact rfl; apply wl_take; exact rfl; exact rfl; exact rfl; exact rfl; apply wl_val; apply opv_fa; exact fa_sD (by decide); exact rfl; exact rfl; apply wl_take; exact rfl; exact rfl; exact rfl; exact rfl; apply wl_val; apply opv_ldX; exact rfl; assumption; exact d1_bool; exact rfl; exact rfl; apply wl_take; exact rfl; exact rfl; exact rfl; exact rfl; refine wl_mv rfl rfl ?_; apply wl_take; exact rfl; exact rfl; exact rfl; exact rfl; refine wl_mv rfl rfl ?_; apply wl_take; exact rfl; exact rfl; exact rfl; exact rfl; apply wl_val; apply opv_not; exact rfl; exact rfl; apply wl_take; exact rfl; exact rfl; exact rfl; exact rfl; apply wl_val; apply opv_pickT; exact rfl; exact rfl; exact rfl; exact rfl; apply wl_val; apply opv_pickF; exact rfl; exact rfl; exact rfl; exact rfl; refine wl_nil ?_
            exact we_cut _ ⟨rfl, rfl⟩ ⟨rfl, rfl, rfl, rfl, rfl, trivial⟩
        | false =>
          apply wl_take; exact rfl; exact rfl; exact rfl; exact rfl; refine wl_mv rfl rfl ?_; apply wl_take; exact rfl; exact rfl; exact rfl; exact rfl; apply wl_val; apply opv_nilOk; exact rfl; exact rfl; apply wl_take; exact rfl; exact rfl; exact rfl; exact rfl; apply wl_val; apply opv_fa; exact fa_sD (by decide); exact rfl; exact rfl; apply wl_take; exact rfl; exact rfl; exact rfl; exact rfl; apply wl_val; apply opv_ldX; exact rfl; assumption; exact d1_bool; exact rfl; exact rfl; apply wl_take; exact rfl; exact rfl; exact rfl; exact rfl; refine wl_mv rfl rfl ?_; apply wl_skip; exact rfl; exact rfl; exact rfl; exact bR2; exact rfl; apply wl_skip; exact rfl; exact rfl; exact rfl; exact bR2; exact rfl; apply wl_take; exact rfl; exact rfl; exact rfl; exact rfl; apply wl_val; apply opv_pickF; exact rfl; exact rfl; exact rfl; exact rfl; apply wl_val; apply opv_pickF; exact rfl; exact rfl; exact rfl; exact rfl; refine wl_nil ?_
          exact we_cut _ ⟨rfl, rfl⟩ ⟨rfl, rfl, rfl, rfl, rfl, trivial⟩
    · rintro _ _ ⟨rfl, rfl⟩
      clear a1
      refine we_seq ?_
      refine wc_cutE (fun L w' => L = [(7, .int .i64 (e2 : Nat))] ∧ St S w w' [.ck (dkC g (if okt = true ∨ q2 = true ∧ q = false then putD d2 n ⟨(fileD d2 n).data ++ b, (fileD d2 n).safe⟩ else d2))]) ?_ ?_
      · refine wc_cond rfl (fun h1 => ?_) (fun h1 => ?_)
        · rw [if_pos h1]
          have rd := hs.rdd 0 rfl
          obtain ⟨bb, A, c, a1, rA, hA, hlk⟩ := rd.look n
          have hfl := fileD_le d2 n
          unfold dkV at a1
          refine wc_sr ?_; refine wl_mv rfl rfl ?_; apply wl_val; apply opv_nilOk; exact rfl; exact rfl; apply wl_val; apply opv_fa; exact fa_sD (by decide); exact rfl; exact rfl; apply wl_val; apply opv_ldX; exact rfl; assumption; exact d1_map; exact rfl; exact rfl; refine wl_mv rfl rfl ?_; apply wl_val; apply hlk; exact rfl; exact rfl; exact rfl
          refine wl_var (cs := flV (fileD d2 n) A c) zeroF sF rfl (fun _ => rfl) (by first | rfl | simp [Value.oneCell']) rfl fun g10 _ hg a10 hbx => ?_
          replace hs := hs.newA hbx hg a10
          replace rA := rA.below hbx
          clear a1 hlk a10 hbx rd
          unfold flV at hs
          refine wl_ns ?_; refine wc_sr ?_; apply wl_val; apply opv_fa; exact fa_sF (by decide); exact rfl; exact rfl; apply wl_val; apply opv_ldX; exact rfl; exact hs.ar 0 rfl; exact d1_by; exact rfl; exact rfl
          refine wl_call ok_bytes_Clone (clone_any rA rfl (by omega)) ⟨rfl, trivial⟩ rfl ?_; rintro _ _ ⟨X, cx, rfl, o_, hbx⟩; replace hs := hs.newO hbx o_ (Nat.le_refl _); try dsimp only [List.cons_append, List.nil_append, setC, delC] at hs
          clear rA hbx o_
          refine wl_mv rfl rfl ?_
          refine ws_app hs 0 rfl rfl tyB rfl (hb _ hs.1) (by simp [bvs, bv, Value.oneCell']) (by omega) (by simp only [maxLen]; omega) rfl ?_
          clear hs; intro Y cy _ hs; dsimp only [setC] at hs
          rw [← List.length_append] at hs ⊢
          rw [← bvs_append] at hs
          apply wl_val; apply opv_fa; exact fa_sF (by decide); exact rfl; exact rfl; apply ws_st hs 1; exact rfl; exact rfl; exact d1_by; exact rfl; exact rfl; exact rfl; clear hs; intro _ hs; dsimp only [setC, List.set] at hs; refine wl_ns ?_; refine wc_region ?_; refine wl_mv rfl rfl ?_; refine wl_mv rfl rfl ?_; apply wl_val; apply opv_loadX; exact rfl; exact hs.ar 1 rfl; exact sF; exact rfl
          replace hs := hs.front 2 rfl
          dsimp only [delC] at hs
          obtain ⟨S2, hS2, _, _, _, hB⟩ := St.lend (H1 := [.ck (dkC g d2), .ow 5 Y ((fileD d2 n).data ++ b).length cy (bvs ((fileD d2 n).data ++ b))]) (H2 := [_]) hs
          refine wl_call ok_disk_Disk_put (put_any (f := ⟨(fileD d2 n).data ++ b, (fileD d2 n).safe⟩) hS2) ⟨rfl, rfl, rfl, trivial⟩ rfl ?_
          rintro _ _ ⟨rfl, hsx⟩
          replace hs := (hB _ _ hsx).drop 1 rfl
          refine wl_nil ?_
          exact we_cut _ ⟨rfl, hs⟩ ⟨rfl, trivial⟩
        · rw [if_neg h1]
          refine wc_skip ?_
          exact we_cut _ ⟨rfl, hs⟩ ⟨rfl, trivial⟩
      · rintro _ _ ⟨rfl, hs⟩
        refine we_seq ?_; refine wc_sr ?_; refine wl_mv rfl rfl ?_; refine wl_as rfl rfl ?_; refine wl_ns ?_; refine wc_ret ?_
        exact we_ret1 rfl rfl ⟨_, rfl, rfl, hs⟩
end Go.Proofs.Ytdgagffieobiiaa

/-
  Walks over disks: New, Arm, Read, Sync, Cut.
-/
namespace Go.Proofs.Ytdgagffieobiiaa
open Go.RowKit

section
variable {P : Program} {L : FL} {w : World}
theorem opv_max {x y : Operand} {a b : Int} {k : IntKind} {ats : Array TypeId} {ty : TypeId} (hx : look L x = some (.int k a)) (hy : look L y = some (.int k b)) : OpV P (.call { callee := .builtin .max, args := #[x, y], argTypes := ats }) ty L w (.int k (max a b)) w := fun ρ o hρ ho _ => by
  have e : (if b > a then b else a) = max a b := by omega
  simp [execOp, ho, resolve, invoke, builtin, Builtin.max_, Builtin.max2, hρ x _ hx, hρ y _ hy, e]
theorem opv_fld {x : Operand} {t : TypeId} {k : Nat} {fs : Array Field} {f : Field} {cs : List Value} {u : Value} {ty : TypeId} (hu : P.underlying t = some (.struct fs)) (hf : fs[k]? = some f) (E : Cell1 P f.type) (hx : look L x = some (.agg cs.toArray)) (hk : cs[f.offset]? = some u) :
    OpV P (.field t x k) ty L w u w := fun ρ o hρ ho _ => by
  have hk' : cs.toArray[f.offset]? = some u := by simpa using hk
  simp [execOp, ho, Instr.field, run_underlying hu, hf, hρ x _ hx, asAgg, part, E.agg, hk]
end
theorem fld_F0 {x : Operand} {ty : TypeId} {L : FL} {w : World} {cs : List Value} {u : Value} (hx : look L x = some (.agg cs.toArray)) (hk : cs[0]? = some u) : OpV Try.prog (.field 72 x 0) ty L w u w :=
  opv_fld Try.underlying72 rfl d1_by hx hk
theorem new_any (k : Nat) (w : World) : CallsV Try.prog 5 #[.int .i64 (k : Nat)] w fun v w' => ∃ g, v = .pointer (some ⟨g, 0, none⟩) ∧ St NoB w w' [.ck (dkC g ⟨[], k, false, 0, false⟩)] := by
  have hs := St.init w
  refine calls_in (N := _) Try.func5 rfl Try.ntmps5 rfl ?_; show WC _ _ _ _ _ _
  refine wc_sr ?_; refine wl_as rfl rfl ?_; refine wl_ns ?_; refine wc_sr ?_; refine wl_mv rfl rfl ?_
  refine wl_val (opv_max rfl rfl) rfl ?_
  rw [show max (0 : Int) (k : Int) = (k : Int) by omega]
  refine wl_val (opv_build (vs := [(1, .int .i64 (k : Int))]) (cs := dkV ⟨[], k, false, 0, false⟩ none) ⟨rfl, rfl, trivial⟩ (by kernel_rfl)) rfl ?_
  refine ws_box (cs := dkV ⟨[], k, false, 0, false⟩ none) hs rfl rfl ?_; clear hs; intro g6 _ hs
  refine wl_as rfl rfl ?_; refine wl_ns ?_; refine wc_ret ?_
  exact we_ret1 rfl rfl ⟨_, rfl, _, rfl, St.cls0 hs rfl⟩
theorem arm_any {S : BS} {g : Nat} {d : Dk} {k : Int} {w : World} (h0 : Sat w [.ck (dkC g d)] S) :
    CallsV Try.prog 8 #[.pointer (some ⟨g, 0, none⟩), .int .i64 k] w fun v w' => v = .tuple #[] ∧ St S w w' [.ck (dkC g { d with armed := decide (0 ≤ k), left := k })] := by
  have hs := St.start h0
  refine calls_in (N := _) Try.func8 rfl Try.ntmps8 rfl ?_; show WC _ _ _ _ _ _
  rcases hs.opn with ⟨h1, hs1⟩ | ⟨m, xs, clk, hI, hs1⟩
  · replace hs := hs1
    clear hs1
    unfold dkV at hs
    refine wc_region ?_; refine wl_mv rfl rfl ?_; refine wl_mv rfl rfl ?_; refine wl_mv rfl rfl ?_; refine wl_bin rfl rfl bin_geq rfl ?_; refine wl_mv rfl rfl ?_; apply wl_val; apply opv_nilOk; exact rfl; exact rfl; apply wl_val; apply opv_fa; exact fa_sD (by decide); exact rfl; exact rfl; apply ws_st hs 0; exact rfl; exact rfl; exact d1_bool; exact rfl; exact rfl; exact rfl; clear hs; intro _ hs; dsimp only [setC, List.set] at hs; apply wl_val; apply opv_nilOk; exact rfl; exact rfl; apply wl_val; apply opv_fa; exact fa_sD (by decide); exact rfl; exact rfl; apply ws_st hs 0; exact rfl; exact rfl; exact d1_int; exact rfl; exact rfl; exact rfl; clear hs; intro _ hs; dsimp only [setC, List.set] at hs; refine wl_nil ?_
    exact we_end0 rfl ⟨_, rfl, rfl, St.cls0 (d := { d with armed := decide (0 ≤ k), left := k }) hs h1⟩
  · replace hs := hs1
    clear hs1
    unfold dkV at hs
    refine wc_region ?_; refine wl_mv rfl rfl ?_; refine wl_mv rfl rfl ?_; refine wl_mv rfl rfl ?_; refine wl_bin rfl rfl bin_geq rfl ?_; refine wl_mv rfl rfl ?_; apply wl_val; apply opv_nilOk; exact rfl; exact rfl; apply wl_val; apply opv_fa; exact fa_sD (by decide); exact rfl; exact rfl; apply ws_st hs 0; exact rfl; exact rfl; exact d1_bool; exact rfl; exact rfl; exact rfl; clear hs; intro _ hs; dsimp only [setC, List.set] at hs; apply wl_val; apply opv_nilOk; exact rfl; exact rfl; apply wl_val; apply opv_fa; exact fa_sD (by decide); exact rfl; exact rfl; apply ws_st hs 0; exact rfl; exact rfl; exact d1_int; exact rfl; exact rfl; exact rfl; clear hs; intro _ hs; dsimp only [setC, List.set] at hs; refine wl_nil ?_
    exact we_end0 rfl ⟨_, rfl, rfl, St.cls (d := { d with armed := decide (0 ≤ k), left := k }) hs hI⟩
theorem read_any {g : Nat} {d : Dk} {n : List UInt8} {w : World} (h : RdD w g d) (hok : DkOk d) : CallsV Try.prog 12 #[.pointer (some ⟨g, 0, none⟩), str n] w fun v w' =>
    ∃ (A : Option Addr) (c : Nat), v = .tuple #[.slice A (readD d n).1.length c, .int .i64 ((readD d n).2 : Nat)] ∧ OwB w' w.heap.size A c (readD d n).1 ∧ Below w.heap.size w w' := by
  have hb := Below.refl w.heap.size w
  have hu := Nat.le_trans hok.used hok.room
  have hfl := fileD_le d n
  refine calls_in (N := _) Try.func12 rfl Try.ntmps12 rfl ?_; show WC _ _ _ _ _ _
  obtain ⟨b, A, c, a1, rA, hA, hlk⟩ := h.look n
  unfold dkV at a1
  unfold readD
  obtain ⟨q, hq⟩ : ∃ q, d.dead = q := ⟨_, rfl⟩
  rw [hq] at a1 ⊢
  cases q with
  | true =>
    refine wc_sr ?_; refine wl_as rfl rfl ?_; refine wl_as rfl rfl ?_; refine wl_ns ?_; refine wc_seq ?_; refine wc_sr ?_; refine wl_mv rfl rfl ?_; apply wl_val; apply opv_nilOk; exact rfl; exact rfl; apply wl_val; apply opv_fa; exact fa_sD (by decide); exact rfl; exact rfl; apply wl_val; apply opv_ldX; exact rfl; assumption; exact d1_bool; exact rfl; exact rfl; refine wl_ns ?_; apply wc_condTb; exact rfl; exact rfl; refine wc_sr ?_; refine wl_as rfl rfl ?_; refine wl_as rfl rfl ?_; refine wl_ns ?_; refine wc_ret ?_; refine we_seq_ret ?_
    exact we_ret2 rfl rfl rfl ⟨_, rfl, none, 0, rfl, Ow.nil _ _ _, hb⟩
  | false =>
    rw [if_neg (by decide)]
    refine wc_sr ?_; refine wl_as rfl rfl ?_; refine wl_as rfl rfl ?_; refine wl_ns ?_; refine wc_seq ?_; refine wc_sr ?_; refine wl_mv rfl rfl ?_; apply wl_val; apply opv_nilOk; exact rfl; exact rfl; apply wl_val; apply opv_fa; exact fa_sD (by decide); exact rfl; exact rfl; apply wl_val; apply opv_ldX; exact rfl; assumption; exact d1_bool; exact rfl; exact rfl; refine wl_ns ?_; apply wc_condFb; exact rfl; exact rfl; refine wc_skip ?_; refine we_seq ?_; refine wc_seq ?_; refine wc_sr ?_; refine wl_mv rfl rfl ?_; refine wl_mv rfl rfl ?_
    refine wl_call ok_disk_Disk_there (there_any h) ⟨rfl, rfl, trivial⟩ rfl ?_
    rintro _ _ ⟨rfl, hbx⟩
    replace hb := hb.trans (hbx.mono hb.size)
    replace h := h.below hbx
    clear a1 hlk rA hA
    obtain ⟨b, A, c, a1, rA, hA, hlk⟩ := h.look n
    unfold dkV at a1
    refine wl_as rfl rfl ?_; refine wl_ns ?_; refine wc_sr ?_; refine wl_mv rfl rfl ?_; refine wl_bin rfl rfl bin_neq rfl ?_; refine wl_ns ?_
    refine wc_cond rfl (fun h1 => ?_) (fun h1 => ?_)
    · rw [if_pos (by omega)]
      refine wc_sr ?_; refine wl_mv rfl rfl ?_; refine wl_as rfl rfl ?_; refine wl_as rfl rfl ?_; refine wl_ns ?_; refine wc_ret ?_; refine we_seq_ret ?_
      exact we_ret2 rfl rfl rfl ⟨_, rfl, none, 0, rfl, Ow.nil _ _ _, hb⟩
    · rw [if_neg (by omega)]
      refine wc_skip ?_; refine we_seq ?_; refine wc_sr ?_; refine wl_mv rfl rfl ?_; apply wl_val; apply opv_nilOk; exact rfl; exact rfl; apply wl_val; apply opv_fa; exact fa_sD (by decide); exact rfl; exact rfl; apply wl_val; apply opv_ldX; exact rfl; assumption; exact d1_map; exact rfl; exact rfl; refine wl_mv rfl rfl ?_; apply wl_val; apply hlk; exact rfl; exact rfl; exact rfl; apply wl_val; apply fld_F0; exact rfl; exact rfl; exact rfl
      refine wl_call ok_bytes_Clone (clone_any rA rfl (by omega)) ⟨rfl, trivial⟩ rfl ?_
      rintro _ _ ⟨X, cx, rfl, o_, hbx⟩
      replace o_ := Ow.mono o_ hb.size
      replace hb := hb.trans (hbx.mono hb.size)
      refine wl_as rfl rfl ?_; refine wl_as rfl rfl ?_; refine wl_ns ?_; refine wc_ret ?_
      exact we_ret2 rfl rfl rfl ⟨_, rfl, X, cx, rfl, o_, hb⟩
/-- A file's place is written again, its bytes the same. -/
theorem putS_any {S : BS} {g m clk s : Nat} {d : Dk} {n : List UInt8} {X Y : List FE} {x : FE} {w : World} (h0 : Sat w [.blk g 67 (dkV d (some m)), .ck (mpC m ((X ++ x :: Y).map FE.me) clk), .ck (flC (X ++ x :: Y))] S) (hI : DkI d.fs (X ++ x :: Y) clk) (hn : x.nm = n) (hX : n ∉ X.map (·.nm)) :
    CallsV Try.prog 29 #[.pointer (some ⟨g, 0, none⟩), str n, .agg (flV ⟨x.f.data, s⟩ x.A x.c).toArray] w fun v w' => v = .tuple #[] ∧ St S w w' [.ck (dkC g (putD d n ⟨x.f.data, s⟩))] := by
  have hs := St.start h0
  have hf : fnd n ((X ++ x :: Y).map FE.me) 0 = some (0 + X.length, .agg (flV x.f x.A x.c).toArray) := by
    rcases fnd_split n (X ++ x :: Y) 0 with ⟨_, _, h3⟩ | ⟨X', x', Y', h1, h2, h3, h4, h5⟩
    · exact absurd (List.mem_map.2 ⟨x, List.mem_append_right _ List.mem_cons_self, hn⟩) h3
    · have e : X' = X ∧ x' = x := by
        clear h0 hI hs h4 h5
        induction X generalizing X' with
        | nil =>
          cases X' with
          | nil => simp at h1; exact ⟨rfl, h1.1.symm⟩
          | cons a X' => simp at h1; exact absurd (by rw [← h1.1]; simp [hn]) h3
        | cons a X ih =>
          cases X' with
          | nil => simp at h1; exact absurd (by rw [h1.1]; simp [h2]) hX
          | cons a' X' =>
            simp only [List.cons_append, List.cons.injEq] at h1
            simp only [List.map_cons, List.mem_cons, not_or] at hX h3
            obtain ⟨e1, e2⟩ := ih hX.2 X' h1.2 h3.2
            exact ⟨by rw [e1, h1.1], e2⟩
      rw [h4, e.1, e.2]
  refine calls_in (N := _) Try.func29 rfl Try.ntmps29 rfl ?_; show WC _ _ _ _ _ _
  unfold dkV at hs
  refine wc_sr ?_
  refine ws_box (cs := flV ⟨x.f.data, s⟩ x.A x.c) hs rfl rfl ?_; clear hs; intro g5 _ hs
  refine wl_ns ?_; refine wc_seq ?_; refine wc_sr ?_; refine wl_mv rfl rfl ?_; apply wl_val; apply opv_nilOk; exact rfl; exact rfl; apply wl_val; apply opv_fa; exact fa_sD (by decide); exact rfl; exact rfl; apply wl_val; apply opv_ldX; exact rfl; exact hs.ar 1 rfl; exact d1_map; exact rfl; exact rfl; apply wl_val; apply opv_bin; exact rfl; exact rfl; exact bin_eqlMapNil tyDM; exact rfl; refine wl_ns ?_; apply wc_condFb; exact rfl; exact rfl; refine wc_skip ?_; refine we_seq ?_
  refine wc_heldM 6 mixed fun w_ hS => ?_
  apply wm_take 0; exact rfl; intro _ hw_; apply opv_move; exact rfl; exact rfl; kernel_rfl; exact hS; apply wm_take 1; exact rfl; intro _ hw_; apply opv_nilOk; exact rfl; exact rfl; kernel_rfl; exact hS; apply wm_take 2; exact rfl; intro _ hw_; apply opv_fa; exact fa_sD (by decide); exact rfl; exact rfl; kernel_rfl; exact hS; apply wm_take 3; exact rfl; intro _ hw_; apply opv_ldX; exact rfl; exact Ar.bel (hs.ar 1 rfl) hw_; exact d1_map; exact rfl; exact rfl; kernel_rfl; exact hS; apply wm_take 4; exact rfl; intro _ hw_; apply opv_move; exact rfl; exact rfl; kernel_rfl; exact hS; apply wm_take 5; exact rfl; intro _ hw_; apply opv_loadX; exact rfl; exact Ar.bel (hs.ar 0 rfl) hw_; exact sF; exact rfl; kernel_rfl; exact hS
  replace hs := hs.below hS
  refine wm_one 6 (by kernel_rfl) rfl ?_; dsimp only [List.getElem_toArray, List.getElem_cons_succ, List.getElem_cons_zero]
  refine ws_mput hs 2 rfl tyDM tyStrD rfl rfl rfl ?_
  clear hs; intro _ hs
  refine wl_nil ?_
  refine we_heldM (fun h => absurd h (by decide)) ?_
  refine wm_done (by kernel_rfl) ?_
  dsimp only [setC] at hs
  rw [mput_old hf hn x.A x.c ⟨x.f.data, s⟩] at hs
  replace hs := hs.drop 0 rfl
  dsimp only [delC] at hs
  have hfl : flC (X ++ x :: Y) = flC (X ++ ⟨n, x.A, x.c, ⟨x.f.data, s⟩, x.born⟩ :: Y) := by
    unfold flC; simp only [List.map_append, List.map_cons]; rfl
  rw [hfl] at hs
  exact we_end0 rfl ⟨_, rfl, rfl, St.cls (d := putD d n ⟨x.f.data, s⟩) (m := m) hs (hI.old' hn hX x.A x.c ⟨x.f.data, s⟩)⟩
end Go.Proofs.Ytdgagffieobiiaa

/-
  Walks over disks: Sync, Cut.
-/
namespace Go.Proofs.Ytdgagffieobiiaa
open Go.RowKit

theorem turnD_ok {d : Dk} {e : Nat} (h : (turnD d e).1 = true) : e = 0 := by
  unfold turnD at h
  split at h
  · cases h
  · split at h
    · cases h
    · rename_i h2; omega
theorem thereD_eq {d d2 : Dk} (h : d2.fs = d.fs) (n : List UInt8) : thereD d2 n = thereD d n ∧ fileD d2 n = fileD d n := by unfold thereD fileD; rw [h]; exact ⟨rfl, rfl⟩
theorem sync_any {S : BS} {g : Nat} {d : Dk} {n : List UInt8} {w : World} (h0 : Sat w [.ck (dkC g d)] S) (hok : DkOk d) :
    CallsV Try.prog 10 #[.pointer (some ⟨g, 0, none⟩), str n] w fun v w' => v = .int .i64 ((syncD d n).2 : Nat) ∧ St S w w' [.ck (dkC g (syncD d n).1)] := by
  have hs := St.start h0
  have hu := Nat.le_trans hok.used hok.room
  refine calls_in (N := _) Try.func10 rfl Try.ntmps10 rfl ?_; show WC _ _ _ _ _ _
  refine wc_sr ?_; refine wl_as rfl rfl ?_; refine wl_ns ?_; refine wc_sr ?_; refine wl_mv rfl rfl ?_; refine wl_mv rfl rfl ?_; refine wl_mv rfl rfl ?_
  refine wl_call ok_disk_Disk_there (there_any (hs.rdd 0 rfl)) ⟨rfl, rfl, trivial⟩ rfl ?_; rintro _ _ ⟨rfl, hbx⟩; replace hs := hs.below hbx; try dsimp only [List.cons_append, List.nil_append, setC, delC] at hs
  clear hbx
  skip
  obtain ⟨S2, hS2, _, _, _, hB⟩ := St.lend (H1 := [.ck (dkC g d)]) (H2 := []) hs
  refine wl_call ok_disk_Disk_turn (turnC_any hS2 hok) ⟨rfl, rfl, trivial⟩ rfl ?_
  rintro _ w4 ⟨rfl, hsx⟩
  replace hs := hB _ _ hsx
  clear hB hS2 hsx
  have hok2 := hok.turn (thereD d n)
  have hfs2 := (turnD_fs d (thereD d n)).1
  have hto := turnD_ok (d := d) (e := thereD d n)
  obtain ⟨t, ht⟩ : ∃ t, turnD d (thereD d n) = t := ⟨_, rfl⟩
  unfold syncD
  rw [ht] at hs hok2 hfs2 hto ⊢
  obtain ⟨okt, e2, d2⟩ := t
  simp only at hs hok2 hfs2 hto ⊢
  rw [List.append_nil] at hs
  rw [← hfs2] at hu
  refine wl_cutE (fun L w' => L = [(0, .pointer (some ⟨g, 0, none⟩)), (1, str n), (5, .bool okt), (6, .int .i64 (e2 : Nat))] ∧ w' = w4) ?_ ?_
  · refine wl_mv rfl rfl ?_; apply wl_val; apply opv_extract; exact rfl; exact rfl; exact rfl; apply wl_val; apply opv_extract; exact rfl; exact rfl; exact rfl; refine wl_as rfl rfl ?_; refine wl_as rfl rfl ?_; refine wl_nil ?_
    exact we_cut _ ⟨rfl, rfl⟩ ⟨rfl, rfl, rfl, rfl, trivial⟩
  rintro _ _ ⟨rfl, rfl⟩
  refine we_seq ?_; refine wc_seq ?_; refine wc_sr ?_; refine wl_mv rfl rfl ?_; refine wl_ns ?_
  refine wc_cutE (fun L w' => L = [(6, .int .i64 (e2 : Nat))] ∧ St S w w' [.ck (dkC g (if okt = true then putD d2 n ⟨(fileD d2 n).data, (fileD d2 n).data.length⟩ else d2))]) ?_ ?_
  · cases okt with
    | false =>
      apply wc_condFb; exact rfl; exact rfl; refine wc_skip ?_
      exact we_cut _ ⟨rfl, hs⟩ ⟨rfl, trivial⟩
    | true =>
      have hth := hto rfl
      rw [← (thereD_eq hfs2 n).1] at hth
      rw [if_pos rfl]
      have hfl := fileD_le d2 n
      rcases hs.opn with ⟨h1, hs1⟩ | ⟨m, xs, clk, hI, hs1⟩
      · rw [thereD, h1] at hth; cases hth
      · replace hs := hs1
        clear hs1
        rcases mget_split n xs with ⟨_, hf, _⟩ | ⟨X, x, Y, hx, hn, hX, _, hg, hf⟩
        · rw [thereD, ← hI.fs, hf] at hth; cases hth
        · have hfd : fileD d2 n = x.f := by rw [fileD, ← hI.fs, hf]; rfl
          rw [hfd] at hfl ⊢
          have hm := hs.mp 1 rfl
          unfold dkV at hs
          apply wc_condTb; exact rfl; exact rfl; refine wc_sr ?_; refine wl_mv rfl rfl ?_; apply wl_val; apply opv_nilOk; exact rfl; exact rfl; apply wl_val; apply opv_fa; exact fa_sD (by decide); exact rfl; exact rfl; apply wl_val; apply opv_ldX; exact rfl; exact hs.ar 0 rfl; exact d1_map; exact rfl; exact rfl; refine wl_mv rfl rfl ?_; apply wl_val; apply lk1_some; exact rfl; exact rfl; assumption; assumption; exact rfl
          refine ws_var (cs := flV x.f x.A x.c) hs zeroF sF rfl (fun _ => rfl) (by first | rfl | simp [Value.oneCell']) rfl ?_; clear hs; intro g7 _ hs
          clear hm
          unfold flV at hs
          refine wl_ns ?_; refine wc_sr ?_; apply wl_val; apply opv_fa; exact fa_sF (by decide); exact rfl; exact rfl; apply wl_val; apply opv_ldX; exact rfl; exact hs.ar 0 rfl; exact d1_by; exact rfl; exact rfl; apply wl_val; apply opv_len; exact rfl; exact tyB.sl; exact rfl; apply wl_val; apply opv_fa; exact fa_sF (by decide); exact rfl; exact rfl; apply ws_st hs 0; exact rfl; exact rfl; exact d1_int; exact rfl; exact rfl; exact rfl; clear hs; intro _ hs; dsimp only [setC, List.set] at hs; refine wl_ns ?_; refine wc_region ?_; refine wl_mv rfl rfl ?_; refine wl_mv rfl rfl ?_; apply wl_val; apply opv_loadX; exact rfl; exact hs.ar 0 rfl; exact sF; exact rfl
          replace hs := ((hs.front 3 rfl).front 3 rfl).front 3 rfl
          dsimp only [delC] at hs
          subst hx
          obtain ⟨S2, hS2, _, _, _, hB⟩ := St.lend (H1 := [.blk g 67 (dkV d2 (some m)), .ck (mpC m ((X ++ x :: Y).map FE.me) clk), .ck (flC (X ++ x :: Y))]) (H2 := [_]) hs
          refine wl_call ok_disk_Disk_put (putS_any (s := x.f.data.length) hS2 hI hn hX) ⟨rfl, rfl, rfl, trivial⟩ rfl ?_
          rintro _ _ ⟨rfl, hsx⟩
          replace hs := (hB _ _ hsx).drop 1 rfl
          refine wl_nil ?_
          exact we_cut _ ⟨rfl, hs⟩ ⟨rfl, trivial⟩
  · rintro _ _ ⟨rfl, hs⟩
    refine we_seq ?_; refine wc_sr ?_; refine wl_mv rfl rfl ?_; refine wl_as rfl rfl ?_; refine wl_ns ?_; refine wc_ret ?_
    exact we_ret1 rfl rfl ⟨_, rfl, rfl, hs⟩
theorem RdB.cut' {w : World} {A : Option Addr} {c : Nat} {xs : List UInt8} (h : RdB w A xs) {j : Nat} (hj : j ≤ xs.length) (hc : xs.length ≤ c) : RdB w (cutA A c 0) (xs.take j) := by
  have := Rd.cut (l := 0) (h := j) (c := c) h (Nat.zero_le _) hj hc
  rw [bvs_cut, List.drop_zero, Nat.sub_zero] at this
  unfold RdB
  rw [List.length_take, Nat.min_eq_left hj]
  exact this
theorem cut_any {S : BS} {g : Nat} {d : Dk} {n : List UInt8} {k : Int} {w : World} (h0 : Sat w [.ck (dkC g d)] S) (hok : DkOk d) :
    CallsV Try.prog 15 #[.pointer (some ⟨g, 0, none⟩), str n, .int .i64 k] w fun v w' => v = .int .i64 ((cutD d n k).2 : Nat) ∧ St S w w' [.ck (dkC g (cutD d n k).1)] := by
  have hs := St.start h0
  have hu := Nat.le_trans hok.used hok.room
  have hfl0 := fileD_le d n
  refine calls_in (N := _) Try.func15 rfl Try.ntmps15 rfl ?_; show WC _ _ _ _ _ _
  refine wc_sr ?_; refine wl_as rfl rfl ?_; refine wl_ns ?_; refine wc_sr ?_; refine wl_mv rfl rfl ?_; refine wl_mv rfl rfl ?_
  refine wl_call ok_disk_Disk_there (there_any (hs.rdd 0 rfl)) ⟨rfl, rfl, trivial⟩ rfl ?_; rintro _ _ ⟨rfl, hbx⟩; replace hs := hs.below hbx; try dsimp only [List.cons_append, List.nil_append, setC, delC] at hs
  clear hbx
  obtain ⟨bb, A, c, a1, rA, hA, hlk⟩ := (hs.rdd 0 rfl).look n
  unfold dkV at a1
  obtain ⟨th, hth⟩ : ∃ th, thereD d n = th := ⟨_, rfl⟩
  unfold cutD
  rw [hth]
  obtain ⟨e, he⟩ : ∃ e, (if k < 0 ∨ th = 0 ∧ ((fileD d n).data.length : Int) < k then 1 else th) = e := ⟨_, rfl⟩
  rw [he]
  refine wl_cutE (fun L w' => L = [(0, .pointer (some ⟨g, 0, none⟩)), (1, str n), (2, .int .i64 k), (7, .int .i64 (th : Nat))] ∧ St S w w' [.ck (dkC g d)]) ?_ ?_
  · refine wl_as rfl rfl ?_; refine wl_nil ?_
    exact we_cut _ ⟨rfl, hs⟩ ⟨rfl, rfl, rfl, rfl, trivial⟩
  clear hs a1 hlk rA
  rintro _ w3 ⟨rfl, hs⟩
  obtain ⟨bb, A, c, a1, rA, hA, hlk⟩ := (hs.rdd 0 rfl).look n
  unfold dkV at a1
  refine we_seq ?_; refine wc_seq ?_; refine wc_sr ?_; refine wl_mv rfl rfl ?_; refine wl_bin rfl rfl bin_lss rfl ?_; refine wl_mv rfl rfl ?_
  refine wl_cutE (fun L w' => L = [(0, .pointer (some ⟨g, 0, none⟩)), (1, str n), (2, .int .i64 k), (7, .int .i64 (th : Nat)), (29, .bool (decide (k < 0 ∨ th = 0 ∧ ((fileD d n).data.length : Int) < k)))] ∧ w' = w3) ?_ ?_
  · by_cases hk : k < 0
    · rw [show decide (k < 0 ∨ th = 0 ∧ ((fileD d n).data.length : Int) < k) = true by simp [hk]]
      apply wl_skip; exact rfl; exact rfl; exact rfl; refine bTn ?_; (with_reducible assumption); exact rfl; apply wl_skip; exact rfl; exact rfl; exact rfl; refine bTn ?_; (with_reducible assumption); exact rfl; apply wl_skip; exact rfl; exact rfl; exact rfl; refine bTn ?_; (with_reducible assumption); exact rfl; apply wl_skipU; exact rfl; exact rfl; exact rfl; exact rfl; apply wl_skipU; exact rfl; exact rfl; exact rfl; exact rfl; apply wl_skipU; exact rfl; exact rfl; exact rfl; exact rfl; apply wl_skipU; exact rfl; exact rfl; exact rfl; exact rfl; apply wl_skipU; exact rfl; exact rfl; exact rfl; exact rfl; apply wl_skipU; exact rfl; exact rfl; exact rfl; exact rfl; apply wl_skipU; exact rfl; exact rfl; exact rfl; exact rfl; apply wl_skipU; exact rfl; exact rfl; exact rfl; exact rfl; apply wl_skipU; exact rfl; exact rfl; exact rfl; exact rfl; apply wl_skipU; exact rfl; exact rfl; exact rfl; exact rfl; apply wl_skip; exact rfl; exact rfl; exact rfl; refine bTn ?_; (with_reducible assumption); exact rfl; apply wl_val; apply opv_pickT; exact rfl; refine bT ?_; (with_reducible assumption); exact rfl; exact rfl; refine wl_nil ?_
      exact we_cut _ ⟨rfl, rfl⟩ ⟨rfl, rfl, rfl, rfl, rfl, trivial⟩
    · by_cases h6 : th = 0
      · rw [show decide (k < 0 ∨ th = 0 ∧ ((fileD d n).data.length : Int) < k) = decide (((fileD d n).data.length : Int) < k) by simp [hk, h6]]
        apply wl_take; exact rfl; exact rfl; exact rfl; refine bF ?_; (with_reducible assumption); refine wl_mv rfl rfl ?_; apply wl_take; exact rfl; exact rfl; exact rfl; refine bF ?_; (with_reducible assumption); refine wl_bin rfl rfl bin_eql rfl ?_; apply wl_take; exact rfl; exact rfl; exact rfl; refine bF ?_; (with_reducible assumption); refine wl_mv rfl rfl ?_; apply wl_take; exact rfl; exact rfl; exact rfl; refine bT ?_; omega; refine wl_mv rfl rfl ?_; apply wl_take; exact rfl; exact rfl; exact rfl; refine bT ?_; omega; refine wl_mv rfl rfl ?_; apply wl_take; exact rfl; exact rfl; exact rfl; refine bT ?_; omega; apply wl_val; apply opv_nilOk; exact rfl; exact rfl; apply wl_take; exact rfl; exact rfl; exact rfl; refine bT ?_; omega; apply wl_val; apply opv_fa; exact fa_sD (by decide); exact rfl; exact rfl; apply wl_take; exact rfl; exact rfl; exact rfl; refine bT ?_; omega; apply wl_val; apply opv_ldX; exact rfl; assumption; exact d1_map; exact rfl; exact rfl; apply wl_take; exact rfl; exact rfl; exact rfl; refine bT ?_; omega; refine wl_mv rfl rfl ?_; apply wl_take; exact rfl; exact rfl; exact rfl; refine bT ?_; omega; apply wl_val; apply hlk; exact rfl; exact rfl; exact rfl; apply wl_take; exact rfl; exact rfl; exact rfl; refine bT ?_; omega; apply wl_val; apply fld_F0; exact rfl; exact rfl; exact rfl; apply wl_take; exact rfl; exact rfl; exact rfl; refine bT ?_; omega; apply wl_val; apply opv_len; exact rfl; exact tyB.sl; exact rfl; apply wl_take; exact rfl; exact rfl; exact rfl; refine bT ?_; omega; refine wl_bin rfl rfl bin_gtr rfl ?_; apply wl_take; exact rfl; exact rfl; exact rfl; refine bF ?_; (with_reducible assumption); apply wl_val; apply opv_pickT; exact rfl; refine bT ?_; omega; exact rfl; exact rfl; apply wl_val; apply opv_pickF; exact rfl; refine bF ?_; (with_reducible assumption); exact rfl; exact rfl; refine wl_nil ?_
        exact we_cut _ ⟨rfl, rfl⟩ ⟨rfl, rfl, rfl, rfl, rfl, trivial⟩
      · rw [show decide (k < 0 ∨ th = 0 ∧ ((fileD d n).data.length : Int) < k) = false by simp [hk, h6]]
        apply wl_take; exact rfl; exact rfl; exact rfl; refine bF ?_; (with_reducible assumption); refine wl_mv rfl rfl ?_; apply wl_take; exact rfl; exact rfl; exact rfl; refine bF ?_; (with_reducible assumption); refine wl_bin rfl rfl bin_eql rfl ?_; apply wl_take; exact rfl; exact rfl; exact rfl; refine bF ?_; (with_reducible assumption); refine wl_mv rfl rfl ?_; apply wl_skip; exact rfl; exact rfl; exact rfl; refine bFn ?_; omega; exact rfl; apply wl_skip; exact rfl; exact rfl; exact rfl; refine bFn ?_; omega; exact rfl; apply wl_skip; exact rfl; exact rfl; exact rfl; refine bFn ?_; omega; exact rfl; apply wl_skip; exact rfl; exact rfl; exact rfl; refine bFn ?_; omega; exact rfl; apply wl_skip; exact rfl; exact rfl; exact rfl; refine bFn ?_; omega; exact rfl; apply wl_skip; exact rfl; exact rfl; exact rfl; refine bFn ?_; omega; exact rfl; apply wl_skip; exact rfl; exact rfl; exact rfl; refine bFn ?_; omega; exact rfl; apply wl_skip; exact rfl; exact rfl; exact rfl; refine bFn ?_; omega; exact rfl; apply wl_skip; exact rfl; exact rfl; exact rfl; refine bFn ?_; omega; exact rfl; apply wl_skip; exact rfl; exact rfl; exact rfl; refine bFn ?_; omega; exact rfl; apply wl_take; exact rfl; exact rfl; exact rfl; refine bF ?_; (with_reducible assumption); apply wl_val; apply opv_pickF; exact rfl; refine bF ?_; omega; exact rfl; exact rfl; apply wl_val; apply opv_pickF; exact rfl; refine bF ?_; (with_reducible assumption); exact rfl; exact rfl; refine wl_nil ?_
        exact we_cut _ ⟨rfl, rfl⟩ ⟨rfl, rfl, rfl, rfl, rfl, trivial⟩
  rintro _ w3 ⟨rfl, rfl⟩
  clear a1 hlk rA hA
  refine we_seq ?_
  refine wc_cutE (fun L w' => L = [(0, .pointer (some ⟨g, 0, none⟩)), (1, str n), (2, .int .i64 k), (7, .int .i64 (e : Nat))] ∧ w' = w3) ?_ ?_
  · refine wc_cond rfl (fun h1 => ?_) (fun h1 => ?_)
    · rw [if_pos h1] at he
      subst he
      refine wc_region ?_; refine wl_as rfl rfl ?_; refine wl_nil ?_
      exact we_cut _ ⟨rfl, rfl⟩ ⟨rfl, rfl, rfl, rfl, trivial⟩
    · rw [if_neg h1] at he
      subst he
      refine wc_skip ?_
      exact we_cut _ ⟨rfl, rfl⟩ ⟨rfl, rfl, rfl, rfl, trivial⟩
  rintro _ _ ⟨rfl, rfl⟩
  refine we_seq ?_; refine wc_sr ?_; refine wl_mv rfl rfl ?_; refine wl_mv rfl rfl ?_
  obtain ⟨S2, hS2, _, _, _, hB⟩ := St.lend (H1 := [.ck (dkC g d)]) (H2 := []) hs
  refine wl_call ok_disk_Disk_turn (turnC_any hS2 hok) ⟨rfl, rfl, trivial⟩ rfl ?_
  rintro _ w4 ⟨rfl, hsx⟩
  replace hs := hB _ _ hsx
  clear hB hS2 hsx
  have hok2 := hok.turn e
  have hfs2 := (turnD_fs d e).1
  have hto := turnD_ok (d := d) (e := e)
  obtain ⟨t, ht⟩ : ∃ t, turnD d e = t := ⟨_, rfl⟩
  rw [ht] at hs hok2 hfs2 hto ⊢
  obtain ⟨okt, e2, d2⟩ := t
  simp only at hs hok2 hfs2 hto ⊢
  rw [List.append_nil] at hs
  have hfd := (thereD_eq hfs2 n).2
  refine wl_cutE (fun L w' => L = [(0, .pointer (some ⟨g, 0, none⟩)), (1, str n), (2, .int .i64 k), (7, .int .i64 (e2 : Nat)), (8, .bool okt)] ∧ w' = w4) ?_ ?_
  · refine wl_mv rfl rfl ?_; apply wl_val; apply opv_extract; exact rfl; exact rfl; exact rfl; apply wl_val; apply opv_extract; exact rfl; exact rfl; exact rfl; refine wl_as rfl rfl ?_; refine wl_as rfl rfl ?_; refine wl_nil ?_
    exact we_cut _ ⟨rfl, rfl⟩ ⟨rfl, rfl, rfl, rfl, rfl, trivial⟩
  rintro _ _ ⟨rfl, rfl⟩
  refine we_seq ?_; refine wc_seq ?_; refine wc_sr ?_; refine wl_mv rfl rfl ?_; refine wl_ns ?_
  refine wc_cutE (fun L w' => L = [(7, .int .i64 (e2 : Nat))] ∧ St S w w' [.ck (dkC g (if okt = true then putD d2 n ⟨(fileD d2 n).data.take k.toNat, k.toNat⟩ else d2))]) ?_ ?_
  · cases okt with
    | false =>
      apply wc_condFb; exact rfl; exact rfl; refine wc_skip ?_
      exact we_cut _ ⟨rfl, hs⟩ ⟨rfl, trivial⟩
    | true =>
      have he0 := hto rfl
      rw [he0] at he
      have hkc : ¬ (k < 0 ∨ th = 0 ∧ ((fileD d n).data.length : Int) < k) := fun h => by rw [if_pos h] at he; cases he
      rw [if_neg hkc] at he
      subst he
      obtain ⟨j, rfl⟩ : ∃ j : Nat, k = (j : Int) := ⟨k.toNat, by omega⟩
      have hj : j ≤ (fileD d n).data.length := by omega
      rw [if_pos rfl, Int.toNat_natCast, hfd]
      obtain ⟨bb, A, c, a1, rA, hA, hlk⟩ := (hs.rdd 0 rfl).look n
      rw [hfd] at rA hA hlk
      unfold dkV at a1
      apply wc_condTb; exact rfl; exact rfl; refine wc_region ?_; refine wl_mv rfl rfl ?_; refine wl_mv rfl rfl ?_; refine wl_mv rfl rfl ?_; apply wl_val; apply opv_nilOk; exact rfl; exact rfl; apply wl_val; apply opv_fa; exact fa_sD (by decide); exact rfl; exact rfl; apply wl_val; apply opv_ldX; exact rfl; assumption; exact d1_map; exact rfl; exact rfl; refine wl_mv rfl rfl ?_; apply wl_val; apply hlk; exact rfl; exact rfl; exact rfl; apply wl_val; apply fld_F0; exact rfl; exact rfl; exact rfl; refine wl_mv rfl rfl ?_
      have hle : ((fileD d n).data.take j).length = j := by rw [List.length_take, Nat.min_eq_left hj]
      refine wl_sl (l := 0) (h := j) tyB rfl rfl ⟨_, rfl⟩ (Nat.zero_le _) (by omega) rfl ?_
      refine wl_call ok_bytes_Clone (clone_any (rA.cut' hj hA) (by rw [hle]; rfl) (by omega)) ⟨rfl, trivial⟩ rfl ?_
      rintro _ _ ⟨X, cx, rfl, o_, hbx⟩
      replace hs := hs.newO hbx o_ (Nat.le_refl _)
      clear a1 hlk rA hbx o_
      refine wl_mv rfl rfl ?_
      refine wl_val (opv_build (vs := [(0, .slice X ((fileD d n).data.take j).length cx), (1, .int .i64 (j : Int))]) (cs := flV ⟨(fileD d n).data.take j, j⟩ X cx) ⟨rfl, rfl, rfl, rfl, trivial⟩ (by kernel_rfl)) rfl ?_
      replace hs := hs.front 1 rfl
      dsimp only [delC] at hs
      obtain ⟨S2, hS2, _, _, _, hB⟩ := St.lend (H1 := [.ck (dkC g d2), .ow 5 X ((fileD d n).data.take j).length cx (bvs ((fileD d n).data.take j))]) (H2 := []) hs
      refine wl_call ok_disk_Disk_put (put_any (f := ⟨(fileD d n).data.take j, j⟩) hS2) ⟨rfl, rfl, rfl, trivial⟩ rfl ?_
      rintro _ _ ⟨rfl, hsx⟩
      replace hs := hB _ _ hsx
      refine wl_nil ?_
      exact we_cut _ ⟨rfl, hs⟩ ⟨rfl, trivial⟩
  · rintro _ _ ⟨rfl, hs⟩
    refine we_seq ?_; refine wc_sr ?_; refine wl_mv rfl rfl ?_; refine wl_as rfl rfl ?_; refine wl_ns ?_; refine wc_ret ?_
    exact we_ret1 rfl rfl ⟨_, rfl, rfl, hs⟩
end Go.Proofs.Ytdgagffieobiiaa

/-
  Contracts of Go's library that the kit's shelf holds, as its tools laid them at this seat: slices.Sorted(maps.Keys(m)) for the map of a disk's files.
-/
namespace Go.Proofs
open Go.Shelf
def Try.keys52_ren : Go.Shelf.Ren := ⟨fun | 7 => 52 | 10 => 64 | n => n, fun | 23 => 65 | 26 => 9 | 3 => 72 | 28 => 115 | 0 => 0 | 27 => 114 | 33 => 127 | 4 => 4 | n => n, fun | n => n⟩
theorem Try.keys52 : Go.Proofs.SlLaysZ.n7 Try.prog Try.keys52_ren := {
  mixed := by kernel_rfl
  f7 := ⟨Try.f52.name, by decide, Try.func52.trans (congrArg some (by kernel_rfl))⟩
  f10 := ⟨Try.f64.name, by decide, Try.func64.trans (congrArg some (by kernel_rfl))⟩
  t0 := Try.underlying0
  a0 := Try.isAgg0
  z0 := Try.sizeOf0
  v0 := Try.zeroValue0
  t4 := Try.underlying4
  a4 := Try.isAgg4
  z4 := Try.sizeOf4
  v4 := Try.zeroValue4
  t23 := Try.underlying65
  a23 := Try.isAgg65
  z23 := Try.sizeOf65
  v23 := Try.zeroValue65
  t26 := Try.underlying9
  a26 := Try.isAgg9
  z26 := Try.sizeOf9
  v26 := Try.zeroValue9
  t27 := Try.underlying114
  a27 := Try.isAgg114
  z27 := Try.sizeOf114
  v27 := Try.zeroValue114
  t28 := Try.underlying115
  a28 := Try.isAgg115
  z28 := Try.sizeOf115
  v28 := Try.zeroValue115
  t33 := Try.underlying127
  a33 := Try.isAgg127
  z33 := Try.sizeOf127
  v33 := Try.zeroValue127 }
def Try.sorted51_ren : Go.Shelf.Ren := ⟨fun | 6 => 51 | 8 => 62 | 9 => 63 | 11 => 70 | 13 => 72 | 12 => 71 | 23 => 87 | 24 => 88 | 14 => 78 | 15 => 79 | 16 => 80 | 17 => 81 | 18 => 82 | 19 => 83 | 20 => 84 | 21 => 85 | 22 => 86 | 25 => 96 | 26 => 97 | 27 => 98 | 28 => 99 | 29 => 100 | 30 => 101 | 31 => 103 | n => n, fun | 26 => 9 | 28 => 115 | 24 => 80 | 0 => 0 | 3 => 3 | 37 => 77 | 48 => 28 | 50 => 47 | 4 => 4 | 40 => 141 | 39 => 140 | 45 => 145 | 5 => 5 | 9 => 9 | 51 => 154 | 55 => 157 | 57 => 159 | 58 => 160 | 33 => 127 | n => n, fun | n => n⟩
theorem Try.sorted51 : Go.Proofs.SlLaysZ.n6 Try.prog Try.sorted51_ren := {
  mixed := by kernel_rfl
  f6 := ⟨Try.f51.name, by decide, Try.func51.trans (congrArg some (by kernel_rfl))⟩
  f8 := ⟨Try.f62.name, by decide, Try.func62.trans (congrArg some (by kernel_rfl))⟩
  f11 := ⟨Try.f70.name, by decide, Try.func70.trans (congrArg some (by kernel_rfl))⟩
  t0 := Try.underlying0
  a0 := Try.isAgg0
  z0 := Try.sizeOf0
  v0 := Try.zeroValue0
  t24 := Try.underlying80
  a24 := Try.isAgg80
  z24 := Try.sizeOf80
  v24 := Try.zeroValue80
  t26 := Try.underlying9
  a26 := Try.isAgg9
  z26 := Try.sizeOf9
  v26 := Try.zeroValue9
  t28 := Try.underlying115
  a28 := Try.isAgg115
  z28 := Try.sizeOf115
  v28 := Try.zeroValue115
  i26 := by kernel_rfl }
def Try.sort63_ren : Go.Shelf.Ren := ⟨fun | 6 => 63 | 8 => 72 | 9 => 71 | 19 => 87 | 20 => 88 | 21 => 78 | 22 => 79 | 23 => 80 | 24 => 81 | 25 => 82 | 26 => 83 | 27 => 84 | 28 => 85 | 29 => 86 | 36 => 96 | 31 => 97 | 32 => 98 | 37 => 99 | 38 => 100 | 39 => 101 | 41 => 103 | n => n, fun | 27 => 80 | 29 => 9 | 3 => 3 | 32 => 77 | 26 => 80 | 0 => 0 | 44 => 28 | 46 => 47 | 4 => 4 | 36 => 141 | 35 => 140 | 41 => 145 | 5 => 5 | 9 => 9 | 53 => 154 | 57 => 157 | 63 => 159 | 64 => 160 | n => n, fun | n => n⟩
theorem Try.sort63 : Go.Proofs.SlLaysM.n6 Try.prog Try.sort63_ren := {
  mixed := by kernel_rfl
  f6 := ⟨Try.f63.name, by decide, Try.func63.trans (congrArg some (by kernel_rfl))⟩
  f8 := Try.func72.trans (congrArg some (by kernel_rfl))
  f9 := ⟨Try.f71.name, by decide, Try.func71.trans (congrArg some (by kernel_rfl))⟩
  f19 := Try.func87.trans (congrArg some (by kernel_rfl))
  f20 := Try.func88.trans (congrArg some (by kernel_rfl))
  f21 := ⟨Try.f78.name, by decide, Try.func78.trans (congrArg some (by kernel_rfl))⟩
  f22 := ⟨Try.f79.name, by decide, Try.func79.trans (congrArg some (by kernel_rfl))⟩
  f23 := ⟨Try.f80.name, by decide, Try.func80.trans (congrArg some (by kernel_rfl))⟩
  f24 := ⟨Try.f81.name, by decide, Try.func81.trans (congrArg some (by kernel_rfl))⟩
  f25 := ⟨Try.f82.name, by decide, Try.func82.trans (congrArg some (by kernel_rfl))⟩
  f26 := ⟨Try.f83.name, by decide, Try.func83.trans (congrArg some (by kernel_rfl))⟩
  f27 := ⟨Try.f84.name, by decide, Try.func84.trans (congrArg some (by kernel_rfl))⟩
  f28 := ⟨Try.f85.name, by decide, Try.func85.trans (congrArg some (by kernel_rfl))⟩
  f29 := ⟨Try.f86.name, by decide, Try.func86.trans (congrArg some (by kernel_rfl))⟩
  f31 := Try.func97.trans (congrArg some (by kernel_rfl))
  f32 := Try.func98.trans (congrArg some (by kernel_rfl))
  f36 := ⟨Try.f96.name, by decide, Try.func96.trans (congrArg some (by kernel_rfl))⟩
  f37 := ⟨Try.f99.name, by decide, Try.func99.trans (congrArg some (by kernel_rfl))⟩
  f38 := ⟨Try.f100.name, by decide, Try.func100.trans (congrArg some (by kernel_rfl))⟩
  f39 := ⟨Try.f101.name, by decide, Try.func101.trans (congrArg some (by kernel_rfl))⟩
  f41 := ⟨Try.f103.name, by decide, Try.func103.trans (congrArg some (by kernel_rfl))⟩
  t0 := Try.underlying0
  a0 := Try.isAgg0
  z0 := Try.sizeOf0
  v0 := Try.zeroValue0
  t3 := Try.underlying3
  a3 := Try.isAgg3
  z3 := Try.sizeOf3
  v3 := Try.zeroValue3
  t4 := Try.underlying4
  a4 := Try.isAgg4
  z4 := Try.sizeOf4
  v4 := Try.zeroValue4
  t5 := Try.underlying5
  a5 := Try.isAgg5
  z5 := Try.sizeOf5
  v5 := Try.zeroValue5
  t9 := Try.underlying9
  a9 := Try.isAgg9
  z9 := Try.sizeOf9
  v9 := Try.zeroValue9
  t26 := Try.underlying80
  a26 := Try.isAgg80
  z26 := Try.sizeOf80
  v26 := Try.zeroValue80
  t27 := Try.underlying80
  a27 := Try.isAgg80
  z27 := Try.sizeOf80
  v27 := Try.zeroValue80
  t29 := Try.underlying9
  a29 := Try.isAgg9
  z29 := Try.sizeOf9
  v29 := Try.zeroValue9
  t32 := Try.underlying77
  a32 := Try.isAgg77
  z32 := Try.sizeOf77
  v32 := Try.zeroValue77
  t35 := Try.underlying140
  a35 := Try.isAgg140
  z35 := Try.sizeOf140
  v35 := Try.zeroValue140
  t36 := Try.underlying141
  a36 := Try.isAgg141
  z36 := Try.sizeOf141
  v36 := Try.zeroValue141
  t41 := Try.underlying145
  a41 := Try.isAgg145
  z41 := Try.sizeOf145
  v41 := Try.zeroValue145
  t44 := Try.underlying28
  a44 := Try.isAgg28
  z44 := Try.sizeOf28
  v44 := Try.zeroValue28
  t46 := Try.underlying47
  a46 := Try.isAgg47
  z46 := Try.sizeOf47
  v46 := Try.zeroValue47
  t53 := Try.underlying154
  a53 := Try.isAgg154
  z53 := Try.sizeOf154
  v53 := Try.zeroValue154
  t57 := Try.underlying157
  a57 := Try.isAgg157
  z57 := Try.sizeOf157
  v57 := Try.zeroValue157
  t63 := Try.underlying159
  a63 := Try.isAgg159
  z63 := Try.sizeOf159
  v63 := Try.zeroValue159
  t64 := Try.underlying160
  a64 := Try.isAgg160
  z64 := Try.sizeOf160
  v64 := Try.zeroValue160 }
open Go.RowKit Go.Maps Go.Sort Go.Shelf in
theorem Try.sorts51 (m : Nat) : AnyZ.SortsIn Try.prog Try.sorted51_ren Fence.wide m :=
  ⟨fun blk off cap ss W hH hblk hsz => callsIn_wide.2 (AnyM.slices_Sort_string Try.sort63 blk off cap ss W hH hblk hsz),
   fun p cap W => callsIn_wide.2 (AnyM.slices_Sort_string_none Try.sort63 p cap W)⟩
open Go.RowKit Go.Maps Go.Sort Go.Shelf in
theorem Try.maps_Keys_52 (mb : Option Nat) (W : World) : CallsIn Fence.wide 5 Try.prog 52 #[.map mb] W fun e w' => e = .returned (.func (.func 64) #[] #[.pointer (some ⟨W.heap.size, 0, none⟩)]) ∧ w' = W.alloc (.cells #[.map mb] 65) :=
  AnyZ.keys_in Try.keys52 Fence.wide 5 trivial rfl mb W
open Go.RowKit Go.Maps Go.Sort Go.Shelf in
theorem Try.slices_Sorted_keys_51_52 {H : Type} (b nn : Nat) (D0 : DataW H) (R : Value → Option (DataW H × List MemPlace)) (w : World) (hown : w.ownsMap Try.prog 9 R b nn D0) (hmax : Maps.size D0 ≤ maxLen) (hbytes : Maps.size D0 * 16 ≤ 140737488355328) :
    CallsIn Fence.wide 5 Try.prog 51 #[.func (.func 64) #[] #[.pointer (some ⟨w.heap.size, 0, none⟩)]] (w.alloc (.cells #[.map (some b)] 65)) fun e w' => ∃ (v : Value) (ss : List (List UInt8)), e = .returned v ∧ ss.Perm (strKeys D0) ∧
      w'.ownsRow (w.alloc (.cells #[.map (some b)] 65)).heap.size 9 1 v ss.length ((ss.mergeSort (fun x y => decide (x ≤ y))).map encStr) ∧ (v = .slice none 0 0 ↔ ss = []) ∧ Below (w.alloc (.cells #[.map (some b)] 65)).heap.size (w.alloc (.cells #[.map (some b)] 65)) w' := by
  have hbl := hown.lt
  have hseq : SeqGives Fence.wide 2 Try.prog 64 #[.pointer (some ⟨w.heap.size, 0, none⟩)] encStr (fun ss => ss.Perm (strKeys D0)) (Maps.size D0) (w.alloc (.cells #[.map (some b)] 65)) :=
    AnyZ.keys_gives (ρ := Try.keys52_ren) { Try.keys52 with } Fence.wide _ trivial rfl (by omega) w.heap.size b nn D0 _ (by simp) (by simp) (by
      obtain ⟨es, clock, hb, Ft, hs, hD⟩ := hown
      exact ⟨es, clock, (Below.heap_alloc _ _ b hbl).trans hb, Ft, hs, hD⟩)
  exact AnyZ.sorted_in Try.sorted51 Fence.wide 5 trivial trivial trivial trivial rfl (by omega) (Try.sorts51 _) (enters_of Try.func63 (by kernel_rfl) rfl) 64 #[.pointer (some ⟨w.heap.size, 0, none⟩)] trivial (enters_of Try.func64 (by kernel_rfl) rfl) _ _ hmax hbytes _ hseq
open Go.RowKit Go.Maps Go.Sort Go.Shelf in
theorem Try.slices_Sorted_keys_nil_51_52 (w : World) :
    CallsIn Fence.wide 5 Try.prog 51 #[.func (.func 64) #[] #[.pointer (some ⟨w.heap.size, 0, none⟩)]] (w.alloc (.cells #[.map none] 65)) fun e w' => ∃ (v : Value) (ss : List (List UInt8)), e = .returned v ∧ ss = [] ∧
      w'.ownsRow (w.alloc (.cells #[.map none] 65)).heap.size 9 1 v ss.length ((ss.mergeSort (fun x y => decide (x ≤ y))).map encStr) ∧ (v = .slice none 0 0 ↔ ss = []) ∧ Below (w.alloc (.cells #[.map none] 65)).heap.size (w.alloc (.cells #[.map none] 65)) w' := by
  have hseq : SeqGives Fence.wide 2 Try.prog 64 #[.pointer (some ⟨w.heap.size, 0, none⟩)] encStr (fun ss : List (List UInt8) => ss = []) 0 (w.alloc (.cells #[.map none] 65)) :=
    AnyZ.keys_gives_nil (ρ := Try.keys52_ren) { Try.keys52 with } Fence.wide _ trivial rfl w.heap.size _ (by simp) (by simp)
  exact AnyZ.sorted_in Try.sorted51 Fence.wide 5 trivial trivial trivial trivial rfl (by omega) (Try.sorts51 _) (enters_of Try.func63 (by kernel_rfl) rfl) 64 #[.pointer (some ⟨w.heap.size, 0, none⟩)] trivial (enters_of Try.func64 (by kernel_rfl) rfl) _ 0 (Nat.zero_le _) (by omega) _ hseq
end Go.Proofs

/-
  Walks over disks: the names.
-/
namespace Go.Proofs.Ytdgagffieobiiaa
open Go.RowKit Go.Maps Go.Sort Go.Shelf

def sortN (fs : Fs) : List (List UInt8) := (fs.map (·.1)).mergeSort (fun x y => decide (x ≤ y))
theorem okKeys : CallOk Try.prog 52 := callOk Try.func52 (by kernel_rfl) rfl
theorem okSorted : CallOk Try.prog 51 := callOk Try.func51 (by kernel_rfl) rfl
theorem key_str {k : List UInt8} (h : k.length ≤ maxLen) : keyOf Try.prog 9 (str k) = some (.string k) := by
  have h' : (ByteArray.mk k.toArray).size ≤ maxLen := h
  simp [keyOf, tyStrD, mapKey, str, h']
/-- The map as the shelf reads it. -/
theorem dk_owns {w : World} {m clk : Nat} {xs : List FE} {fs : Fs} (hm : Mp w m (xs.map FE.me) clk) (hI : DkI fs xs clk) (hn : ∀ p ∈ fs, p.1.length ≤ maxLen) (hl : fs.length ≤ maxLen) :
    ∃ D0 : DataW Unit, w.ownsMap Try.prog 9 (fun _ => some (.nil, [])) m fs.length D0 ∧ Maps.size D0 = fs.length ∧ (strKeys D0).Perm (fs.map (·.1)) := by
  have hle : xs.length = fs.length := by rw [← hI.fs, List.length_map]
  have hrd : ∀ x ∈ xs, WideElems.rd (H := Unit) Try.prog 9 (fun _ => some (.nil, [])) (toE x.me) = some (.string x.nm, .nil) := by
    intro x hx
    have hk := key_str (k := x.nm) (hn (x.nm, x.f) (by rw [← hI.fs]; exact List.mem_map.2 ⟨x, hx, rfl⟩))
    unfold WideElems.rd
    rw [show (toE x.me).key = str x.nm from rfl, hk]; rfl
  have hrg : ((xs.map FE.me).map toE).map (WideElems.rg (H := Unit) Try.prog 9 (fun _ => some (.nil, []))) = xs.map fun x => (Lit.string x.nm, DataW.nil) := by
    rw [List.map_map, List.map_map]
    refine List.map_congr_left fun x hx => ?_
    have h1 := hrd x hx
    simp only [Function.comp_apply, WideElems.rg, h1, Option.getD_some]
  refine ⟨.map ((xs.map fun x => (Lit.string x.nm, DataW.nil)).foldr DataW.insert []), ⟨((xs.map FE.me).map toE).toArray, clk, hm, ⟨?_, ⟨?_, ?_, ?_⟩, ?_⟩, ?_, ?_⟩, ?_, ?_⟩
  · simp; omega
  · intro x hx
    simp only [List.map_map] at hx
    obtain ⟨y, hy, rfl⟩ := List.mem_map.1 hx
    exact hI.old y hy
  · have := hI.bn; simpa [List.map_map, Function.comp_def, toE, FE.me] using this
  · have h1 := hI.nd
    have : (((xs.map FE.me).map toE).toArray.toList.map (·.key)) = (xs.map (·.nm)).map str := by simp [List.map_map, Function.comp_def, toE, FE.me]
    rw [this]
    refine List.pairwise_map.2 (h1.imp fun {a b} hne e => hne ?_)
    simpa [str] using e
  · intro x hx
    simp only [List.map_map] at hx
    obtain ⟨y, hy, rfl⟩ := List.mem_map.1 hx
    exact ⟨_, hrd y hy⟩
  · simp; omega
  · rw [← hrg]
  · show List.length _ = _
    rw [(WideShapes.sorted_perm _).length_eq, List.length_map, hle]
  · show (List.map (fun p : Lit × DataW Unit => strOf p.1) _).Perm _
    refine ((WideShapes.sorted_perm _).map _).trans ?_
    rw [List.map_map, ← hI.fs, List.map_map]
    exact List.Perm.refl _
theorem keysC (m : Option Nat) (w : World) : CallsV Try.prog 52 #[.map m] w fun v w' => v = .func (.func 64) #[] #[.pointer (some ⟨w.heap.size, 0, none⟩)] ∧ w' = w.alloc (.cells #[.map m] 65) :=
  ((callsIn_wide (n := 5)).1 (Try.maps_Keys_52 m w)).mono fun e w' h => ⟨_, h.1, rfl, h.2⟩
theorem sortedC {w : World} {m n : Nat} {D0 : DataW Unit} {ns : List (List UInt8)} (ho : w.ownsMap Try.prog 9 (fun _ => some (.nil, [])) m n D0) (hs : Maps.size D0 ≤ 1048576) (hp : (strKeys D0).Perm ns) :
    CallsV Try.prog 51 #[.func (.func 64) #[] #[.pointer (some ⟨w.heap.size, 0, none⟩)]] (w.alloc (.cells #[.map (some m)] 65)) fun v w' => ∃ (A : Option Addr) (c : Nat), v = .slice A ns.length c ∧ Ow w' w.heap.size 9 A ns.length c ((ns.mergeSort (fun x y => decide (x ≤ y))).map str) ∧ Below w.heap.size w w' :=
  ((callsIn_wide (n := 5)).1 (Try.slices_Sorted_keys_51_52 m n D0 _ w ho (by simp only [maxLen]; omega) (by omega))).mono fun e w' ⟨v, ss, he, hss, hrow, _, hb⟩ => by
    have hpn := hss.trans hp
    have hlen := hpn.length_eq
    have hms : ss.mergeSort (fun x y => decide (x ≤ y)) = ns.mergeSort (fun x y => decide (x ≤ y)) := mergeSort_of_perm hpn
    rw [hlen, hms] at hrow
    have hbb : Below w.heap.size w w' := ((Below.refl _ w).alloc (Nat.le_refl _) _).trans (hb.mono (by simp))
    obtain ⟨A, c, hv⟩ : ∃ (A : Option Addr) (c : Nat), v = .slice A ns.length c := by
      rcases hrow.2 with ⟨hv, hn⟩ | ⟨g, cap, cur, hv, _⟩
      · exact ⟨none, 0, by rw [hv, hn]⟩
      · exact ⟨_, _, hv⟩
    subst hv
    exact ⟨_, he, A, c, rfl, Ow.mono (base := (w.alloc (.cells #[.map (some m)] 65)).heap.size) hrow (by simp), hbb⟩
theorem sortedN (w : World) :
    CallsV Try.prog 51 #[.func (.func 64) #[] #[.pointer (some ⟨w.heap.size, 0, none⟩)]] (w.alloc (.cells #[.map none] 65)) fun v w' => v = .slice none 0 0 ∧ Below w.heap.size w w' :=
  ((callsIn_wide (n := 5)).1 (Try.slices_Sorted_keys_nil_51_52 w)).mono fun e w' ⟨v, ss, he, hss, hrow, hv, hb⟩ => ⟨v, he, hv.2 hss, ((Below.refl _ w).alloc (Nat.le_refl _) _).trans (hb.mono (by simp))⟩
theorem names_any {g : Nat} {d : Dk} {w : World} (h : RdD w g d) (hn : ∀ p ∈ d.fs, p.1.length ≤ maxLen) (hl : d.fs.length ≤ 1048576) : CallsV Try.prog 34 #[.pointer (some ⟨g, 0, none⟩)] w fun v w' =>
    ∃ (A : Option Addr) (c : Nat), v = .slice A d.fs.length c ∧ Ow w' w.heap.size 9 A d.fs.length c ((sortN d.fs).map str) ∧ Below w.heap.size w w' := by
  have hb := Below.refl w.heap.size w
  have hmax : maxLen = 9223372036854775807 := rfl
  refine calls_in (N := _) Try.func34 rfl Try.ntmps34 rfl ?_; show WC _ _ _ _ _ _
  rcases h with ⟨h1, a1⟩ | ⟨m, xs, clk, hI, a1, hm, hrd⟩
  · rw [h1]
    unfold dkV at a1
    refine wc_sr ?_; refine wl_as rfl rfl ?_; refine wl_ns ?_; refine wc_sr ?_; refine wl_mv rfl rfl ?_; apply wl_val; apply opv_nilOk; exact rfl; exact rfl; apply wl_val; apply opv_fa; exact fa_sD (by decide); exact rfl; exact rfl; apply wl_val; apply opv_ldX; exact rfl; assumption; exact d1_map; exact rfl; exact rfl
    refine wl_call (vs := [.map none]) okKeys (keysC none w) ⟨rfl, trivial⟩ rfl ?_
    rintro _ _ ⟨rfl, rfl⟩
    skip
    refine wl_call okSorted (sortedN w) ⟨rfl, trivial⟩ rfl ?_
    rintro _ _ ⟨rfl, hbx⟩
    refine wl_as rfl rfl ?_; refine wl_ns ?_; refine wc_ret ?_
    exact we_ret1 rfl rfl ⟨_, rfl, none, 0, rfl, by rw [show sortN [] = [] by simp [sortN]]; exact Ow.nil _ _ _, hbx⟩
  · obtain ⟨D0, ho, hsz, hp⟩ := dk_owns hm hI hn (by omega)
    unfold dkV at a1
    refine wc_sr ?_; refine wl_as rfl rfl ?_; refine wl_ns ?_; refine wc_sr ?_; refine wl_mv rfl rfl ?_; apply wl_val; apply opv_nilOk; exact rfl; exact rfl; apply wl_val; apply opv_fa; exact fa_sD (by decide); exact rfl; exact rfl; apply wl_val; apply opv_ldX; exact rfl; assumption; exact d1_map; exact rfl; exact rfl
    refine wl_call (vs := [.map (some m)]) okKeys (keysC (some m) w) ⟨rfl, trivial⟩ rfl ?_
    rintro _ _ ⟨rfl, rfl⟩
    skip
    refine wl_call okSorted (sortedC (n := d.fs.length) ho (by omega) hp) ⟨rfl, trivial⟩ rfl ?_
    rintro _ _ ⟨A, c, rfl, ho2, hbx⟩
    rw [List.length_map] at ho2 ⊢
    refine wl_as rfl rfl ?_; refine wl_ns ?_; refine wc_ret ?_
    exact we_ret1 rfl rfl ⟨_, rfl, A, c, rfl, ho2, hbx⟩
end Go.Proofs.Ytdgagffieobiiaa

/-
  Walks over disks: Crash.
-/
namespace Go.Proofs.Ytdgagffieobiiaa
open Go.RowKit

theorem tyIn : Row1 Try.prog 23 3 (.int .i64 0) 8 := ⟨Try.underlying23, by kernel_rfl, rfl, by rw [Try.underlying3]⟩
theorem tyNm : Row1 Try.prog 80 9 (.string .empty) 16 := ⟨Try.underlying80, by kernel_rfl, rfl, by rw [Try.underlying9]⟩
section
variable {M : BS} {w0 w : World} {H : List Cd} {g m clk c : Nat} {d : Dk} {n : List UInt8} {f : Fl} {A : Option Addr} {xs : List FE}
/-- A file's place has been written, its new bytes stand beside. -/
theorem St.putC (hI : DkI d.fs xs clk) (hs : St M w0 w (.blk g 67 (dkV d (some m)) :: .ck (mpC m (mput (xs.map FE.me) clk n (.agg (flV f A c).toArray)).1 (mput (xs.map FE.me) clk n (.agg (flV f A c).toArray)).2) :: .ck (flC xs) :: .ow 5 A f.data.length c (bvs f.data) :: H)) :
    St M w0 w (.ck (dkC g (putD d n f)) :: H) := by
  rcases fnd_split n xs 0 with ⟨h1, h2, h3⟩ | ⟨X, x, Y, rfl, h2, h3, h4, h5⟩
  · rw [hI.fs] at h2
    rw [mput_new h1 A c f] at hs
    replace hs := (hs.front 3 rfl).front 3 rfl
    dsimp only [delC] at hs
    replace hs := St.flAdd (x := ⟨n, A, c, f, clk⟩) hs
    replace hs := (hs.front 2 rfl).front 2 rfl
    dsimp only [delC] at hs
    exact St.cls (d := putD d n f) (m := m) hs (hI.new h3 h2 A c f)
  · rw [mput_old h4 h2 A c f] at hs
    replace hs := (hs.front 3 rfl).front 3 rfl
    dsimp only [delC] at hs
    replace hs := St.flSet (y := ⟨n, A, c, f, x.born⟩) hs
    replace hs := (hs.front 2 rfl).front 2 rfl
    dsimp only [delC] at hs
    exact St.cls (d := putD d n f) (m := m) hs (hI.old' h2 h3 A c f)
end
theorem DkOk.put {d : Dk} (h : DkOk d) {n : List UInt8} {f : Fl} (hf : f.safe ≤ f.data.length) (hl : f.data.length ≤ (fileD d n).data.length) : DkOk (putD d n f) := by
  refine ⟨?_, h.room, ?_, h.left⟩
  · intro p hp
    rcases put_mem hp with rfl | hp
    · exact hf
    · exact h.safe p hp
  · have := used_put (n := n) (f := f) d.fs
    have h2 := h.used
    unfold fileD at hl
    show Go.Proofs.Ytdgagffieobiiaa.used (putF n f d.fs) ≤ d.room
    omega
def crashK (keeps : List Int) (d : Dk) (ns : List (List UInt8)) : Dk := ⟨crashF keeps 0 ns d.fs, d.room, false, 0, false⟩
def CraI (w : World) (S : BS) (g : Nat) (d : Dk) (K : Option Addr) (ck : Nat) (keeps : List Int) (ns : List (List UInt8)) (A : Option Addr) (c : Nat) : FL → World → Nat → Prop := fun L wr m =>
  ∃ (i j : Nat) (d2 : Dk), L = [(0, .pointer (some ⟨g, 0, none⟩)), (1, .slice K keeps.length ck), (4, .int .i64 (i : Int)), (12, .slice A ns.length c), (13, .int .i64 (ns.length : Int)), (14, .int .i64 (j : Int))] ∧ j ≤ ns.length ∧ i ≤ j ∧
    St S w wr [.ck (dkC g d2), .ow 9 A ns.length c (ns.map str)] ∧ DkOk d2 ∧ d2.room = d.room ∧ crashF keeps i (ns.drop j) d2.fs = crashF keeps 0 ns d.fs ∧ m = ns.length - j
set_option maxHeartbeats 2000000 in
theorem crash_any {S : BS} {g ck : Nat} {d : Dk} {K : Option Addr} {keeps : List Int} {w : World} (h0 : Sat w [.ck (dkC g d)] S) (hok : DkOk d) (hn : ∀ p ∈ d.fs, p.1.length ≤ maxLen) (hl : d.fs.length ≤ 1048576)
    (hk : ∀ w', Mod S w w' → Rd w' K keeps.length (keeps.map fun k => .int .i64 k)) (hkl : keeps.length ≤ 1048576) :
    CallsV Try.prog 11 #[.pointer (some ⟨g, 0, none⟩), .slice K keeps.length ck] w fun v w' => v = .tuple #[] ∧ St S w w' [.ck (dkC g (crashK keeps d (sortN d.fs)))] := by
  have hs := St.start h0
  have hmax : maxLen = 9223372036854775807 := rfl
  refine calls_in (N := _) Try.func11 rfl Try.ntmps11 rfl ?_; show WC _ _ _ _ _ _
  refine wc_sr ?_; refine wl_as rfl rfl ?_; refine wl_ns ?_; refine wc_seq ?_; refine wc_sr ?_; refine wl_mv rfl rfl ?_
  refine wl_call ok_disk_Disk_names (names_any (hs.rdd 0 rfl) hn hl) ⟨rfl, trivial⟩ rfl ?_; rintro _ _ ⟨A, c, rfl, o_, hbx⟩; replace hs := hs.newO hbx o_ (Nat.le_refl _); try dsimp only [List.cons_append, List.nil_append, setC, delC] at hs
  clear hbx o_
  obtain ⟨ns, hns⟩ : ∃ ns, sortN d.fs = ns := ⟨_, rfl⟩
  have hnl : d.fs.length = ns.length := by rw [← hns, sortN, List.length_mergeSort, List.length_map]
  rw [hns] at hs ⊢
  rw [hnl] at hs hl ⊢
  replace hs := hs.front 1 rfl
  dsimp only [delC] at hs
  apply wl_val; apply opv_len; exact rfl; exact tyNm.sl; exact rfl; refine wl_mv rfl rfl ?_; refine wl_ns ?_; refine wc_block ?_
  refine wc_loop (CraI w S g d K ck keeps ns A c) [(0, .pointer (some ⟨g, 0, none⟩)), (1, .slice K keeps.length ck), (4, .int .i64 (0 : Nat)), (12, .slice A ns.length c), (13, .int .i64 (ns.length : Int)), (14, .int .i64 (0 : Nat))] ns.length
    ⟨0, 0, d, rfl, Nat.zero_le _, Nat.le_refl _, hs, hok, rfl, rfl, rfl⟩ ⟨rfl, rfl, rfl, rfl, rfl, rfl, trivial⟩ ?_
  clear hs hok hns
  rintro _ w1 k ⟨i, j, d2, rfl, hj, hij, hs, hok, hrm, hcr, rfl⟩
  refine wc_sr ?_; refine wl_bin rfl rfl bin_lss rfl ?_; refine wl_ns ?_; refine wc_seq ?_
  refine wc_cond rfl (fun h1 => ?_) (fun h1 => ?_)
  · obtain ⟨nm, hnm⟩ : ∃ nm, ns[j]? = some nm := ⟨_, List.getElem?_eq_getElem (by omega)⟩
    have hdr : ns.drop j = nm :: ns.drop (j + 1) := by obtain ⟨h, e⟩ := List.getElem?_eq_some_iff.1 hnm; rw [List.drop_eq_getElem_cons h, e]
    rw [hdr] at hcr
    have hsl := fileD_safe hok.safe nm
    have hfl := fileD_le d2 nm
    have hur := hok.used
    have hro := hok.room
    refine wc_skip ?_; refine we_seq ?_; refine wc_seq ?_; refine wc_block ?_; refine wc_sr ?_
    refine wl_val (opv_idxR (kk := j) (u := str nm) tyNm rfl rfl (hs.ow 1 rfl).rd rfl (by rw [List.getElem?_map, hnm]; rfl)) rfl ?_
    refine wl_val (opv_loadR (kk := j) (u := str nm) tyNm rfl (hs.ow 1 rfl).rd (by rw [List.getElem?_map, hnm]; rfl)) rfl ?_
    obtain ⟨bb, B, cb, a1, rA, hA, hlk⟩ := (hs.rdd 0 rfl).look nm
    unfold dkV at a1
    refine wl_as rfl rfl ?_; refine wl_ns ?_; refine wc_sr ?_; refine wl_mv rfl rfl ?_; apply wl_val; apply opv_nilOk; exact rfl; exact rfl; apply wl_val; apply opv_fa; exact fa_sD (by decide); exact rfl; exact rfl; apply wl_val; apply opv_ldX; exact rfl; assumption; exact d1_map; exact rfl; exact rfl; refine wl_mv rfl rfl ?_; apply wl_val; apply hlk; exact rfl; exact rfl; exact rfl
    refine wl_var (cs := flV (fileD d2 nm) B cb) zeroF sF rfl (fun _ => rfl) (by first | rfl | simp [Value.oneCell']) rfl fun g7 _ hg a7 hbx => ?_
    replace hs := hs.newA hbx hg a7
    replace rA := rA.below hbx
    clear a1 hlk a7 hbx
    unfold flV at hs
    have hst : crashF keeps i (nm :: ns.drop (j + 1)) d2.fs = if (fileD d2 nm).data.length - (fileD d2 nm).safe = 0 then crashF keeps i (ns.drop (j + 1)) d2.fs else
      crashF keeps (i + 1) (ns.drop (j + 1)) (putF nm ⟨(fileD d2 nm).data.take ((fileD d2 nm).safe + keepN keeps i ((fileD d2 nm).data.length - (fileD d2 nm).safe)), (fileD d2 nm).safe + keepN keeps i ((fileD d2 nm).data.length - (fileD d2 nm).safe)⟩ d2.fs) := rfl
    rw [hst] at hcr
    clear hst
    obtain ⟨F, hF⟩ : ∃ F, fileD d2 nm = F := ⟨_, rfl⟩
    rw [hF] at hcr hs rA hsl hfl hA ⊢
    obtain ⟨t, ht⟩ : ∃ t, F.data.length - F.safe = t := ⟨_, rfl⟩
    rw [ht] at hcr
    refine wl_cutE (fun L w' => L = [(0, .pointer (some ⟨g, 0, none⟩)), (1, .slice K keeps.length ck), (4, .int .i64 (i : Int)), (12, .slice A ns.length c), (13, .int .i64 (ns.length : Int)), (14, .int .i64 (j : Int)), (6, str nm), (7, .pointer (some ⟨g7, 0, none⟩))] ∧ St S w w' [.blk g7 72 [.slice B F.data.length cb, .int .i64 (F.safe : Int)], .ck (dkC g d2), .ow 9 A ns.length c (ns.map str)] ∧ RdB w' B F.data) ?_ ?_
    · refine wl_nil ?_
      exact we_cut _ ⟨rfl, hs, rA⟩ ⟨rfl, rfl, rfl, rfl, rfl, rfl, rfl, rfl, trivial⟩
    clear hs rA
    rintro _ w2 ⟨rfl, hs, rA⟩
    refine we_seq ?_; refine wc_sr ?_; apply wl_val; apply opv_fa; exact fa_sF (by decide); exact rfl; exact rfl; apply wl_val; apply opv_ldX; exact rfl; exact hs.ar 0 rfl; exact d1_by; exact rfl; exact rfl; apply wl_val; apply opv_len; exact rfl; exact tyB.sl; exact rfl; apply wl_val; apply opv_fa; exact fa_sF (by decide); exact rfl; exact rfl; apply wl_val; apply opv_ldX; exact rfl; exact hs.ar 0 rfl; exact d1_int; exact rfl; exact rfl; apply wl_val; apply opv_bin; exact rfl; exact rfl; exact bin_sub64 (by omega); exact rfl; refine wl_as rfl rfl ?_; refine wl_ns ?_; refine wc_seq ?_; refine wc_sr ?_; refine wl_mv rfl rfl ?_; refine wl_bin rfl rfl bin_eql rfl ?_; refine wl_ns ?_
    rw [show (F.data.length : Int) - (F.safe : Int) = (t : Int) by omega]
    skip
    by_cases ht0 : t = 0
    · rw [if_pos ht0] at hcr
      apply wc_decT; exact rfl; omega; refine wc_exit ?_; refine we_seq_exit ?_; refine we_block_exit ?_; refine we_seq ?_; refine wc_region ?_; apply wl_val; apply opv_bin; exact rfl; exact rfl; exact bin_add64 (by omega); exact rfl; refine wl_mv rfl rfl ?_; refine wl_nil ?_
      exact we_loop _ (ns.length - (j + 1)) ⟨i, j + 1, d2, rfl, by omega, by omega, hs.drop 0 rfl, hok, hrm, hcr, rfl⟩ (by omega) ⟨rfl, rfl, rfl, rfl, rfl, by simp [lookT], trivial⟩
    · rw [if_neg ht0] at hcr
      apply wc_decF; exact rfl; omega; refine wc_skip ?_; refine we_seq ?_; refine wc_sr ?_; refine wl_as rfl rfl ?_; refine wl_ns ?_; refine wc_seq ?_; refine wc_sr ?_; refine wl_mv rfl rfl ?_; apply wl_val; apply opv_len; exact rfl; exact tyIn.sl; exact rfl; refine wl_bin rfl rfl bin_gtr rfl ?_; refine wl_ns ?_
      obtain ⟨kp, hkp⟩ : ∃ kp, keepN keeps i t = kp := ⟨_, rfl⟩
      rw [hkp] at hcr
      have hkt : kp ≤ t := by
        rw [← hkp]; unfold keepN
        split
        · exact Nat.lt_succ_iff.1 (Nat.mod_lt _ (Nat.succ_pos _))
        · omega
      refine wc_cutE (fun L w' => L = [(0, .pointer (some ⟨g, 0, none⟩)), (1, .slice K keeps.length ck), (4, .int .i64 (i : Int)), (12, .slice A ns.length c), (13, .int .i64 (ns.length : Int)), (14, .int .i64 (j : Int)), (6, str nm), (7, .pointer (some ⟨g7, 0, none⟩)), (9, .int .i64 (kp : Int))] ∧ w' = w2) ?_ ?_
      · refine wc_cond rfl (fun h2 => ?_) (fun h2 => ?_)
        · obtain ⟨k0, hk0⟩ : ∃ k0, keeps[i % keeps.length]? = some k0 := ⟨_, List.getElem?_eq_getElem (Nat.mod_lt _ (by omega))⟩
          have hmx : max (0 : Int) k0 = ((max 0 k0).toNat : Int) := by omega
          have hkp2 : (max 0 k0).toNat % (t + 1) = kp := by rw [← hkp, keepN, hk0]
          refine wc_region ?_; refine wl_mv rfl rfl ?_; refine wl_mv rfl rfl ?_; refine wl_mv rfl rfl ?_; apply wl_val; apply opv_len; exact rfl; exact tyIn.sl; exact rfl; apply wl_val; apply opv_bin; exact rfl; exact rfl; exact (bin_rem (by omega)); exact rfl
          refine wl_val (opv_idxR (kk := i % keeps.length) (u := .int .i64 k0) tyIn rfl rfl (hk _ hs.1) rfl (by rw [List.getElem?_map, hk0]; rfl)) rfl ?_
          refine wl_val (opv_loadR (kk := i % keeps.length) (u := .int .i64 k0) tyIn rfl (hk _ hs.1) (by rw [List.getElem?_map, hk0]; rfl)) rfl ?_
          refine wl_val (opv_max rfl rfl) rfl ?_
          rw [hmx]
          refine wl_mv rfl rfl ?_; apply wl_val; apply opv_bin; exact rfl; exact rfl; exact bin_add64 (by omega); exact rfl; apply wl_val; apply opv_bin; exact rfl; exact rfl; exact (bin_rem (by omega)); exact rfl; refine wl_as rfl rfl ?_; refine wl_nil ?_
          rw [hkp2]
          skip
          exact we_cut _ ⟨rfl, rfl⟩ ⟨rfl, rfl, rfl, rfl, rfl, rfl, rfl, rfl, rfl, trivial⟩
        · have hk0 : kp = 0 := by
            rw [← hkp, keepN, List.getElem?_eq_none (by omega)]
          rw [hk0]
          refine wc_skip ?_
          exact we_cut _ ⟨rfl, rfl⟩ ⟨rfl, rfl, rfl, rfl, rfl, rfl, rfl, rfl, rfl, trivial⟩
      rintro _ w2 ⟨rfl, rfl⟩
      refine we_seq ?_; refine wc_sr ?_; refine wl_mv rfl rfl ?_; apply wl_val; apply opv_bin; exact rfl; exact rfl; exact bin_add64 (by omega); exact rfl; refine wl_as rfl rfl ?_; refine wl_ns ?_; refine wc_sr ?_; apply wl_val; apply opv_fa; exact fa_sF (by decide); exact rfl; exact rfl; apply wl_val; apply opv_ldX; exact rfl; exact hs.ar 0 rfl; exact d1_int; exact rfl; exact rfl; refine wl_mv rfl rfl ?_; apply wl_val; apply opv_bin; exact rfl; exact rfl; exact bin_add64 (by omega); exact rfl; refine wl_as rfl rfl ?_; refine wl_ns ?_
      have hle : (F.data.take (F.safe + kp)).length = F.safe + kp := by rw [List.length_take, Nat.min_eq_left (by omega)]
      replace hs := hs.front 1 rfl
      dsimp only [delC] at hs
      rcases hs.opn with ⟨hf0, _⟩ | ⟨m, xs, clk, hI, hs1⟩
      · rw [fileD, hf0] at hF
        subst hF
        simp [getF] at ht
        omega
      replace hs := hs1
      clear hs1
      unfold dkV at hs
      refine wc_heldM 12 mixed fun w_ hS => ?_
      apply wm_take 0; exact rfl; intro _ hw_; apply opv_move; exact rfl; exact rfl; kernel_rfl; exact hS; apply wm_take 1; exact rfl; intro _ hw_; apply opv_nilOk; exact rfl; exact rfl; kernel_rfl; exact hS; apply wm_take 2; exact rfl; intro _ hw_; apply opv_fa; exact fa_sD (by decide); exact rfl; exact rfl; kernel_rfl; exact hS; apply wm_take 3; exact rfl; intro _ hw_; apply opv_ldX; exact rfl; exact Ar.bel (hs.ar 0 rfl) hw_; exact d1_map; exact rfl; exact rfl; kernel_rfl; exact hS; apply wm_take 4; exact rfl; intro _ hw_; apply opv_move; exact rfl; exact rfl; kernel_rfl; exact hS; apply wm_take 5; exact rfl; intro _ hw_; apply opv_fa; exact fa_sF (by decide); exact rfl; exact rfl; kernel_rfl; exact hS; apply wm_take 6; exact rfl; intro _ hw_; apply opv_ldX; exact rfl; exact Ar.bel (hs.ar 3 rfl) hw_; exact d1_by; exact rfl; exact rfl; kernel_rfl; exact hS; apply wm_take 7; exact rfl; intro _ hw_; apply opv_move; exact rfl; exact rfl; kernel_rfl; exact hS; apply wm_take 10; exact rfl; intro _ hw_; apply opv_move; exact rfl; exact rfl; kernel_rfl; exact hS
      refine wm_take 8 rfl (fun _ _ => opv_slice (l := 0) (h := F.safe + kp) tyB rfl rfl ⟨_, rfl⟩ (Nat.zero_le _) (by omega)) rfl (by kernel_rfl) hS ?_
      refine wm_one 9 (by kernel_rfl) rfl ?_; dsimp only [List.getElem_toArray, List.getElem_cons_succ, List.getElem_cons_zero]
      refine wl_call ok_bytes_Clone (clone_any ((rA.below hS).cut' (j := F.safe + kp) (by omega) hA) (by rw [hle]; rfl) (by omega)) ⟨rfl, trivial⟩ rfl ?_
      rintro _ w5 ⟨X, cx, rfl, o_, hbx⟩
      replace hs := (hs.below hS).newO hbx o_ (Nat.le_refl _)
      replace hS := hS.trans (hbx.mono hS.size)
      clear hbx o_
      refine wl_nil ?_
      refine we_heldM (fun _ => hS) ?_
      refine wm_take 11 rfl (fun _ _ => opv_build (vs := [(0, .slice X (F.data.take (F.safe + kp)).length cx), (1, .int .i64 ((F.safe + kp : Nat) : Int))]) (cs := flV ⟨F.data.take (F.safe + kp), F.safe + kp⟩ X cx) ⟨rfl, rfl, rfl, by rw [show ((F.safe + kp : Nat) : Int) = (F.safe : Int) + (kp : Int) by omega]; rfl, trivial⟩ (by kernel_rfl)) rfl (by kernel_rfl) hS ?_
      refine wm_one 12 (by kernel_rfl) rfl ?_; dsimp only [List.getElem_toArray, List.getElem_cons_succ, List.getElem_cons_zero]
      refine ws_mput hs 2 rfl tyDM tyStrD rfl rfl rfl ?_
      clear hs; intro _ hs; dsimp only [setC] at hs
      refine wl_nil ?_
      refine we_heldM (fun h => absurd h (by decide)) ?_
      refine wm_done (by kernel_rfl) ?_
      replace hs := ((((hs.drop 4 rfl).front 0 rfl).front 3 rfl).front 3 rfl).front 3 rfl
      dsimp only [delC] at hs
      replace hs := St.putC (n := nm) (f := ⟨F.data.take (F.safe + kp), F.safe + kp⟩) hI hs
      have hok3 := hok.put (n := nm) (f := ⟨F.data.take (F.safe + kp), F.safe + kp⟩) (by show F.safe + kp ≤ _; rw [hle]; omega) (by show (F.data.take (F.safe + kp)).length ≤ _; rw [hle, hF]; omega)
      refine we_block_norm ?_; refine we_seq ?_; refine wc_region ?_; apply wl_val; apply opv_bin; exact rfl; exact rfl; exact bin_add64 (by omega); exact rfl; refine wl_mv rfl rfl ?_; refine wl_nil ?_
      exact we_loop _ (ns.length - (j + 1)) ⟨i + 1, j + 1, putD d2 nm ⟨F.data.take (F.safe + kp), F.safe + kp⟩, rfl, by omega, by omega, hs, hok3, hrm, hcr, rfl⟩ (by omega) ⟨rfl, rfl, by rw [show ((i + 1 : Nat) : Int) = (i : Int) + 1 by omega]; rfl, rfl, rfl, by rw [show ((j + 1 : Nat) : Int) = (j : Int) + 1 by omega]; rfl, trivial⟩
  · obtain rfl : j = ns.length := by omega
    rw [List.drop_length] at hcr
    have hfs : d2.fs = crashF keeps 0 ns d.fs := hcr
    replace hs := hs.drop 1 rfl
    dsimp only [delC] at hs
    rcases hs.opn with ⟨hf0, hs1⟩ | ⟨m, xs, clk, hI, hs1⟩
    · replace hs := hs1
      clear hs1
      unfold dkV at hs
      rw [hrm] at hs
      refine wc_exit ?_; refine we_seq_exit ?_; refine we_loop_exit ?_; refine we_block_exit ?_; refine we_seq ?_; refine wc_region ?_; refine wl_mv rfl rfl ?_; refine wl_mv rfl rfl ?_; refine wl_mv rfl rfl ?_; apply wl_val; apply opv_nilOk; exact rfl; exact rfl; apply wl_val; apply opv_fa; exact fa_sD (by decide); exact rfl; exact rfl; apply ws_st hs 0; exact rfl; exact rfl; exact d1_bool; exact rfl; exact rfl; exact rfl; clear hs; intro _ hs; dsimp only [setC, List.set] at hs; apply wl_val; apply opv_nilOk; exact rfl; exact rfl; apply wl_val; apply opv_fa; exact fa_sD (by decide); exact rfl; exact rfl; apply ws_st hs 0; exact rfl; exact rfl; exact d1_bool; exact rfl; exact rfl; exact rfl; clear hs; intro _ hs; dsimp only [setC, List.set] at hs; apply wl_val; apply opv_nilOk; exact rfl; exact rfl; apply wl_val; apply opv_fa; exact fa_sD (by decide); exact rfl; exact rfl; apply ws_st hs 0; exact rfl; exact rfl; exact d1_int; exact rfl; exact rfl; exact rfl; clear hs; intro _ hs; dsimp only [setC, List.set] at hs; refine wl_nil ?_
      exact we_end0 rfl ⟨_, rfl, rfl, St.cls0 (d := crashK keeps d ns) hs (hfs.symm.trans hf0)⟩
    · replace hs := hs1
      clear hs1
      unfold dkV at hs
      rw [hrm] at hs
      rw [hfs] at hI
      refine wc_exit ?_; refine we_seq_exit ?_; refine we_loop_exit ?_; refine we_block_exit ?_; refine we_seq ?_; refine wc_region ?_; refine wl_mv rfl rfl ?_; refine wl_mv rfl rfl ?_; refine wl_mv rfl rfl ?_; apply wl_val; apply opv_nilOk; exact rfl; exact rfl; apply wl_val; apply opv_fa; exact fa_sD (by decide); exact rfl; exact rfl; apply ws_st hs 0; exact rfl; exact rfl; exact d1_bool; exact rfl; exact rfl; exact rfl; clear hs; intro _ hs; dsimp only [setC, List.set] at hs; apply wl_val; apply opv_nilOk; exact rfl; exact rfl; apply wl_val; apply opv_fa; exact fa_sD (by decide); exact rfl; exact rfl; apply ws_st hs 0; exact rfl; exact rfl; exact d1_bool; exact rfl; exact rfl; exact rfl; clear hs; intro _ hs; dsimp only [setC, List.set] at hs; apply wl_val; apply opv_nilOk; exact rfl; exact rfl; apply wl_val; apply opv_fa; exact fa_sD (by decide); exact rfl; exact rfl; apply ws_st hs 0; exact rfl; exact rfl; exact d1_int; exact rfl; exact rfl; exact rfl; clear hs; intro _ hs; dsimp only [setC, List.set] at hs; refine wl_nil ?_
      exact we_end0 rfl ⟨_, rfl, rfl, St.cls (d := crashK keeps d ns) hs hI⟩
end Go.Proofs.Ytdgagffieobiiaa

/-
  Plain laws of the sum: what a step of the division does, that it keeps differences, and that no change within 32 bits of one another goes unseen. No program in sight.
-/
namespace Go.Proofs.Ytdgagffieobiiaa

def stepC (x : Nat) : Nat := if x % 2 = 1 then (x / 2) ^^^ 3988292384 else x / 2
def stepsC : Nat → Nat → Nat
  | 0, x => x
  | k + 1, x => stepsC k (stepC x)
def eightC (x : Nat) : Nat := stepsC 8 x
def crcRaw (x : Nat) (l : List UInt8) : Nat := l.foldl (fun x b => eightC (x ^^^ b.toNat)) x
def crcOf (l : List UInt8) : Nat := 4294967295 - crcRaw 4294967295 l

theorem stepC_odd {x : Nat} (h : x % 2 = 1) : stepC x = (x / 2) ^^^ 3988292384 := by rw [stepC, if_pos h]
theorem stepC_even {x : Nat} (h : ¬ x % 2 = 1) : stepC x = x / 2 := by rw [stepC, if_neg h]
theorem xor_div2 (a b : Nat) : (a ^^^ b) / 2 = a / 2 ^^^ b / 2 := by
  have := Nat.shiftRight_xor_distrib (a := a) (b := b) (i := 1)
  simpa [Nat.shiftRight_succ] using this
theorem xor_mod2 (a b : Nat) : (a ^^^ b) % 2 = (a + b) % 2 := by
  have h := Nat.testBit_xor a b 0
  simp only [Nat.testBit_zero] at h
  rcases Nat.mod_two_eq_zero_or_one a with ha | ha <;> rcases Nat.mod_two_eq_zero_or_one b with hb | hb <;> rcases Nat.mod_two_eq_zero_or_one (a ^^^ b) with hc | hc <;> simp [ha, hb, hc] at h <;> omega
theorem step_xor (a b : Nat) : stepC (a ^^^ b) = stepC a ^^^ stepC b := by
  have hm := xor_mod2 a b
  have hd := xor_div2 a b
  by_cases ha : a % 2 = 1
  · by_cases hb : b % 2 = 1
    · rw [stepC_even (by omega), stepC_odd ha, stepC_odd hb, hd]
      rw [Nat.xor_assoc, Nat.xor_comm 3988292384 (b / 2 ^^^ 3988292384), Nat.xor_assoc, Nat.xor_self, Nat.xor_zero]
    · rw [stepC_odd (by omega), stepC_odd ha, stepC_even hb, hd]
      rw [Nat.xor_assoc, Nat.xor_assoc, Nat.xor_comm (b / 2)]
  · by_cases hb : b % 2 = 1
    · rw [stepC_odd (by omega), stepC_even ha, stepC_odd hb, hd, Nat.xor_assoc]
    · rw [stepC_even (by omega), stepC_even ha, stepC_even hb, hd]
theorem steps_xor : ∀ (k a b : Nat), stepsC k (a ^^^ b) = stepsC k a ^^^ stepsC k b
  | 0, _, _ => rfl
  | k + 1, a, b => by simp only [stepsC]; rw [step_xor, steps_xor k]
theorem step_lt {x : Nat} (h : x < 4294967296) : stepC x < 4294967296 := by
  unfold stepC
  split
  · exact Nat.xor_lt_two_pow (n := 32) (by omega) (by decide)
  · omega
theorem steps_lt : ∀ (k : Nat) {x : Nat}, x < 4294967296 → stepsC k x < 4294967296
  | 0, _, h => h
  | k + 1, _, h => steps_lt k (step_lt h)
theorem steps_shift : ∀ (k m : Nat), stepsC k (m * 2 ^ k) = m
  | 0, m => by simp [stepsC]
  | k + 1, m => by
    have e : m * 2 ^ (k + 1) = 2 * (m * 2 ^ k) := by rw [Nat.pow_succ, ← Nat.mul_assoc, Nat.mul_comm]
    simp only [stepsC]
    rw [e, stepC_even (by omega), Nat.mul_div_cancel_left _ (by decide), steps_shift k]
theorem xor_low (q r : Nat) (hr : r < 256) : q * 256 ^^^ r = q * 256 + r := by
  have h1 : (q * 256 ^^^ r) / 256 = q := by
    have := Nat.shiftRight_xor_distrib (a := q * 256) (b := r) (i := 8)
    simp only [Nat.shiftRight_eq_div_pow] at this
    rw [show (2 : Nat) ^ 8 = 256 from rfl, Nat.mul_div_cancel _ (by decide), Nat.div_eq_of_lt hr, Nat.xor_zero] at this
    exact this
  have h2 : (q * 256 ^^^ r) % 256 = r := by
    have := Nat.xor_mod_two_pow (a := q * 256) (b := r) (n := 8)
    rw [show (2 : Nat) ^ 8 = 256 from rfl, Nat.mul_mod_left, Nat.zero_xor, Nat.mod_eq_of_lt hr] at this
    exact this
  omega
theorem eight_high (q : Nat) : eightC (q * 256) = q := steps_shift 8 q
/-- A byte's entry does for it. -/
theorem eight_split (x : Nat) (b : UInt8) : eightC (x ^^^ b.toNat) = x / 256 ^^^ eightC (x % 256 ^^^ b.toNat) := by
  have e : x = x / 256 * 256 ^^^ x % 256 := by rw [xor_low _ _ (Nat.mod_lt _ (by decide))]; omega
  have e2 : eightC (x ^^^ b.toNat) = eightC (x / 256 * 256 ^^^ (x % 256 ^^^ b.toNat)) := by
    rw [← Nat.xor_assoc, ← e]
  rw [e2]
  unfold eightC
  rw [steps_xor]
  congr 1
  exact eight_high (x / 256)
theorem eight_lt {x : Nat} (h : x < 4294967296) : eightC x < 4294967296 := steps_lt 8 h
theorem xorb_lt {x : Nat} (h : x < 4294967296) (b : UInt8) : x ^^^ b.toNat < 4294967296 :=
  Nat.xor_lt_two_pow (n := 32) h (Nat.lt_trans b.toNat_lt (by decide))
theorem raw_snoc (x : Nat) (b : UInt8) (l : List UInt8) : crcRaw x (l ++ [b]) = eightC (crcRaw x l ^^^ b.toNat) := by simp [crcRaw]
theorem raw_lt : ∀ (l : List UInt8) {x : Nat}, x < 4294967296 → crcRaw x l < 4294967296
  | [], _, h => h
  | b :: l, _, h => raw_lt l (eight_lt (xorb_lt h b))
theorem crcOf_lt (l : List UInt8) : crcOf l < 4294967296 := by unfold crcOf; omega

end Go.Proofs.Ytdgagffieobiiaa

/-
  Plain laws of sealed records. No program in sight.
-/
namespace Go.Proofs.Ytdgagffieobiiaa

/-- Four bytes, the greatest first. -/
def four (n : Nat) : List UInt8 := ordK 4 n
theorem four_length (n : Nat) : (four n).length = 4 := ordK_length 4 n
theorem four_list (n : Nat) : four n = [UInt8.ofNat (n / 16777216), UInt8.ofNat (n / 65536), UInt8.ofNat (n / 256), UInt8.ofNat n] := by
  simp [four, ordK, Nat.div_div_eq_div_mul]
theorem numB_four {n : Nat} (h : n < 4294967296) : numB (four n) = n := by
  rw [four, numB_ordK]; exact Nat.mod_eq_of_lt h
theorem numB_lt4 {l : List UInt8} (h : l.length = 4) : numB l < 4294967296 := by
  have := numB_lt l; rw [h] at this; exact this

def crcRec (b : List UInt8) : List UInt8 := four b.length ++ (four (crcOf (four b.length ++ b)) ++ b)
theorem crcRec_length (b : List UInt8) : (crcRec b).length = 8 + b.length := by simp [crcRec, four_length]; omega
def sealB (b : List UInt8) : List UInt8 × Nat := if 1048576 < b.length then ([], 2) else (crcRec b, 0)
/-- What is sealed at the head of a list: the body, and the error. -/
def openH (y : List UInt8) : List UInt8 × Nat :=
  if y.length < 8 then ([], 5)
  else if 1048576 < numB (y.take 4) then ([], 2)
  else if y.length < 8 + numB (y.take 4) then ([], 5)
  else if crcOf (y.take 4 ++ (y.take (8 + numB (y.take 4))).drop 8) = numB ((y.drop 4).take 4) then ((y.take (8 + numB (y.take 4))).drop 8, 0) else ([], 4)
/-- At a place: the body, what stands behind it, and the error. -/
def openB (xs : List UInt8) (p : Int) : List UInt8 × Nat × Nat :=
  if p < 0 ∨ (xs.length : Int) < p then ([], 0, 1)
  else if (openH (xs.drop p.toNat)).2 = 0 then ((openH (xs.drop p.toNat)).1, p.toNat + 8 + (openH (xs.drop p.toNat)).1.length, 0)
  else ([], 0, (openH (xs.drop p.toNat)).2)
theorem openH_short {y : List UInt8} (h : y.length < 8) : openH y = ([], 5) := by rw [openH, if_pos h]
theorem openH_size {y : List UInt8} (h : ¬ y.length < 8) (h2 : 1048576 < numB (y.take 4)) : openH y = ([], 2) := by rw [openH, if_neg h, if_pos h2]
theorem openH_end {y : List UInt8} (h : ¬ y.length < 8) (h2 : ¬ 1048576 < numB (y.take 4)) (h3 : y.length < 8 + numB (y.take 4)) : openH y = ([], 5) := by rw [openH, if_neg h, if_neg h2, if_pos h3]
theorem openH_sum {y : List UInt8} (h : ¬ y.length < 8) (h2 : ¬ 1048576 < numB (y.take 4)) (h3 : ¬ y.length < 8 + numB (y.take 4)) (h4 : ¬ crcOf (y.take 4 ++ (y.take (8 + numB (y.take 4))).drop 8) = numB ((y.drop 4).take 4)) : openH y = ([], 4) := by
  rw [openH, if_neg h, if_neg h2, if_neg h3, if_neg h4]
theorem openH_ok {y : List UInt8} (h : ¬ y.length < 8) (h2 : ¬ 1048576 < numB (y.take 4)) (h3 : ¬ y.length < 8 + numB (y.take 4)) (h4 : crcOf (y.take 4 ++ (y.take (8 + numB (y.take 4))).drop 8) = numB ((y.drop 4).take 4)) : openH y = ((y.take (8 + numB (y.take 4))).drop 8, 0) := by
  rw [openH, if_neg h, if_neg h2, if_neg h3, if_pos h4]
theorem openB_arg {xs : List UInt8} {p : Int} (h : ¬ (0 ≤ p ∧ p ≤ xs.length)) : openB xs p = ([], 0, 1) := by rw [openB, if_pos (by omega)]
theorem openB_at {xs : List UInt8} {q : Nat} (h : q ≤ xs.length) {r : List UInt8} {e : Nat} (ho : openH (xs.drop q) = (r, e)) : openB xs q = if e = 0 then (r, q + 8 + r.length, 0) else ([], 0, e) := by
  rw [openB, if_neg (by omega), Int.toNat_natCast, ho]
theorem openB_ok {xs : List UInt8} {q : Nat} (h : q ≤ xs.length) {r : List UInt8} (ho : openH (xs.drop q) = (r, 0)) : openB xs q = (r, q + 8 + r.length, 0) := by rw [openB_at h ho, if_pos rfl]
theorem openB_err {xs : List UInt8} {q : Nat} (h : q ≤ xs.length) {r : List UInt8} {e : Nat} (ho : openH (xs.drop q) = (r, e)) (he : ¬ e = 0) : openB xs q = ([], 0, e) := by rw [openB_at h ho, if_neg he]
theorem openH_len {y r : List UInt8} (h : openH y = (r, 0)) : 8 + r.length ≤ y.length ∧ r.length ≤ 1048576 := by
  unfold openH at h
  split at h
  · simp at h
  · split at h
    · simp at h
    · split at h
      · simp at h
      · split at h
        · simp only [Prod.mk.injEq, and_true] at h
          subst h
          simp; omega
        · simp at h
theorem openB_inv {xs r : List UInt8} {q x : Nat} (hq : q ≤ xs.length) (h : openB xs q = (r, x, 0)) : x = q + 8 + r.length ∧ x ≤ xs.length ∧ r.length ≤ 1048576 := by
  obtain ⟨s, e, ho⟩ : ∃ s e, openH (xs.drop q) = (s, e) := ⟨_, _, rfl⟩
  rw [openB_at hq ho] at h
  split at h
  · rename_i he
    subst he
    simp only [Prod.mk.injEq, and_true] at h
    obtain ⟨rfl, rfl⟩ := h
    have := openH_len ho
    rw [List.length_drop] at this
    omega
  · simp only [Prod.mk.injEq] at h
    omega
/-- What is sealed opens to what it was. -/
theorem openH_rec {b : List UInt8} (h : b.length ≤ 1048576) (rest : List UInt8) : openH (crcRec b ++ rest) = (b, 0) := by
  have e1 : (crcRec b ++ rest).take 4 = four b.length := by
    unfold crcRec; rw [List.append_assoc, List.take_append_of_le_length (by rw [four_length]; omega), List.take_of_length_le (by rw [four_length]; omega)]
  have e2 : numB ((crcRec b ++ rest).take 4) = b.length := by rw [e1, numB_four (by omega)]
  have e3 : ((crcRec b ++ rest).drop 4).take 4 = four (crcOf (four b.length ++ b)) := by
    unfold crcRec
    rw [List.append_assoc, List.drop_append_of_le_length (by rw [four_length]; omega), List.drop_of_length_le (by rw [four_length]; omega), List.nil_append, List.append_assoc,
      List.take_append_of_le_length (by rw [four_length]; omega), List.take_of_length_le (by rw [four_length]; omega)]
  have e4 : ((crcRec b ++ rest).take (8 + b.length)).drop 8 = b := by
    rw [List.take_append_of_le_length (by rw [crcRec_length]; omega), List.take_of_length_le (by rw [crcRec_length]; omega)]
    unfold crcRec
    rw [← List.append_assoc, List.drop_append_of_le_length (by simp [four_length]), List.drop_of_length_le (by simp [four_length]), List.nil_append]
  have hl : (crcRec b ++ rest).length = 8 + b.length + rest.length := by rw [List.length_append, crcRec_length]
  rw [openH_ok (by omega) (by omega) (by omega) (by rw [e2, e3, e4, e1, numB_four (crcOf_lt _)]), e2, e4]

/-- All records, up to the first that doesn't open. -/
def openAllF : Nat → List UInt8 → Nat → List (List UInt8) → List (List UInt8) × Nat
  | 0, _, q, out => (out, q)
  | f + 1, b, q, out =>
    if b.length ≤ q then (out, q)
    else if (openB b q).2.2 = 0 then openAllF f b (openB b q).2.1 (out ++ [(openB b q).1])
    else (out, q)
def openAll (b : List UInt8) : List (List UInt8) × Nat := openAllF b.length b 0 []
theorem openAllF_end {f : Nat} {b : List UInt8} {q : Nat} {out : List (List UInt8)} (h : b.length ≤ q) : openAllF f b q out = (out, q) := by
  cases f with
  | zero => rfl
  | succ f => rw [openAllF, if_pos h]
theorem openAllF_err {f : Nat} {b r : List UInt8} {q x e : Nat} {out : List (List UInt8)} (hu : openB b q = (r, x, e)) (he : ¬ e = 0) : openAllF f b q out = (out, q) := by
  cases f with
  | zero => rfl
  | succ f =>
    by_cases h : b.length ≤ q
    · exact openAllF_end h
    · rw [openAllF, if_neg h, hu, if_neg he]
theorem openAllF_step {f : Nat} {b r : List UInt8} {q x : Nat} {out : List (List UInt8)} (h : ¬ b.length ≤ q) (hu : openB b q = (r, x, 0)) : openAllF (f + 1) b q out = openAllF f b x (out ++ [r]) := by
  rw [openAllF, if_neg h, hu, if_pos rfl]
end Go.Proofs.Ytdgagffieobiiaa

/-
  Plain laws: records one behind the other, cut anywhere; a disk with one file.
-/
namespace Go.Proofs.Ytdgagffieobiiaa

def recs (l : List (List UInt8)) : List UInt8 := (l.map crcRec).flatten
theorem recs_cons (x : List UInt8) (l : List (List UInt8)) : recs (x :: l) = crcRec x ++ recs l := by simp [recs]
theorem recs_append (l m : List (List UInt8)) : recs (l ++ m) = recs l ++ recs m := by simp [recs]
theorem rec_cut {x : List UInt8} (hx : x.length ≤ 1048576) {k : Nat} (hk : k < (crcRec x).length) : ∃ e, openH ((crcRec x).take k) = ([], e) ∧ ¬ e = 0 := by
  rw [crcRec_length] at hk
  have hl : ((crcRec x).take k).length = k := by rw [List.length_take, crcRec_length]; omega
  by_cases h8 : k < 8
  · exact ⟨5, openH_short (by omega), by decide⟩
  · have h4 : ((crcRec x).take k).take 4 = four x.length := by
      rw [List.take_take, Nat.min_eq_left (by omega), crcRec, List.take_append_of_le_length (by rw [four_length]; omega), List.take_of_length_le (by rw [four_length]; omega)]
    have hn : numB (((crcRec x).take k).take 4) = x.length := by rw [h4, numB_four (by omega)]
    exact ⟨5, openH_end (by omega) (by rw [hn]; omega) (by rw [hn, hl]; omega), by decide⟩
theorem openAllF_recs : ∀ (l : List (List UInt8)) (f k : Nat) (pre : List UInt8) (out : List (List UInt8)), (∀ x ∈ l, x.length ≤ 1048576) → k ≤ (recs l).length → k ≤ f →
    ∃ m, m ≤ l.length ∧ openAllF f (pre ++ (recs l).take k) pre.length out = (out ++ l.take m, pre.length + (recs (l.take m)).length) ∧ (recs (l.take m)).length ≤ k ∧ (m = l.length ∨ k < (recs (l.take (m + 1))).length)
  | [], f, k, pre, out, _, hk, _ => by
    refine ⟨0, Nat.le_refl _, ?_, by simp [recs], .inl rfl⟩
    have : k = 0 := by simpa [recs] using hk
    subst this
    rw [openAllF_end (by simp)]; simp [recs]
  | x :: l, f, k, pre, out, hx, hk, hf => by
    have hx0 := hx x List.mem_cons_self
    have hl0 := crcRec_length x
    rw [recs_cons] at hk ⊢
    rw [List.length_append] at hk
    by_cases hlt : k < (crcRec x).length
    · refine ⟨0, Nat.zero_le _, ?_, by simp [recs], .inr (by simpa [recs] using hlt)⟩
      rw [List.take_append_of_le_length (by omega)]
      by_cases h0 : k = 0
      · subst h0; rw [openAllF_end (by simp)]; simp [recs]
      · obtain ⟨e, he, hne⟩ := rec_cut hx0 hlt
        have ho : openB (pre ++ (crcRec x).take k) (pre.length : Nat) = ([], 0, e) := openB_err (by simp) (r := []) (by rw [List.drop_left]; exact he) hne
        rw [openAllF_err ho hne]; simp [recs]
    · have ht : (crcRec x ++ recs l).take k = crcRec x ++ (recs l).take (k - (crcRec x).length) := by
        rw [List.take_append, List.take_of_length_le (by omega)]
      have ho : openB (pre ++ (crcRec x ++ (recs l).take (k - (crcRec x).length))) (pre.length : Nat) = (x, pre.length + 8 + x.length, 0) := openB_ok (by simp) (by rw [List.drop_left]; exact openH_rec hx0 _)
      obtain ⟨f', rfl⟩ : ∃ f', f = f' + 1 := ⟨f - 1, by omega⟩
      obtain ⟨m, h1, h2, h3, h4⟩ := openAllF_recs l f' (k - (crcRec x).length) (pre ++ crcRec x) (out ++ [x]) (fun y hy => hx y (List.mem_cons_of_mem _ hy)) (by omega) (by omega)
      refine ⟨m + 1, by simp; omega, ?_, by rw [List.take_succ_cons, recs_cons, List.length_append]; omega, ?_⟩
      · rw [ht, openAllF_step (by simp; omega) ho]
        rw [show pre.length + 8 + x.length = (pre ++ crcRec x).length by rw [List.length_append]; omega, ← List.append_assoc, h2, List.take_succ_cons, recs_cons]
        simp only [List.append_assoc, List.singleton_append, List.length_append, Prod.mk.injEq, true_and]
        omega
      · rcases h4 with rfl | h4
        · exact .inl rfl
        · refine .inr ?_
          rw [List.take_succ_cons, recs_cons, List.length_append]; omega
theorem openAll_cut {l : List (List UInt8)} (hl : ∀ x ∈ l, x.length ≤ 1048576) {k : Nat} (hk : k ≤ (recs l).length) :
    ∃ m, m ≤ l.length ∧ openAll ((recs l).take k) = (l.take m, (recs (l.take m)).length) ∧ (recs (l.take m)).length ≤ k ∧ (m = l.length ∨ k < (recs (l.take (m + 1))).length) := by
  obtain ⟨m, h1, h2, h3, h4⟩ := openAllF_recs l ((recs l).take k).length k [] [] hl hk (by rw [List.length_take]; omega)
  refine ⟨m, h1, ?_, h3, h4⟩
  rw [openAll]
  simpa using h2
theorem recs_take_le {l : List (List UInt8)} {i j : Nat} (h : i ≤ j) : (recs (l.take i)).length ≤ (recs (l.take j)).length := by
  obtain ⟨t, rfl⟩ : ∃ t, j = i + t := ⟨j - i, by omega⟩
  rw [List.take_add, recs_append, List.length_append]; omega
theorem openAll_recs {l : List (List UInt8)} (hl : ∀ x ∈ l, x.length ≤ 1048576) : openAll (recs l) = (l, (recs l).length) := by
  obtain ⟨m, h1, h2, h3, h4⟩ := openAll_cut hl (Nat.le_refl (recs l).length)
  rw [List.take_length] at h2
  rcases h4 with rfl | h4
  · rw [h2, List.take_length]
  · exact absurd (recs_take_le (l := l) (show m + 1 ≤ (m + 1) + l.length by omega)) (by rw [List.take_of_length_le (show l.length ≤ (m + 1) + l.length by omega)]; omega)
/-- What was safe comes back: the cut at k, not below the records of the first s. -/
theorem cut_ge {l : List (List UInt8)} {s k m : Nat} (hs : s ≤ l.length) (hk : (recs (l.take s)).length ≤ k) (h4 : m = l.length ∨ k < (recs (l.take (m + 1))).length) : s ≤ m := by
  rcases h4 with rfl | h4
  · exact hs
  · rcases Nat.lt_or_ge m s with h | h
    · have := recs_take_le (l := l) (show m + 1 ≤ s by omega); omega
    · exact h
theorem recs_len (l : List (List UInt8)) : (recs l).length = 8 * l.length + l.flatten.length := by
  induction l with
  | nil => rfl
  | cons x l ih => rw [recs_cons, List.length_append, crcRec_length, ih, List.flatten_cons, List.length_append, List.length_cons]; omega

/-! ### A disk with one file -/
structure One (d : Dk) (n : List UInt8) (f : Fl) : Prop where
  fs : d.fs = [(n, f)]
section
variable {d : Dk} {n b : List UInt8} {f : Fl}
theorem One.file (h : d.fs = [(n, f)]) : fileD d n = f ∧ thereD d n = 0 ∧ used d.fs = f.data.length := by
  refine ⟨by rw [fileD, h]; simp [getF], by rw [thereD, h]; simp [getF], by rw [h]; simp [used]⟩
theorem One.put (h : d.fs = [(n, f)]) (f' : Fl) : (putD d n f').fs = [(n, f')] := by rw [putD, h]; simp [putF]
theorem turn_cases (d : Dk) (hd : d.dead = false) : ((turnD d 0).1 = true ∧ (turnD d 0).2.1 = 0 ∧ (turnD d 0).2.2.dead = false) ∨ ((turnD d 0).1 = false ∧ (turnD d 0).2.1 = 9 ∧ (turnD d 0).2.2.dead = true) := by
  unfold turnD
  rw [if_neg (by rw [hd]; decide), if_neg (by decide)]
  split
  · exact .inr ⟨rfl, rfl, rfl⟩
  · split
    · exact .inl ⟨rfl, rfl, hd⟩
    · exact .inl ⟨rfl, rfl, hd⟩
theorem app_one (h : d.fs = [(n, f)]) (hd : d.dead = false) (hr : f.data.length + b.length ≤ d.room) :
    (appD d n b).1.fs = [(n, ⟨f.data ++ b, f.safe⟩)] ∧ (appD d n b).1.room = d.room ∧ ((appD d n b).2 = 0 ∧ (appD d n b).1.dead = false ∨ (appD d n b).2 = 9 ∧ (appD d n b).1.dead = true) := by
  have e : (if d.room < used d.fs + b.length then 8 else 0) = 0 := if_neg (by rw [(One.file h).2.2]; omega)
  unfold appD
  rw [e]
  dsimp only
  obtain ⟨t1, t2⟩ := turnD_fs d 0
  have h2 : (turnD d 0).2.2.fs = [(n, f)] := t1.trans h
  rcases turn_cases d hd with ⟨k1, k2, k3⟩ | ⟨k1, k2, k3⟩
  · rw [if_pos (.inl k1)]
    exact ⟨by rw [One.put h2, (One.file h2).1], t2, .inl ⟨k2, k3⟩⟩
  · rw [if_pos (.inr ⟨k3, hd⟩)]
    exact ⟨by rw [One.put h2, (One.file h2).1], t2, .inr ⟨k2, k3⟩⟩
theorem sync_one (h : d.fs = [(n, f)]) (hd : d.dead = false) : (syncD d n).1.room = d.room ∧
    ((syncD d n).2 = 0 ∧ (syncD d n).1.dead = false ∧ (syncD d n).1.fs = [(n, ⟨f.data, f.data.length⟩)] ∨ (syncD d n).2 = 9 ∧ (syncD d n).1.fs = [(n, f)]) := by
  unfold syncD
  rw [(One.file h).2.1]
  dsimp only
  obtain ⟨t1, t2⟩ := turnD_fs d 0
  have h2 : (turnD d 0).2.2.fs = [(n, f)] := t1.trans h
  rcases turn_cases d hd with ⟨k1, k2, k3⟩ | ⟨k1, k2, k3⟩
  · rw [if_pos k1]
    exact ⟨t2, .inl ⟨k2, k3, by rw [One.put h2, (One.file h2).1]⟩⟩
  · rw [if_neg (by rw [k1]; decide)]
    exact ⟨t2, .inr ⟨k2, h2⟩⟩
end
end Go.Proofs.Ytdgagffieobiiaa

/-
  Walks over the sum's steps, its table and its bitwise answer.
-/
namespace Go.Proofs.Ytdgagffieobiiaa
open Go.RowKit

theorem fill_upV {α : Type} {l : List α} {z x : α} {k m : Nat} (h : l[k]? = some x) : (l.take k ++ List.replicate (m + 1) z).set k x = l.take (k + 1) ++ List.replicate m z := by
  have hk := (List.getElem?_eq_some_iff.1 h).1
  have e : (l.take k).length = k := by simp; omega
  rw [List.set_append_right _ _ (by omega), e, Nat.sub_self, List.replicate_succ, List.set_cons_zero, List.take_add_one, h]
  simp

theorem step_any (x : Nat) (hx : x < 4294967296) (w : World) : CallsV Try.prog 61 #[.int .u32 x] w fun v w' => v = .int .u32 (stepC x : Nat) ∧ w = w' := by
  refine calls_in (N := _) Try.func61 rfl Try.ntmps61 rfl ?_; show WC _ _ _ _ _ _
  refine wc_sr ?_; refine wl_as rfl rfl ?_; refine wl_ns ?_; refine wc_seq ?_; refine wc_sr ?_; refine wl_mv rfl rfl ?_
  refine wl_val (opv_bin (b := .int .u32 (1 : Nat)) rfl rfl (bin_and rfl hx (by decide))) rfl ?_
  refine wl_bin rfl rfl bin_eql rfl ?_; refine wl_ns ?_
  refine wc_cond rfl (fun h => ?_) (fun h => ?_)
  · have h1 : x % 2 = 1 := by rw [← Nat.and_one_is_mod]; omega
    refine wc_sr ?_; refine wl_mv rfl rfl ?_
    refine wl_val (opv_bin (b := .int .u64 (1 : Nat)) rfl rfl (bin_shr hx)) rfl ?_
    refine wl_val (opv_bin (b := .int .u32 (3988292384 : Nat)) rfl rfl (bin_xor rfl (by simp only [IntKind.bits]; omega) (by decide))) rfl ?_
    refine wl_as rfl rfl ?_; refine wl_ns ?_; refine wc_ret ?_; refine we_seq_ret ?_
    exact we_ret1 rfl rfl ⟨_, rfl, by rw [stepC_odd h1], rfl⟩
  · have h1 : ¬ x % 2 = 1 := by rw [← Nat.and_one_is_mod]; omega
    refine wc_skip ?_; refine we_seq ?_; refine wc_sr ?_; refine wl_mv rfl rfl ?_
    refine wl_val (opv_bin (b := .int .u64 (1 : Nat)) rfl rfl (bin_shr hx)) rfl ?_
    refine wl_as rfl rfl ?_; refine wl_ns ?_; refine wc_ret ?_
    exact we_ret1 rfl rfl ⟨_, rfl, by rw [stepC_even h1], rfl⟩
theorem eight_any (x : Nat) (hx : x < 4294967296) (w : World) : CallsV Try.prog 49 #[.int .u32 x] w fun v w' => v = .int .u32 (eightC x : Nat) ∧ w = w' := by
  refine calls_in (N := _) Try.func49 rfl Try.ntmps49 rfl ?_; show WC _ _ _ _ _ _
  refine wc_sr ?_; refine wl_as rfl rfl ?_; refine wl_ns ?_; refine wc_seq ?_; refine wc_sr ?_; refine wl_mv rfl rfl ?_; refine wl_ns ?_; refine wc_block ?_
  refine wc_loop (fun L wr m => ∃ (k y : Nat), L = [(0, .int .u32 (y : Int)), (3, .int .i64 (k : Int))] ∧ k ≤ 8 ∧ y < 4294967296 ∧ stepsC (8 - k) y = eightC x ∧ w = wr ∧ m = 8 - k)
    [(0, .int .u32 (x : Int)), (3, .int .i64 (0 : Nat))] 8 ⟨0, x, rfl, by omega, hx, rfl, rfl, rfl⟩ ⟨rfl, rfl, trivial⟩ ?_
  rintro _ _ m ⟨k, y, rfl, hk, hy, he, rfl, rfl⟩
  refine wc_sr ?_; refine wl_bin rfl rfl bin_lss rfl ?_; refine wl_ns ?_; refine wc_seq ?_
  refine wc_cond rfl (fun h1 => ?_) (fun h1 => ?_)
  · refine wc_skip ?_; refine we_seq ?_; refine wc_seq ?_; refine wc_block ?_; refine wc_region ?_; refine wl_mv rfl rfl ?_
    refine wl_call ok_crc_step (step_any y hy w) ⟨rfl, trivial⟩ rfl ?_
    rintro _ _ ⟨rfl, rfl⟩
    refine wl_as rfl rfl ?_; refine wl_nil ?_; refine we_block_norm ?_; refine we_seq ?_; refine wc_region ?_; apply wl_val; apply opv_bin; exact rfl; exact rfl; exact bin_add64 (by omega); exact rfl; refine wl_mv rfl rfl ?_; refine wl_nil ?_
    refine we_loop [(0, .int .u32 (stepC y : Nat)), (3, .int .i64 ((k + 1 : Nat) : Int))] (8 - (k + 1)) ⟨k + 1, stepC y, rfl, by omega, step_lt hy, ?_, rfl, rfl⟩ (by omega) ⟨rfl, rfl, trivial⟩
    rw [← he, show 8 - k = (8 - (k + 1)) + 1 by omega]; rfl
  · obtain rfl : k = 8 := by omega
    have e : y = eightC x := he
    refine wc_exit ?_; refine we_seq_exit ?_; refine we_loop_exit ?_; refine we_block_exit ?_; refine we_seq ?_; refine wc_sr ?_; refine wl_mv rfl rfl ?_; refine wl_as rfl rfl ?_; refine wl_ns ?_; refine wc_ret ?_
    exact we_ret1 rfl rfl ⟨_, rfl, by rw [e], rfl⟩

/-- The table's cells. -/
def tabC : List Value := (List.range 256).map fun i => .int .u32 (eightC i : Nat)
theorem tabC_length : tabC.length = 256 := by simp [tabC]
theorem tabC_get {k : Nat} (h : k < 256) : tabC[k]? = some (.int .u32 (eightC k : Nat)) := by
  rw [tabC, List.getElem?_map, List.getElem?_range h]; rfl
theorem tabC_one : ∀ v ∈ tabC, v.oneCell' = true := by
  intro v hv
  simp only [tabC, List.mem_map] at hv
  obtain ⟨_, _, rfl⟩ := hv; rfl
theorem tyU : Cell1 Try.prog 28 := ⟨by kernel_rfl, by rw [Try.underlying28]⟩
theorem tyA_zero : (Try.prog.info? 75).map (·.zero) = some (some (.agg (List.replicate 256 (Value.int .u32 0)).toArray)) := by kernel_rfl
theorem tyA_size : (Try.prog.info? 75).map (·.size) = some 256 := by kernel_rfl

theorem table_any (w : World) : CallsV Try.prog 30 #[] w fun v w' => v = .agg tabC.toArray ∧ Below w.heap.size w w' := by
  have hb0 := Below.refl w.heap.size w
  refine calls_in (N := _) Try.func30 rfl Try.ntmps30 rfl ?_; show WC _ _ _ _ _ _
  refine wc_sr ?_
  refine wl_alloc tyA_zero rfl fun w1 a0 hb1 hs1 => ?_
  refine wl_ns ?_; refine wc_sr ?_
  refine wl_alloc tyA_zero rfl fun w2 a1 hb2 hs2 => ?_
  replace a0 := a0.bel hb2
  have hb3 := hb1.trans (hb2.mono hb1.size)
  clear hb0 hb1 hb2
  obtain ⟨g1, hg1⟩ : ∃ g, w1.heap.size = g := ⟨_, rfl⟩
  rw [hg1] at a1 ⊢
  have hne : g1 ≠ w.heap.size := by omega
  refine wl_ns ?_; refine wc_seq ?_; refine wc_sr ?_; refine wl_mv rfl rfl ?_; refine wl_ns ?_; refine wc_block ?_
  refine wc_loop (fun L wr m => ∃ k : Nat, L = [(0, .pointer (some ⟨w.heap.size, 0, none⟩)), (1, .pointer (some ⟨g1, 0, none⟩)), (3, .int .i64 (k : Int))] ∧ k ≤ 256 ∧ Ar wr g1 75 (tabC.take k ++ List.replicate (256 - k) (Value.int .u32 0)) ∧ Ar wr w.heap.size 75 (List.replicate 256 (Value.int .u32 0)) ∧ Below w.heap.size w wr ∧ m = 256 - k)
    [(0, .pointer (some ⟨w.heap.size, 0, none⟩)), (1, .pointer (some ⟨g1, 0, none⟩)), (3, .int .i64 (0 : Nat))] 256 ⟨0, rfl, by omega, a1, a0, hb3, rfl⟩ ⟨rfl, rfl, rfl, trivial⟩ ?_
  rintro _ w4 m ⟨k, rfl, hk, b1, b0, hb4, rfl⟩
  refine wc_sr ?_; refine wl_bin rfl rfl bin_lss rfl ?_; refine wl_ns ?_; refine wc_seq ?_
  refine wc_cond rfl (fun h1 => ?_) (fun h1 => ?_)
  · refine wc_skip ?_; refine we_seq ?_; refine wc_seq ?_; refine wc_block ?_; refine wc_sr ?_; refine wl_mv rfl rfl ?_; refine wl_as rfl rfl ?_; refine wl_ns ?_; refine wc_region ?_; refine wl_mv rfl rfl ?_; refine wl_mv rfl rfl ?_; apply wl_val; apply opv_convR; exact rfl; exact Try.underlying3; exact Try.underlying28; exact IntWalk.u32_in _ (by omega); exact rfl
    refine wl_call ok_crc_eight (eight_any k (by omega) w4) ⟨rfl, trivial⟩ rfl ?_
    rintro _ _ ⟨rfl, rfl⟩
    refine wl_setA (kk := k) Try.underlying75 tyU rfl rfl b1 (by simp [tabC_length]; omega) rfl (by omega) (fun _ => rfl) rfl rfl fun p => ?_
    have c1 := b1.setCell k (.int .u32 (eightC k : Nat))
    have c0 := b0.ne k (.int .u32 (eightC k : Nat)) hne
    have hb5 := below_setCell (k := k) (v := .int .u32 (eightC k : Nat)) hb4 (show w.heap.size ≤ g1 by omega)
    have e : (tabC.take k ++ List.replicate (256 - k) (Value.int .u32 0)).set k (.int .u32 (eightC k : Nat)) = tabC.take (k + 1) ++ List.replicate (256 - (k + 1)) (Value.int .u32 0) := by
      rw [show 256 - k = (256 - (k + 1)) + 1 by omega]; exact fill_upV (tabC_get (by omega))
    rw [e] at c1
    refine wl_nil ?_; refine we_block_norm ?_; refine we_seq ?_; refine wc_region ?_; apply wl_val; apply opv_bin; exact rfl; exact rfl; exact bin_add64 (by omega); exact rfl; refine wl_mv rfl rfl ?_; refine wl_nil ?_
    refine we_loop [(0, .pointer (some ⟨w.heap.size, 0, none⟩)), (1, .pointer (some ⟨g1, 0, none⟩)), (3, .int .i64 ((k + 1 : Nat) : Int))] (256 - (k + 1)) ⟨k + 1, rfl, by omega, c1, c0, hb5, rfl⟩ (by omega) ⟨rfl, rfl, rfl, trivial⟩
  · obtain rfl : k = 256 := by omega
    have e : tabC.take 256 ++ List.replicate (256 - 256) (Value.int .u32 0) = tabC := by rw [List.take_of_length_le (by rw [tabC_length]; omega)]; simp
    rw [e] at b1
    refine wc_exit ?_; refine we_seq_exit ?_; refine we_loop_exit ?_; refine we_block_exit ?_; refine we_seq ?_; refine wc_sr ?_
    refine wl_val (opv_loadW Try.underlying75 (by rw [tabC_length]; exact tyA_size) rfl b1) rfl ?_
    refine wl_unitN (opu_storeW (by rw [List.length_replicate]; exact tyA_size) (by rw [tabC_length, List.length_replicate]) rfl rfl b0 tabC_one) ?_
    have d0 := b0.setRow (cs' := tabC)
    have hb6 := below_setRow (cs' := tabC.toArray) hb4 (Nat.le_refl _)
    refine wl_ns ?_; refine wc_ret ?_
    exact we_retA rfl rfl Try.underlying75 (by rw [tabC_length]; exact tyA_size) d0 ⟨_, rfl, rfl, hb6⟩
end Go.Proofs.Ytdgagffieobiiaa

/-
  Walks over OrdText of the program and of the reference.
-/
namespace Go.Proofs.Ytdgagffieobiiaa
open Go.RowKit

end Go.Proofs.Ytdgagffieobiiaa

/-
  Walks over the fixed fact of layer 1's statements, and over the law CodecNumbers.
-/
namespace Go.Proofs.Ytdgagffieobiiaa
open Go.RowKit

/-- A call that answers true and changes nothing that was there. -/
def RetTrue (w : World) (v : Value) (w' : World) : Prop := v = .bool true ∧ Below w.heap.size w w'

end Go.Proofs.Ytdgagffieobiiaa

/-
  Walks over the sum of the program and of the reference, and over what the statements use.
-/
namespace Go.Proofs.Ytdgagffieobiiaa
open Go.RowKit

theorem xor_ones {n x : Nat} (hx : x < 2 ^ n) : (2 ^ n - 1) ^^^ x = 2 ^ n - 1 - x := by
  apply Nat.eq_of_testBit_eq
  intro i
  rw [Nat.testBit_xor, Nat.testBit_two_pow_sub_one, show 2 ^ n - 1 - x = 2 ^ n - (x + 1) by omega, Nat.testBit_two_pow_sub_succ hx]
  by_cases h : i < n
  · simp [h]
  · have : x.testBit i = false := Nat.testBit_lt_two_pow (Nat.lt_of_lt_of_le hx (Nat.pow_le_pow_right (by decide) (by omega)))
    simp [h, this]
theorem opv_com {P : Program} {L : FL} {w : World} {x : Operand} {t ty : TypeId} {n : Nat} (hx : look L x = some (.int .u32 (n : Int))) (hn : n < 4294967296) : OpV P (.unOp .xor t x) ty L w (.int .u32 ((4294967295 - n : Nat) : Int)) w := fun ρ o hρ ho _ => by
  have h := (bin_xor (P := P) (t := t) (k := .u32) (a := 4294967295) (b := n) rfl (by decide) hn).run x x w
  have e := xor_ones (n := 32) hn
  simp only [eqGuard, binOp] at h
  rw [show (4294967295 ^^^ n) = 4294967295 - n from e] at h
  have hm : (if IntKind.u32.signed = true then (-1 : Int) else IntKind.u32.max) = (4294967295 : Int) := rfl
  unfold execOp
  simp only [ho, hρ x _ hx, Op.unary, hm, Sem.run_bind]
  simp at h
  rw [h]; simp

theorem sum_any {A : Option Addr} {n c : Nat} {rows : List (List UInt8)} {w : World} (hr : RdBB w A rows) (hn : rows.length = n) (hl : rows.flatten.length ≤ maxLen) (hl2 : rows.length ≤ maxLen) :
    CallsV Try.prog 7 #[.slice A n c] w fun v w' => v = .int .u32 (crcOf rows.flatten : Nat) ∧ Below w.heap.size w w' := by
  subst hn
  simp only [maxLen] at hl hl2
  refine calls_in (N := _) Try.func7 rfl Try.ntmps7 rfl ?_; show WC _ _ _ _ _ _
  refine wc_sr ?_; refine wl_as rfl rfl ?_; refine wl_ns ?_; refine wc_sr ?_
  refine wl_call ok_crc_Table (table_any w) trivial rfl ?_
  rintro _ w1 ⟨rfl, hb1⟩
  refine wl_alloc tyA_zero rfl fun w2 a2 hb2 hs2 => ?_
  obtain ⟨g, hg⟩ : ∃ g, w1.heap.size = g := ⟨_, rfl⟩
  have hge : w.heap.size ≤ g := by have := hb1.size; omega
  have hb12 := hb1.trans (hb2.mono hb1.size)
  rw [hg] at a2 ⊢
  replace a2 : Ar w2 g 75 (List.replicate 256 (Value.int .u32 0)) := a2
  refine wl_unitN (opu_storeW (by rw [List.length_replicate]; exact tyA_size) (by rw [tabC_length, List.length_replicate]) rfl rfl a2 tabC_one) ?_
  have a3 := a2.setRow (cs' := tabC)
  have hb3 := below_setRow (cs' := tabC.toArray) hb12 hge
  obtain ⟨w3, hw3⟩ : ∃ w3, w2.setRow g tabC.toArray = w3 := ⟨_, rfl⟩
  rw [hw3] at a3 hb3 ⊢
  have S3 := RdBB.below hr hb3
  clear hb1 hb2 a2 hs2
  refine wl_ns ?_; refine wc_sr ?_; refine wl_as rfl rfl ?_; refine wl_ns ?_; refine wc_seq ?_; refine wc_sr ?_; refine wl_mv rfl rfl ?_; apply wl_val; apply opv_len; exact rfl; exact tyBB.sl; exact rfl; refine wl_mv rfl rfl ?_; refine wl_ns ?_; refine wc_block ?_
  refine wc_loop (fun L wr m => ∃ k : Nat, L = [(3, .pointer (some ⟨g, 0, none⟩)), (4, .int .u32 (crcRaw 4294967295 (rows.take k).flatten : Nat)), (10, .slice A rows.length c), (11, .int .i64 (rows.length : Int)), (12, .int .i64 (k : Int))] ∧ k ≤ rows.length ∧ w3 = wr ∧ m = rows.length - k)
    [(3, .pointer (some ⟨g, 0, none⟩)), (4, .int .u32 (4294967295 : Nat)), (10, .slice A rows.length c), (11, .int .i64 (rows.length : Int)), (12, .int .i64 (0 : Nat))] rows.length ⟨0, rfl, by omega, rfl, rfl⟩ ⟨rfl, rfl, rfl, rfl, rfl, trivial⟩ ?_
  rintro _ _ m ⟨k, rfl, hk, rfl, rfl⟩
  have hlt := raw_lt (rows.take k).flatten (x := 4294967295) (by decide)
  refine wc_sr ?_; refine wl_bin rfl rfl bin_lss rfl ?_; refine wl_ns ?_; refine wc_seq ?_
  refine wc_cond rfl (fun h1 => ?_) (fun h1 => ?_)
  · obtain ⟨r, hx⟩ : ∃ x, rows[k]? = some x := ⟨_, List.getElem?_eq_getElem (by omega)⟩
    obtain ⟨vs, X, cx, hv, hvk, rx, hcx⟩ := S3.at hx
    have hxm : r.length ≤ rows.flatten.length := flat_mem hx
    refine wc_skip ?_; refine we_seq ?_; refine wc_seq ?_; refine wc_block ?_; refine wc_sr ?_; apply wl_elK (T := tyBB) (hr := hv) (hb := hvk); exact rfl; exact rfl; exact rfl; exact rfl; exact rfl; intro _; refine wl_as rfl rfl ?_; refine wl_ns ?_; refine wc_sr ?_; refine wl_mv rfl rfl ?_; apply wl_val; apply opv_len; exact rfl; exact tyB.sl; exact rfl; refine wl_mv rfl rfl ?_; refine wl_ns ?_; refine wc_block ?_
    refine wc_loop (fun L wr m => ∃ j : Nat, L = [(3, .pointer (some ⟨g, 0, none⟩)), (4, .int .u32 (crcRaw 4294967295 ((rows.take k).flatten ++ r.take j) : Nat)), (10, .slice A rows.length c), (11, .int .i64 (rows.length : Int)), (12, .int .i64 (k : Int)), (16, .slice X r.length cx), (17, .int .i64 (r.length : Int)), (18, .int .i64 (j : Int))] ∧ j ≤ r.length ∧ w3 = wr ∧ m = r.length - j)
      [(3, .pointer (some ⟨g, 0, none⟩)), (4, .int .u32 (crcRaw 4294967295 (rows.take k).flatten : Nat)), (10, .slice A rows.length c), (11, .int .i64 (rows.length : Int)), (12, .int .i64 (k : Int)), (16, .slice X r.length cx), (17, .int .i64 (r.length : Int)), (18, .int .i64 (0 : Nat))] r.length ⟨0, by simp, by omega, rfl, rfl⟩ ⟨rfl, rfl, rfl, rfl, rfl, rfl, rfl, rfl, trivial⟩ ?_
    rintro _ _ m ⟨j, rfl, hj, rfl, rfl⟩
    have hlt2 := raw_lt ((rows.take k).flatten ++ r.take j) (x := 4294967295) (by decide)
    refine wc_sr ?_; refine wl_bin rfl rfl bin_lss rfl ?_; refine wl_ns ?_; refine wc_seq ?_
    refine wc_cond rfl (fun h2 => ?_) (fun h2 => ?_)
    · obtain ⟨b, hbx⟩ : ∃ x, r[j]? = some x := ⟨_, List.getElem?_eq_getElem (by omega)⟩
      have hbl := b.toNat_lt
      obtain ⟨y, hy⟩ : ∃ y, crcRaw 4294967295 ((rows.take k).flatten ++ r.take j) = y := ⟨_, rfl⟩
      have hsn : crcRaw 4294967295 ((rows.take k).flatten ++ r.take (j + 1)) = y / 256 ^^^ eightC (y % 256 ^^^ b.toNat) := by
        rw [← eight_split, ← hy, List.take_add_one, hbx, ← List.append_assoc, Option.toList_some, raw_snoc]
      rw [hy] at hlt2 ⊢
      have hix : y % 256 ^^^ b.toNat < 256 := Nat.xor_lt_two_pow (n := 8) (Nat.mod_lt _ (by decide)) hbl
      have hel := eight_lt (x := y % 256 ^^^ b.toNat) (by omega)
      refine wc_skip ?_; refine we_seq ?_; refine wc_seq ?_; refine wc_block ?_; refine wc_sr ?_; apply wl_byK (T := tyB) (hr := rx) (hb := hbx); exact rfl; exact rfl; exact rfl; exact rfl; exact rfl; intro _; refine wl_as rfl rfl ?_; refine wl_ns ?_; refine wc_region ?_; refine wl_mv rfl rfl ?_
      refine wl_val (opv_bin (b := .int .u64 (8 : Nat)) rfl rfl (bin_shr hlt2)) rfl ?_
      refine wl_mv rfl rfl ?_; apply wl_val; apply opv_convR; exact rfl; exact Try.underlying28; exact Try.underlying5; exact wrap_nat rfl _; exact rfl; refine wl_mv rfl rfl ?_
      refine wl_val (opv_bin rfl rfl (bin_xor rfl (Nat.mod_lt _ (by decide)) hbl)) rfl ?_
      refine wl_elA (kk := y % 256 ^^^ b.toNat) Try.underlying75 tyU rfl rfl a3 tabC_length rfl (tabC_get hix) rfl rfl fun p => ?_
      refine wl_val (opv_bin rfl rfl (bin_xor rfl (by simp only [IntKind.bits]; omega) hel)) rfl ?_
      refine wl_as rfl rfl ?_; refine wl_nil ?_; refine we_block_norm ?_; refine we_seq ?_; refine wc_region ?_; apply wl_val; apply opv_bin; exact rfl; exact rfl; exact bin_add64 (by omega); exact rfl; refine wl_mv rfl rfl ?_; refine wl_nil ?_
      refine we_loop [(3, .pointer (some ⟨g, 0, none⟩)), (4, .int .u32 (crcRaw 4294967295 ((rows.take k).flatten ++ r.take (j + 1)) : Nat)), (10, .slice A rows.length c), (11, .int .i64 (rows.length : Int)), (12, .int .i64 (k : Int)), (16, .slice X r.length cx), (17, .int .i64 (r.length : Int)), (18, .int .i64 ((j + 1 : Nat) : Int))] (r.length - (j + 1)) ⟨j + 1, rfl, by omega, rfl, rfl⟩ (by omega) ⟨rfl, by rw [hsn]; rfl, rfl, rfl, rfl, rfl, rfl, by simp [lookT], trivial⟩
    · obtain rfl : j = r.length := by omega
      rw [List.take_length]
      refine wc_exit ?_; refine we_seq_exit ?_; refine we_loop_exit ?_; refine we_block_exit ?_; refine we_block_norm ?_; refine we_seq ?_; refine wc_region ?_; apply wl_val; apply opv_bin; exact rfl; exact rfl; exact bin_add64 (by omega); exact rfl; refine wl_mv rfl rfl ?_; refine wl_nil ?_
      refine we_loop [(3, .pointer (some ⟨g, 0, none⟩)), (4, .int .u32 (crcRaw 4294967295 (rows.take (k + 1)).flatten : Nat)), (10, .slice A rows.length c), (11, .int .i64 (rows.length : Int)), (12, .int .i64 ((k + 1 : Nat) : Int))] (rows.length - (k + 1)) ⟨k + 1, rfl, by omega, rfl, rfl⟩ (by omega) ⟨rfl, ?_, rfl, rfl, by simp [lookT], trivial⟩
      rw [show (rows.take (k + 1)).flatten = (rows.take k).flatten ++ r by rw [List.take_add_one, hx]; simp]; rfl
  · obtain rfl : k = rows.length := by omega
    rw [List.take_length] at hlt ⊢
    refine wc_exit ?_; refine we_seq_exit ?_; refine we_loop_exit ?_; refine we_block_exit ?_; refine we_seq ?_; refine wc_sr ?_; refine wl_mv rfl rfl ?_
    refine wl_val (opv_com rfl hlt) rfl ?_
    refine wl_as rfl rfl ?_; refine wl_ns ?_; refine wc_ret ?_
    exact we_ret1 rfl rfl ⟨_, rfl, rfl, hb3⟩

end Go.Proofs.Ytdgagffieobiiaa

/-
  The fixed fact of layer 3's statements, and the walk over the law CrcSums.
-/
namespace Go.Proofs.Ytdgagffieobiiaa
open Go.RowKit

theorem RdBB.one {w : World} {A A1 : Option Addr} {c1 : Nat} {r : List UInt8} (h : Rd w A 1 [.slice A1 r.length c1]) (h1 : RdB w A1 r) (hc : r.length ≤ c1) : RdBB w A [r] :=
  ⟨_, h, fun i q hi => by
    cases i with
    | zero => simp only [List.getElem?_cons_zero, Option.some.injEq] at hi; subst hi; exact ⟨A1, c1, rfl, h1, hc⟩
    | succ i => simp at hi⟩
theorem RdBB.two {w : World} {A A1 A2 : Option Addr} {c1 c2 : Nat} {r s : List UInt8} (h : Rd w A 2 [.slice A1 r.length c1, .slice A2 s.length c2]) (h1 : RdB w A1 r) (hc : r.length ≤ c1) (h2 : RdB w A2 s) (hc2 : s.length ≤ c2) : RdBB w A [r, s] :=
  ⟨_, h, fun i q hi => by
    cases i with
    | zero => simp only [List.getElem?_cons_zero, Option.some.injEq] at hi; subst hi; exact ⟨A1, c1, rfl, h1, hc⟩
    | succ i => cases i with
      | zero => simp only [List.getElem?_cons_succ, List.getElem?_cons_zero, Option.some.injEq] at hi; subst hi; exact ⟨A2, c2, rfl, h2, hc2⟩
      | succ i => simp at hi⟩
theorem RdBB.three {w : World} {A A1 A2 A3 : Option Addr} {c1 c2 c3 : Nat} {r s t : List UInt8} (h : Rd w A 3 [.slice A1 r.length c1, .slice A2 s.length c2, .slice A3 t.length c3]) (h1 : RdB w A1 r) (hc : r.length ≤ c1) (h2 : RdB w A2 s) (hc2 : s.length ≤ c2) (h3 : RdB w A3 t) (hc3 : t.length ≤ c3) : RdBB w A [r, s, t] :=
  ⟨_, h, fun i q hi => by
    cases i with
    | zero => simp only [List.getElem?_cons_zero, Option.some.injEq] at hi; subst hi; exact ⟨A1, c1, rfl, h1, hc⟩
    | succ i => cases i with
      | zero => simp only [List.getElem?_cons_succ, List.getElem?_cons_zero, Option.some.injEq] at hi; subst hi; exact ⟨A2, c2, rfl, h2, hc2⟩
      | succ i => cases i with
        | zero => simp only [List.getElem?_cons_succ, List.getElem?_cons_zero, Option.some.injEq] at hi; subst hi; exact ⟨A3, c3, rfl, h3, hc3⟩
        | succ i => simp at hi⟩
end Go.Proofs.Ytdgagffieobiiaa

/-
  Walks over the opening of sealed records, of the program and of the reference.
-/
namespace Go.Proofs.Ytdgagffieobiiaa
open Go.RowKit

theorem or_add {x y i : Nat} (h : y < 2 ^ i) : x * 2 ^ i ||| y = x * 2 ^ i + y := by
  have := Nat.shiftLeft_add_eq_or_of_lt h x
  rw [Nat.shiftLeft_eq] at this
  exact this.symm
theorem or4 {a b c d : Nat} (hb : b < 256) (hc : c < 256) (hd : d < 256) : a * 2 ^ 24 ||| b * 2 ^ 16 ||| c * 2 ^ 8 ||| d = ((a * 256 + b) * 256 + c) * 256 + d := by
  rw [or_add (show b * 2 ^ 16 < 2 ^ 24 by omega), show a * 2 ^ 24 + b * 2 ^ 16 = (a * 256 + b) * 2 ^ 16 by omega, or_add (show c * 2 ^ 8 < 2 ^ 16 by omega), show (a * 256 + b) * 2 ^ 16 + c * 2 ^ 8 = ((a * 256 + b) * 256 + c) * 2 ^ 8 by omega, or_add (show d < 2 ^ 8 by omega)]
theorem crcGet_any {A : Option Addr} {n c : Nat} {xs : List UInt8} {w : World} (hr : RdB w A xs) (hn : xs.length = n) (h4 : 4 ≤ xs.length) :
    CallsV Try.prog 53 #[.slice A n c] w fun v w' => v = .int .u32 (numB (xs.take 4) : Nat) ∧ Below w.heap.size w w' := by
  subst hn
  obtain ⟨x0, h0⟩ : ∃ x, xs[0]? = some x := ⟨_, List.getElem?_eq_getElem (by omega)⟩
  obtain ⟨x1, h1⟩ : ∃ x, xs[1]? = some x := ⟨_, List.getElem?_eq_getElem (by omega)⟩
  obtain ⟨x2, h2⟩ : ∃ x, xs[2]? = some x := ⟨_, List.getElem?_eq_getElem (by omega)⟩
  obtain ⟨x3, h3⟩ : ∃ x, xs[3]? = some x := ⟨_, List.getElem?_eq_getElem (by omega)⟩
  have l0 := x0.toNat_lt
  have l1 := x1.toNat_lt
  have l2 := x2.toNat_lt
  have l3 := x3.toNat_lt
  have q0 : x0.toNat * 2 ^ 24 < 2 ^ 32 := Nat.lt_of_lt_of_le ((Nat.mul_lt_mul_right (by decide)).2 l0) (by decide)
  have q1 : x1.toNat * 2 ^ 16 < 2 ^ 32 := Nat.lt_of_lt_of_le ((Nat.mul_lt_mul_right (by decide)).2 l1) (by decide)
  have q2 : x2.toNat * 2 ^ 8 < 2 ^ 32 := Nat.lt_of_lt_of_le ((Nat.mul_lt_mul_right (by decide)).2 l2) (by decide)
  have q3 : x3.toNat < 2 ^ 32 := Nat.lt_of_lt_of_le l3 (by decide)
  have e : numB (xs.take 4) = ((x0.toNat * 256 + x1.toNat) * 256 + x2.toNat) * 256 + x3.toNat := by
    rw [numB_step h3, numB_step h2, numB_step h1, numB_step h0]; simp [numB]
  rw [← or4 (a := x0.toNat) l1 l2 l3] at e
  rw [e]
  refine calls_in (N := _) Try.func53 rfl Try.ntmps53 rfl ?_; show WC _ _ _ _ _ _
  refine wc_sr ?_; refine wl_as rfl rfl ?_; refine wl_ns ?_; refine wc_seq ?_
  refine wc_drawB mixed (by kernel_rfl) ?_
  apply wq_val; intro _ hw_; apply opv_move; exact rfl; exact rfl; apply wq_byK (T := tyB) (hr := hr) (hb := h0); exact rfl; exact rfl; exact rfl; exact rfl; exact rfl; intro _; apply wq_val; intro _ hw_; apply opv_convR; exact rfl; exact Try.underlying5; exact Try.underlying28; exact IntWalk.u32_in _ (by omega); exact rfl
  refine wq_val (fun _ _ => opv_bin (b := .int .u64 (24 : Nat)) rfl rfl ((bin_shl rfl).to (congrArg (fun z : Nat => Value.int .u32 (z : Int)) (Nat.mod_eq_of_lt q0)))) rfl ?_
  apply wq_val; intro _ hw_; apply opv_move; exact rfl; exact rfl; apply wq_byK (T := tyB) (hr := hr) (hb := h1); exact rfl; exact rfl; exact rfl; exact rfl; exact rfl; intro _; apply wq_val; intro _ hw_; apply opv_convR; exact rfl; exact Try.underlying5; exact Try.underlying28; exact IntWalk.u32_in _ (by omega); exact rfl
  refine wq_val (fun _ _ => opv_bin (b := .int .u64 (16 : Nat)) rfl rfl ((bin_shl rfl).to (congrArg (fun z : Nat => Value.int .u32 (z : Int)) (Nat.mod_eq_of_lt q1)))) rfl ?_
  refine wq_val (fun _ _ => opv_bin rfl rfl (bin_or rfl q0 q1)) rfl ?_
  apply wq_val; intro _ hw_; apply opv_move; exact rfl; exact rfl; apply wq_byK (T := tyB) (hr := hr) (hb := h2); exact rfl; exact rfl; exact rfl; exact rfl; exact rfl; intro _; apply wq_val; intro _ hw_; apply opv_convR; exact rfl; exact Try.underlying5; exact Try.underlying28; exact IntWalk.u32_in _ (by omega); exact rfl
  refine wq_val (fun _ _ => opv_bin (b := .int .u64 (8 : Nat)) rfl rfl ((bin_shl rfl).to (congrArg (fun z : Nat => Value.int .u32 (z : Int)) (Nat.mod_eq_of_lt q2)))) rfl ?_
  refine wq_val (fun _ _ => opv_bin rfl rfl (bin_or rfl (Nat.or_lt_two_pow q0 q1) q2)) rfl ?_
  apply wq_val; intro _ hw_; apply opv_move; exact rfl; exact rfl; apply wq_byK (T := tyB) (hr := hr) (hb := h3); exact rfl; exact rfl; exact rfl; exact rfl; exact rfl; intro _; apply wq_val; intro _ hw_; apply opv_convR; exact rfl; exact Try.underlying5; exact Try.underlying28; exact IntWalk.u32_in _ (by omega); exact rfl
  refine wq_val (fun _ _ => opv_bin rfl rfl (bin_or rfl (Nat.or_lt_two_pow (Nat.or_lt_two_pow q0 q1) q2) q3)) rfl ?_
  apply wq_val; intro _ hw_; apply opv_assign; exact rfl; exact rfl; refine wq_nil fun w1 hw1 => ?_
  refine we_seq ?_; refine wc_ret ?_
  exact we_ret1 rfl rfl ⟨_, rfl, rfl, hw1⟩

theorem openB_errY {xs y : List UInt8} {q : Nat} (h : q ≤ xs.length) (hy : xs.drop q = y) {r : List UInt8} {e : Nat} (ho : openH y = (r, e)) (he : ¬ e = 0) : openB xs q = ([], 0, e) := openB_err h (hy.symm ▸ ho) he
theorem openB_okY {xs y : List UInt8} {q : Nat} (h : q ≤ xs.length) (hy : xs.drop q = y) {r : List UInt8} (ho : openH y = (r, 0)) : openB xs q = (r, q + 8 + r.length, 0) := openB_ok h (hy.symm ▸ ho)
/-- A body, a place and an error are handed back. -/
def RetO (w : World) (x : List UInt8 × Nat × Nat) (v : Value) (w' : World) : Prop :=
  ∃ (A : Option Addr) (c : Nat), v = .tuple #[.slice A x.1.length c, .int .i64 (x.2.1 : Int), .int .i64 (x.2.2 : Int)] ∧ OwB w' w.heap.size A c x.1 ∧ Below w.heap.size w w'
theorem RetO.err {w w' : World} {x : List UInt8 × Nat × Nat} {e : Nat} {k : Int} (h : x = ([], 0, e)) (hk : k = e) (hb : Below w.heap.size w w') : RetO w x (.tuple #[.slice none 0 0, .int .i64 0, .int .i64 k]) w' := by
  subst h hk; exact ⟨none, 0, rfl, Ow.nil _ _ _, hb⟩
theorem RdBB.two' {w : World} {A A1 A2 : Option Addr} {n1 n2 c1 c2 : Nat} {r s : List UInt8} (h : Rd w A 2 [.slice A1 n1 c1, .slice A2 n2 c2]) (h1 : RdB w A1 r) (e1 : r.length = n1) (hc : r.length ≤ c1) (h2 : RdB w A2 s) (e2 : s.length = n2) (hc2 : s.length ≤ c2) : RdBB w A [r, s] := by
  subst e1 e2; exact RdBB.two h h1 hc h2 hc2

theorem open_any {A : Option Addr} {n c : Nat} {xs : List UInt8} {p : Int} {w : World} (hr : RdB w A xs) (hn : xs.length = n) (hc : xs.length ≤ c) (hl : xs.length ≤ 140737488355328) :
    CallsV Try.prog 35 #[.slice A n c, .int .i64 p] w (RetO w (openB xs p)) := by
  subst hn
  refine calls_in (N := _) Try.func35 rfl Try.ntmps35 rfl ?_; show WC _ _ _ _ _ _
  refine wc_sr ?_; refine wl_as rfl rfl ?_; refine wl_as rfl rfl ?_; refine wl_as rfl rfl ?_; refine wl_ns ?_; refine wc_seq ?_; refine wc_sr ?_; refine wl_mv rfl rfl ?_; refine wl_bin rfl rfl bin_lss rfl ?_; refine wl_mv rfl rfl ?_
  refine wl_cutV 5 16 (.bool (decide ((p < 0) ∨ ((xs.length : Int) < p)))) ?c8 ?_; (case c8 => (dsimp only [List.take]; by_cases hc0 : (p < 0); (focus (apply wl_skip; exact rfl; exact rfl; exact rfl; refine bTn ?_; (with_reducible assumption); exact rfl; apply wl_skip; exact rfl; exact rfl; exact rfl; refine bTn ?_; (with_reducible assumption); exact rfl; apply wl_skip; exact rfl; exact rfl; exact rfl; refine bTn ?_; (with_reducible assumption); exact rfl; apply wl_skip; exact rfl; exact rfl; exact rfl; refine bTn ?_; (with_reducible assumption); exact rfl; apply wl_val; apply opv_pickT; exact rfl; refine bT ?_; (with_reducible assumption); exact rfl; exact rfl; refine wl_nil ?_; refine we_cut _ ⟨rfl, rfl⟩ ⟨congrArg (fun b => some (Value.bool b)) ?e8_0, ?s8_0⟩; (case e8_0 => ((simp [hc0]; done))); (case s8_0 => (refine And.intro rfl ?_; refine And.intro rfl ?_; refine And.intro rfl ?_; refine And.intro rfl ?_; refine And.intro rfl ?_; refine And.intro rfl ?_; refine And.intro rfl ?_; refine And.intro rfl ?_; exact True.intro)))); (focus (apply wl_take; exact rfl; exact rfl; exact rfl; refine bF ?_; (with_reducible assumption); refine wl_mv rfl rfl ?_; apply wl_take; exact rfl; exact rfl; exact rfl; refine bF ?_; (with_reducible assumption); refine wl_mv rfl rfl ?_; apply wl_take; exact rfl; exact rfl; exact rfl; refine bF ?_; (with_reducible assumption); apply wl_val; apply opv_len; exact rfl; exact tyB.sl; exact rfl; apply wl_take; exact rfl; exact rfl; exact rfl; refine bF ?_; (with_reducible assumption); refine wl_bin rfl rfl bin_gtr rfl ?_; apply wl_val; apply opv_pickF; exact rfl; refine bF ?_; (with_reducible assumption); exact rfl; exact rfl; refine wl_nil ?_; refine we_cut _ ⟨rfl, rfl⟩ ⟨congrArg (fun b => some (Value.bool b)) ?e8_1, ?s8_1⟩; (case e8_1 => ((simp [hc0]; done))); (case s8_1 => (refine And.intro rfl ?_; refine And.intro rfl ?_; refine And.intro rfl ?_; refine And.intro rfl ?_; refine And.intro rfl ?_; refine And.intro rfl ?_; refine And.intro rfl ?_; refine And.intro rfl ?_; exact True.intro)))))); dsimp only [List.drop]
  refine wl_ns ?_
  refine wc_cond rfl (fun h => ?_) (fun h => ?_)
  · refine wc_sr ?_; refine wl_as rfl rfl ?_; refine wl_as rfl rfl ?_; refine wl_as rfl rfl ?_; refine wl_ns ?_; refine wc_ret ?_; refine we_seq_ret ?_
    exact we_ret3 rfl rfl rfl rfl ⟨_, rfl, RetO.err (openB_arg (by omega)) rfl (Below.refl _ _)⟩
  · obtain ⟨q, rfl⟩ := Int.eq_ofNat_of_zero_le (show 0 ≤ p by omega)
    have hq : q ≤ xs.length := by omega
    refine wc_skip ?_; refine we_seq ?_; refine wc_sr ?_; refine wl_mv rfl rfl ?_; refine wl_mv rfl rfl ?_
    refine wl_sl (l := q) (h := xs.length) tyB rfl ⟨_, rfl⟩ rfl hq (by omega) rfl ?_
    obtain ⟨y, hy⟩ : ∃ y, xs.drop q = y := ⟨_, rfl⟩
    have ry : RdB w (cutA A c q) y := by have := rd_cut hr hq (Nat.le_refl _) hc; rw [List.take_length, hy] at this; exact this
    have hyl : xs.length - q = y.length := by rw [← hy, List.length_drop]
    obtain ⟨Y, hY⟩ : ∃ Y, cutA A c q = Y := ⟨_, rfl⟩
    obtain ⟨d, hd⟩ : ∃ d, c - q = d := ⟨_, rfl⟩
    have hyd : y.length ≤ d := by omega
    rw [hY] at ry
    rw [hyl, hY, hd]
    refine wl_as rfl rfl ?_; refine wl_ns ?_; refine wc_seq ?_; refine wc_sr ?_; refine wl_mv rfl rfl ?_; apply wl_val; apply opv_len; exact rfl; exact tyB.sl; exact rfl; refine wl_bin rfl rfl bin_lss rfl ?_; refine wl_ns ?_
    refine wc_cond rfl (fun h8 => ?_) (fun h8 => ?_)
    · refine wc_sr ?_; refine wl_as rfl rfl ?_; refine wl_as rfl rfl ?_; refine wl_as rfl rfl ?_; refine wl_ns ?_; refine wc_ret ?_; refine we_seq_ret ?_
      exact we_ret3 rfl rfl rfl rfl ⟨_, rfl, RetO.err (openB_errY hq hy (openH_short (by omega)) (by decide)) rfl (Below.refl _ _)⟩
    · refine wc_skip ?_; refine we_seq ?_; refine wc_sr ?_; refine wl_mv rfl rfl ?_
      refine wl_call ok_crc_get (crcGet_any ry rfl (by omega)) ⟨rfl, trivial⟩ rfl ?_
      rintro _ w1 ⟨rfl, hb1⟩
      obtain ⟨n, hn⟩ : ∃ n, numB (y.take 4) = n := ⟨_, rfl⟩
      have hnl : n < 4294967296 := by rw [← hn]; exact numB_lt4 (by simp; omega)
      rw [hn]
      replace ry := RdB.below ry hb1
      refine wl_as rfl rfl ?_; refine wl_ns ?_; refine wc_seq ?_; refine wc_sr ?_; refine wl_mv rfl rfl ?_; refine wl_bin rfl rfl bin_gtr rfl ?_; refine wl_ns ?_
      refine wc_cond rfl (fun h2 => ?_) (fun h2 => ?_)
      · refine wc_sr ?_; refine wl_as rfl rfl ?_; refine wl_as rfl rfl ?_; refine wl_as rfl rfl ?_; refine wl_ns ?_; refine wc_ret ?_; refine we_seq_ret ?_
        exact we_ret3 rfl rfl rfl rfl ⟨_, rfl, RetO.err (openB_errY hq hy (openH_size (by omega) (by omega)) (by decide)) rfl hb1⟩
      · refine wc_skip ?_; refine we_seq ?_; refine wc_sr ?_; refine wl_mv rfl rfl ?_; apply wl_val; apply opv_convR; exact rfl; exact Try.underlying28; exact Try.underlying3; exact IntWalk.i64_in _ (by omega); exact rfl; apply wl_val; apply opv_bin; exact rfl; exact rfl; exact bin_add64 (by omega); exact rfl; refine wl_as rfl rfl ?_; refine wl_ns ?_; refine wc_seq ?_; refine wc_sr ?_; refine wl_mv rfl rfl ?_; apply wl_val; apply opv_len; exact rfl; exact tyB.sl; exact rfl; refine wl_mv rfl rfl ?_; refine wl_bin rfl rfl bin_lss rfl ?_; refine wl_ns ?_
        refine wc_cond rfl (fun h3 => ?_) (fun h3 => ?_)
        · refine wc_sr ?_; refine wl_as rfl rfl ?_; refine wl_as rfl rfl ?_; refine wl_as rfl rfl ?_; refine wl_ns ?_; refine wc_ret ?_; refine we_seq_ret ?_
          exact we_ret3 rfl rfl rfl rfl ⟨_, rfl, RetO.err (openB_errY hq hy (openH_end (by omega) (by omega) (by omega)) (by decide)) rfl hb1⟩
        · have hyn : 8 + n ≤ y.length := by omega
          have hbl : ((y.take (8 + n)).drop 8).length = n := by simp; omega
          refine wc_skip ?_; refine we_seq ?_; refine wc_seq ?_; refine wc_seq ?_
          refine wc_heldB mixed fun w2 hS => ?_
          apply wh_take 0; exact rfl; kernel_rfl; kernel_rfl; kernel_rfl; exact hS; intro _ hw_; apply opv_move; exact rfl; exact rfl
          refine wh_take 1 rfl (by kernel_rfl) (by kernel_rfl) (by kernel_rfl) hS (fun _ _ => opv_slice (l := 0) (h := 4) tyB rfl rfl ⟨_, rfl⟩ (by omega) (by omega)) rfl ?_
          apply wh_take 2; exact rfl; kernel_rfl; kernel_rfl; kernel_rfl; exact hS; intro _ hw_; apply opv_move; exact rfl; exact rfl; apply wh_take 3; exact rfl; kernel_rfl; kernel_rfl; kernel_rfl; exact hS; intro _ hw_; apply opv_move; exact rfl; exact rfl
          refine wh_take 4 rfl (by kernel_rfl) (by kernel_rfl) (by kernel_rfl) hS (fun _ _ => opv_slice (l := 8) (h := 8 + n) tyB rfl ⟨_, rfl⟩ ⟨_, by simp only [Int.natCast_add]; rfl⟩ (by omega) (by omega)) rfl ?_
          apply wh_take 7; exact rfl; kernel_rfl; kernel_rfl; kernel_rfl; exact hS; intro _ hw_; apply opv_move; exact rfl; exact rfl
          refine wh_take 8 rfl (by kernel_rfl) (by kernel_rfl) (by kernel_rfl) hS (fun _ _ => opv_slice (l := 4) (h := y.length) tyB rfl ⟨_, rfl⟩ rfl (by omega) (by omega)) rfl ?_
          refine wh_one 5 (o := ⟨_, _, _, _, _, _⟩) (by kernel_rfl) rfl ?_
          refine wl_bs (vs := [_, _]) tyBB ⟨rfl, rfl, rfl, rfl, rfl, rfl, trivial⟩ rfl (by decide) rfl fun A5 w5 o5 h5 _ => ?_
          have hS5 := hS.trans (h5.mono hS.size)
          replace ry := RdB.below ry hS5
          have rA : RdB w5 (cutA Y d 0) (y.take 4) := by have := rd_cut (l := 0) (h := 4) ry (by omega) (by omega) hyd; exact this
          have rB := rd_cut (l := 8) (h := 8 + n) ry (by omega) hyn hyd
          have rC := rd_cut (l := 4) (h := y.length) ry (by omega) (Nat.le_refl _) hyd
          rw [List.take_length] at rC
          have hrows := RdBB.two' o5.rd rA (by simp; omega) (by simp; omega) rB (by simp; omega) (by simp; omega)
          refine wl_nil ?_
          refine we_held hS5 ?_
          refine wh_one 6 (o := ⟨_, _, _, _, _, _⟩) (by kernel_rfl) rfl ?_
          refine wl_call ok_crc_Sum (sum_any hrows rfl (by simp only [maxLen]; simp; omega) (by simp only [maxLen]; simp)) ⟨rfl, trivial⟩ rfl ?_
          rintro _ w6 ⟨rfl, h6⟩
          have hS6 := hS5.trans (h6.mono hS5.size)
          refine wl_nil ?_
          refine we_held hS6 ?_
          refine wh_one 9 (o := ⟨_, _, _, _, _, _⟩) (by kernel_rfl) rfl ?_
          refine wl_call ok_crc_get (crcGet_any (RdB.below rC h6) (by simp) (by simp; omega)) ⟨rfl, trivial⟩ rfl ?_
          rintro _ w7 ⟨rfl, h7⟩
          have hS7 := hS6.trans (h7.mono hS6.size)
          refine wl_nil ?_
          refine we_held hS7 ?_
          obtain ⟨s, hs⟩ : ∃ s, crcOf [y.take 4, (y.take (8 + n)).drop 8].flatten = s := ⟨_, rfl⟩
          obtain ⟨t, ht⟩ : ∃ t, numB ((y.drop 4).take 4) = t := ⟨_, rfl⟩
          rw [hs, ht]
          have hs' : crcOf (y.take 4 ++ (y.take (8 + n)).drop 8) = s := by rw [← hs]; simp
          apply wh_take 10; exact rfl; kernel_rfl; kernel_rfl; kernel_rfl; exact hS7; intro _ hw_; apply opv_bin; exact rfl; exact rfl; exact bin_neq; exact rfl
          refine wh_done (by kernel_rfl) ?_
          have hb7 := hb1.trans (hS7.mono hb1.size)
          refine we_seq ?_
          refine wc_cond rfl (fun h4 => ?_) (fun h4 => ?_)
          · refine wc_sr ?_; refine wl_as rfl rfl ?_; refine wl_as rfl rfl ?_; refine wl_as rfl rfl ?_; refine wl_ns ?_; refine wc_ret ?_; refine we_seq_ret ?_
            exact we_ret3 rfl rfl rfl rfl ⟨_, rfl, RetO.err (openB_errY hq hy (openH_sum (by omega) (by omega) (by omega) (by rw [hn, hs', ht]; omega)) (by decide)) rfl hb7⟩
          · refine wc_skip ?_; refine we_seq ?_; refine wc_sr ?_; refine wl_mv rfl rfl ?_; refine wl_mv rfl rfl ?_
            refine wl_sl (l := 8) (h := 8 + n) tyB rfl ⟨_, rfl⟩ ⟨_, by simp only [Int.natCast_add]; rfl⟩ (by omega) (by omega) rfl ?_
            have rD := RdB.below rB (h6.trans (h7.mono h6.size))
            refine wl_call ok_bytes_Clone (clone_any rD (by rw [hbl]; omega) (by rw [hbl]; omega)) ⟨rfl, trivial⟩ rfl ?_
            rintro _ w8 ⟨A8, c8, rfl, o8, h8'⟩
            have hb8 := hb7.trans (h8'.mono hb7.size)
            have eo := openB_okY hq hy (openH_ok (y := y) (by omega) (by omega) (by omega) (by rw [hn, hs', ht]; omega))
            rw [hn] at eo
            refine wl_mv rfl rfl ?_; refine wl_mv rfl rfl ?_; apply wl_val; apply opv_bin; exact rfl; exact rfl; exact bin_add64 (by omega); exact rfl; refine wl_as rfl rfl ?_; refine wl_as rfl rfl ?_; refine wl_as rfl rfl ?_; refine wl_ns ?_; refine wc_ret ?_
            refine we_ret3 rfl rfl rfl rfl ⟨_, rfl, ?_⟩
            rw [eo]
            refine ⟨A8, c8, ?_, Ow.mono o8 hb7.size, hb8⟩
            rw [hbl, show (q : Int) + (8 + (n : Int)) = ((q + 8 + n : Nat) : Int) by omega]; rfl

/-- Records and a place are handed back. -/
def RetOA (w : World) (x : List (List UInt8) × Nat) (v : Value) (w' : World) : Prop :=
  ∃ (A : Option Addr) (c : Nat), v = .tuple #[.slice A x.1.length c, .int .i64 (x.2 : Int)] ∧ OwBB w' w.heap.size A c x.1 ∧ Below w.heap.size w w'
theorem open_at {A : Option Addr} {n c : Nat} {xs : List UInt8} {p : Int} {w : World} {x : List UInt8 × Nat × Nat} (h : openB xs p = x) (hr : RdB w A xs) (hn : xs.length = n) (hc : xs.length ≤ c) (hl : xs.length ≤ 140737488355328) :
    CallsV Try.prog 35 #[.slice A n c, .int .i64 p] w (RetO w x) := h ▸ open_any hr hn hc hl

theorem openAll_any {A : Option Addr} {n c : Nat} {xs : List UInt8} {w : World} (hr : RdB w A xs) (hn : xs.length = n) (hc : xs.length ≤ c) (hl : xs.length ≤ 1099511627776) : CallsV Try.prog 13 #[.slice A n c] w (RetOA w (openAll xs)) := by
  subst hn
  refine calls_in (N := _) Try.func13 rfl Try.ntmps13 rfl ?_; show WC _ _ _ _ _ _
  refine wc_sr ?_; refine wl_as rfl rfl ?_; refine wl_as rfl rfl ?_; refine wl_ns ?_; refine wc_sr ?_; refine wl_as rfl rfl ?_; refine wl_ns ?_; refine wc_sr ?_; refine wl_as rfl rfl ?_; refine wl_ns ?_; refine wc_seq ?_; refine wc_block ?_
  refine wc_loop (fun L wr m => ∃ (q f : Nat) (out : List (List UInt8)) (P : Option Addr) (cp : Nat), L = [(0, .slice A xs.length c), (4, .slice P out.length cp), (5, .int .i64 (q : Int))] ∧ q ≤ xs.length ∧ xs.length - q ≤ f ∧ openAll xs = openAllF f xs q out ∧ out.length ≤ q ∧ OwBB wr w.heap.size P cp out ∧ Below w.heap.size w wr ∧ m = xs.length - q)
    [(0, .slice A xs.length c), (4, .slice none 0 0), (5, .int .i64 (0 : Nat))] xs.length ⟨0, xs.length, [], none, 0, rfl, by omega, by omega, rfl, by simp, OwBB.nil _ _, Below.refl _ _, rfl⟩ ⟨rfl, rfl, rfl, trivial⟩ ?_
  rintro _ w1 m ⟨q, f, out, P, cp, rfl, hq, hf, hp, hol, o1, hb1, rfl⟩
  refine wc_seq ?_; refine wc_sr ?_; refine wl_mv rfl rfl ?_; refine wl_mv rfl rfl ?_; apply wl_val; apply opv_len; exact rfl; exact tyB.sl; exact rfl; refine wl_bin rfl rfl bin_lss rfl ?_; refine wl_ns ?_
  refine wc_cond rfl (fun h1 => ?_) (fun h1 => ?_)
  · obtain ⟨f, rfl⟩ : ∃ g, f = g + 1 := ⟨f - 1, by omega⟩
    obtain ⟨r, x, e, hu⟩ : ∃ r x e, openB xs q = (r, x, e) := ⟨_, _, _, rfl⟩
    have r1 := RdB.below hr hb1
    refine wc_skip ?_; refine we_seq ?_; refine wc_block ?_; refine wc_sr ?_; refine wl_mv rfl rfl ?_; refine wl_mv rfl rfl ?_
    refine wl_call ok_crc_Open (open_at hu r1 rfl hc (by omega)) ⟨rfl, rfl, trivial⟩ rfl ?_
    rintro _ w2 ⟨A2, c2, rfl, o2, h2⟩
    have hb2 := hb1.trans (h2.mono hb1.size)
    dsimp only at o2
    refine wl_mv rfl rfl ?_; apply wl_val; apply opv_extract; exact rfl; exact rfl; exact rfl; apply wl_val; apply opv_extract; exact rfl; exact rfl; exact rfl; apply wl_val; apply opv_extract; exact rfl; exact rfl; exact rfl; refine wl_as rfl rfl ?_; refine wl_as rfl rfl ?_; refine wl_as rfl rfl ?_; refine wl_ns ?_; refine wc_seq ?_; refine wc_sr ?_; refine wl_mv rfl rfl ?_; refine wl_bin rfl rfl bin_neq rfl ?_; refine wl_ns ?_
    by_cases he : e = 0
    · subst he
      obtain ⟨rfl, hxl, _⟩ := openB_inv hq hu
      refine wc_cond rfl (fun h => absurd rfl h) (fun _ => ?_)
      refine wc_skip ?_; refine we_seq ?_; refine wc_region ?_; refine wl_mv rfl rfl ?_; refine wl_mv rfl rfl ?_
      refine wl_pushR o1 h2 hb1.size o2 hb2 rfl (by omega) rfl rfl rfl rfl rfl fun p A4 c4 w4 o4 hb4 => ?_
      refine wl_mv rfl rfl ?_; refine wl_as rfl rfl ?_; refine wl_as rfl rfl ?_; refine wl_nil ?_; refine we_block_norm ?_
      refine we_loop [(0, .slice A xs.length c), (4, .slice A4 (out ++ [r]).length c4), (5, .int .i64 ((q + 8 + r.length : Nat) : Int))] (xs.length - (q + 8 + r.length)) ⟨q + 8 + r.length, f, _, A4, c4, rfl, hxl, by omega, ?_, by simp; omega, o4, hb4, rfl⟩ (by omega) ⟨rfl, by rw [List.length_append]; rfl, rfl, trivial⟩
      rw [hp, openAllF_step (by omega) hu]
    · refine wc_cond rfl (fun _ => ?_) (fun h => absurd (fun h' => he (by exact_mod_cast h')) h)
      refine wc_exit ?_; refine we_seq_exit ?_; apply we_block_pass; exact rfl; refine we_loop_exit ?_; refine we_block_exit ?_; refine we_seq ?_; refine wc_sr ?_; refine wl_mv rfl rfl ?_; refine wl_mv rfl rfl ?_; refine wl_as rfl rfl ?_; refine wl_as rfl rfl ?_; refine wl_ns ?_; refine wc_ret ?_
      refine we_ret2 rfl rfl rfl ⟨_, rfl, ?_⟩
      rw [hp, openAllF_err hu he]
      exact ⟨P, cp, rfl, o1.below h2, hb2⟩
  · refine wc_exit ?_; refine we_seq_exit ?_; refine we_loop_exit ?_; refine we_block_exit ?_; refine we_seq ?_; refine wc_sr ?_; refine wl_mv rfl rfl ?_; refine wl_mv rfl rfl ?_; refine wl_as rfl rfl ?_; refine wl_as rfl rfl ?_; refine wl_ns ?_; refine wc_ret ?_
    refine we_ret2 rfl rfl rfl ⟨_, rfl, ?_⟩
    rw [hp, openAllF_end (by omega)]
    exact ⟨P, cp, rfl, o1, hb1⟩
end Go.Proofs.Ytdgagffieobiiaa

/-
  Walks over the reference's sealed records.
-/
namespace Go.Proofs.Ytdgagffieobiiaa
open Go.RowKit

theorem OwB.of {w : World} {base n c : Nat} {A : Option Addr} {vs : List Value} {ys : List UInt8} (h : Ow w base 5 A n c vs) (hn : ys.length = n) (hv : bvs ys = vs) : OwB w base A c ys := by subst hn hv; exact h
theorem sealB_ok {l : List UInt8} (h : l.length ≤ 1048576) : sealB l = (crcRec l, 0) := by rw [sealB, if_neg (by omega)]
end Go.Proofs.Ytdgagffieobiiaa

/-
  New memory of the library's: rules for copy and for its fresh bytes; walks over bytes.Join without a separator and over the sealing of records.
-/
namespace Go.Proofs.Ytdgagffieobiiaa
open Go.RowKit

section
variable {P : Program} {N : Nat} {ops : Array Oper} {Q : Exit → Act → World → Prop} {rest : List Oper} {L : FL} {w : World} {t e : TypeId} {z : Value} {bytes : Nat}
/-- copy into a block that is known whole: all of the source fits. -/
theorem wl_copy {d : Nat} {x y : Operand} {ty : TypeId} {pos : String} {aft : Array Edge} {g off n c m c' : Nat} {A B : Option Addr} {cs ys : List Value} (T : Row1 P t e z bytes)
    (hx : look L x = some (.slice A n c)) (hy : look L y = some (.slice B m c')) (ha : Ar w g e cs) (hr : Rd w B m ys) (h1 : ∀ u ∈ ys, u.oneCell' = true)
    (hA : 0 < m → A = some ⟨g, off, none⟩) (hm : m ≤ n) (hfit : off + m ≤ cs.length) (hd : Nat.blt d N = true)
    (h : ∀ w', Ar w' g e (cs.take off ++ (ys ++ cs.drop (off + m))) → Below g w w' → WL P N ops Q rest ((d, .int .i64 (m : Int)) :: L) w') :
    WL P N ops Q (⟨some d, .call { callee := .builtin .copy, args := #[x, y], argTypes := #[t, t] }, ty, pos, aft, none⟩ :: rest) L w := fun a hH => by
  have hl : ys.length = m := hr.1
  obtain ⟨i, hi, _, hs, _⟩ := info_parts T.info
  refine wpList_copy_splice rfl x y t t rfl e T.sl (by simp [hi, hs]) A B n c m c' (hH.eval hx) (hH.eval hy) g off cs e ha ys (by rw [hl]; exact (Nat.min_eq_left hm).symm)
    (fun h0 => ?_) (by rw [hl]; exact hfit) h1 g w (Below.refl _ _) (Nat.le_refl _) fun w' hc hb => ?_
  · rw [hl] at h0
    obtain ⟨b, o, hB, _, hcell⟩ := hr.2 h0
    exact ⟨hA h0, ⟨b, o, none⟩, hB, fun j v hv => by rw [Addr.add_lit]; exact hcell j v hv⟩
  · have hc' : Ar w' g e (splice cs off ys) := hc
    unfold splice at hc'
    rw [hl] at hc'
    have := h w' hc' hb _ (hH.put hd (.int .i64 (m : Int)))
    simpa [goInt, hl] using this
theorem opv_ext {f : FuncId} {x : Operand} {ats : Array TypeId} {ty : TypeId} {u v : Value} {w' : World} (hx : look L x = some u) (hrun : (callFunc f #[u]).run P w = .ok (.value v) w') :
    OpV P (.call { callee := .value (.func f), args := #[x], argTypes := ats }) ty L w v w' := fun ρ o hρ ho _ => by
  have hf : ρ (.func f) = .func (.func f) #[] #[] := hρ _ _ rfl
  unfold execOp
  simp only [ho, resolve, Deferred.ofValue, hf, Sem.run_bind, Sem.run_pure, Result.andThen_ok, invoke]
  have : (#[] ++ Array.map ρ #[x] ++ #[]) = #[u] := by simp [hρ x u hx]
  rw [this]
  exact hrun
theorem opv_slice3 {x y y' : Operand} {ty : TypeId} {A : Option Addr} {n c h : Nat} {k k' : IntKind} (T : Row1 P t e z bytes) (hx : look L x = some (.slice A n c)) (hy : look L y = some (.int k (h : Int))) (hy' : look L y' = some (.int k' (h : Int))) (h2 : h ≤ c) :
    OpV P (.slice t x none (some y) (some y')) ty L w (.slice A h h) w := fun ρ o hρ ho _ => by
  unfold execOp
  simp only [ho, Instr.sliceAt, Instr.slice, Sem.run_bind, run_underlying T.sl, Result.andThen_ok, hρ x _ hx, Option.map_none, Option.map_some, T.size]
  have e1 : (Instr.sliceBounds true n c none (some (ρ y)) (some (ρ y'))).run P w = .ok (0, h, h) w := by
    simp [Instr.sliceBounds, Instr.sliceBound, hρ y _ hy, hρ y' _ hy', asIntOf, h2]
  rw [e1]
  by_cases h0 : h = 0
  · subst h0; simp
  · cases A with
    | none => simp
    | some a => simp [Addr.add]
end

/-- New bytes: at the head of a block from block base on (which may be longer than the slice), or nil. -/
def NwB (w : World) (base : Nat) (A : Option Addr) (c : Nat) (xs : List UInt8) : Prop :=
  (A = none ∧ c = 0 ∧ xs = []) ∨ ∃ (g : Nat) (cs : List Value), A = some ⟨g, 0, none⟩ ∧ base ≤ g ∧ Ar w g 5 cs ∧ xs.length ≤ c ∧ c ≤ cs.length ∧ cs.take xs.length = bvs xs
section
variable {w w' : World} {base c : Nat} {A : Option Addr} {xs : List UInt8}
theorem OwB.nw (h : OwB w base A c xs) : NwB w base A c xs := by
  rcases h.2 with ⟨hv, hn⟩ | ⟨g, cap, cur, hv, hb, hg, hnc, _, hs, ht⟩
  · injection hv with hA hn' hc
    exact .inl ⟨hA, hc, List.length_eq_zero_iff.1 hn'⟩
  · injection hv with hA hn' hc
    subst hc
    exact .inr ⟨g, cur.toList, hA, hb, by simpa [Ar] using hg, hnc, by simp; omega, by simpa using ht⟩
theorem NwB.cap (h : NwB w base A c xs) : xs.length ≤ c := by
  rcases h with ⟨_, rfl, rfl⟩ | ⟨_, _, _, _, _, h, _⟩
  · simp
  · exact h
theorem NwB.rd (h : NwB w base A c xs) : RdB w A xs := by
  rcases h with ⟨rfl, rfl, rfl⟩ | ⟨g, cs, rfl, hg, ha, h1, h2, h3⟩
  · exact Rd.nil _ _
  · refine ⟨bvs_length _, fun _ => ⟨g, 0, rfl, ha.lt, fun j u hu => ?_⟩⟩
    rw [← h3, List.getElem?_take] at hu
    split at hu
    · rw [ha.cell, Nat.zero_add]; exact hu
    · cases hu
theorem NwB.below (h : NwB w base A c xs) (hb : Below w.heap.size w w') : NwB w' base A c xs := by
  rcases h with h | ⟨g, cs, hA, hg, ha, h1⟩
  · exact .inl h
  · exact .inr ⟨g, cs, hA, hg, ha.bel hb, h1⟩
theorem NwB.mono {base' : Nat} (h : NwB w base A c xs) (hb : base' ≤ base) : NwB w base' A c xs := by
  rcases h with h | ⟨g, cs, hA, hg, h1⟩
  · exact .inl h
  · exact .inr ⟨g, cs, hA, Nat.le_trans hb hg, h1⟩
end
def RetN' (w : World) (xs : List UInt8) (v : Value) (w' : World) : Prop :=
  ∃ (A : Option Addr) (c : Nat), v = .slice A xs.length c ∧ NwB w' w.heap.size A c xs ∧ Below w.heap.size w w'

theorem take_flat {rows : List (List UInt8)} {k : Nat} {x : List UInt8} (hx : rows[k]? = some x) : (rows.take (k + 1)).flatten = (rows.take k).flatten ++ x := by
  rw [List.take_add_one, hx]; simp
theorem take_flat_le (rows : List (List UInt8)) (k : Nat) : (rows.take k).flatten.length ≤ rows.flatten.length := by
  have : rows.flatten = (rows.take k).flatten ++ (rows.drop k).flatten := by rw [← List.flatten_append, List.take_append_drop]
  rw [this, List.length_append]; omega
theorem bJoin_any {A : Option Addr} {n c : Nat} {rows : List (List UInt8)} {w : World} (hr : RdBB w A rows) (hn : rows.length = n) (hc : rows.length ≤ c) (hl : rows.flatten.length ≤ 140737488355328) (hl2 : rows.length ≤ maxLen) :
    CallsV Try.prog 31 #[.slice A n c, .slice none 0 0] w (RetN' w rows.flatten) := by
  subst hn
  simp only [maxLen] at hl2
  refine calls_in (N := _) Try.func31 rfl Try.ntmps31 rfl ?_; show WC _ _ _ _ _ _
  refine wc_sr ?_; refine wl_as rfl rfl ?_; refine wl_ns ?_; refine wc_seq ?_; refine wc_sr ?_; refine wl_mv rfl rfl ?_; apply wl_val; apply opv_len; exact rfl; exact tyBB.sl; exact rfl; refine wl_bin rfl rfl bin_eql rfl ?_; refine wl_ns ?_
  refine wc_cond rfl (fun h0 => ?_) (fun h0 => ?_)
  · obtain rfl : rows = [] := List.length_eq_zero_iff.1 (by omega)
    refine wc_sr ?_
    refine wl_bs (vs := []) tyB trivial rfl (by decide) rfl fun A1 w1 o1 hb1 _ => ?_
    refine wl_as rfl rfl ?_; refine wl_ns ?_; refine wc_ret ?_; refine we_seq_ret ?_
    exact we_ret1 rfl rfl ⟨_, rfl, A1, 0, rfl, OwB.nw o1, hb1⟩
  · refine wc_skip ?_; refine we_seq ?_; refine wc_seq ?_; refine wc_sr ?_; refine wl_mv rfl rfl ?_; apply wl_val; apply opv_len; exact rfl; exact tyBB.sl; exact rfl; refine wl_bin rfl rfl bin_eql rfl ?_; refine wl_ns ?_
    obtain ⟨r0, hr0⟩ : ∃ x, rows[0]? = some x := ⟨_, List.getElem?_eq_getElem (by omega)⟩
    have hf0 : (rows.take 1).flatten = r0 := by rw [take_flat hr0]; simp
    have hl0 := take_flat_le rows 1
    rw [hf0] at hl0
    obtain ⟨vs, X, cx, hv, hvk, rx, hcx⟩ := hr.at hr0
    refine wc_cond rfl (fun h1 => ?_) (fun h1 => ?_)
    · have hone : rows.flatten = r0 := by rw [← hf0, List.take_of_length_le (by omega)]
      refine wc_sr ?_; refine wl_mv rfl rfl ?_; apply wl_elK (T := tyBB) (hr := hv) (hb := hvk); exact rfl; exact rfl; exact rfl; exact rfl; exact rfl; intro _
      refine wl_app tyB rfl (Ow.nil w w.heap.size _) rfl rx (bvs_one _) (by omega) (by simp only [maxLen]; omega) (Nat.le_refl _) rfl fun A1 c1 w1 o1 g1 _ => ?_
      have hb1 := g1.below (Below.refl w.heap.size w) (Ow.nil w w.heap.size 5) (Nat.le_refl _) (Nat.le_refl _)
      refine wl_as rfl rfl ?_; refine wl_ns ?_; refine wc_ret ?_; refine we_seq_ret ?_
      refine we_ret1 rfl rfl ⟨_, rfl, ?_⟩
      rw [hone]
      exact ⟨A1, c1, by simp, (OwB.of o1 (by simp) (by simp)).nw, hb1⟩
    · refine wc_skip ?_; refine we_seq ?_; refine wc_sr ?_; refine wl_as rfl rfl ?_; refine wl_ns ?_; refine wc_seq ?_; refine wc_sr ?_; refine wl_mv rfl rfl ?_; apply wl_val; apply opv_len; exact rfl; exact tyB.sl; exact rfl; refine wl_bin rfl rfl bin_gtr rfl ?_; refine wl_ns ?_
      refine wc_condF rfl ?_
      refine wc_skip ?_; refine we_seq ?_; refine wc_seq ?_; refine wc_sr ?_; refine wl_mv rfl rfl ?_; apply wl_val; apply opv_len; exact rfl; exact tyBB.sl; exact rfl; refine wl_mv rfl rfl ?_; refine wl_ns ?_; refine wc_block ?_
      refine wc_loop (fun L wr m => ∃ k : Nat, L = [(0, .slice A rows.length c), (1, .slice none 0 0), (5, .int .i64 ((rows.take k).flatten.length : Nat)), (42, .slice A rows.length c), (43, .int .i64 (rows.length : Int)), (44, .int .i64 (k : Int))] ∧ k ≤ rows.length ∧ w = wr ∧ m = rows.length - k)
        [(0, .slice A rows.length c), (1, .slice none 0 0), (5, .int .i64 (0 : Nat)), (42, .slice A rows.length c), (43, .int .i64 (rows.length : Int)), (44, .int .i64 (0 : Nat))] rows.length ⟨0, rfl, by omega, rfl, rfl⟩ ⟨rfl, rfl, rfl, rfl, rfl, rfl, trivial⟩ ?_
      rintro _ _ m ⟨k, rfl, hk, rfl, rfl⟩
      have hlk := take_flat_le rows k
      refine wc_sr ?_; refine wl_bin rfl rfl bin_lss rfl ?_; refine wl_ns ?_; refine wc_seq ?_
      refine wc_cond rfl (fun h2 => ?_) (fun h2 => ?_)
      · obtain ⟨x, hx⟩ : ∃ x, rows[k]? = some x := ⟨_, List.getElem?_eq_getElem (by omega)⟩
        obtain ⟨us, Y, cy, hu, huk, ry, hcy⟩ := hr.at hx
        have e2 := congrArg List.length (take_flat hx)
        rw [List.length_append] at e2
        have hlk1 := take_flat_le rows (k + 1)
        refine wc_skip ?_; refine we_seq ?_; refine wc_seq ?_; refine wc_block ?_; refine wc_sr ?_; apply wl_elK (T := tyBB) (hr := hu) (hb := huk); exact rfl; exact rfl; exact rfl; exact rfl; exact rfl; intro _; refine wl_as rfl rfl ?_; refine wl_ns ?_; refine wc_seq ?_; refine wc_sr ?_; refine wl_mv rfl rfl ?_; apply wl_val; apply opv_len; exact rfl; exact tyB.sl; exact rfl; refine wl_mv rfl rfl ?_; apply wl_val; apply opv_bin; exact rfl; exact rfl; exact bin_sub64 (by omega); exact rfl; refine wl_bin rfl rfl bin_gtr rfl ?_; refine wl_ns ?_
        refine wc_cond rfl (fun h3 => ?_) (fun h3 => ?_)
        · exact absurd h3 (by omega)
        · refine wc_skip ?_; refine we_seq ?_; refine wc_region ?_; refine wl_mv rfl rfl ?_; refine wl_mv rfl rfl ?_; apply wl_val; apply opv_len; exact rfl; exact tyB.sl; exact rfl; apply wl_val; apply opv_bin; exact rfl; exact rfl; exact bin_add64 (by omega); exact rfl; refine wl_as rfl rfl ?_; refine wl_nil ?_; refine we_block_norm ?_; refine we_seq ?_; refine wc_region ?_; apply wl_val; apply opv_bin; exact rfl; exact rfl; exact bin_add64 (by omega); exact rfl; refine wl_mv rfl rfl ?_; refine wl_nil ?_
          refine we_loop [(0, .slice A rows.length c), (1, .slice none 0 0), (5, .int .i64 ((rows.take (k + 1)).flatten.length : Nat)), (42, .slice A rows.length c), (43, .int .i64 (rows.length : Int)), (44, .int .i64 ((k + 1 : Nat) : Int))] (rows.length - (k + 1)) ⟨k + 1, rfl, by omega, rfl, rfl⟩ (by omega) ⟨rfl, rfl, by rw [e2]; rfl, rfl, rfl, by simp [lookT], trivial⟩
      · obtain rfl : k = rows.length := by omega
        rw [List.take_length]
        obtain ⟨T, hT⟩ : ∃ T, rows.flatten.length = T := ⟨_, rfl⟩
        rw [hT] at hl ⊢
        obtain ⟨cs, hrunM, hle, _⟩ := Lib.run_makeNoZero (P := Try.prog) w #[3] 30 5 Try.underlying30 T (by omega)
        have hcall : (callFunc 50 #[.int .i64 (T : Int)]).run Try.prog w = .ok (.value (.slice (some ⟨w.heap.size, 0, none⟩) T cs.size)) (w.drew.drew.alloc (.cells cs 5)) := by
          rw [run_callFunc_extern Try.func50 (by kernel_rfl) (by kernel_rfl) (by kernel_rfl) (e := Extern.BytealgMakeNoZero.makeNoZero #[3] #[30]) (by kernel_rfl), hrunM]
          rfl
        clear hrunM
        obtain ⟨g, hg⟩ : ∃ g, w.heap.size = g := ⟨_, rfl⟩
        have hbA : Below g w (w.drew.drew.alloc (.cells cs 5)) := ((Below.refl g w).drew.drew).alloc (by simp [hg]) _
        have aA : Ar (w.drew.drew.alloc (.cells cs 5)) g 5 cs.toList := by
          have := Ar.new w.drew.drew 5 cs.toList
          simpa [hg] using this
        obtain ⟨w1, hw1⟩ : ∃ w1, w.drew.drew.alloc (.cells cs 5) = w1 := ⟨_, rfl⟩
        rw [hw1] at hcall hbA aA
        rw [hg] at hcall
        have hlen : cs.toList.length = cs.size := by simp
        obtain ⟨ds, hds⟩ : ∃ ds, cs.toList = ds := ⟨_, rfl⟩
        rw [hds] at aA hlen
        rw [← hlen] at hle hcall
        refine wc_exit ?_; refine we_seq_exit ?_; refine we_loop_exit ?_; refine we_block_exit ?_; refine we_seq ?_; refine wc_sr ?_; refine wl_mv rfl rfl ?_
        refine wl_val (opv_ext rfl hcall) rfl ?_
        refine wl_mv rfl rfl ?_; refine wl_mv rfl rfl ?_
        refine wl_val (opv_slice3 (h := T) tyB rfl rfl rfl hle) rfl ?_
        refine wl_as rfl rfl ?_; refine wl_ns ?_; refine wc_sr ?_; refine wl_mv rfl rfl ?_; refine wl_mv rfl rfl ?_
        have hr1 := RdBB.below hr (show Below w.heap.size w w1 by rw [hg]; exact hbA)
        obtain ⟨vs, X, cx, hv, hvk, rx, hcx⟩ := hr1.at hr0
        apply wl_elK (T := tyBB) (hr := hv) (hb := hvk); exact rfl; exact rfl; exact rfl; exact rfl; exact rfl; intro _
        refine wl_copy (off := 0) tyB rfl rfl aA rx (bvs_one _) (fun _ => rfl) (by omega) (by omega) rfl fun w2 a2 hb2 => ?_
        have hb2' := hbA.trans hb2
        rw [List.take_zero, List.nil_append, Nat.zero_add] at a2
        refine wl_as rfl rfl ?_; refine wl_ns ?_; refine wc_seq ?_; refine wc_sr ?_; refine wl_mv rfl rfl ?_
        refine wl_sl (l := 1) (h := rows.length) tyBB rfl ⟨_, rfl⟩ rfl (by omega) (by omega) rfl ?_
        apply wl_val; apply opv_len; exact rfl; exact tyBB.sl; exact rfl; refine wl_mv rfl rfl ?_; refine wl_ns ?_; refine wc_block ?_
        refine wc_loop (fun L wr m => ∃ (k : Nat) (es : List Value), L = [(1, .slice none 0 0), (8, .slice (some ⟨g, 0, none⟩) T T), (9, .int .i64 ((rows.take (k + 1)).flatten.length : Nat)), (70, .slice (cutA A c 1) (rows.length - 1) (c - 1)), (71, .int .i64 ((rows.length - 1 : Nat) : Int)), (72, .int .i64 (k : Int))] ∧ k + 1 ≤ rows.length ∧ Ar wr g 5 es ∧ es.length = ds.length ∧ es.take (rows.take (k + 1)).flatten.length = bvs (rows.take (k + 1)).flatten ∧ Below g w wr ∧ m = rows.length - k)
          [(1, .slice none 0 0), (8, .slice (some ⟨g, 0, none⟩) T T), (9, .int .i64 (r0.length : Nat)), (70, .slice (cutA A c 1) (rows.length - 1) (c - 1)), (71, .int .i64 ((rows.length - 1 : Nat) : Int)), (72, .int .i64 (0 : Nat))] rows.length
          ⟨0, bvs r0 ++ ds.drop r0.length, by rw [Nat.zero_add, hf0], by omega, a2, by simp [bvs_length]; omega, by rw [Nat.zero_add, hf0, List.take_append_of_le_length (by rw [bvs_length]; omega), List.take_of_length_le (by rw [bvs_length]; omega)], hb2', rfl⟩ ⟨rfl, rfl, rfl, rfl, rfl, rfl, trivial⟩ ?_
        rintro _ w3 m ⟨k, es, rfl, hk, a3, hel, het, hb3, rfl⟩
        have hlk := take_flat_le rows (k + 1)
        rw [hT] at hlk
        refine wc_sr ?_; refine wl_bin rfl rfl bin_lss rfl ?_; refine wl_ns ?_; refine wc_seq ?_
        refine wc_cond rfl (fun h2 => ?_) (fun h2 => ?_)
        · obtain ⟨x, hx⟩ : ∃ x, rows[k + 1]? = some x := ⟨_, List.getElem?_eq_getElem (by omega)⟩
          have hb3' : Below w.heap.size w w3 := by rw [hg]; exact hb3
          obtain ⟨us, Y, cy, hu0, huk, ry, hcy⟩ := hr.at hx
          have hu := Rd.below hu0 hb3'
          have hcut := Rd.cut (l := 1) (h := rows.length) hu (by omega) (Nat.le_refl _) hc
          have huk' : ((us.take rows.length).drop 1)[k]? = some (Value.slice Y x.length cy) := by
            rw [List.getElem?_drop, List.getElem?_take, if_pos (by omega), Nat.add_comm]; exact huk
          have e1 := take_flat hx
          have e2 := congrArg List.length e1
          rw [List.length_append] at e2
          have hlk1 := take_flat_le rows (k + 1 + 1)
          rw [hT] at hlk1
          obtain ⟨p, hp⟩ : ∃ p, (rows.take (k + 1)).flatten.length = p := ⟨_, rfl⟩
          rw [hp] at hlk e2 het ⊢
          refine wc_skip ?_; refine we_seq ?_; refine wc_seq ?_; refine wc_block ?_; refine wc_sr ?_; apply wl_elK (T := tyBB) (hr := hcut) (hb := huk'); exact rfl; exact rfl; exact rfl; exact rfl; exact rfl; intro _; refine wl_as rfl rfl ?_; refine wl_ns ?_; refine wc_sr ?_; refine wl_mv rfl rfl ?_; refine wl_mv rfl rfl ?_; refine wl_mv rfl rfl ?_
          refine wl_sl (l := p) (h := T) tyB rfl ⟨_, rfl⟩ rfl (by omega) (by omega) rfl ?_
          refine wl_mv rfl rfl ?_
          refine wl_copy (g := g) (off := p) (ys := []) tyB rfl rfl a3 (Rd.nil _ _) (by simp) (fun h => by omega) (by omega) (by omega) rfl fun w4 a4 hb4 => ?_
          rw [List.nil_append, Nat.add_zero, List.take_append_drop] at a4
          apply wl_val; apply opv_bin; exact rfl; exact rfl; exact bin_add64 (by omega); exact rfl; refine wl_as rfl rfl ?_; refine wl_ns ?_; refine wc_region ?_; refine wl_mv rfl rfl ?_; refine wl_mv rfl rfl ?_; refine wl_mv rfl rfl ?_
          refine wl_sl (l := p) (h := T) tyB rfl ⟨_, rfl⟩ rfl (by omega) (by omega) rfl ?_
          refine wl_mv rfl rfl ?_
          refine wl_copy (g := g) (off := p) tyB rfl rfl a4 (RdB.below ry (by rw [hg]; exact hb3.trans hb4)) (bvs_one _) (fun h => ?_) (by omega) (by omega) rfl fun w5 a5 hb5 => ?_
          · rw [cutA, if_neg (by omega)]; simp [Addr.add_lit]
          have hb5' := (hb3.trans hb4).trans hb5
          apply wl_val; apply opv_bin; exact rfl; exact rfl; exact bin_add64 (by omega); exact rfl; refine wl_as rfl rfl ?_; refine wl_nil ?_; refine we_block_norm ?_; refine we_seq ?_; refine wc_region ?_; apply wl_val; apply opv_bin; exact rfl; exact rfl; exact bin_add64 (by omega); exact rfl; refine wl_mv rfl rfl ?_; refine wl_nil ?_
          refine we_loop [(1, .slice none 0 0), (8, .slice (some ⟨g, 0, none⟩) T T), (9, .int .i64 ((rows.take (k + 1 + 1)).flatten.length : Nat)), (70, .slice (cutA A c 1) (rows.length - 1) (c - 1)), (71, .int .i64 ((rows.length - 1 : Nat) : Int)), (72, .int .i64 ((k + 1 : Nat) : Int))] (rows.length - (k + 1)) ⟨k + 1, _, rfl, by omega, a5, by simp [bvs_length]; omega, ?_, hb5', rfl⟩ (by omega) ⟨rfl, rfl, by rw [e2]; rfl, rfl, rfl, by simp [lookT], trivial⟩
          rw [e2, e1, bvs_append, ← het]
          rw [← List.append_assoc, List.take_append_of_le_length (by simp [bvs_length]; omega), List.take_of_length_le (by simp [bvs_length]; omega)]
        · have ek : k + 1 = rows.length := by omega
          rw [ek, List.take_length] at het
          refine wc_exit ?_; refine we_seq_exit ?_; refine we_loop_exit ?_; refine we_block_exit ?_; refine we_seq ?_; refine wc_sr ?_; refine wl_mv rfl rfl ?_; refine wl_as rfl rfl ?_; refine wl_ns ?_; refine wc_ret ?_
          refine we_ret1 rfl rfl ⟨_, rfl, some ⟨g, 0, none⟩, T, by rw [hT], .inr ⟨g, es, rfl, by omega, a3, by omega, by omega, het⟩, by rw [hg]; exact hb3⟩
end Go.Proofs.Ytdgagffieobiiaa

/-
  Walks over the sealing of records by the program.
-/
namespace Go.Proofs.Ytdgagffieobiiaa
open Go.RowKit

theorem RdBB.three' {w : World} {A A1 A2 A3 : Option Addr} {n1 n2 n3 c1 c2 c3 : Nat} {r s t : List UInt8} (h : Rd w A 3 [.slice A1 n1 c1, .slice A2 n2 c2, .slice A3 n3 c3]) (h1 : RdB w A1 r) (e1 : r.length = n1) (hc : r.length ≤ c1) (h2 : RdB w A2 s) (e2 : s.length = n2) (hc2 : s.length ≤ c2) (h3 : RdB w A3 t) (e3 : t.length = n3) (hc3 : t.length ≤ c3) : RdBB w A [r, s, t] := by
  subst e1 e2 e3; exact RdBB.three h h1 hc h2 hc2 h3 hc3
theorem crcPut_any (n : Nat) (hn : n < 4294967296) (w : World) : CallsV Try.prog 32 #[.int .u32 n] w (RetB w (four n)) := by
  refine calls_in (N := _) Try.func32 rfl Try.ntmps32 rfl ?_; show WC _ _ _ _ _ _
  refine wc_sr ?_; refine wl_as rfl rfl ?_; refine wl_ns ?_; refine wc_sr ?_; refine wl_mv rfl rfl ?_
  refine wl_val (opv_bin (b := .int .u64 (24 : Nat)) rfl rfl (bin_shr hn)) rfl ?_
  apply wl_val; apply opv_convR; exact rfl; exact Try.underlying28; exact Try.underlying5; exact IntWalk.u8_in _ (by omega); exact rfl; refine wl_mv rfl rfl ?_
  refine wl_val (opv_bin (b := .int .u64 (16 : Nat)) rfl rfl (bin_shr hn)) rfl ?_
  apply wl_val; apply opv_convR; exact rfl; exact Try.underlying28; exact Try.underlying5; exact wrap_nat rfl _; exact rfl; refine wl_mv rfl rfl ?_
  refine wl_val (opv_bin (b := .int .u64 (8 : Nat)) rfl rfl (bin_shr hn)) rfl ?_
  apply wl_val; apply opv_convR; exact rfl; exact Try.underlying28; exact Try.underlying5; exact wrap_nat rfl _; exact rfl; refine wl_mv rfl rfl ?_; apply wl_val; apply opv_convR; exact rfl; exact Try.underlying28; exact Try.underlying5; exact wrap_nat rfl _; exact rfl
  refine wl_bs (vs := [_, _, _, _]) tyB ⟨rfl, rfl, rfl, rfl, rfl, rfl, rfl, rfl, rfl, rfl, rfl, rfl, trivial⟩ rfl (by decide) rfl fun A1 w1 o1 hb1 _ => ?_
  have e0 : Value.int .u8 ((n / 2 ^ 24 : Nat) : Int) = bv (UInt8.ofNat (n / 2 ^ 24)) := by
    unfold bv; rw [UInt8.toNat_ofNat', Nat.mod_eq_of_lt (by omega)]
  rw [e0, byte_of, byte_of, byte_of] at o1
  have o2 : OwB w1 w.heap.size A1 4 (four n) := OwB.of o1 (four_length n) (by rw [four_list]; rfl)
  refine wl_as rfl rfl ?_; refine wl_ns ?_; refine wc_ret ?_
  exact we_ret1 rfl rfl ⟨_, rfl, A1, 4, by rw [four_length], o2, hb1⟩
/-- New bytes and an error are handed back. -/
def RetSN (w : World) (x : List UInt8 × Nat) (v : Value) (w' : World) : Prop :=
  ∃ (A : Option Addr) (c : Nat), v = .tuple #[.slice A x.1.length c, .int .i64 (x.2 : Int)] ∧ NwB w' w.heap.size A c x.1 ∧ Below w.heap.size w w'
theorem seal_any {A : Option Addr} {n c : Nat} {rows : List (List UInt8)} {w : World} (hr : RdBB w A rows) (hn : rows.length = n) (hc : rows.length ≤ c) (hl : rows.flatten.length ≤ 140737488355328) (hl2 : rows.length ≤ maxLen) :
    CallsV Try.prog 9 #[.slice A n c] w (RetSN w (sealB rows.flatten)) := by
  subst hn
  refine calls_in (N := _) Try.func9 rfl Try.ntmps9 rfl ?_; show WC _ _ _ _ _ _
  refine wc_sr ?_; refine wl_as rfl rfl ?_; refine wl_as rfl rfl ?_; refine wl_ns ?_; refine wc_sr ?_; refine wl_mv rfl rfl ?_
  refine wl_call ok_bytes_Join (bJoin_any hr rfl hc hl hl2) ⟨rfl, rfl, trivial⟩ rfl ?_
  obtain ⟨ys, hys⟩ : ∃ ys, rows.flatten = ys := ⟨_, rfl⟩
  rw [hys] at hl ⊢
  rintro _ w1 ⟨A1, c1, rfl, o1, hb1⟩
  have hcap := o1.cap
  refine wl_as rfl rfl ?_; refine wl_ns ?_; refine wc_seq ?_; refine wc_sr ?_; refine wl_mv rfl rfl ?_; apply wl_val; apply opv_len; exact rfl; exact tyB.sl; exact rfl; refine wl_bin rfl rfl bin_gtr rfl ?_; refine wl_ns ?_
  refine wc_cond rfl (fun h => ?_) (fun h => ?_)
  · refine wc_sr ?_; refine wl_as rfl rfl ?_; refine wl_as rfl rfl ?_; refine wl_ns ?_; refine wc_ret ?_; refine we_seq_ret ?_
    refine we_ret2 rfl rfl rfl ⟨_, rfl, ?_⟩
    rw [sealB, if_pos (by omega)]
    exact ⟨none, 0, rfl, .inl ⟨rfl, rfl, rfl⟩, hb1⟩
  · have hyl : ys.length ≤ 1048576 := by omega
    rw [sealB_ok hyl]
    refine wc_skip ?_; refine we_seq ?_; refine wc_sr ?_; refine wl_mv rfl rfl ?_; apply wl_val; apply opv_len; exact rfl; exact tyB.sl; exact rfl; apply wl_val; apply opv_convR; exact rfl; exact Try.underlying3; exact Try.underlying28; exact IntWalk.u32_in _ (by omega); exact rfl
    refine wl_call ok_crc_put (crcPut_any ys.length (by omega) w1) ⟨rfl, trivial⟩ rfl ?_
    rintro _ w2 ⟨A2, c2, rfl, o2, h2⟩
    have hc2 := o2.cap
    rw [four_length] at hc2 ⊢
    have hb2 := hb1.trans (h2.mono hb1.size)
    have r1 := RdB.below o1.rd h2
    refine wl_as rfl rfl ?_; refine wl_ns ?_; refine wc_sr ?_; refine wl_mv rfl rfl ?_; refine wl_mv rfl rfl ?_; refine wl_mv rfl rfl ?_
    refine wl_bs (vs := [_, _]) tyBB ⟨rfl, rfl, rfl, rfl, rfl, rfl, trivial⟩ rfl (by decide) rfl fun A3 w3 o3 h3 _ => ?_
    have hb3 := hb2.trans (h3.mono hb2.size)
    replace r1 := RdB.below r1 h3
    have r2 := RdB.below o2.rd h3
    have hrows := RdBB.two' o3.rd r2 (four_length _) (by rw [four_length]; exact hc2) r1 rfl hcap
    skip
    refine wl_call ok_crc_Sum (sum_any hrows rfl (by simp only [maxLen]; simp [four_length]; omega) (by simp only [maxLen]; simp)) ⟨rfl, trivial⟩ rfl ?_
    rintro _ w4 ⟨rfl, h4⟩
    have hb4 := hb3.trans (h4.mono hb3.size)
    replace r1 := RdB.below r1 h4
    replace r2 := RdB.below r2 h4
    obtain ⟨s, hs⟩ : ∃ s, crcOf [four ys.length, ys].flatten = s := ⟨_, rfl⟩
    have hs' : crcOf (four ys.length ++ ys) = s := by rw [← hs]; simp
    have hsl : s < 4294967296 := hs ▸ crcOf_lt _
    rw [hs]
    skip
    refine wl_call ok_crc_put (crcPut_any s hsl w4) ⟨rfl, trivial⟩ rfl ?_
    rintro _ w5 ⟨A5, c5, rfl, o5, h5⟩
    have hc5 := o5.cap
    rw [four_length] at hc5 ⊢
    have hb5 := hb4.trans (h5.mono hb4.size)
    replace r1 := RdB.below r1 h5
    replace r2 := RdB.below r2 h5
    refine wl_mv rfl rfl ?_
    refine wl_bs (vs := [_, _, _]) tyBB ⟨rfl, rfl, rfl, rfl, rfl, rfl, rfl, rfl, rfl, trivial⟩ rfl (by decide) rfl fun A6 w6 o6 h6 _ => ?_
    have hb6 := hb5.trans (h6.mono hb5.size)
    replace r1 := RdB.below r1 h6
    replace r2 := RdB.below r2 h6
    have r5 := RdB.below o5.rd h6
    have hrow3 := RdBB.three' o6.rd r2 (four_length _) (by rw [four_length]; exact hc2) r5 (four_length _) (by rw [four_length]; exact hc5) r1 rfl hcap
    have e3 : [four ys.length, four s, ys].flatten = crcRec ys := by rw [crcRec, hs']; simp
    refine wl_call ok_bytes_Join (bJoin_any hrow3 rfl (by simp) (by rw [e3, crcRec_length]; omega) (by simp only [maxLen]; simp)) ⟨rfl, rfl, trivial⟩ rfl ?_
    rw [e3]
    rintro _ w7 ⟨A7, c7, rfl, o7, h7⟩
    have hb7 := hb6.trans (h7.mono hb6.size)
    refine wl_as rfl rfl ?_; refine wl_as rfl rfl ?_; refine wl_ns ?_; refine wc_ret ?_
    exact we_ret2 rfl rfl rfl ⟨_, rfl, A7, c7, rfl, o7.mono hb6.size, hb7⟩
end Go.Proofs.Ytdgagffieobiiaa

/-
  Rows of bytes whose elements lie in the row's own memory or in old memory; begins.
-/
namespace Go.Proofs.Ytdgagffieobiiaa
open Go.RowKit

def elC (w0 : World) (vs : List Value) (rows : List (List UInt8)) : Ck := ⟨fun w S => vs.length = rows.length ∧ ∀ (i : Nat) (r : List UInt8), rows[i]? = some r → ∃ (A' : Option Addr) (c' : Nat), vs[i]? = some (Value.slice A' r.length c') ∧ r.length ≤ c' ∧ ((RdB w A' r ∧ ∀ a, A' = some a → 0 < r.length → S a.block) ∨ RdB w0 A' r),
  fun {w w' S S'} ⟨hl, h⟩ hz hm => ⟨hl, fun i r hi => by
    obtain ⟨A', c', h1, h2, h3⟩ := h i r hi
    refine ⟨A', c', h1, h2, h3.elim (fun ⟨k1, k2⟩ => .inl ⟨⟨k1.1, fun hn => ?_⟩, fun a ha hr => ?_⟩) .inr⟩
    · obtain ⟨b, o, hA, hb, hc⟩ := k1.2 hn
      have hk := hm b hb (k2 _ hA hn)
      exact ⟨b, o, hA, by omega, fun j u hu => (World.cell?_of_block (a := ⟨b, o + j, none⟩) hk.2).trans (hc j u hu)⟩
    · obtain ⟨b, o, hA, hb, hc⟩ := k1.2 hr
      have := k2 a ha hr
      rw [ha] at hA
      cases hA
      exact (hm b hb this).1⟩⟩
section
variable {M : BS} {w0 w : World} {H : List Cd} {A : Option Addr} {c : Nat} {vs : List Value} {rows : List (List UInt8)}
theorem elC_rd {S : BS} (h : (elC w0 vs rows).P w S) (hb : Below w0.heap.size w0 w) (hr : Rd w A rows.length vs) : RdBB w A rows := by
  refine ⟨vs, hr, fun i r hi => ?_⟩
  obtain ⟨A', c', h1, h2, h3⟩ := h.2 i r hi
  exact ⟨A', c', h1, h3.elim (fun k => k.1) fun k => k.below hb, h2⟩
theorem St.bb (hs : St NoB w0 w H) (i j : Nat) (hi : nthC H i = some (.ow 30 A rows.length c vs)) (hj : nthC H j = some (.ck (elC w0 vs rows))) : RdBB w A rows := by
  obtain ⟨T, hc, _⟩ := hs.get j hj
  exact elC_rd hc hs.bel (hs.ow i hi).rd
end
theorem RdBB.cut' {w : World} {A : Option Addr} {c : Nat} {rows : List (List UInt8)} (h : RdBB w A rows) {j : Nat} (hj : j ≤ rows.length) (hc : rows.length ≤ c) : RdBB w (cutA A c 0) (rows.take j) := by
  obtain ⟨vs, hv, hr⟩ := h
  refine ⟨vs.take j, ?_, fun i r hi => ?_⟩
  · have := Rd.cut (l := 0) (h := j) (c := c) hv (Nat.zero_le _) hj hc
    rw [List.drop_zero, Nat.sub_zero] at this
    rw [List.length_take, Nat.min_eq_left hj]
    exact this
  · rw [List.getElem?_take] at hi
    split at hi
    · rename_i hlt
      obtain ⟨A', c', h1, h2, h3⟩ := hr i r hi
      exact ⟨A', c', by rw [List.getElem?_take, if_pos hlt]; exact h1, h2, h3⟩
    · cases hi
end Go.Proofs.Ytdgagffieobiiaa

/-
  Bytes marked as a constant's; new bytes that a call hands back, as a piece; what a disk with one file keeps.
-/
namespace Go.Proofs.Ytdgagffieobiiaa
open Go.RowKit

theorem ow_capD {w : World} {A : Option Addr} {n c base : Nat} {e : TypeId} {xs : List Value} (h : Ow w base e A n c xs) : n ≤ c := by
  rcases h.2 with ⟨hv, hn⟩ | ⟨g, cap, cur, hv, _, _, hnc, _⟩
  · omega
  · injection hv with _ _ hc; omega
variable {P : Program} {N : Nat} {ops : Array Oper} {Q : Exit → Act → World → Prop} {rest : List Oper} {L : FL} {w0 w : World} {M : BS} {H : List Cd} {t e : TypeId} {bytes : Nat}
/-- Bytes that are read, in memory of their own. -/
def rdC (A : Option Addr) (xs : List UInt8) : Ck := ⟨fun w S => RdB w A xs ∧ ∀ a, A = some a → 0 < xs.length → S a.block, fun {w w' S S'} ⟨k1, k2⟩ hz hm => ⟨⟨k1.1, fun hn => by
    obtain ⟨b, o, hA, hb, hc⟩ := k1.2 hn
    exact ⟨b, o, hA, by omega, fun j u hu => (World.cell?_of_block (a := ⟨b, o + j, none⟩) (hm b hb (k2 _ hA hn)).2).trans (hc j u hu)⟩⟩, fun a ha hr => by
    obtain ⟨b, o, hA, hb, hc⟩ := k1.2 hr
    have := k2 a ha hr
    rw [ha] at hA
    cases hA
    exact (hm b hb this).1⟩⟩
theorem NwB.lt {w : World} {base c : Nat} {A : Option Addr} {xs : List UInt8} (h : NwB w base A c xs) : ∀ a, A = some a → base ≤ a.block := by
  intro a ha
  rcases h with ⟨rfl, _⟩ | ⟨g, cs, rfl, hb, _⟩
  · cases ha
  · cases ha; exact hb
section
variable {M : BS} {w0 w w' : World} {H : List Cd} {A : Option Addr} {c : Nat} {xs : List UInt8}
theorem St.newR (hs : St M w0 w H) (hb : Below w.heap.size w w') (h : NwB w' w.heap.size A c xs) : St M w0 w' (.ck (rdC A xs) :: H) :=
  hs.new (T := fun b => w.heap.size ≤ b) (c := .ck (rdC A xs)) hb ⟨h.rd, fun a ha _ => h.lt a ha⟩ fun b _ h => h
theorem Sat.rdc {S : BS} (h : Sat w H S) {i : Nat} (hi : nthC H i = some (.ck (rdC A xs))) : RdB w A xs := by
  obtain ⟨T, _, hc, _⟩ := h.front hi
  exact hc.1
end
theorem app_ok {d : Dk} {n b : List UInt8} {f : Fl} (hok : DkOk d) (h : d.fs = [(n, f)]) (hd : d.dead = false) (hr : f.data.length + b.length ≤ d.room) : DkOk (appD d n b).1 := by
  obtain ⟨h1, h2, h3⟩ := app_one h hd hr
  have hsf := hok.safe (n, f) (by rw [h]; exact List.mem_cons_self)
  refine ⟨?_, by rw [h2]; exact hok.room, by rw [h1, h2]; simp [used]; omega, ?_⟩
  · intro p hp
    rw [h1] at hp
    rw [List.mem_singleton] at hp
    subst hp
    simp at hsf ⊢; omega
  · unfold appD
    dsimp only
    obtain ⟨e, he⟩ : ∃ e, (if d.room < used d.fs + b.length then 8 else 0) = e := ⟨_, rfl⟩
    rw [he]
    have ht := (hok.turn e).left
    split
    · exact ht
    · exact ht
theorem sync_ok {d : Dk} {n : List UInt8} {f : Fl} (hok : DkOk d) (h : d.fs = [(n, f)]) (hd : d.dead = false) : DkOk (syncD d n).1 := by
  obtain ⟨h2, h3⟩ := sync_one h hd
  have hsf := hok.safe (n, f) (by rw [h]; exact List.mem_cons_self)
  have hus := hok.used
  rw [h] at hus
  have hfs : ∃ s, s ≤ f.data.length ∧ (syncD d n).1.fs = [(n, ⟨f.data, s⟩)] := by
    rcases h3 with ⟨_, _, h⟩ | ⟨_, h⟩
    · exact ⟨_, Nat.le_refl _, h⟩
    · exact ⟨f.safe, hsf, h⟩
  obtain ⟨s, hs, hfs⟩ := hfs
  refine ⟨?_, by rw [h2]; exact hok.room, by rw [hfs, h2]; exact hus, ?_⟩
  · intro p hp
    rw [hfs] at hp
    rw [List.mem_singleton] at hp
    subst hp
    exact hs
  · have ht := (hok.turn (thereD d n)).left
    unfold syncD
    dsimp only
    split
    · exact ht
    · exact ht
theorem take_recs (l : List (List UInt8)) (m k : Nat) (hk : (recs (l.take m)).length ≤ k) : ((recs l).take k).take (recs (l.take m)).length = recs (l.take m) := by
  rw [List.take_take, Nat.min_eq_left hk]
  have e : recs l = recs (l.take m) ++ recs (l.drop m) := by rw [← recs_append, List.take_append_drop]
  exact (congrArg (List.take _) e).trans List.take_left
end Go.Proofs.Ytdgagffieobiiaa
