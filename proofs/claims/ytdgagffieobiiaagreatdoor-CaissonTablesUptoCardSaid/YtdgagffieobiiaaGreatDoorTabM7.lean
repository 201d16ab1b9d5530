/-
  The texts of this proof, joined: Kb, Kc, Kd, Ke, Yc, Mu, Mv, Bm, T6, T7, T8, T9, TA, TB, TC, TD, TE, TF, TG, TH, TI, TJ.
-/
import Derived.Test.YtdgagffieobiiaaGreatDoorTabM6
import Derived.Test.YtdgagffieobiiaaGreatDoorTabM2
import Derived.Test.YtdgagffieobiiaaGreatDoorTabM3
import Derived.Test.YtdgagffieobiiaaGreatDoorTabM4
import Derived.Test.YtdgagffieobiiaaGreatDoorTabM5

/-
  Walks over the reference's mark, Spare, Kept and Over.
-/
namespace Go.Proofs.YtdgagffieobiiaaGreatDoor
open Go.RowKit

section
variable {P : Program} {N : Nat} {ops : Array Oper} {Q : Exit → Act → World → Prop} {rest : List Oper} {L : FL} {w : World} {t e : TypeId} {z : Value} {bytes : Nat}
/-- A row of the call's own as a block that is known whole. -/
theorem Ow.ar {base n : Nat} {A : Option Addr} {xs : List Value} (h : Ow w base e A n n xs) (hn : 0 < n) : ∃ g, A = some ⟨g, 0, none⟩ ∧ base ≤ g ∧ Ar w g e xs := by
  rcases h.2 with ⟨_, h0⟩ | ⟨g, cap, cur, hv, hb, hg, hnc, _, hs, ht⟩
  · omega
  · injection hv with hA hn' hc
    subst hc
    refine ⟨g, hA, hb, ?_⟩
    rw [List.take_of_length_le (by simp; omega)] at ht
    subst ht
    simpa [Ar] using hg
theorem Ar.rd {g n : Nat} {cs : List Value} (h : Ar w g e cs) (hn : n ≤ cs.length) : Rd w (some ⟨g, 0, none⟩) n (cs.take n) := ⟨by simp; omega, fun _ => ⟨g, 0, rfl, h.lt, fun j u hu => by
  rw [h.cell, Nat.zero_add]
  rw [List.getElem?_take] at hu
  split at hu
  · exact hu
  · cases hu⟩⟩
end

end Go.Proofs.YtdgagffieobiiaaGreatDoor

/-
  The walk over the reference's Apart: lists that each lie at the head of a block of their own are told to be apart.
-/
namespace Go.Proofs.YtdgagffieobiiaaGreatDoor
open Go.RowKit

section
variable {w w' w0 w1 : World} {A A' : Option Addr} {vs : List Value} {base n c i j : Nat}
theorem Own1.hd (h : Own1 w base vs) (hv : vs[i]? = some (.slice A n c)) : Hd w base A n c ∧ n ≤ 1099511627776 := by
  obtain ⟨A', n', c', e, h1, h2⟩ := h.at hv
  injection e with hA hn hc
  subst hA hn hc
  exact ⟨h1, h2⟩
theorem Own1.lt (h : Own1 w base vs) {v : Value} {g : Nat} (hv : v ∈ vs) (hg : v.ownBlock = some g) : g < w.heap.size ∧ base ≤ g := by
  obtain ⟨A, n, c, rfl, hd, _⟩ := h.1 v hv
  rw [ownBlock_slice] at hg
  rcases hd with ⟨rfl, _⟩ | ⟨g', cs, rfl, hb, ha, _⟩
  · simp at hg
  · simp at hg; subst hg; exact ⟨ha.lt, hb⟩
theorem Rd.cellAt {b o N : Nat} {v : Value} (h : Rd w (some ⟨b, o, none⟩) N vs) (hv : vs[i]? = some v) : w.cell? ⟨b, o + i, none⟩ = some v := by
  have hl := (List.getElem?_eq_some_iff.1 hv).1
  obtain ⟨b', o', e, _, hc⟩ := h.2 (by have := h.1; omega)
  injection e with e
  injection e with e1 e2
  subst e1 e2
  exact hc i v hv
theorem MkB.cs {b : Nat} {cs : List Value} (h : MkB w b i n) (ha : Ar w b 5 cs) : n ≤ cs.length ∧ ∀ j, j < n → cs[j]? = some (mk i j) := by
  obtain ⟨ds, hd, h1, h2⟩ := h
  have e : ds = cs := by
    unfold Ar at ha hd
    rw [ha] at hd
    simp only [Option.some.injEq, Obj.cells.injEq] at hd
    have := congrArg Array.toList hd.1
    simpa using this.symm
  subst e
  exact ⟨h1, h2⟩
theorem MkB.take {b : Nat} {cs : List Value} (h : MkB w b i n) (ha : Ar w b 5 cs) : cs.take n = bvs (mkl i n) := by
  obtain ⟨h1, h2⟩ := h.cs ha
  refine List.ext_getElem? fun j => ?_
  rw [List.getElem?_take, bvs, List.getElem?_map]
  by_cases hj : j < n
  · rw [if_pos hj, mkl_get hj, h2 j hj]; rfl
  · rw [if_neg hj, List.getElem?_eq_none (by rw [mkl_length]; omega)]; rfl
theorem MkB.set {b : Nat} {cs : List Value} (h : MkB w b i j) (ha : Ar w b 5 cs) (hj : j < cs.length) (ha' : Ar w' b 5 (cs.set j (mk i j))) : MkB w' b i (j + 1) := by
  obtain ⟨_, h2⟩ := h.cs ha
  refine ⟨_, ha', by simp; omega, fun j' hj' => ?_⟩
  rw [List.getElem?_set]
  by_cases he : j = j'
  · subst he; simp [hj]
  · rw [if_neg he]; exact h2 j' (by omega)
/-- Marks from place n on. -/
def mkt (i n m : Nat) : List UInt8 := (List.range m).map fun k => mkb i (n + k)
theorem mkt_length {m : Nat} : (mkt i n m).length = m := by simp [mkt]
theorem mkt_get {m k : Nat} (h : k < m) : (mkt i n m)[k]? = some (mkb i (n + k)) := by simp [mkt, h]
theorem MkB.app {b m : Nat} {cs : List Value} (h : MkB w b i n) (ha : Ar w b 5 cs) (hm : n + m ≤ cs.length) (ha' : Ar w' b 5 (cs.take n ++ (bvs (mkt i n m) ++ cs.drop (n + m)))) : MkB w' b i (n + m) := by
  obtain ⟨h1, h2⟩ := h.cs ha
  refine ⟨_, ha', by simp [bvs_length, mkt_length]; omega, fun j hj => ?_⟩
  have hl : (cs.take n).length = n := by simp; omega
  by_cases h : j < n
  · rw [List.getElem?_append_left (by omega), List.getElem?_take, if_pos h]; exact h2 j h
  · rw [List.getElem?_append_right (by omega), hl, List.getElem?_append_left (by rw [bvs_length, mkt_length]; omega), bvs, List.getElem?_map, mkt_get (by omega), show n + (j - n) = j by omega]; rfl
theorem Mx.succ (h : Mx w vs i) (hv : vs[i]? = some (.slice A n c)) (hm : ∀ a, A = some a → MkB w a.block i n) : Mx w vs (i + 1) := fun k A' n' c' hk hv' => by
  by_cases he : k = i
  · subst he
    rw [hv] at hv'
    simp only [Option.some.injEq] at hv'
    injection hv' with hA hn hc
    subst hn
    exact hm A' hA
  · exact h k A' n' c' (by omega) hv'
theorem Sk.far {X : Option Nat} (h : Sk w w1 X i) (hs : w.heap.size ≤ w1.heap.size) (g : Gr w1 w' A') (hA : ∀ a, A' = some a → w.heap.size ≤ a.block) : Sk w w' X i := fun b cs ha => by
  obtain ⟨cs', a1, l1, r⟩ := h b cs ha
  refine ⟨cs', ?_, l1, r⟩
  unfold Ar
  rw [g.block b a1.lt fun hk => ?_]
  · exact a1
  · cases A' with
    | none => simp at hk
    | some a => simp at hk; have := hA a rfl; have := ha.lt; omega
theorem Gr.far (h : Gr w w1 A) (g : Gr w1 w' A') (hA : ∀ a, A' = some a → w.heap.size ≤ a.block) : Gr w w' A :=
  ⟨g.os.trans h.os, g.tape.trans h.tape, g.output.trans h.output, Nat.le_trans h.size g.size, fun k hk hne => by
    rw [← h.block k hk hne]
    refine g.block k (Nat.lt_of_lt_of_le hk h.size) fun hk' => ?_
    cases A' with
    | none => simp at hk'
    | some a => simp at hk'; have := hA a rfl; omega⟩
theorem Gr.bel (h : Gr w w1 A) (g : Below w1.heap.size w1 w') : Gr w w' A := h.far (Gr.of_below none g (Nat.le_refl _)) (by simp)
/-- What stands of all that is followed. -/
def Sd (w0 w : World) (base : Nat) (vs : List Value) (N : Nat) (P : Option Addr) (cp : Nat) (gs : List Value) : Prop :=
  Own1 w base vs ∧ Mx w vs N ∧ Kp w0 w vs ∧ Ow w w0.heap.size 28 P gs.length cp gs ∧ ∀ k v, gs[k]? = some v → Gd w vs (k % N) v
variable {N cp : Nat} {P : Option Addr} {gs : List Value}
theorem Sd.bel (h : Sd w0 w base vs N P cp gs) (hb : Below w.heap.size w w') : Sd w0 w' base vs N P cp gs := by
  obtain ⟨h1, h2, h3, h4, h5⟩ := h
  refine ⟨h1.st (X := none) (k := 0) (Sk.bel hb), h2.bel hb, h3.bel hb, Ow.below h4 hb (Nat.le_refl _), fun k v hv => ?_⟩
  obtain ⟨b, n, c, e, hn, hn2, hm, ht⟩ := h5 k v hv
  exact ⟨b, n, c, e, hn, hn2, hm.st (X := none) (k := 0) (Sk.bel hb) (by simp), ht⟩
/-- A step that writes marks of list i into its own block alone. -/
theorem Sd.gr (h : Sd w0 w base vs N P cp gs) (hv : vs[i]? = some (.slice A n c)) (s : Sk w w' (A.map (·.block)) i) (g : Gr w w' A) (hv0 : ∀ a, A = some a → a.block < w0.heap.size) : Sd w0 w' base vs N P cp gs := by
  obtain ⟨h1, h2, h3, h4, h5⟩ := h
  refine ⟨h1.st s, h2.st h1 hv s, h3.gr g fun a ha _ => ⟨_, List.mem_of_getElem? hv, by rw [ha]; rfl⟩, Ow.gr (base' := 0) (e' := 0) h4 g fun a b ha hb => ?_, fun k v hk => (h5 k v hk).st hv s⟩
  have := (Ow.lt h4 a ha).1
  have := hv0 b hb
  omega
theorem Sd.push {cp' : Nat} {P' : Option Addr} {v : Value} (h : Sd w0 w base vs N P cp gs) (ho : Ow w' w0.heap.size 28 P' (gs.length + 1) cp' (gs ++ [v])) (g : Gr w w' P) (hg : Gd w vs (gs.length % N) v) : Sd w0 w' base vs N P' cp' (gs ++ [v]) := by
  obtain ⟨h1, h2, h3, h4, h5⟩ := h
  have s : ∀ k, Sk w w' none k := fun k => by
    rcases h4.2 with ⟨hv, _⟩ | ⟨g', cap, cur, hv, _, hg', _⟩
    · injection hv with hA
      subst hA
      exact Sk.other (g := 0) (t := 28) (cs := []) g (by simp) (.inl rfl) (by decide)
    · injection hv with hA
      subst hA
      exact Sk.other (g := g') (t := 28) (cs := cur.toList) g (by intro a ha; cases ha; rfl) (.inr (by simpa [Ar] using hg')) (by decide)
  have hk : ∀ {m : Nat} {u : Value}, Gd w vs m u → Gd w' vs m u := fun {m u} hgd => by
    obtain ⟨b, n, c, e, hn, hn2, hm, ht⟩ := hgd
    exact ⟨b, n, c, e, hn, hn2, hm.st (s 0) (by simp), ht⟩
  refine ⟨h1.st (s 0), fun k A n c hk hv => (h2 k A n c hk hv).st (s 0) (by simp), h3.gr g fun a ha hlt => ?_, by rw [List.length_append]; exact ho, fun k u hu => ?_⟩
  · have := (Ow.lt h4 a ha).1; omega
  · rw [List.getElem?_append] at hu
    split at hu
    · exact hk (h5 k u hu)
    · have hk0 : k = gs.length := by
        have := (List.getElem?_eq_some_iff.1 hu).1
        simp at this; omega
      subst hk0
      simp at hu
      subst hu
      exact hk hg
end
end Go.Proofs.YtdgagffieobiiaaGreatDoor

/-
  The walk over the reference's Apart.
-/
namespace Go.Proofs.YtdgagffieobiiaaGreatDoor
open Go.RowKit

end Go.Proofs.YtdgagffieobiiaaGreatDoor

/-
  Words for the laws that say that answers are memory of their own: what is answered is gathered in a list, each in a block of its own, and stays so.
-/
namespace Go.Proofs.YtdgagffieobiiaaGreatDoor
open Go.RowKit

/-- The slices of a list read as these rows. -/
def RdV (w : World) (vs : List Value) (rows : List (List UInt8)) : Prop :=
  vs.length = rows.length ∧ ∀ (i : Nat) (r : List UInt8), rows[i]? = some r → ∃ (A' : Option Addr) (c' : Nat), vs[i]? = some (Value.slice A' r.length c') ∧ RdB w A' r ∧ r.length ≤ c'
section
variable {w w' w0 : World} {A B : Option Addr} {vs vs' l1 l2 : List Value} {rows rows' : List (List UInt8)} {base b n c m : Nat}
theorem RdV.rd (h : RdV w vs rows) (hr : Rd w A n vs) (hn : rows.length = n) : RdBB w A rows := by subst hn; exact ⟨vs, hr, h.2⟩
theorem RdV.nil : RdV w [] [] := ⟨rfl, by simp⟩
theorem RdV.cons {r : List UInt8} (h : RdV w vs rows) (hr : RdB w A r) (hn : r.length = n) (hc : r.length ≤ c) : RdV w (.slice A n c :: vs) (r :: rows) := by
  subst hn
  refine ⟨by simp [h.1], fun i q hi => ?_⟩
  cases i with
  | zero => simp only [List.getElem?_cons_zero, Option.some.injEq] at hi; subst hi; exact ⟨A, c, rfl, hr, hc⟩
  | succ i => simpa using h.2 i q (by simpa using hi)
theorem RdV.append (h : RdV w vs rows) (h' : RdV w vs' rows') : RdV w (vs ++ vs') (rows ++ rows') := by
  refine ⟨by simp [h.1, h'.1], fun i q hi => ?_⟩
  rw [List.getElem?_append] at hi
  split at hi
  · rename_i hl
    rw [List.getElem?_append_left (by rw [h.1]; exact hl)]; exact h.2 i q hi
  · rename_i hl
    rw [List.getElem?_append_right (by rw [h.1]; omega), h.1]; exact h'.2 _ q hi
theorem RdV.bel (h : RdV w vs rows) (hb : Below w.heap.size w w') : RdV w' vs rows := ⟨h.1, fun i r hi => by
  obtain ⟨A', c', h1, h2, h3⟩ := h.2 i r hi
  exact ⟨A', c', h1, h2.below hb, h3⟩⟩
theorem RdV.gr (h : RdV w vs rows) (g : Gr w w' B) (hne : ∀ b, B = some b → ∀ v ∈ vs, v.ownBlock ≠ some b.block) : RdV w' vs rows := ⟨h.1, fun i r hi => by
  obtain ⟨A', c', h1, h2, h3⟩ := h.2 i r hi
  refine ⟨A', c', h1, Rd.gr h2 g fun a b ha hb => ?_, h3⟩
  have := hne b hb _ (List.mem_of_getElem? h1)
  rw [ownBlock_slice, ha] at this
  simpa using this⟩

theorem Own1.nil : Own1 w base [] := ⟨by simp, List.Pairwise.nil⟩
theorem Own1.bel (h : Own1 w base vs) (hb : Below w.heap.size w w') : Own1 w' base vs := h.st (X := none) (k := 0) (Sk.bel hb)
theorem Own1.mono {base' : Nat} (h : Own1 w base vs) (hb : base' ≤ base) : Own1 w base' vs := ⟨fun v hv => by
  obtain ⟨A, n, c, e, hd, hn⟩ := h.1 v hv
  refine ⟨A, n, c, e, ?_, hn⟩
  rcases hd with hd | ⟨g, cs, e1, e2, e3⟩
  · exact .inl hd
  · exact .inr ⟨g, cs, e1, Nat.le_trans hb e2, e3⟩, h.2⟩
theorem Own1.one (h : Hd w base A n c) (hn : n ≤ 1099511627776) : Own1 w base [.slice A n c] := ⟨by intro v hv; simp at hv; subst hv; exact ⟨A, n, c, rfl, h, hn⟩, by simp⟩
theorem own_symm {v v' : Value} (h : ∀ g, v.ownBlock = some g → v'.ownBlock ≠ some g) : ∀ g, v'.ownBlock = some g → v.ownBlock ≠ some g := fun g h1 h2 => h g h2 h1
/-- New lists are put between the others. -/
theorem Own1.ins (h : Own1 w base (l1 ++ l2)) (hb : Below w.heap.size w w') (h' : Own1 w' w.heap.size vs) (hbase : base ≤ w.heap.size) : Own1 w' base (l1 ++ (vs ++ l2)) := by
  have hk := h.bel hb
  have hp : (vs ++ l2 ++ l1).Pairwise fun v v' => ∀ g, v.ownBlock = some g → v'.ownBlock ≠ some g := by
    rw [List.append_assoc, List.pairwise_append]
    refine ⟨h'.2, ?_, fun v hv v' hv' g hg hg' => ?_⟩
    · have := h.2
      rw [List.pairwise_append] at this ⊢
      exact ⟨this.2.1, this.1, fun a ha b hb' => own_symm (this.2.2 b hb' a ha)⟩
    · have h1 := (h'.lt hv hg).2
      have h2 := (h.lt (show v' ∈ l1 ++ l2 by simp at hv' ⊢; exact hv'.symm) hg').1
      omega
  refine ⟨fun v hv => ?_, ?_⟩
  · simp only [List.mem_append] at hv
    rcases hv with hv | hv | hv
    · exact hk.1 v (by simp [hv])
    · exact (h'.mono hbase).1 v hv
    · exact hk.1 v (by simp [hv])
  · rw [List.pairwise_append] at hp ⊢
    exact ⟨hp.2.1, hp.1, fun a ha b hb' => own_symm (hp.2.2 b hb' a ha)⟩
/-- One new list is put at place k of the others. -/
theorem Own1.add {l : List Value} (k : Nat) (h : Own1 w base l) (hb : Below w.heap.size w w') (h' : Hd w' w.heap.size A n c) (hn : n ≤ 1099511627776) (hbase : base ≤ w.heap.size) : Own1 w' base (l.take k ++ .slice A n c :: l.drop k) :=
  Own1.ins (l1 := l.take k) (l2 := l.drop k) (by rw [List.take_append_drop]; exact h) hb (Own1.one h' hn) hbase
theorem OwBB.own (h : OwBB w base A c rows) (hl : rows.flatten.length ≤ 1099511627776) : ∃ vs, Ow w base 28 A rows.length c vs ∧ RdV w vs rows ∧ Own1 w base vs := by
  obtain ⟨vs, ho, hr, hp⟩ := h
  refine ⟨vs, ho, ⟨ho.len, fun i r hi => ?_⟩, fun v hv => ?_, hp⟩
  · obtain ⟨A', c', h1, h2, _⟩ := hr i r hi
    exact ⟨A', c', h1, OwB.rd h2, h2.cap⟩
  · obtain ⟨i, hi, rfl⟩ := List.getElem_of_mem hv
    have hil : i < rows.length := by have := ho.len; omega
    obtain ⟨A', c', h1, h2, _⟩ := hr i _ (List.getElem?_eq_getElem hil)
    rw [List.getElem?_eq_getElem hi] at h1
    simp only [Option.some.injEq] at h1
    have hm : rows[i].length ≤ rows.flatten.length := flat_mem (List.getElem?_eq_getElem hil)
    exact ⟨A', _, c', h1, h2.nw.hd, by omega⟩
theorem own_ar {xs : List Value} (h : Ow w b 28 A n c xs) {a : Addr} (ha : A = some a) : ∃ cs, Ar w a.block 28 cs := by
  rcases h.2 with ⟨hv, _⟩ | ⟨g', cap, cur, hv, _, hg', _⟩
  · injection hv with hA; rw [ha] at hA; cases hA
  · injection hv with hA; rw [ha] at hA; cases hA
    exact ⟨cur.toList, by simpa [Ar] using hg'⟩
theorem ar_type {g : Nat} {t t' : TypeId} {cs cs' : List Value} (h : Ar w g t cs) (h' : Ar w g t' cs') : t = t' := by
  unfold Ar at h h'
  rw [h] at h'
  simp only [Option.some.injEq, Obj.cells.injEq] at h'
  exact h'.2.1
theorem Own1.row_ne {xs : List Value} (h : Own1 w base vs) (ho : Ow w b 28 A n c xs) : ∀ a, A = some a → ∀ v ∈ vs, v.ownBlock ≠ some a.block := fun a ha v hv hg => by
  obtain ⟨ds, hd⟩ := own_ar ho ha
  obtain ⟨A', n', c', rfl, hh, _⟩ := h.1 v hv
  rw [ownBlock_slice] at hg
  rcases hh with ⟨rfl, _⟩ | ⟨g, cs, rfl, _, har, _⟩
  · simp at hg
  · simp at hg; subst hg
    exact absurd (ar_type har hd) (by decide)
theorem Own1.row {xs : List Value} (h : Own1 w base vs) (ho : Ow w b 28 A n c xs) (g : Gr w w' A) : Own1 w' base vs := by
  refine h.st (X := none) (k := 0) ?_
  cases A with
  | none => exact Sk.other (g := 0) (t := 28) (cs := []) g (by simp) (.inl rfl) (by decide)
  | some a =>
    obtain ⟨ds, hd⟩ := own_ar ho rfl
    exact Sk.other (g := a.block) (t := 28) (cs := ds) g (by intro a' ha; cases ha; rfl) (.inr hd) (by decide)
/-- Bytes of one block change, and none other. -/
theorem Own1.sz {g : Nat} {cs cs' : List Value} (h : Own1 w base vs) (hg : Gr w w' (some ⟨g, 0, none⟩)) (ha : Ar w g 5 cs) (ha' : Ar w' g 5 cs') (hl : cs'.length = cs.length) : Own1 w' base vs := ⟨fun v hv => by
  obtain ⟨A, n, c, e, hd, hn⟩ := h.1 v hv
  refine ⟨A, n, c, e, ?_, hn⟩
  rcases hd with hd | ⟨g', ds, e1, e2, e3, e4, e5⟩
  · exact .inl hd
  · by_cases hgg : g' = g
    · subst hgg
      have : ds = cs := by
        unfold Ar at ha e3
        rw [ha] at e3
        simp only [Option.some.injEq, Obj.cells.injEq] at e3
        have := congrArg Array.toList e3.1
        simpa using this.symm
      subst this
      exact .inr ⟨g', cs', e1, e2, ha', e4, by omega⟩
    · refine .inr ⟨g', ds, e1, e2, ?_, e4, e5⟩
      unfold Ar
      rw [hg.block g' e3.lt (by simp; exact hgg)]
      exact e3, h.2⟩
/-- Where another block has changed. -/
theorem Ar.gr {g g' : Nat} {t : TypeId} {cs : List Value} (h : Ar w g t cs) (hg : Gr w w' (some ⟨g', 0, none⟩)) (hne : g ≠ g') : Ar w' g t cs := by
  unfold Ar
  rw [hg.block g h.lt (by simp; exact hne)]
  exact h
theorem OwBB.gr {g : Nat} (h : OwBB w base A c rows) (hg : Gr w w' (some ⟨g, 0, none⟩)) (hlt : g < base) : OwBB w' base A c rows := by
  obtain ⟨vs, ho, hr, hp⟩ := h
  refine ⟨vs, Ow.gr (base' := 0) (e' := 0) ho hg fun a b ha hb => ?_, fun i r hi => ?_, hp⟩
  · have := (Ow.lt ho a ha).1; cases hb; simp; omega
  · obtain ⟨A', c', h1, h2, h3⟩ := hr i r hi
    refine ⟨A', c', h1, Ow.gr (base' := 0) (e' := 0) h2 hg fun a b ha hb => ?_, h3⟩
    have := (Ow.lt h2 a ha).1; cases hb; simp; omega
/-- What has been gathered, ahead of the last test. -/
def Fin (w : World) (base : Nat) (vs ts : List Value) (rows : List (List UInt8)) (bA : Nat) (A : Option Addr) (n c : Nat) (bW : Nat) (W : Option Addr) (cW : Nat) : Prop :=
  Own1 w base (vs ++ ts) ∧ RdV w vs rows ∧ Ow w bA 28 A n c vs ∧ OwBB w bW W cW rows
theorem Fin.bel {ts : List Value} {bA bW cW : Nat} {W : Option Addr} (h : Fin w base vs ts rows bA A n c bW W cW) (hb : Below w.heap.size w w') : Fin w' base vs ts rows bA A n c bW W cW :=
  ⟨h.1.bel hb, h.2.1.bel hb, Ow.below h.2.2.1 hb (Nat.le_refl _), h.2.2.2.below hb⟩
theorem Fin.over {ts : List Value} {bA bW cW g : Nat} {W : Option Addr} {cs cs' : List Value} {v : Value} (h : Fin w base vs ts rows bA A n c bW W cW) (hg : Gr w w' (some ⟨g, 0, none⟩)) (ha : Ar w g 5 cs) (ha' : Ar w' g 5 cs') (hl : cs'.length = cs.length)
    (hv : v ∈ ts) (hvb : v.ownBlock = some g) (h1 : g < bA) (h2 : g < bW) : Fin w' base vs ts rows bA A n c bW W cW := by
  obtain ⟨o, r, a, W⟩ := h
  have hp := o.2
  rw [List.pairwise_append] at hp
  refine ⟨o.sz hg ha ha' hl, r.gr hg fun b hb u hu hc => hp.2.2 u hu v hv g ?_ hvb, Ow.gr (base' := 0) (e' := 0) a hg fun a' b ha' hb => ?_, W.gr hg h2⟩
  · cases hb; exact hc
  · have := (Ow.lt a a' ha').1; cases hb; simp; omega
end
end Go.Proofs.YtdgagffieobiiaaGreatDoor

/-
  Pieces of bytes that lie apart, told for the test of the reference's Apart.
-/
namespace Go.Proofs.YtdgagffieobiiaaGreatDoor
open Go.RowKit

/-- Pieces of bytes and their slices. -/
inductive ByP : List Cd → List Value → Prop
  | nil : ByP [] []
  | cons {A : Option Addr} {n c : Nat} {xs : List Value} {H : List Cd} {vs : List Value} : n ≤ 1099511627776 → ByP H vs → ByP (.ow 5 A n c xs :: H) (.slice A n c :: vs)
  | jk {A : Option Addr} {n c : Nat} {H : List Cd} {vs : List Value} : n ≤ 1099511627776 → ByP H vs → ByP (.ck (jk A n c) :: H) (.slice A n c :: vs)
theorem ByP.append {H H' : List Cd} {vs vs' : List Value} (h : ByP H vs) (h' : ByP H' vs') : ByP (H ++ H') (vs ++ vs') := by
  induction h with
  | nil => exact h'
  | cons hn _ ih => exact .cons hn ih
  | jk hn _ ih => exact .jk hn ih
end Go.Proofs.YtdgagffieobiiaaGreatDoor

/-
  Walk over the law MemKeeps.
-/
namespace Go.Proofs.YtdgagffieobiiaaGreatDoor
open Go.RowKit

theorem sorted_mem7 {l : List En} {p : En → Prop} (h : ∀ x ∈ l, p x) : (sortedE l).length ≤ l.length ∧ ∀ x ∈ sortedE l, p x := by
  have := fold_facts h l.length
  rw [List.take_length] at this
  exact this
theorem lessE_asym7 {a b : En} (h : lessE a b = true) : lessE b a = false := by
  cases h2 : lessE b a with
  | false => rfl
  | true => have := lessE_trans h h2; rw [lessE_irr] at this; cases this
theorem pos_end7 {l : List En} {x : En} (h : ∀ y ∈ l, lessE y x = true) : posE l x l.length = l.length := by
  cases hl : l.length with
  | zero => rfl
  | succ k =>
    obtain ⟨y, hy⟩ : ∃ y, l[k]? = some y := ⟨_, List.getElem?_eq_getElem (by omega)⟩
    have h1 := lessE_asym7 (h y (List.mem_of_getElem? hy))
    rw [posE, hy]; simp [h1]
/-- What stands behind all others is put in at the end. -/
theorem ins_end7 {l : List En} {x : En} (h : ∀ y ∈ l, lessE y x = true) : inE l x = false ∧ insE l x = l ++ [x] := by
  refine ⟨List.any_eq_false.2 fun y hy => ?_, by rw [insE, pos_end7 h, List.take_length, List.drop_length, List.append_nil]⟩
  have := h y hy
  simp only [decide_eq_true_eq, not_and]
  intro hk hs
  rw [lessE_iff, hk, cmp_refl] at this
  omega
theorem ord_take {l : List En} (ho : Ord l) {j : Nat} {x : En} (hx : l[j]? = some x) : ∀ y ∈ l.take j, lessE y x = true := fun y hy => by
  obtain ⟨i, hi, rfl⟩ := List.getElem_of_mem hy
  rw [List.length_take] at hi
  obtain ⟨hj, rfl⟩ := List.getElem?_eq_some_iff.1 hx
  rw [List.getElem_take]
  exact (List.pairwise_iff_getElem.1 ho) i j (by omega) hj (by omega)
end Go.Proofs.YtdgagffieobiiaaGreatDoor

/-
  Walks over Get of a table that counts, and over the law MemCounts.
-/
namespace Go.Proofs.YtdgagffieobiiaaGreatDoor
open Go.RowKit

theorem mod_rdr {M : BS} {w w' : World} {k : Nat} {S : BS} {A : Option Addr} {els : List El} (hm : Mod M w w') (hk : 0 < k) (hS : ∀ b, b < w.heap.size → S b → ¬ M b) (h : RdR k w S A els) : RdR k w' S A els := RdR.move hk h hm.size fun b hb hs => ⟨hs, hm.block b hb (hS b hb hs)⟩
theorem put_sorted {l : List En} (ho : Ord l) (hc : ∀ x ∈ l, bigE x = false ∧ badE x = false) : putC [] l = 0 ∧ putL [] l = l := by
  have key : ∀ j, j ≤ l.length → (l.take j).foldl insE [] = l.take j ∧ okP [] l j = true := by
    intro j
    induction j with
    | zero => exact fun _ => ⟨rfl, rfl⟩
    | succ j ih =>
      intro hj
      obtain ⟨h1, h2⟩ := ih (by omega)
      have hx : l[j]? = some (l[j]'(by omega)) := List.getElem?_eq_getElem (by omega)
      obtain ⟨h3, h4⟩ := ins_end7 (ord_take ho hx)
      refine ⟨by rw [fold_succ hx, h1, h4, ← take_getR hx], by rw [okP_step hx, h2, h1, h3]; rfl⟩
  obtain ⟨h1, h2⟩ := key l.length (Nat.le_refl _)
  rw [List.take_length] at h1
  have hz : putC [] l = 0 := by rw [putC, if_pos (check_of hc), h2]; rfl
  exact ⟨hz, by rw [putL, if_pos hz]; exact h1⟩
end Go.Proofs.YtdgagffieobiiaaGreatDoor

/-
  Seek against Get, in plain terms; walk over the law CaissonBlocks.
-/
namespace Go.Proofs.YtdgagffieobiiaaGreatDoor
open Go.RowKit

/-- The first entry that is not ahead of a key's moment is the version at that moment, or of another key. -/
theorem sek_get {key : List UInt8} {m : Nat} : ∀ {l : List En}, Ord l → getE l key m = match sekE l ⟨key, m, 0, []⟩ with
    | some x => if x.key = key then some x else none
    | none => none
  | [], _ => rfl
  | a :: l, ho => by
    obtain ⟨h1, h2⟩ := List.pairwise_cons.1 ho
    have ih := sek_get (key := key) (m := m) h2
    rw [getE] at ih ⊢
    rw [sekE] at ih ⊢
    cases hl : lessE a ⟨key, m, 0, []⟩ with
    | true =>
      have hne : ¬ (a.key = key ∧ a.seq ≤ m) := fun ⟨e1, e2⟩ => by
        rcases lessE_iff.1 hl with h | ⟨_, h⟩
        · rw [show cmpB a.key (⟨key, m, 0, []⟩ : En).key = cmpB key key by rw [e1]] at h
          rw [cmp_refl] at h; omega
        · exact absurd h (Nat.not_lt.2 e2)
      rw [List.find?_cons, decide_eq_false hne, List.find?_cons, hl]
      exact ih
    | false =>
      rw [List.find?_cons (p := fun x => !lessE x ⟨key, m, 0, []⟩), hl]
      rw [Bool.not_false]
      show _ = if a.key = key then some a else none
      by_cases hk : a.key = key
      · have hm : a.seq ≤ m := by
          rcases Nat.lt_or_ge m a.seq with h | h
          · rw [lessE_iff.2 (.inr ⟨hk, h⟩)] at hl; cases hl
          · exact h
        rw [if_pos hk, List.find?_cons, decide_eq_true ⟨hk, hm⟩]
      · rw [if_neg hk, List.find?_cons, decide_eq_false fun h => hk h.1]
        refine List.find?_eq_none.2 fun x hx => ?_
        rw [decide_eq_true_eq]
        rintro ⟨e1, e2⟩
        have hax := h1 x hx
        rcases lessE_iff.1 hax with h | ⟨h, _⟩
        · rw [lessE_iff.2 (.inl (by rw [← e1]; exact h))] at hl; cases hl
        · exact hk (h.trans e1)
theorem few4_any {A : Option Addr} {n c m : Nat} {l : List En} {w : World} (hn : l.length = n) (hc : n ≤ c) :
    CallsV Tryz.prog 6 #[.slice A n c, .int .i64 (m : Int)] w fun v w' => v = .slice A (l.take m).length c ∧ w = w' := by
  subst hn
  refine calls_in (N := _) Tryz.func6 rfl Tryz.ntmps6 rfl ?_; show WC _ _ _ _ _ _
  refine wc_sr ?_; refine wl_as rfl rfl ?_; refine wl_ns ?_; refine wc_seq ?_; refine wc_sr ?_; refine wl_mv rfl rfl ?_; apply wl_val; apply opv_len; exact rfl; exact tkE.sl; exact rfl; refine wl_mv rfl rfl ?_; refine wl_bin rfl rfl bin_gtr rfl ?_; refine wl_ns ?_
  refine wc_cond rfl (fun h1 => ?_) (fun h1 => ?_)
  · refine wc_region ?_; refine wl_mv rfl rfl ?_; refine wl_mv rfl rfl ?_
    refine wl_slK (l := 0) (h := m) tkE rfl rfl ⟨_, rfl⟩ (by omega) (by omega) rfl ?_
    rw [cutK_zero]
    refine wl_as rfl rfl ?_; refine wl_ns ?_; refine wc_sr ?_; refine wl_mv rfl rfl ?_; refine wl_as rfl rfl ?_; refine wl_ns ?_; refine wc_ret ?_
    exact we_ret1 rfl rfl ⟨_, rfl, slice_eq (by simp; omega), rfl⟩
  · refine wc_skip ?_; refine we_seq ?_; refine wc_sr ?_; refine wl_mv rfl rfl ?_; refine wl_as rfl rfl ?_; refine wl_ns ?_; refine wc_ret ?_
    exact we_ret1 rfl rfl ⟨_, rfl, slice_eq (by simp; omega), rfl⟩
end Go.Proofs.YtdgagffieobiiaaGreatDoor

/-
  A table's entries: in order, and cut into blocks.
-/
namespace Go.Proofs.YtdgagffieobiiaaGreatDoor
open Go.RowKit
theorem ordered_any {A : Option Addr} {n c : Nat} {l : List En} {w : World} (rl : RdR 4 w All A (l.map enEl)) (hn : l.length = n) (ho : ordE l = true) (hne : l ≠ []) (hl : l.length ≤ 1099511627776) :
    CallsV Tryz.prog 60 #[.slice A n c] w fun v w' => v = .bool true ∧ Below w.heap.size w w' := by
  subst hn
  have hs := St.init w
  have hlp : 0 < l.length := List.length_pos_iff.2 hne
  have ho2 := ordE_iff.1 ho
  refine calls_in (N := _) Tryz.func60 rfl Tryz.ntmps60 rfl ?_; show WC _ _ _ _ _ _
  refine wc_sr ?_; refine wl_as rfl rfl ?_; refine wl_ns ?_; refine wc_seq ?_; refine wc_sr ?_; refine wl_as rfl rfl ?_; refine wl_ns ?_; refine wc_block ?_
  refine wc_loop (fun L wr mm => ∃ (j : Nat), L = [(0, .slice A l.length c), (3, .int .i64 ((j + 1 : Nat) : Int))] ∧ j + 1 ≤ l.length ∧ St NoB w wr [] ∧ mm = l.length - j)
    [(0, .slice A l.length c), (3, .int .i64 ((0 + 1 : Nat) : Int))] l.length ⟨0, rfl, by omega, hs, rfl⟩ ⟨rfl, rfl, trivial⟩ ?_
  clear hs
  rintro _ w7 mm ⟨j, rfl, hj, hs, rfl⟩
  refine wc_seq ?_; refine wc_sr ?_; refine wl_mv rfl rfl ?_; refine wl_mv rfl rfl ?_; apply wl_val; apply opv_len; exact rfl; exact tkE.sl; exact rfl; refine wl_bin rfl rfl bin_lss rfl ?_; refine wl_ns ?_
  refine wc_cond rfl (fun h5 => ?_) (fun h5 => ?_)
  · obtain ⟨x, hx'⟩ : ∃ x, l[j]? = some x := ⟨_, List.getElem?_eq_getElem (by omega)⟩
    obtain ⟨y, hy'⟩ : ∃ y, l[j + 1]? = some y := ⟨_, List.getElem?_eq_getElem (by omega)⟩
    obtain ⟨b2, o2, cs, rfl, _, _, hp, i1⟩ := RdR.at (k := 4) (by decide) rl (E := enEl x) (i := j) (by rw [List.getElem?_map, hx']; rfl)
    obtain ⟨_, _, cs2, hA', _, _, hp2, i2⟩ := RdR.at (k := 4) (by decide) rl (E := enEl y) (i := j + 1) (by rw [List.getElem?_map, hy']; rfl)
    simp only [Option.some.injEq, Addr.mk.injEq, and_true] at hA'
    obtain ⟨rfl, rfl⟩ := hA'
    obtain ⟨U, cu, U2, cu2, rfl, rx, _, rx2, _⟩ := enEl.rd hp
    obtain ⟨Y, cy, Y2, cy2, rfl, ry, _, ry2, _⟩ := enEl.rd hp2
    replace i1 := i1.below hs.bel
    replace i2 := i2.below hs.bel
    have hle := ho2 j x y hx' hy'
    have hq : ∀ w', Below w7.heap.size w7 w' → CallsV Tryz.prog 83 #[.agg (enV x U cu U2 cu2).toArray, .agg (enV y Y cy Y2 cy2).toArray] w' fun v w2 => v = .bool true ∧ Below w7.heap.size w7 w2 := fun w' hw => (less_any ((rx.below hs.bel).below hw) ((ry.below hs.bel).below hw)).mono fun v w2 h2 => ⟨by rw [h2.1, hle], hw.trans (h2.2.mono hw.size)⟩
    refine wc_skip ?_; refine we_seq ?_; refine wc_seq ?_; refine wc_block ?_; refine wc_seq ?_
    refine wc_drawB mixed (by kernel_rfl) ?_
    try dsimp only [List.append]
    apply wq_val; intro _ hw_; apply opv_move; exact rfl; exact rfl; apply wq_val; intro _ hw_; apply opv_move; exact rfl; exact rfl; apply wq_val; intro _ hw_; apply opv_bin; exact rfl; exact rfl; exact bin_sub64 (by omega); exact rfl; apply wq_val; intro _ hw_; apply opv_idxG tkE; exact rfl; exact rfl; exact natc_pred; omega; exact rfl; apply wq_val; intro _ hw_; apply opv_ldG; exact rfl; exact Wi.below (by assumption) hw_; exact sE; exact rfl; apply wq_val; intro _ hw_; apply opv_move; exact rfl; exact rfl; apply wq_val; intro _ hw_; apply opv_move; exact rfl; exact rfl; apply wq_val; intro _ hw_; apply opv_idxG tkE; exact rfl; exact rfl; exact rfl; omega; exact rfl; apply wq_val; intro _ hw_; apply opv_ldG; exact rfl; exact Wi.below (by assumption) hw_; exact sE; exact rfl
    refine wq_call (v := .bool true) ok_mem_Less hq ⟨rfl, rfl, trivial⟩ rfl ?_
    apply wq_val; intro _ hw_; apply opv_not; exact rfl; exact rfl; refine wq_nil fun w1 hw1 => ?_
    replace hs := hs.below hw1
    refine we_seq ?_; apply wc_condFb; exact rfl; exact Bool.not_true; refine wc_skip ?_; refine we_block_norm ?_; refine we_seq ?_; refine wc_region ?_; refine wl_mv rfl rfl ?_; apply wl_val; apply opv_bin; exact rfl; exact rfl; exact bin_add64 (by omega); exact rfl; refine wl_as rfl rfl ?_; refine wl_nil ?_
    refine we_loop _ (l.length - (j + 1)) ⟨j + 1, rfl, by omega, hs, rfl⟩ (by omega) ⟨rfl, by rw [show ((j + 1 + 1 : Nat) : Int) = ((j + 1 : Nat) : Int) + 1 by omega]; rfl, trivial⟩
  · have h0 : (l.length : Int) > 0 := by omega
    refine wc_exit ?_; refine we_seq_exit ?_; refine we_loop_exit ?_; refine we_block_exit ?_; refine we_seq ?_; refine wc_sr ?_; refine wl_mv rfl rfl ?_; apply wl_val; apply opv_len; exact rfl; exact tkE.sl; exact rfl; refine wl_bin rfl rfl bin_gtr rfl ?_; refine wl_as rfl rfl ?_; refine wl_ns ?_; refine wc_ret ?_
    exact we_ret1 rfl rfl ⟨_, rfl, congrArg Value.bool (bT h0), hs.bel⟩
/-! ### Blocks -/
def cutF (size : Nat) : List En → Nat → List En → List (List En)
  | _, _, [] => []
  | cur, s, e :: r => if size ≤ s + (e.key.length + e.val.length) ∨ r = [] then (cur ++ [e]) :: cutF size [] 0 r else cutF size (cur ++ [e]) (s + (e.key.length + e.val.length)) r
theorem cutF_flat (size : Nat) : ∀ (l cur : List En) (s : Nat), (l = [] → cur = []) → (cutF size cur s l).flatten = cur ++ l
  | [], cur, s, h => by rw [h rfl]; rfl
  | e :: r, cur, s, _ => by
    unfold cutF
    split
    · rw [List.flatten_cons, cutF_flat size r [] 0 fun _ => rfl]; simp
    · rename_i h
      rw [cutF_flat size r _ _ fun hr => absurd (.inr hr) h]; simp
theorem cutF_ne (size : Nat) : ∀ (l cur : List En) (s : Nat), ∀ p ∈ cutF size cur s l, p ≠ []
  | [], _, _, p, h => by simp [cutF] at h
  | e :: r, cur, s, p, h => by
    unfold cutF at h
    split at h
    · rcases List.mem_cons.1 h with rfl | h
      · simp
      · exact cutF_ne size r _ _ p h
    · exact cutF_ne size r _ _ p h
theorem cutF_sub (size : Nat) : ∀ (l cur : List En) (s : Nat), ∀ p ∈ cutF size cur s l, p.Sublist (cur ++ l)
  | [], _, _, p, h => by simp [cutF] at h
  | e :: r, cur, s, p, h => by
    unfold cutF at h
    split at h
    · rcases List.mem_cons.1 h with rfl | h
      · rw [show cur ++ e :: r = (cur ++ [e]) ++ r by simp]; exact List.sublist_append_left _ _
      · have := cutF_sub size r [] 0 p h
        rw [List.nil_append] at this
        exact this.trans (by rw [show cur ++ e :: r = (cur ++ [e]) ++ r by simp]; exact List.sublist_append_right _ _)
    · have := cutF_sub size r _ _ p h
      rwa [List.append_assoc, List.singleton_append] at this
theorem cutF_len (size : Nat) : ∀ (l cur : List En) (s : Nat), (cutF size cur s l).length ≤ l.length
  | [], _, _ => Nat.le_refl _
  | e :: r, cur, s => by
    unfold cutF
    split
    · rw [List.length_cons, List.length_cons]; have := cutF_len size r [] 0; omega
    · rw [List.length_cons]; have := cutF_len size r (cur ++ [e]) (s + (e.key.length + e.val.length)); omega
def QSub (w0 : World) (p : List En) (cs : List Value) (_w : World) : Prop := ∃ (X : Option Addr) (cx : Nat), cs = [.slice X p.length cx] ∧ p.length ≤ cx ∧ RdR 4 w0 All X (p.map enEl)
set_option maxHeartbeats 1000000 in
theorem cut_any4 {A : Option Addr} {n c : Nat} {l : List En} {w : World} (rl : RdR 4 w All A (l.map enEl)) (hn : l.length = n) (hc : l.length ≤ c) (hl : l.length ≤ 1048576) (hsz : ∀ x ∈ l, x.key.length ≤ 1048576 ∧ x.val.length ≤ 1048576) :
    CallsV Tryz.prog 61 #[.int .i64 40, .slice A n c] w fun v w' => ∃ (G : Option Addr) (cg : Nat) (css : List (List Value)), v = .slice G (cutF 40 [] 0 l).length cg ∧ AllK (fun _ => True) (QSub w) (cutF 40 [] 0 l) css ∧ St NoB w w' [.rg 1 22 G cg (css.map rawEl)] := by
  subst hn
  have hs := (St.init w).nilG 1 22
  have hmax : maxLen = 9223372036854775807 := rfl
  refine calls_in (N := _) Tryz.func61 rfl Tryz.ntmps61 rfl ?_; show WC _ _ _ _ _ _
  refine wc_sr ?_; refine wl_as rfl rfl ?_; refine wl_ns ?_; refine wc_sr ?_; refine wl_as rfl rfl ?_; refine wl_ns ?_; refine wc_sr ?_; refine wl_as rfl rfl ?_; refine wl_as rfl rfl ?_; refine wl_ns ?_; refine wc_seq ?_; refine wc_sr ?_; refine wl_mv rfl rfl ?_; apply wl_val; apply opv_len; exact rfl; exact tkE.sl; exact rfl; refine wl_mv rfl rfl ?_; refine wl_ns ?_; refine wc_block ?_
  refine wc_loop (fun L wr mm => ∃ (i b s : Nat) (out : List (List En)) (G : Option Addr) (cg : Nat) (css : List (List Value)), L = [(0, .int .i64 40), (1, .slice A l.length c), (5, .slice G out.length cg), (6, .int .i64 (b : Int)), (7, .int .i64 (s : Int)), (10, .slice A l.length c), (11, .int .i64 (l.length : Int)), (12, .int .i64 (i : Int))] ∧
      i ≤ l.length ∧ b ≤ i ∧ s ≤ i * 2097152 ∧ out.length ≤ i ∧ cutF 40 [] 0 l = out ++ cutF 40 ((l.take i).drop b) s (l.drop i) ∧ AllK (fun _ => True) (QSub w) out css ∧ St NoB w wr [.rg 1 22 G cg (css.map rawEl)] ∧ mm = l.length - i)
    [(0, .int .i64 40), (1, .slice A l.length c), (5, .slice none 0 0), (6, .int .i64 ((0 : Nat) : Int)), (7, .int .i64 ((0 : Nat) : Int)), (10, .slice A l.length c), (11, .int .i64 (l.length : Int)), (12, .int .i64 ((0 : Nat) : Int))] l.length ⟨0, 0, 0, [], none, 0, [], rfl, Nat.zero_le _, Nat.le_refl _, Nat.zero_le _, Nat.le_refl _, by simp, AllK.nil, hs, rfl⟩ ⟨rfl, rfl, rfl, rfl, rfl, rfl, rfl, rfl, trivial⟩ ?_
  clear hs
  rintro _ w7 mm ⟨i, b, s, out, G, cg, css, rfl, hi, hbi, hsb, hol, hcut, hA, hs, rfl⟩
  have hcl := hA.1
  refine wc_sr ?_; refine wl_bin rfl rfl bin_lss rfl ?_; refine wl_ns ?_; refine wc_seq ?_
  refine wc_cond rfl (fun h5 => ?_) (fun h5 => ?_)
  · obtain ⟨x, hx'⟩ : ∃ x, l[i]? = some x := ⟨_, List.getElem?_eq_getElem (by omega)⟩
    have hxz := hsz x (List.mem_of_getElem? hx')
    obtain ⟨hil, hxe⟩ := List.getElem?_eq_some_iff.1 hx'
    have hdr : l.drop i = x :: l.drop (i + 1) := by rw [List.drop_eq_getElem_cons hil, hxe]
    have htk : (l.take (i + 1)).drop b = (l.take i).drop b ++ [x] := by
      rw [take_getR hx', List.drop_append_of_le_length (by rw [List.length_take]; omega)]
    obtain ⟨b2, o2, cs, hAe, _, _, hp, i1⟩ := RdR.at (k := 4) (by decide) rl (E := enEl x) (i := i) (by rw [List.getElem?_map, hx']; rfl)
    obtain ⟨U, cu, U2, cu2, rfl, rx, _, rx2, _⟩ := enEl.rd hp
    replace i1 := i1.below hs.bel
    have hrc := RdR.cut (l := b) (h := i + 1) (c := c) rl (List.length_map _) (by omega) (by omega) hc
    have hcs : ((l.map enEl).take (i + 1)).drop b = ((l.take (i + 1)).drop b).map enEl := by rw [← List.map_take, ← List.map_drop]
    rw [hcs] at hrc
    have hcc : c - b ≥ i + 1 - b := by omega
    have hpl : ((l.take (i + 1)).drop b).length = i + 1 - b := by rw [List.length_drop, List.length_take]; omega
    obtain ⟨X, hX⟩ : ∃ X, cutK A c b 4 = X := ⟨_, rfl⟩
    rw [hX] at hrc
    have hnil : l.drop (i + 1) = [] ↔ i + 1 = l.length := by rw [List.drop_eq_nil_iff]; omega
    rw [hdr] at hcut
    rw [hAe] at hX
    have hmul : (i + 1) * 2097152 = i * 2097152 + 2097152 := by omega
    subst hAe
    refine wc_skip ?_; refine we_seq ?_; refine wc_seq ?_; refine wc_block ?_; refine wc_sr ?_; refine wl_mv rfl rfl ?_; apply wl_val; apply opv_idxG tkE; exact rfl; exact rfl; exact rfl; omega; exact rfl; apply wl_val; apply opv_ldG; exact rfl; assumption; exact sE; exact rfl
    refine ws_new hs zeroE rfl ?_; clear hs; intro g9 _ hs
    unfold zE at hs
    clear i1
    have hnx : (¬ 40 ≤ s + (x.key.length + x.val.length) → i + 1 ≠ l.length) ∨ (40 ≤ s + (x.key.length + x.val.length) ∨ i + 1 = l.length) := by omega
    by_cases hz1 : (40 : Int) ≤ (s : Int) + ((x.key.length : Int) + (x.val.length : Int))
    · have hz2 : 40 ≤ s + (x.key.length + x.val.length) := by omega
      rw [cutF, if_pos (.inl hz2), ← htk] at hcut
      refine wl_as rfl rfl ?_; apply ws_stS hs 0; exact rfl; exact rfl; exact rfl; exact sE; exact rfl; exact rfl; clear hs; intro _ hs; dsimp only [setC] at hs; refine wl_ns ?_; refine wc_sr ?_; refine wl_mv rfl rfl ?_; apply wl_val; apply opv_fa; exact fa_sE (by decide); exact rfl; exact rfl; apply wl_val; apply opv_ldX; exact rfl; exact hs.ar 0 rfl; exact e1_by; exact rfl; exact rfl; apply wl_val; apply opv_len; exact rfl; exact tyB.sl; exact rfl; apply wl_val; apply opv_fa; exact fa_sE (by decide); exact rfl; exact rfl; apply wl_val; apply opv_ldX; exact rfl; exact hs.ar 0 rfl; exact e1_by; exact rfl; exact rfl; apply wl_val; apply opv_len; exact rfl; exact tyB.sl; exact rfl; apply wl_val; apply opv_bin; exact rfl; exact rfl; exact bin_add64 (by omega); exact rfl; apply wl_val; apply opv_bin; exact rfl; exact rfl; exact bin_add64 (by omega); exact rfl; refine wl_as rfl rfl ?_; refine wl_ns ?_; refine wc_sr ?_; refine wl_mv rfl rfl ?_; refine wl_mv rfl rfl ?_; refine wl_bin rfl rfl bin_geq rfl ?_; refine wl_mv rfl rfl ?_; apply wl_skip; exact rfl; exact rfl; exact rfl; refine bTn ?_; (with_reducible assumption); exact rfl; apply wl_skip; exact rfl; exact rfl; exact rfl; refine bTn ?_; (with_reducible assumption); exact rfl; apply wl_skip; exact rfl; exact rfl; exact rfl; refine bTn ?_; (with_reducible assumption); exact rfl; apply wl_skip; exact rfl; exact rfl; exact rfl; refine bTn ?_; (with_reducible assumption); exact rfl; apply wl_skip; exact rfl; exact rfl; exact rfl; refine bTn ?_; (with_reducible assumption); exact rfl; apply wl_val; apply opv_pickT; exact rfl; refine bT ?_; (with_reducible assumption); exact rfl; exact rfl; refine wl_ns ?_; apply wc_condTb; exact rfl; exact rfl; refine wc_sr ?_; refine wl_mv rfl rfl ?_; refine wl_mv rfl rfl ?_; refine wl_mv rfl rfl ?_; refine wl_mv rfl rfl ?_; apply wl_val; apply opv_bin; exact rfl; exact rfl; exact bin_add64 (by omega); exact rfl
      refine wl_slK (l := b) (h := i + 1) tkE rfl ⟨_, rfl⟩ ⟨_, rfl⟩ (by omega) (by omega) rfl ?_
      have hcut2 : cutF 40 [] 0 l = (out ++ [(l.take (i + 1)).drop b]) ++ cutF 40 ((l.take (i + 1)).drop (i + 1)) 0 (l.drop (i + 1)) := by rw [hcut, show (l.take (i + 1)).drop (i + 1) = [] from List.drop_eq_nil_of_le (by rw [List.length_take]; omega), List.append_assoc, List.singleton_append]
      rw [hX]
      skip
      refine ws_pushR (cs := [.slice X (i + 1 - b) (c - b)]) hs 1 (fun _ => rfl) rfl tkEE (by rw [List.length_map]; exact hcl) ⟨_, rfl, rfl⟩ rfl rfl (by decide) (by omega) (by omega) rfl rfl ?_
      clear hs; intro _ G2 cg2 _ hs; dsimp only [setC] at hs
      rw [show css.map rawEl ++ [rawEl [Value.slice X (i + 1 - b) (c - b)]] = (css ++ [[Value.slice X (i + 1 - b) (c - b)]]).map rawEl by simp] at hs
      refine wl_as rfl rfl ?_; refine wl_ns ?_; refine wc_region ?_; refine wl_mv rfl rfl ?_; apply wl_val; apply opv_bin; exact rfl; exact rfl; exact bin_add64 (by omega); exact rfl; refine wl_as rfl rfl ?_; refine wl_as rfl rfl ?_; refine wl_nil ?_; refine we_block_norm ?_; refine we_seq ?_; refine wc_region ?_; apply wl_val; apply opv_bin; exact rfl; exact rfl; exact bin_add64 (by omega); exact rfl; refine wl_mv rfl rfl ?_; refine wl_nil ?_
      exact we_loop _ (l.length - (i + 1)) ⟨i + 1, i + 1, 0, out ++ [(l.take (i + 1)).drop b], G2, cg2, css ++ [[.slice X (i + 1 - b) (c - b)]], rfl, by omega, by omega, by omega, by rw [List.length_append, List.length_singleton]; omega, hcut2, hA.snoc fun _ _ => ⟨X, c - b, by rw [hpl], by rw [hpl]; omega, hrc⟩, hs.drop 0 rfl, rfl⟩ (by omega) ⟨rfl, rfl, by rw [List.length_append]; rfl, by rw [show ((i + 1 : Nat) : Int) = (i : Int) + 1 by omega]; rfl, rfl, rfl, rfl, by rw [show ((i + 1 : Nat) : Int) = (i : Int) + 1 by omega]; rfl, trivial⟩
    by_cases hz3 : ((i + 1 : Nat) : Int) = (l.length : Int)
    · rw [cutF, if_pos (.inr (hnil.2 (by omega))), ← htk] at hcut
      refine wl_as rfl rfl ?_; apply ws_stS hs 0; exact rfl; exact rfl; exact rfl; exact sE; exact rfl; exact rfl; clear hs; intro _ hs; dsimp only [setC] at hs; refine wl_ns ?_; refine wc_sr ?_; refine wl_mv rfl rfl ?_; apply wl_val; apply opv_fa; exact fa_sE (by decide); exact rfl; exact rfl; apply wl_val; apply opv_ldX; exact rfl; exact hs.ar 0 rfl; exact e1_by; exact rfl; exact rfl; apply wl_val; apply opv_len; exact rfl; exact tyB.sl; exact rfl; apply wl_val; apply opv_fa; exact fa_sE (by decide); exact rfl; exact rfl; apply wl_val; apply opv_ldX; exact rfl; exact hs.ar 0 rfl; exact e1_by; exact rfl; exact rfl; apply wl_val; apply opv_len; exact rfl; exact tyB.sl; exact rfl; apply wl_val; apply opv_bin; exact rfl; exact rfl; exact bin_add64 (by omega); exact rfl; apply wl_val; apply opv_bin; exact rfl; exact rfl; exact bin_add64 (by omega); exact rfl; refine wl_as rfl rfl ?_; refine wl_ns ?_; refine wc_sr ?_; refine wl_mv rfl rfl ?_; refine wl_mv rfl rfl ?_; refine wl_bin rfl rfl bin_geq rfl ?_; refine wl_mv rfl rfl ?_; apply wl_take; exact rfl; exact rfl; exact rfl; refine bF ?_; (with_reducible assumption); refine wl_mv rfl rfl ?_; apply wl_take; exact rfl; exact rfl; exact rfl; refine bF ?_; (with_reducible assumption); apply wl_val; apply opv_bin; exact rfl; exact rfl; exact bin_add64 (by omega); exact rfl; apply wl_take; exact rfl; exact rfl; exact rfl; refine bF ?_; (with_reducible assumption); refine wl_mv rfl rfl ?_; apply wl_take; exact rfl; exact rfl; exact rfl; refine bF ?_; (with_reducible assumption); apply wl_val; apply opv_len; exact rfl; exact tkE.sl; exact rfl; apply wl_take; exact rfl; exact rfl; exact rfl; refine bF ?_; (with_reducible assumption); refine wl_bin rfl rfl bin_eql rfl ?_; apply wl_val; apply opv_pickF; exact rfl; refine bF ?_; (with_reducible assumption); exact rfl; exact rfl; refine wl_ns ?_; apply wc_decT; exact rfl; omega; refine wc_sr ?_; refine wl_mv rfl rfl ?_; refine wl_mv rfl rfl ?_; refine wl_mv rfl rfl ?_; refine wl_mv rfl rfl ?_; apply wl_val; apply opv_bin; exact rfl; exact rfl; exact bin_add64 (by omega); exact rfl
      refine wl_slK (l := b) (h := i + 1) tkE rfl ⟨_, rfl⟩ ⟨_, rfl⟩ (by omega) (by omega) rfl ?_
      have hcut2 : cutF 40 [] 0 l = (out ++ [(l.take (i + 1)).drop b]) ++ cutF 40 ((l.take (i + 1)).drop (i + 1)) 0 (l.drop (i + 1)) := by rw [hcut, show (l.take (i + 1)).drop (i + 1) = [] from List.drop_eq_nil_of_le (by rw [List.length_take]; omega), List.append_assoc, List.singleton_append]
      rw [hX]
      skip
      refine ws_pushR (cs := [.slice X (i + 1 - b) (c - b)]) hs 1 (fun _ => rfl) rfl tkEE (by rw [List.length_map]; exact hcl) ⟨_, rfl, rfl⟩ rfl rfl (by decide) (by omega) (by omega) rfl rfl ?_
      clear hs; intro _ G2 cg2 _ hs; dsimp only [setC] at hs
      rw [show css.map rawEl ++ [rawEl [Value.slice X (i + 1 - b) (c - b)]] = (css ++ [[Value.slice X (i + 1 - b) (c - b)]]).map rawEl by simp] at hs
      refine wl_as rfl rfl ?_; refine wl_ns ?_; refine wc_region ?_; refine wl_mv rfl rfl ?_; apply wl_val; apply opv_bin; exact rfl; exact rfl; exact bin_add64 (by omega); exact rfl; refine wl_as rfl rfl ?_; refine wl_as rfl rfl ?_; refine wl_nil ?_; refine we_block_norm ?_; refine we_seq ?_; refine wc_region ?_; apply wl_val; apply opv_bin; exact rfl; exact rfl; exact bin_add64 (by omega); exact rfl; refine wl_mv rfl rfl ?_; refine wl_nil ?_
      exact we_loop _ (l.length - (i + 1)) ⟨i + 1, i + 1, 0, out ++ [(l.take (i + 1)).drop b], G2, cg2, css ++ [[.slice X (i + 1 - b) (c - b)]], rfl, by omega, by omega, by omega, by rw [List.length_append, List.length_singleton]; omega, hcut2, hA.snoc fun _ _ => ⟨X, c - b, by rw [hpl], by rw [hpl]; omega, hrc⟩, hs.drop 0 rfl, rfl⟩ (by omega) ⟨rfl, rfl, by rw [List.length_append]; rfl, by rw [show ((i + 1 : Nat) : Int) = (i : Int) + 1 by omega]; rfl, rfl, rfl, rfl, by rw [show ((i + 1 : Nat) : Int) = (i : Int) + 1 by omega]; rfl, trivial⟩
    · have hz2 : ¬ (40 ≤ s + (x.key.length + x.val.length) ∨ l.drop (i + 1) = []) := by rw [hnil]; omega
      rw [cutF, if_neg hz2, ← htk] at hcut
      refine wl_as rfl rfl ?_; apply ws_stS hs 0; exact rfl; exact rfl; exact rfl; exact sE; exact rfl; exact rfl; clear hs; intro _ hs; dsimp only [setC] at hs; refine wl_ns ?_; refine wc_sr ?_; refine wl_mv rfl rfl ?_; apply wl_val; apply opv_fa; exact fa_sE (by decide); exact rfl; exact rfl; apply wl_val; apply opv_ldX; exact rfl; exact hs.ar 0 rfl; exact e1_by; exact rfl; exact rfl; apply wl_val; apply opv_len; exact rfl; exact tyB.sl; exact rfl; apply wl_val; apply opv_fa; exact fa_sE (by decide); exact rfl; exact rfl; apply wl_val; apply opv_ldX; exact rfl; exact hs.ar 0 rfl; exact e1_by; exact rfl; exact rfl; apply wl_val; apply opv_len; exact rfl; exact tyB.sl; exact rfl; apply wl_val; apply opv_bin; exact rfl; exact rfl; exact bin_add64 (by omega); exact rfl; apply wl_val; apply opv_bin; exact rfl; exact rfl; exact bin_add64 (by omega); exact rfl; refine wl_as rfl rfl ?_; refine wl_ns ?_; refine wc_sr ?_; refine wl_mv rfl rfl ?_; refine wl_mv rfl rfl ?_; refine wl_bin rfl rfl bin_geq rfl ?_; refine wl_mv rfl rfl ?_; apply wl_take; exact rfl; exact rfl; exact rfl; refine bF ?_; (with_reducible assumption); refine wl_mv rfl rfl ?_; apply wl_take; exact rfl; exact rfl; exact rfl; refine bF ?_; (with_reducible assumption); apply wl_val; apply opv_bin; exact rfl; exact rfl; exact bin_add64 (by omega); exact rfl; apply wl_take; exact rfl; exact rfl; exact rfl; refine bF ?_; (with_reducible assumption); refine wl_mv rfl rfl ?_; apply wl_take; exact rfl; exact rfl; exact rfl; refine bF ?_; (with_reducible assumption); apply wl_val; apply opv_len; exact rfl; exact tkE.sl; exact rfl; apply wl_take; exact rfl; exact rfl; exact rfl; refine bF ?_; (with_reducible assumption); refine wl_bin rfl rfl bin_eql rfl ?_; apply wl_val; apply opv_pickF; exact rfl; refine bF ?_; (with_reducible assumption); exact rfl; exact rfl; refine wl_ns ?_; apply wc_decF; exact rfl; omega; refine wc_skip ?_; refine we_block_norm ?_; refine we_seq ?_; refine wc_region ?_; apply wl_val; apply opv_bin; exact rfl; exact rfl; exact bin_add64 (by omega); exact rfl; refine wl_mv rfl rfl ?_; refine wl_nil ?_
      refine we_loop _ (l.length - (i + 1)) ⟨i + 1, b, s + (x.key.length + x.val.length), out, G, cg, css, rfl, by omega, by omega, by omega, by omega, hcut, hA, hs.drop 0 rfl, rfl⟩ (by omega) ⟨rfl, rfl, rfl, rfl, rfl, rfl, rfl, by rw [show ((i + 1 : Nat) : Int) = (i : Int) + 1 by omega]; rfl, trivial⟩
  · obtain rfl : i = l.length := by omega
    rw [List.drop_length] at hcut
    rw [show cutF 40 ((l.take l.length).drop b) s [] = [] by simp [cutF], List.append_nil] at hcut
    rw [hcut]
    refine wc_exit ?_; refine we_seq_exit ?_; refine we_loop_exit ?_; refine we_block_exit ?_; refine we_seq ?_; refine wc_sr ?_; refine wl_mv rfl rfl ?_; refine wl_as rfl rfl ?_; refine wl_ns ?_; refine wc_ret ?_
    exact we_ret1 rfl rfl ⟨_, rfl, G, cg, css, rfl, hA, hs⟩
end Go.Proofs.YtdgagffieobiiaaGreatDoor

/-
  A table's filter: of the keys that differ from the one before.
-/
namespace Go.Proofs.YtdgagffieobiiaaGreatDoor
open Go.RowKit
def keysP : Option (List UInt8) → List En → List (List UInt8)
  | _, [] => []
  | p, e :: r => if p = some e.key then keysP (some e.key) r else e.key :: keysP (some e.key) r
def keysU (l : List En) : List (List UInt8) := keysP none l
theorem keysP_in : ∀ (l : List En) (p : Option (List UInt8)), ∀ e ∈ l, e.key ∈ keysP p l ∨ p = some e.key
  | [], _, _, h => by simp at h
  | x :: r, p, e, h => by
    unfold keysP
    rcases List.mem_cons.1 h with rfl | h
    · split
      · exact .inr ‹_›
      · exact .inl (List.mem_cons_self ..)
    · rcases keysP_in r (some x.key) e h with h2 | h2
      · refine .inl ?_
        split
        · exact h2
        · exact List.mem_cons_of_mem _ h2
      · injection h2 with h2
        split
        · rename_i h3
          exact .inr (by rw [h3, h2])
        · exact .inl (by rw [← h2]; exact List.mem_cons_self ..)
theorem keysU_in {l : List En} {e : En} (h : e ∈ l) : e.key ∈ keysU l := (keysP_in l none e h).elim id fun h => by cases h
theorem keysP_len : ∀ (l : List En) (p : Option (List UInt8)), (keysP p l).length ≤ l.length
  | [], _ => Nat.le_refl _
  | x :: r, p => by
    unfold keysP
    split
    · have := keysP_len r (some x.key); rw [List.length_cons]; omega
    · rw [List.length_cons, List.length_cons]; have := keysP_len r (some x.key); omega
theorem keysP_of : ∀ (l : List En) (p : Option (List UInt8)), ∀ k ∈ keysP p l, ∃ e ∈ l, e.key = k
  | [], _, _, h => by simp [keysP] at h
  | x :: r, p, k, h => by
    unfold keysP at h
    split at h
    · obtain ⟨e, h1, h2⟩ := keysP_of r _ k h
      exact ⟨e, List.mem_cons_of_mem _ h1, h2⟩
    · rcases List.mem_cons.1 h with rfl | h
      · exact ⟨x, List.mem_cons_self .., rfl⟩
      · obtain ⟨e, h1, h2⟩ := keysP_of r _ k h
        exact ⟨e, List.mem_cons_of_mem _ h1, h2⟩
def pvO (l : List En) : Nat → Option (List UInt8)
  | 0 => none
  | i + 1 => l[i]?.map (·.key)
theorem keys_step {l : List En} {i : Nat} {x : En} {ks : List (List UInt8)} (hx : l[i]? = some x) (h : keysU l = ks ++ keysP (pvO l i) (l.drop i)) :
    keysU l = (if pvO l i = some x.key then ks else ks ++ [x.key]) ++ keysP (pvO l (i + 1)) (l.drop (i + 1)) := by
  obtain ⟨hl, he⟩ := List.getElem?_eq_some_iff.1 hx
  rw [h, List.drop_eq_getElem_cons hl, he, keysP, show pvO l (i + 1) = some x.key by rw [pvO, hx]; rfl]
  split
  · rfl
  · rw [List.append_assoc, List.singleton_append]
set_option maxHeartbeats 1000000 in
theorem filter_any {A : Option Addr} {n c : Nat} {l : List En} {w : World} (rl : RdR 4 w All A (l.map enEl)) (hn : l.length = n) (hl : l.length ≤ 40) (hsz : ∀ x ∈ l, x.key.length ≤ 1048576 ∧ x.val.length ≤ 1048576) :
    CallsV Tryz.prog 63 #[.slice A n c] w fun v w' => ∃ (B : Option Addr) (cB : Nat), v = .tuple #[.slice B (filtB (keysU l)).length cB, .int .i64 0] ∧ OwB w' w.heap.size B cB (filtB (keysU l)) ∧ Below w.heap.size w w' := by
  subst hn
  have hs := (St.init w).bbNil
  have hmax : maxLen = 9223372036854775807 := rfl
  refine calls_in (N := _) Tryz.func63 rfl Tryz.ntmps63 rfl ?_; show WC _ _ _ _ _ _
  refine wc_sr ?_; refine wl_as rfl rfl ?_; refine wl_as rfl rfl ?_; refine wl_ns ?_; refine wc_sr ?_; refine wl_as rfl rfl ?_; refine wl_ns ?_; refine wc_seq ?_; refine wc_sr ?_; refine wl_mv rfl rfl ?_; apply wl_val; apply opv_len; exact rfl; exact tkE.sl; exact rfl; refine wl_mv rfl rfl ?_; refine wl_ns ?_; refine wc_block ?_
  refine wc_loop (fun L wr mm => ∃ (i : Nat) (ks : List (List UInt8)) (R : Option Addr) (cr : Nat) (vs : List Value), L = [(0, .slice A l.length c), (4, .slice R ks.length cr), (7, .slice A l.length c), (8, .int .i64 (l.length : Int)), (9, .int .i64 (i : Int))] ∧ i ≤ l.length ∧ ks.length ≤ i ∧ keysU l = ks ++ keysP (pvO l i) (l.drop i) ∧ St NoB w wr [.ow 28 R ks.length cr vs, .ck (elC w vs ks)] ∧ mm = l.length - i)
    [(0, .slice A l.length c), (4, .slice none 0 0), (7, .slice A l.length c), (8, .int .i64 (l.length : Int)), (9, .int .i64 ((0 : Nat) : Int))] l.length ⟨0, [], none, 0, [], rfl, Nat.zero_le _, Nat.zero_le _, rfl, hs, rfl⟩ ⟨rfl, rfl, rfl, rfl, rfl, trivial⟩ ?_
  clear hs
  rintro _ w7 mm ⟨i, ks, R, cr, vs, rfl, hi, hkl, hk, hs, rfl⟩
  refine wc_sr ?_; refine wl_bin rfl rfl bin_lss rfl ?_; refine wl_ns ?_; refine wc_seq ?_
  refine wc_cond rfl (fun h5 => ?_) (fun h5 => ?_)
  · obtain ⟨x, hx'⟩ : ∃ x, l[i]? = some x := ⟨_, List.getElem?_eq_getElem (by omega)⟩
    have hk2 := keys_step hx' hk
    obtain ⟨b2, o2, cs, rfl, _, _, hp, i0⟩ := RdR.at (k := 4) (by decide) rl (E := enEl x) (i := i) (by rw [List.getElem?_map, hx']; rfl)
    obtain ⟨U, cu, U2, cu2, rfl, rx, hcx, rx2, _⟩ := enEl.rd hp
    have i1 := i0.below hs.bel
    refine wc_skip ?_; refine we_seq ?_; refine wc_seq ?_; refine wc_block ?_; refine wc_sr ?_; refine wl_mv rfl rfl ?_; apply wl_val; apply opv_idxG tkE; exact rfl; exact rfl; exact rfl; omega; exact rfl; apply wl_val; apply opv_ldG; exact rfl; assumption; exact sE; exact rfl
    refine ws_new hs zeroE rfl ?_; clear hs; intro g6 _ hs
    unfold zE at hs
    refine wl_as rfl rfl ?_; apply ws_stS hs 0; exact rfl; exact rfl; exact rfl; exact sE; exact rfl; exact rfl; clear hs; intro _ hs; dsimp only [setC] at hs; refine wl_ns ?_; refine wc_seq ?_
    have hbw := hs.bel
    have a6 := hs.ar 0 rfl
    refine wc_cutE (fun L' w' => L' = [(0, .slice (some ⟨b2, o2, none⟩) l.length c), (4, .slice R ks.length cr), (6, .pointer (some ⟨g6, 0, none⟩)), (7, .slice (some ⟨b2, o2, none⟩) l.length c), (8, .int .i64 (l.length : Int)), (9, .int .i64 (i : Int)), (27, .bool (decide (¬ pvO l i = some x.key)))] ∧ St NoB w w' [.blk g6 31 (enV x U cu U2 cu2), .ow 28 R ks.length cr vs, .ck (elC w vs ks)]) ?_ ?_
    · cases i with
      | zero =>
        have hz0 : ((0 : Nat) : Int) = 0 := rfl
        refine wc_drawB mixed (by kernel_rfl) ?_
        apply wq_val; intro _ hw_; apply opv_move; exact rfl; exact rfl; apply wq_val; intro _ hw_; apply opv_bin; exact rfl; exact rfl; exact bin_eql; exact rfl; apply wq_val; intro _ hw_; apply opv_move; exact rfl; exact rfl; apply wq_skip; exact rfl; exact rfl; exact rfl; refine bTn ?_; (with_reducible assumption); exact rfl; apply wq_skip; exact rfl; exact rfl; exact rfl; refine bTn ?_; (with_reducible assumption); exact rfl; apply wq_skip; exact rfl; exact rfl; exact rfl; refine bTn ?_; (with_reducible assumption); exact rfl; apply wq_skip; exact rfl; exact rfl; exact rfl; refine bTn ?_; (with_reducible assumption); exact rfl; apply wq_skip; exact rfl; exact rfl; exact rfl; refine bTn ?_; (with_reducible assumption); exact rfl; apply wq_skip; exact rfl; exact rfl; exact rfl; refine bTn ?_; (with_reducible assumption); exact rfl; apply wq_skip; exact rfl; exact rfl; exact rfl; refine bTn ?_; (with_reducible assumption); exact rfl; apply wq_skip; exact rfl; exact rfl; exact rfl; refine bTn ?_; (with_reducible assumption); exact rfl; apply wq_skip; exact rfl; exact rfl; exact rfl; refine bTn ?_; (with_reducible assumption); exact rfl; apply wq_skip; exact rfl; exact rfl; exact rfl; refine bTn ?_; (with_reducible assumption); exact rfl; apply wq_val; intro _ hw_; apply opv_pickT; exact rfl; refine bT ?_; (with_reducible assumption); exact rfl; exact rfl; refine wq_nil fun w1 hw1 => ?_
        replace hs := hs.below hw1
        rw [show decide (¬ pvO l 0 = some x.key) = true by simp [pvO]]
        exact we_cut _ ⟨rfl, hs⟩ ⟨rfl, rfl, rfl, rfl, rfl, rfl, rfl, trivial⟩
      | succ j =>
        have hz0 : ¬ ((j + 1 : Nat) : Int) = 0 := by omega
        obtain ⟨y, hy⟩ : ∃ y, l[j]? = some y := ⟨_, List.getElem?_eq_getElem (by omega)⟩
        obtain ⟨b', o', cs, hA', _, _, hp, j0⟩ := RdR.at (k := 4) (by decide) rl (E := enEl y) (i := j) (by rw [List.getElem?_map, hy]; rfl)
        simp only [Option.some.injEq, Addr.mk.injEq, and_true] at hA'
        obtain ⟨rfl, rfl⟩ := hA'
        obtain ⟨Y, cy, Y2, cy2, rfl, ry, _, _, _⟩ := enEl.rd hp
        have j1 := j0.below hs.bel
        unfold enV at j1
        refine wc_drawB mixed (by kernel_rfl) ?_
        apply wq_val; intro _ hw_; apply opv_move; exact rfl; exact rfl; apply wq_val; intro _ hw_; apply opv_bin; exact rfl; exact rfl; exact bin_eql; exact rfl; apply wq_val; intro _ hw_; apply opv_move; exact rfl; exact rfl; apply wq_take; exact rfl; exact rfl; exact rfl; refine bF ?_; (with_reducible assumption); apply wq_val; intro _ hw_; apply opv_move; exact rfl; exact rfl; apply wq_take; exact rfl; exact rfl; exact rfl; refine bF ?_; (with_reducible assumption); apply wq_val; intro _ hw_; apply opv_move; exact rfl; exact rfl; apply wq_take; exact rfl; exact rfl; exact rfl; refine bF ?_; (with_reducible assumption); apply wq_val; intro _ hw_; apply opv_bin; exact rfl; exact rfl; exact bin_sub64 (by omega); exact rfl; apply wq_take; exact rfl; exact rfl; exact rfl; refine bF ?_; (with_reducible assumption); apply wq_val; intro _ hw_; apply opv_idxG tkE; exact rfl; exact rfl; exact natc_pred; omega; exact rfl; apply wq_take; exact rfl; exact rfl; exact rfl; refine bF ?_; (with_reducible assumption); apply wq_val; intro _ hw_; apply opv_fa; exact fa_sE (by decide); exact rfl; exact rfl; apply wq_take; exact rfl; exact rfl; exact rfl; refine bF ?_; (with_reducible assumption); apply wq_val; intro _ hw_; apply opv_ldW; exact rfl; exact Wi.below (by assumption) hw_; exact e1_by; exact rfl; exact rfl; apply wq_take; exact rfl; exact rfl; exact rfl; refine bF ?_; (with_reducible assumption); apply wq_val; intro _ hw_; apply opv_fa; exact fa_sE (by decide); exact rfl; exact rfl; apply wq_take; exact rfl; exact rfl; exact rfl; refine bF ?_; (with_reducible assumption); apply wq_val; intro _ hw_; apply opv_ldX; exact rfl; exact Ar.bel (by assumption) hw_; exact e1_by; exact rfl; exact rfl; apply wq_take; exact rfl; exact rfl; exact rfl; refine bF ?_; (with_reducible assumption)
        refine wq_call (v := .int .i64 (cmpB y.key x.key)) ok_codec_Cmp (fun w' hw => (cmp_any ((ry.below hbw).below hw) ((rx.below hbw).below hw) rfl rfl).mono fun v w2 h2 => ⟨h2.1, by obtain ⟨_, rfl⟩ := h2; exact hw⟩) ⟨rfl, rfl, trivial⟩ rfl ?_
        apply wq_take; exact rfl; exact rfl; exact rfl; refine bF ?_; (with_reducible assumption); apply wq_val; intro _ hw_; apply opv_bin; exact rfl; exact rfl; exact bin_neq; exact rfl; apply wq_val; intro _ hw_; apply opv_pickF; exact rfl; refine bF ?_; (with_reducible assumption); exact rfl; exact rfl; refine wq_nil fun w1 hw1 => ?_
        replace hs := hs.below hw1
        rw [show decide (¬ pvO l (j + 1) = some x.key) = decide (cmpB y.key x.key ≠ 0) by
          rw [show pvO l (j + 1) = some y.key by rw [pvO, hy]; rfl]
          by_cases h : y.key = x.key
          · rw [h, cmp_refl]; simp
          · have h2 : ¬ cmpB y.key x.key = 0 := fun h2 => h (cmp_zero h2)
            simp [h, h2]]
        exact we_cut _ ⟨rfl, hs⟩ ⟨rfl, rfl, rfl, rfl, rfl, rfl, rfl, trivial⟩
    clear hs hbw a6 i1
    rintro _ w5 ⟨rfl, hs⟩
    have i1 := i0.below hs.bel
    refine wc_cond rfl (fun hpv => ?_) (fun hpw => ?_)
    rotate_left
    · have hpv : pvO l i = some x.key := Decidable.not_not.1 hpw
      rw [if_pos hpv] at hk2
      refine wc_skip ?_; refine we_block_norm ?_; refine we_seq ?_; refine wc_region ?_; apply wl_val; apply opv_bin; exact rfl; exact rfl; exact bin_add64 (by omega); exact rfl; refine wl_mv rfl rfl ?_; refine wl_nil ?_
      exact we_loop _ (l.length - (i + 1)) ⟨i + 1, ks, R, cr, vs, rfl, by omega, by omega, hk2, hs.drop 0 rfl, rfl⟩ (by omega) ⟨rfl, rfl, rfl, rfl, by rw [show ((i + 1 : Nat) : Int) = (i : Int) + 1 by omega]; rfl, trivial⟩
    · rw [if_neg hpv] at hk2
      refine wc_region ?_; refine wl_mv rfl rfl ?_; apply wl_val; apply opv_fa; exact fa_sE (by decide); exact rfl; exact rfl; apply wl_val; apply opv_ldX; exact rfl; exact hs.ar 0 rfl; exact e1_by; exact rfl; exact rfl
      refine ws_push (vs := [.slice U x.key.length cu]) hs 1 rfl rfl tyBB ⟨rfl, rfl, rfl, trivial⟩ rfl (by decide) rfl (by omega) (by omega) rfl rfl ?_
      clear hs; intro _ R2 cr2 _ hs; dsimp only [setC] at hs
      replace hs := hs.front 2 rfl
      dsimp only [delC] at hs
      replace hs := hs.bbAdd rx hcx
      replace hs := (hs.front 2 rfl).drop 2 rfl
      dsimp only [delC] at hs
      refine wl_as rfl rfl ?_; refine wl_nil ?_; refine we_block_norm ?_; refine we_seq ?_; refine wc_region ?_; apply wl_val; apply opv_bin; exact rfl; exact rfl; exact bin_add64 (by omega); exact rfl; refine wl_mv rfl rfl ?_; refine wl_nil ?_
      exact we_loop _ (l.length - (i + 1)) ⟨i + 1, ks ++ [x.key], R2, cr2, _, rfl, by omega, by rw [List.length_append, List.length_singleton]; omega, hk2, by rw [List.length_append]; exact hs, rfl⟩ (by omega) ⟨rfl, by rw [List.length_append]; rfl, rfl, rfl, by rw [show ((i + 1 : Nat) : Int) = (i : Int) + 1 by omega]; rfl, trivial⟩
  · obtain rfl : i = l.length := by omega
    rw [List.drop_length, keysP, List.append_nil] at hk
    have hB := hs.bb 0 1 rfl rfl
    have hkl2 : ∀ k ∈ ks, k.length ≤ 1099511627776 := fun k h => by
      obtain ⟨e, h1, h2⟩ := keysP_of l none k (by rw [show keysP none l = keysU l from rfl, hk]; exact h)
      have := hsz e h1
      rw [← h2]; omega
    rw [hk]
    refine wc_exit ?_; refine we_seq_exit ?_; refine we_loop_exit ?_; refine we_block_exit ?_; refine we_seq ?_; refine wc_sr ?_; refine wl_mv rfl rfl ?_
    refine wl_call ok_bloom_Build (bloomBuild_any hB rfl (by omega) hkl2) ⟨rfl, rfl, trivial⟩ rfl ?_
    rintro _ w9 ⟨B, cB, rfl, o_, hbx⟩
    apply wl_val; apply opv_extract; exact rfl; exact rfl; exact rfl; apply wl_val; apply opv_extract; exact rfl; exact rfl; exact rfl; refine wl_as rfl rfl ?_; refine wl_as rfl rfl ?_; refine wl_ns ?_; refine wc_ret ?_
    exact we_ret2 rfl rfl rfl ⟨_, rfl, B, cB, rfl, o_.mono hs.bel.size, hs.bel.trans (hbx.mono hs.bel.size)⟩
end Go.Proofs.YtdgagffieobiiaaGreatDoor

/-
  What is known of a table, and an entry of its own.
-/
namespace Go.Proofs.YtdgagffieobiiaaGreatDoor
open Go.RowKit
theorem sMt : StT Tryz.prog 38 4 := ⟨by kernel_rfl, by kernel_rfl⟩
def zMt : List Value := [.slice none 0 0, .slice none 0 0, .int .i64 0, .int .i64 0]
theorem zeroMt : (Tryz.prog.info? 38).map (·.zero) = some (some (.agg zMt.toArray)) := by kernel_rfl
def mtV (C : Option Addr) (n e : Nat) (D : Option Addr) (m f : Nat) (k s : Nat) : List Value := [.slice C n e, .slice D m f, .int .i64 (k : Int), .int .i64 (s : Int)]
theorem twin_any {x : En} {A B : Option Addr} {c d : Nat} {w : World} (rx : RdB w A x.key) (rx2 : RdB w B x.val) (hl : x.key.length ≤ 140737488355328) (hl2 : x.val.length ≤ 140737488355328) :
    CallsV Tryz.prog 53 #[.agg (enV x A c B d).toArray] w (RetE2 w x) := by
  have hs := St.init w
  refine calls_in (N := _) Tryz.func53 rfl Tryz.ntmps53 rfl ?_; show WC _ _ _ _ _ _
  refine wc_sr ?_
  refine ws_box (cs := enV x A c B d) hs rfl rfl ?_; clear hs; intro g1 _ hs
  refine ws_new hs zeroE rfl ?_; clear hs; intro g2 _ hs
  refine wl_ns ?_; refine wc_seq ?_
  unfold enV at hs
  refine wc_heldM 7 mixed fun w_ hS => ?_
  apply wm_take 0; exact rfl; intro _ hw_; apply opv_fa; exact fa_sE (by decide); exact rfl; exact rfl; kernel_rfl; exact hS; apply wm_take 1; exact rfl; intro _ hw_; apply opv_ldX; exact rfl; exact Ar.bel (hs.ar 1 rfl) hw_; exact e1_by; exact rfl; exact rfl; kernel_rfl; exact hS; apply wm_take 3; exact rfl; intro _ hw_; apply opv_fa; exact fa_sE (by decide); exact rfl; exact rfl; kernel_rfl; exact hS; apply wm_take 4; exact rfl; intro _ hw_; apply opv_ldX; exact rfl; exact Ar.bel (hs.ar 1 rfl) hw_; exact e1_by; exact rfl; exact rfl; kernel_rfl; exact hS
  replace hs := hs.below hS
  refine wm_one 2 (by kernel_rfl) rfl ?_; dsimp only [List.getElem_toArray, List.getElem_cons_succ, List.getElem_cons_zero]
  refine wl_call ok_bytes_Clone (clone_any (rx.below hs.bel) rfl hl) ⟨rfl, trivial⟩ rfl ?_; rintro _ _ ⟨C, e, rfl, o_, hbx⟩; replace hs := hs.newO hbx o_ (Nat.le_refl _); try dsimp only [List.cons_append, List.nil_append, setC, delC] at hs
  replace hS := hS.trans (hbx.mono hS.size)
  refine wl_nil ?_
  refine we_heldM (fun _ => hS) ?_
  apply wm_take 6; exact rfl; intro _ hw_; apply opv_fa; exact fa_sE (by decide); exact rfl; exact rfl; kernel_rfl; exact hS
  refine wm_one 5 (by kernel_rfl) rfl ?_; dsimp only [List.getElem_toArray, List.getElem_cons_succ, List.getElem_cons_zero]
  refine wl_call ok_bytes_Clone (clone_any (rx2.below hs.bel) rfl hl2) ⟨rfl, trivial⟩ rfl ?_; rintro _ _ ⟨D, f, rfl, o_, hbx⟩; replace hs := hs.newO hbx o_ (Nat.le_refl _); try dsimp only [List.cons_append, List.nil_append, setC, delC] at hs
  replace hS := hS.trans (hbx.mono hS.size)
  refine wl_nil ?_
  refine we_heldM (fun _ => hS) ?_
  refine wm_one 7 (by kernel_rfl) rfl ?_; dsimp only [List.getElem_toArray, List.getElem_cons_succ, List.getElem_cons_zero]
  apply ws_st hs 3; exact rfl; exact rfl; exact e1_by; exact rfl; exact rfl; exact rfl; clear hs; intro _ hs; dsimp only [setC, List.set] at hs; refine wl_nil ?_
  refine we_heldM (fun h => absurd h (by decide)) ?_
  refine wm_one 8 (by kernel_rfl) rfl ?_; dsimp only [List.getElem_toArray, List.getElem_cons_succ, List.getElem_cons_zero]
  apply wl_val; apply opv_fa; exact fa_sE (by decide); exact rfl; exact rfl; refine wl_nil ?_
  refine we_heldM (fun h => absurd h (by decide)) ?_
  refine wm_one 9 (by kernel_rfl) rfl ?_; dsimp only [List.getElem_toArray, List.getElem_cons_succ, List.getElem_cons_zero]
  apply ws_st hs 3; exact rfl; exact rfl; exact e1_by; exact rfl; exact rfl; exact rfl; clear hs; intro _ hs; dsimp only [setC, List.set] at hs; refine wl_nil ?_
  refine we_heldM (fun h => absurd h (by decide)) ?_
  refine wm_done (by kernel_rfl) ?_
  refine we_seq ?_; refine wc_sr ?_; apply wl_val; apply opv_loadX; exact rfl; exact hs.ar 3 rfl; exact sE; exact rfl; apply ws_stS hs 2; exact rfl; exact rfl; exact rfl; exact sE; exact rfl; exact rfl; clear hs; intro _ hs; dsimp only [setC] at hs; refine wl_ns ?_; refine wc_ret ?_
  exact we_retC rfl rfl (hs.ar 2 rfl) sE ⟨_, rfl, C, e, D, f, rfl, (((hs.drop 2 rfl).drop 2 rfl).front 1 rfl)⟩
set_option maxHeartbeats 1000000 in
theorem meta_any {A : Option Addr} {n c s : Nat} {l : List En} {w : World} (rl : RdR 4 w All A (l.map enEl)) (hn : l.length = n) (hne : l ≠ []) (hl : l.length ≤ 1099511627776) (hk : ∀ x ∈ l, x.key.length ≤ 140737488355328) :
    CallsV Tryz.prog 46 #[.slice A n c, .int .i64 (s : Int)] w fun v w' => (∃ C k1 e D k2 f, v = .agg (mtV C k1 e D k2 f n s).toArray) ∧ Below w.heap.size w w' := by
  obtain ⟨m, rfl⟩ : ∃ m, n = m + 1 := ⟨n - 1, by have := List.length_pos_iff.2 hne; omega⟩
  have hs := St.init w
  obtain ⟨x, hx⟩ : ∃ x, l[0]? = some x := ⟨_, List.getElem?_eq_getElem (by omega)⟩
  obtain ⟨y, hy⟩ : ∃ y, l[m]? = some y := ⟨_, List.getElem?_eq_getElem (by omega)⟩
  obtain ⟨b2, o2, cs, rfl, _, _, hp, i0⟩ := RdR.at (k := 4) (by decide) rl (E := enEl x) (i := 0) (by rw [List.getElem?_map, hx]; rfl)
  obtain ⟨_, _, cs2, hA', _, _, hp2, j0⟩ := RdR.at (k := 4) (by decide) rl (E := enEl y) (i := m) (by rw [List.getElem?_map, hy]; rfl)
  simp only [Option.some.injEq, Addr.mk.injEq, and_true] at hA'
  obtain ⟨rfl, rfl⟩ := hA'
  obtain ⟨U, cu, U2, cu2, rfl, rx, _, _, _⟩ := enEl.rd hp
  obtain ⟨Y, cy, Y2, cy2, rfl, ry, _, _, _⟩ := enEl.rd hp2
  have hkx := hk x (List.mem_of_getElem? hx)
  have hky := hk y (List.mem_of_getElem? hy)
  refine calls_in (N := _) Tryz.func46 rfl Tryz.ntmps46 rfl ?_; show WC _ _ _ _ _ _
  refine wc_sr ?_
  refine ws_new hs zeroMt rfl ?_
  clear hs
  intro g4 w1 hs
  unfold zMt at hs
  refine wl_ns ?_; refine wc_seq ?_
  refine wc_cutE (fun L' w' => ∃ g5 g6, L' = [(0, .slice (some ⟨b2, o2, none⟩) (m + 1) c), (1, .int .i64 (s : Int)), (4, .pointer (some ⟨g4, 0, none⟩)), (5, .pointer (some ⟨g5, 0, none⟩)), (6, .pointer (some ⟨g6, 0, none⟩))] ∧ St NoB w w' [.blk g5 31 (enV x U cu U2 cu2), .blk g6 31 (enV y Y cy Y2 cy2), .blk g4 38 [.slice none 0 0, .slice none 0 0, .int .i64 0, .int .i64 0]]) ?_ ?_
  · have hs1 := hs
    have i1 := i0.below hs1.bel
    have j1 := j0.below hs1.bel
    clear hs
    have hs := St.init w1
    refine wc_heldM 12 mixed fun w_ hS => ?_
    apply wm_take 0; exact rfl; intro _ hw_; apply opv_move; exact rfl; exact rfl; kernel_rfl; exact hS; apply wm_take 1; exact rfl; intro _ hw_; apply opv_idxG (kk := 0) tkE; exact rfl; exact rfl; exact rfl; omega; exact rfl; kernel_rfl; exact hS; apply wm_take 2; exact rfl; intro _ hw_; apply opv_ldG; exact rfl; exact Wi.below (by assumption) hw_; exact sE; exact rfl; kernel_rfl; exact hS; apply wm_take 3; exact rfl; intro _ hw_; apply opv_move; exact rfl; exact rfl; kernel_rfl; exact hS; apply wm_take 4; exact rfl; intro _ hw_; apply opv_move; exact rfl; exact rfl; kernel_rfl; exact hS; apply wm_take 5; exact rfl; intro _ hw_; apply opv_len; exact rfl; exact tkE.sl; exact rfl; kernel_rfl; exact hS; apply wm_take 6; exact rfl; intro _ hw_; apply opv_bin; exact rfl; exact rfl; exact bin_sub64 (by omega); exact rfl; kernel_rfl; exact hS; apply wm_take 7; exact rfl; intro _ hw_; apply opv_idxG tkE; exact rfl; exact rfl; exact natc_pred; omega; exact rfl; kernel_rfl; exact hS; apply wm_take 8; exact rfl; intro _ hw_; apply opv_ldG; exact rfl; exact Wi.below (by assumption) hw_; exact sE; exact rfl; kernel_rfl; exact hS
    replace hs := hs.below hS
    refine wm_two 9 10 (by kernel_rfl) rfl rfl ?_ ?_ <;> dsimp only [List.getElem_toArray, List.getElem_cons_succ, List.getElem_cons_zero]
    · refine ws_new hs zeroE rfl ?_; clear hs; intro g5 _ hs
      unfold zE at hs
      refine we_heldM (fun _ => hs.bel) ?_
      refine wm_one 10 (by kernel_rfl) rfl ?_; dsimp only [List.getElem_toArray, List.getElem_cons_succ, List.getElem_cons_zero]
      refine ws_new hs zeroE rfl ?_; clear hs; intro g6 _ hs
      unfold zE at hs
      refine we_heldM (fun _ => hs.bel) ?_
      refine wm_one 11 (by kernel_rfl) rfl ?_; dsimp only [List.getElem_toArray, List.getElem_cons_succ, List.getElem_cons_zero]
      apply ws_stS hs 1; exact rfl; exact rfl; exact rfl; exact sE; exact rfl; exact rfl; clear hs; intro _ hs; dsimp only [setC] at hs; refine wl_nil ?_
      refine we_heldM (fun _ => hs.bel) ?_
      refine wm_one 12 (by kernel_rfl) rfl ?_; dsimp only [List.getElem_toArray, List.getElem_cons_succ, List.getElem_cons_zero]
      apply ws_stS hs 0; exact rfl; exact rfl; exact rfl; exact sE; exact rfl; exact rfl; clear hs; intro _ hs; dsimp only [setC] at hs; refine wl_nil ?_
      refine we_heldM (fun h => absurd h (by decide)) ?_
      refine wm_done (by kernel_rfl) ?_
      skip
      have hsx := hs.front 1 rfl
      dsimp only [delC] at hsx
      exact we_cut _ ⟨_, _, rfl, hs1.call hsx⟩ ⟨rfl, rfl, rfl, rfl, rfl, trivial⟩
    · refine ws_new hs zeroE rfl ?_; clear hs; intro g6 _ hs
      unfold zE at hs
      refine we_heldM (fun _ => hs.bel) ?_
      refine wm_one 9 (by kernel_rfl) rfl ?_; dsimp only [List.getElem_toArray, List.getElem_cons_succ, List.getElem_cons_zero]
      refine ws_new hs zeroE rfl ?_; clear hs; intro g5 _ hs
      unfold zE at hs
      refine we_heldM (fun _ => hs.bel) ?_
      refine wm_one 11 (by kernel_rfl) rfl ?_; dsimp only [List.getElem_toArray, List.getElem_cons_succ, List.getElem_cons_zero]
      apply ws_stS hs 0; exact rfl; exact rfl; exact rfl; exact sE; exact rfl; exact rfl; clear hs; intro _ hs; dsimp only [setC] at hs; refine wl_nil ?_
      refine we_heldM (fun _ => hs.bel) ?_
      refine wm_one 12 (by kernel_rfl) rfl ?_; dsimp only [List.getElem_toArray, List.getElem_cons_succ, List.getElem_cons_zero]
      apply ws_stS hs 1; exact rfl; exact rfl; exact rfl; exact sE; exact rfl; exact rfl; clear hs; intro _ hs; dsimp only [setC] at hs; refine wl_nil ?_
      refine we_heldM (fun h => absurd h (by decide)) ?_
      refine wm_done (by kernel_rfl) ?_
      skip
      have hsx := hs
      exact we_cut _ ⟨_, _, rfl, hs1.call hsx⟩ ⟨rfl, rfl, rfl, rfl, rfl, trivial⟩
  clear hs i0 j0
  rintro _ w2 ⟨g5, g6, rfl, hs⟩
  unfold enV at hs
  refine we_seq ?_; refine wc_seq ?_
  have hs1 := hs
  clear hs
  have hs := St.init w2
  have rx2 := rx.below hs1.bel
  have ry2 := ry.below hs1.bel
  have a5 := hs1.ar 0 rfl
  have a6 := hs1.ar 1 rfl
  refine wc_heldM 10 mixed fun w_ hS => ?_
  apply wm_take 0; exact rfl; intro _ hw_; apply opv_fa; exact fa_sE (by decide); exact rfl; exact rfl; kernel_rfl; exact hS; apply wm_take 1; exact rfl; intro _ hw_; apply opv_ldX; exact rfl; exact Ar.bel (by assumption) hw_; exact e1_by; exact rfl; exact rfl; kernel_rfl; exact hS; apply wm_take 3; exact rfl; intro _ hw_; apply opv_fa; exact fa_sE (by decide); exact rfl; exact rfl; kernel_rfl; exact hS; apply wm_take 4; exact rfl; intro _ hw_; apply opv_ldX; exact rfl; exact Ar.bel (by assumption) hw_; exact e1_by; exact rfl; exact rfl; kernel_rfl; exact hS; apply wm_take 6; exact rfl; intro _ hw_; apply opv_move; exact rfl; exact rfl; kernel_rfl; exact hS; apply wm_take 7; exact rfl; intro _ hw_; apply opv_len; exact rfl; exact tkE.sl; exact rfl; kernel_rfl; exact hS; apply wm_take 8; exact rfl; intro _ hw_; apply opv_move; exact rfl; exact rfl; kernel_rfl; exact hS
  replace hs := hs.below hS
  refine wm_one 2 (by kernel_rfl) rfl ?_; dsimp only [List.getElem_toArray, List.getElem_cons_succ, List.getElem_cons_zero]
  refine wl_call ok_bytes_Clone (clone_any (rx2.below hs.bel) rfl hkx) ⟨rfl, trivial⟩ rfl ?_; rintro _ _ ⟨C, e, rfl, o_, hbx⟩; replace hs := hs.newO hbx o_ (Nat.le_refl _); try dsimp only [List.cons_append, List.nil_append, setC, delC] at hs
  refine we_heldM (fun _ => hs.bel) ?_
  refine wm_one 5 (by kernel_rfl) rfl ?_; dsimp only [List.getElem_toArray, List.getElem_cons_succ, List.getElem_cons_zero]
  refine wl_call ok_bytes_Clone (clone_any (ry2.below hs.bel) rfl hky) ⟨rfl, trivial⟩ rfl ?_; rintro _ _ ⟨D, f, rfl, o2_, hbx⟩; replace hs := hs.below hbx; try dsimp only [List.cons_append, List.nil_append, setC, delC] at hs
  refine we_heldM (fun _ => hs.bel) ?_
  refine wm_one 9 (by kernel_rfl) rfl ?_; dsimp only [List.getElem_toArray, List.getElem_cons_succ, List.getElem_cons_zero]
  refine wl_val (opv_build (vs := [(0, .slice C x.key.length e), (1, .slice D y.key.length f), (2, .int .i64 (((m + 1 : Nat)) : Int)), (3, .int .i64 (s : Int))]) (cs := mtV C x.key.length e D y.key.length f (m + 1) s) ⟨rfl, rfl, rfl, rfl, rfl, rfl, rfl, rfl, trivial⟩ (by kernel_rfl)) rfl ?_
  refine wl_nil ?_
  refine we_heldM (fun _ => hs.bel) ?_
  refine wm_one 10 (by kernel_rfl) rfl ?_; dsimp only [List.getElem_toArray, List.getElem_cons_succ, List.getElem_cons_zero]
  replace hs := hs1.below hs.bel
  apply ws_stS hs 2; exact rfl; exact rfl; exact rfl; exact sMt; exact rfl; exact rfl; clear hs; intro _ hs; dsimp only [setC] at hs; refine wl_nil ?_
  refine we_heldM (fun h => absurd h (by decide)) ?_
  refine wm_done (by kernel_rfl) ?_
  refine we_seq ?_; refine wc_ret ?_
  exact we_retC rfl rfl (hs.ar 2 rfl) sMt ⟨_, rfl, ⟨C, _, e, D, _, f, rfl⟩, hs.bel⟩
end Go.Proofs.YtdgagffieobiiaaGreatDoor

/-
  A table's file, in plain terms.
-/
namespace Go.Proofs.YtdgagffieobiiaaGreatDoor
open Go.RowKit
/-- Entries as a table's file holds them. -/
structure TbOk (l : List En) : Prop where
  ord : Ord l
  good : ∀ x ∈ l, bigE x = false ∧ badE x = false
  sq : ∀ x ∈ l, x.seq < 2 ^ 64
  len : l.length ≤ 40
  ne : l ≠ []
theorem TbOk.chk {l : List En} (h : TbOk l) : checkE l = 0 := check_of h.good
theorem TbOk.big {l : List En} (h : TbOk l) : ∀ x ∈ l, x.key.length ≤ 1024 ∧ x.val.length ≤ 65536 := check_big h.chk
theorem TbOk.sub {l p : List En} (h : TbOk l) (hp : p.Sublist l) (hn : p ≠ []) : TbOk p :=
  ⟨h.ord.sublist hp, fun x hx => h.good x (hp.subset hx), fun x hx => h.sq x (hp.subset hx), Nat.le_trans hp.length_le h.len, hn⟩
theorem TbOk.siz {l : List En} (h : TbOk l) : Siz l := fun x hx => by
  have h1 := h.big x hx
  have h2 := h.sq x hx
  omega
theorem TbOk.siz2 {l : List En} (h : TbOk l) : Siz2 l := fun x hx => by
  have h1 := h.big x hx
  have h2 := h.sq x hx
  omega
def szE (x : En) : Nat := x.key.length + x.val.length
theorem cutF_sz {size : Nat} (hp : 0 < size) : ∀ (l cur : List En) (s : Nat), (cur.map szE).sum = s → s < size → ∀ p ∈ cutF size cur s l, ∃ q e, p = q ++ [e] ∧ (q.map szE).sum < size ∧ e ∈ l
  | [], _, _, _, _, p, h => by simp [cutF] at h
  | e :: r, cur, s, hs, hlt, p, h => by
    unfold cutF at h
    split at h
    · rcases List.mem_cons.1 h with rfl | h
      · exact ⟨cur, e, rfl, by omega, List.mem_cons_self ..⟩
      · obtain ⟨q, e2, h1, h2, h3⟩ := cutF_sz hp r [] 0 rfl hp p h
        exact ⟨q, e2, h1, h2, List.mem_cons_of_mem _ h3⟩
    · rename_i hn
      obtain ⟨q, e2, h1, h2, h3⟩ := cutF_sz hp r (cur ++ [e]) (s + (e.key.length + e.val.length)) (by rw [List.map_append, List.sum_append, hs]; simp [szE]) (by omega) p h
      exact ⟨q, e2, h1, h2, List.mem_cons_of_mem _ h3⟩
def prtE (l : List En) : List (List En) := cutF 40 [] 0 l
theorem prt_flat {l : List En} : (prtE l).flatten = l := by rw [prtE, cutF_flat 40 l [] 0 fun _ => rfl]; rfl
theorem prt_ok {l : List En} (h : TbOk l) {p : List En} (hp : p ∈ prtE l) : TbOk p := h.sub (by have := cutF_sub 40 l [] 0 p hp; simpa using this) (cutF_ne 40 l [] 0 p hp)
theorem prt_blk {l : List En} (h : TbOk l) {p : List En} (hp : p ∈ prtE l) : (blkB 4 p).length ≤ 100000 := by
  have hk := prt_ok h hp
  obtain ⟨q, e, rfl, h2, h3⟩ := cutF_sz (by decide) l [] 0 rfl (by decide) p hp
  have h4 := h.big e h3
  have h5 := blk_size (every := 4) hk.siz
  have h6 := hk.len
  rw [show (fun x : En => x.key.length + x.val.length) = szE from rfl, List.map_append, List.sum_append] at h5
  have h7 : ([e].map szE).sum = e.key.length + e.val.length := by simp [szE]
  rw [h7] at h5
  omega
def blkF (l : List En) : List (List UInt8) := (prtE l).map fun p => crcRec (blkB 4 p)
def tabF (l : List En) : List UInt8 := framed [framed (blkF l), filtB (keysU l)]
theorem prt_build {l : List En} (h : TbOk l) {p : List En} (hp : p ∈ prtE l) : buildB 4 p = (crcRec (blkB 4 p), 0) ∧ decB (crcRec (blkB 4 p)) = (p, 0) := by
  have hk := prt_ok h hp
  exact dec_build (by decide) hk.siz hk.chk (ordE_of hk.ord) (by have := prt_blk h hp; omega)
theorem prt_len {l : List En} : (prtE l).length ≤ l.length := cutF_len 40 l [] 0
theorem blkF_len {l : List En} : (blkF l).length ≤ l.length := by rw [blkF, List.length_map]; exact prt_len
theorem blkF_each {l : List En} (h : TbOk l) : ∀ b ∈ blkF l, b.length ≤ 100008 := fun b hb => by
  obtain ⟨p, hp, rfl⟩ := List.mem_map.1 hb
  rw [crcRec_length]
  have := prt_blk h hp
  omega
theorem flat_each {α : Type} {m : Nat} : ∀ {l : List (List α)}, (∀ x ∈ l, x.length ≤ m) → l.flatten.length ≤ l.length * m
  | [], _ => by simp
  | x :: l, h => by
    have h1 := h x (List.mem_cons_self ..)
    have h2 := flat_each (l := l) fun y hy => h y (List.mem_cons_of_mem _ hy)
    rw [List.flatten_cons, List.length_append, List.length_cons, Nat.add_mul]
    omega
theorem blkF_flat {l : List En} (h : TbOk l) : (blkF l).flatten.length ≤ 4000320 := by
  have h1 := flat_each (blkF_each h)
  have h2 := blkF_len (l := l)
  have h3 := h.len
  have := Nat.mul_le_mul_right 100008 (show (blkF l).length ≤ 40 by omega)
  omega
theorem keysU_len {l : List En} : (keysU l).length ≤ l.length := keysP_len l none
theorem filt_max {l : List En} (h : TbOk l) : (filtB (keysU l)).length ≤ 51 := by
  have h1 := keysU_len (l := l)
  have h2 := h.len
  have h3 := mB_ok (n := (keysU l).length) (by omega)
  rw [filt_len]
  omega
end Go.Proofs.YtdgagffieobiiaaGreatDoor

/-
  Walk over the making of a table's file.
-/
namespace Go.Proofs.YtdgagffieobiiaaGreatDoor
open Go.RowKit
theorem buildMt0 : Tryz.prog.built 38 [] = some zMt.toArray := by kernel_rfl
/-- A struct is handed back by value; between two results. -/
theorem we_retM {P : Program} {N : Nat} {L : FL} {w : World} {t : TypeId} {g : Nat} {cs : List Value} {fn : Func} {R : Ending → World → Prop} {p q r : Nat} {T : TypeId} {u v : Value} (hr : fn.results = #[.tmp q, .cell p t, .tmp r]) (hx : lookT L p = some (.pointer (some ⟨g, 0, none⟩))) (hq : lookT L q = some u) (hv : lookT L r = some v) (ha : Ar w g T cs) (S : StT P t cs.length)
    (h : R (.returned (.tuple #[u, .agg cs.toArray, v])) w) : WE N (bodyPost P fn R) .ret L w := fun a hA =>
  ⟨hA.nodefer, _, by
    obtain ⟨fs, hu⟩ := S.get
    have := run_loadVar_row (P := P) w g T t cs.toArray (0, 0) _ ha hu rfl (by simpa using S.size)
    have e := hA.get p _ hx
    have e2 := hA.get q _ hq
    have e3 := hA.get r _ hv
    rw [Array.getD_eq_getD_getElem?] at e e2 e3
    simp [results, hr, e, e2, e3, asAddr, this], h⟩
/-- The elements of a row of byte lists, read. -/
def EK (vs : List Value) (rows : List (List UInt8)) (w : World) : Prop := vs.length = rows.length ∧ ∀ (i : Nat) (r : List UInt8), rows[i]? = some r → ∃ (A' : Option Addr) (c' : Nat), vs[i]? = some (.slice A' r.length c') ∧ RdB w A' r ∧ r.length ≤ c'
section
variable {w : World} {vs vp : List Value} {rows part : List (List UInt8)}
theorem EK.nil : EK [] [] w := ⟨rfl, fun i r h => by simp at h⟩
theorem EK.bb (h : EK vs rows w) {A : Option Addr} (hr : Rd w A rows.length vs) : RdBB w A rows := ⟨vs, hr, h.2⟩
theorem EK.app (h : EK vs rows w) (h2 : EK vp part w) : EK (vs ++ vp) (rows ++ part) w := by
  refine ⟨by rw [List.length_append, List.length_append, h.1, h2.1], fun i r hi => ?_⟩
  rcases Nat.lt_or_ge i rows.length with hlt | hge
  · rw [List.getElem?_append_left hlt] at hi
    rw [List.getElem?_append_left (by rw [h.1]; exact hlt)]
    exact h.2 i r hi
  · rw [List.getElem?_append_right hge] at hi
    rw [List.getElem?_append_right (by rw [h.1]; exact hge), h.1]
    exact h2.2 _ r hi
theorem EK.one {A' : Option Addr} {c' : Nat} {r : List UInt8} (h : RdB w A' r) (hc : r.length ≤ c') : EK [.slice A' r.length c'] [r] w := ⟨rfl, fun i x hi => by
  cases i with
  | zero => simp only [List.getElem?_cons_zero, Option.some.injEq] at hi; subst hi; exact ⟨A', c', rfl, h, hc⟩
  | succ i => simp at hi⟩
end
def RetTb (w : World) (l : List En) (v : Value) (w' : World) : Prop :=
  ((tabF l).length ≤ 1048576 ∧ ∃ (B : Option Addr) (cB : Nat) (C : Option Addr) (k1 e : Nat) (D : Option Addr) (k2 f : Nat), v = .tuple #[.slice B (crcRec (tabF l)).length cB, .agg (mtV C k1 e D k2 f l.length (crcRec (tabF l)).length).toArray, .int .i64 0] ∧ St NoB w w' [.ck (rdC B (crcRec (tabF l)))] ∧ (crcRec (tabF l)).length ≤ cB) ∨
  (1048576 < (tabF l).length ∧ v = .tuple #[.slice none 0 0, .agg zMt.toArray, .int .i64 2] ∧ Below w.heap.size w w')
set_option maxHeartbeats 2000000 in
theorem bytes_any {A : Option Addr} {n c : Nat} {l : List En} {w : World} (rl : RdR 4 w All A (l.map enEl)) (hn : l.length = n) (hc : l.length ≤ c) (hk : TbOk l) :
    CallsV Tryz.prog 33 #[.int .i64 40, .slice A n c] w (RetTb w l) := by
  subst hn
  have hs := St.init w
  have hmax : maxLen = 9223372036854775807 := rfl
  have h40 : ¬ (40 : Int) < 1 := by decide
  have hll := hk.len
  have hbg := hk.big
  refine calls_in (N := _) Tryz.func33 rfl Tryz.ntmps33 rfl ?_; show WC _ _ _ _ _ _
  refine wc_sr ?_; refine wl_as rfl rfl ?_
  refine ws_new hs zeroMt rfl ?_; clear hs; intro g5 _ hs
  refine wl_as rfl rfl ?_; refine wl_ns ?_; refine wc_seq ?_; refine wc_sr ?_; refine wl_mv rfl rfl ?_; refine wl_bin rfl rfl bin_lss rfl ?_; refine wl_ns ?_; apply wc_condFb; exact rfl; exact rfl; refine wc_skip ?_; refine we_seq ?_; refine wc_sr ?_; refine wl_mv rfl rfl ?_
  have hck := check_any (c := c) (rl.below hs.bel) rfl (by omega)
  rw [hk.chk] at hck
  refine wl_call ok_mem_Check hck ⟨rfl, trivial⟩ rfl ?_
  clear hck
  rintro _ _ ⟨rfl, hbx⟩
  replace hs := hs.below hbx
  clear hbx
  have h02 : ¬ ((0 : Nat) : Int) = 2 := by decide
  have h00 : ((0 : Nat) : Int) = 0 := rfl
  refine wl_as rfl rfl ?_; refine wl_ns ?_; refine wc_seq ?_; refine wc_sr ?_; refine wl_mv rfl rfl ?_; refine wl_bin rfl rfl bin_eql rfl ?_; refine wl_ns ?_; apply wc_condFb; exact rfl; exact rfl; refine wc_skip ?_; refine we_seq ?_; refine wc_seq ?_; refine wc_sr ?_; refine wl_mv rfl rfl ?_; refine wl_bin rfl rfl bin_neq rfl ?_; refine wl_mv rfl rfl ?_; apply wl_take; exact rfl; exact rfl; exact rfl; refine bF ?_; omega; refine wl_mv rfl rfl ?_; apply wl_take; exact rfl; exact rfl; exact rfl; refine bF ?_; omega
  refine wl_call ok_table_ordered (ordered_any (rl.below hs.bel) rfl (ordE_of hk.ord) hk.ne (by omega)) ⟨rfl, trivial⟩ rfl ?_
  rintro _ w1 ⟨rfl, hbx⟩
  have hs1 := hs.below hbx
  clear hbx hs
  have rl1 := rl.below hs1.bel
  have hs := (((St.init w1).kpNil (K := EK [] []) fun _ => EK.nil).nilO 28)
  apply wl_take; exact rfl; exact rfl; exact rfl; refine bF ?_; omega; apply wl_val; apply opv_not; exact rfl; exact rfl; apply wl_val; apply opv_pickF; exact rfl; refine bF ?_; omega; exact rfl; exact rfl; refine wl_ns ?_; apply wc_condFb; exact rfl; exact Bool.not_true; refine wc_skip ?_; refine we_seq ?_; refine wc_sr ?_; refine wl_as rfl rfl ?_; refine wl_ns ?_; refine wc_seq ?_; refine wc_sr ?_; refine wl_mv rfl rfl ?_; refine wl_mv rfl rfl ?_
  refine wl_call ok_table_cut (cut_any4 rl1 rfl hc (by omega) fun x hx => by have := hbg x hx; omega) ⟨rfl, rfl, trivial⟩ rfl ?_
  rintro _ w2 ⟨G, cg, css, rfl, hA, hsx⟩
  replace hs := hs.call hsx
  clear hsx
  rw [show cutF 40 [] 0 l = prtE l from rfl] at hA ⊢
  dsimp only [List.cons_append, List.nil_append] at hs
  have hpl := prt_len (l := l)
  have hbl : (blkF l).length = (prtE l).length := List.length_map _
  apply wl_val; apply opv_len; exact rfl; exact tkEE.sl; exact rfl; refine wl_mv rfl rfl ?_; refine wl_ns ?_; refine wc_block ?_
  refine wc_loop (fun L wr mm => ∃ (i : Nat) (R : Option Addr) (cr : Nat) (vs : List Value), L = [(1, .slice A l.length c), (5, .pointer (some ⟨g5, 0, none⟩)), (8, .slice R i cr), (34, .slice G (prtE l).length cg), (35, .int .i64 ((prtE l).length : Int)), (36, .int .i64 (i : Int))] ∧ i ≤ (prtE l).length ∧ St NoB w1 wr [.rg 1 22 G cg (css.map rawEl), .ow 28 R i cr vs, .ck (kp (EK vs ((blkF l).take i)))] ∧ mm = (prtE l).length - i)
    [(1, .slice A l.length c), (5, .pointer (some ⟨g5, 0, none⟩)), (8, .slice none 0 0), (34, .slice G (prtE l).length cg), (35, .int .i64 ((prtE l).length : Int)), (36, .int .i64 ((0 : Nat) : Int))] (prtE l).length ⟨0, none, 0, [], rfl, Nat.zero_le _, hs, rfl⟩ ⟨rfl, rfl, rfl, rfl, rfl, rfl, trivial⟩ ?_
  clear hs
  rintro _ w7 mm ⟨i, R, cr, vs, rfl, hi, hs, rfl⟩
  refine wc_sr ?_; refine wl_bin rfl rfl bin_lss rfl ?_; refine wl_ns ?_; refine wc_seq ?_
  refine wc_cond rfl (fun h5 => ?_) (fun h5 => ?_)
  · obtain ⟨p, hp⟩ : ∃ p, (prtE l)[i]? = some p := ⟨_, List.getElem?_eq_getElem (by omega)⟩
    have hpm := List.mem_of_getElem? hp
    have hbi : (blkF l)[i]? = some (crcRec (blkB 4 p)) := by rw [blkF, List.getElem?_map, hp]; rfl
    have htk := take_getR hbi
    have hpk := prt_ok hk hpm
    obtain ⟨cs, c1, c2⟩ := hA.2 i p hp
    obtain ⟨X, cx, rfl, hpx, rp⟩ := c2 w1 trivial
    obtain ⟨b2, o2, cs', hG, _, _, hp', i1⟩ := RdR.at (k := 1) (by decide) (hs.rg 0 rfl).rd (E := rawEl [.slice X p.length cx]) (i := i) (by rw [List.getElem?_map, c1]; rfl)
    obtain rfl : cs' = [.slice X p.length cx] := hp'
    subst hG
    have hb := blkBuild_any (every := 4) (c := cx) (by decide) (by decide) (rp.below hs.bel) rfl (by have := hpk.len; omega) hpk.siz2
    rw [(prt_build hk hpm).1] at hb
    refine wc_skip ?_; refine we_seq ?_; refine wc_seq ?_; refine wc_block ?_; refine wc_sr ?_; apply wl_val; apply opv_idxG tkEE; exact rfl; exact rfl; exact rfl; omega; exact rfl; apply wl_val; apply opv_ldW0; exact rfl; assumption; exact e1_row; exact rfl; exact rfl; refine wl_as rfl rfl ?_; refine wl_ns ?_; refine wc_sr ?_; refine wl_mv rfl rfl ?_
    refine wl_call ok_block_Build hb ⟨rfl, rfl, trivial⟩ rfl ?_
    clear hb
    rintro _ _ ⟨D, cD, rfl, hnw, hbx⟩
    have hcD := hnw.cap
    replace hs := hs.newR hbx hnw
    clear hbx hnw
    dsimp only at hs hcD ⊢
    have h00' : ((0 : Nat) : Int) = 0 := rfl
    refine wl_mv rfl rfl ?_; apply wl_val; apply opv_extract; exact rfl; exact rfl; exact rfl; apply wl_val; apply opv_extract; exact rfl; exact rfl; exact rfl; refine wl_as rfl rfl ?_; refine wl_as rfl rfl ?_; refine wl_ns ?_; refine wc_seq ?_; refine wc_sr ?_; refine wl_mv rfl rfl ?_; refine wl_bin rfl rfl bin_neq rfl ?_; refine wl_ns ?_; apply wc_condFb; exact rfl; exact rfl; refine wc_skip ?_; refine we_seq ?_; refine wc_region ?_; refine wl_mv rfl rfl ?_; refine wl_mv rfl rfl ?_
    refine ws_push (vs := [.slice D (crcRec (blkB 4 p)).length cD]) hs 2 rfl rfl tyBB ⟨rfl, rfl, rfl, trivial⟩ rfl (by decide) rfl (by omega) (by omega) rfl rfl ?_
    clear hs; intro _ R2 cr2 _ hs; dsimp only [setC] at hs
    replace hs := (hs.front 3 rfl).front 1 rfl
    dsimp only [delC] at hs
    replace hs := St.kpOf (K := EK (vs ++ [.slice D (crcRec (blkB 4 p)).length cD]) ((blkF l).take (i + 1))) (H1 := [_, _]) hs fun w S hS => by
      rw [htk]
      exact (Sat.kp (i := 1) hS rfl).app (EK.one (Sat.rdc (i := 0) hS rfl) hcD)
    replace hs := ((hs.front 1 rfl).front 2 rfl).front 1 rfl
    dsimp only [delC] at hs
    refine wl_as rfl rfl ?_; refine wl_nil ?_; refine we_block_norm ?_; refine we_seq ?_; refine wc_region ?_; apply wl_val; apply opv_bin; exact rfl; exact rfl; exact bin_add64 (by omega); exact rfl; refine wl_mv rfl rfl ?_; refine wl_nil ?_
    exact we_loop _ ((prtE l).length - (i + 1)) ⟨i + 1, R2, cr2, _, rfl, by omega, hs, rfl⟩ (by omega) ⟨rfl, rfl, rfl, rfl, rfl, by rw [show ((i + 1 : Nat) : Int) = (i : Int) + 1 by omega]; rfl, trivial⟩
  · obtain rfl : i = (prtE l).length := by omega
    rw [← hbl, List.take_length, hbl] at hs
    refine wc_exit ?_; refine we_seq_exit ?_; refine we_loop_exit ?_; refine we_block_exit ?_; refine we_seq ?_; refine wc_sr ?_; refine wl_mv rfl rfl ?_
    refine wl_call ok_table_filter (filter_any (rl1.below hs.bel) rfl hll fun x hx => by have := hbg x hx; omega) ⟨rfl, trivial⟩ rfl ?_
    rintro _ _ ⟨F, cF, rfl, o_, hbx⟩
    have hcF := OwB.cap o_
    replace hs := hs.newO hbx o_ (Nat.le_refl _)
    clear hbx o_
    have hbf := blkF_flat hk
    have hfm := filt_max hk
    refine wl_mv rfl rfl ?_; apply wl_val; apply opv_extract; exact rfl; exact rfl; exact rfl; apply wl_val; apply opv_extract; exact rfl; exact rfl; exact rfl; refine wl_as rfl rfl ?_; refine wl_as rfl rfl ?_; refine wl_ns ?_; refine wc_seq ?_; refine wc_sr ?_; refine wl_mv rfl rfl ?_; refine wl_bin rfl rfl bin_neq rfl ?_; refine wl_ns ?_; apply wc_condFb; exact rfl; exact rfl; refine wc_skip ?_; refine we_seq ?_; refine wc_sr ?_; refine wl_mv rfl rfl ?_
    have hB := (hs.kp 3 rfl).bb (by rw [hbl]; exact (hs.ow 2 rfl).rd)
    refine wl_call ok_codec_Frame (frame_any hB hbl (by omega)) ⟨rfl, trivial⟩ rfl ?_
    clear hB
    rintro _ _ ⟨X1, x1, rfl, o_, hbx⟩
    have hc1 := OwB.cap o_
    replace hs := hs.newO hbx o_ (Nat.le_refl _)
    clear hbx o_
    have hfl1 := framed_length (blkF l) fun r hr => by have := blkF_each hk r hr; omega
    refine wl_mv rfl rfl ?_
    refine wl_bs (vs := [.slice X1 (framed (blkF l)).length x1, .slice F (filtB (keysU l)).length cF]) tyBB ⟨rfl, rfl, rfl, rfl, rfl, rfl, trivial⟩ rfl (by decide) rfl fun R1 _ o_ hbx _ => ?_
    replace hs := hs.below hbx
    have hB := RdBB.two (r := framed (blkF l)) (s := filtB (keysU l)) o_.rd (hs.ow 0 rfl).rd hc1 (hs.ow 1 rfl).rd hcF
    have hfl2 := framed_length [framed (blkF l), filtB (keysU l)] fun r hr => by
      rcases List.mem_cons.1 hr with rfl | hr
      · omega
      · rcases List.mem_cons.1 hr with rfl | hr
        · omega
        · cases hr
    have hfn : ([framed (blkF l), filtB (keysU l)] : List (List UInt8)).flatten.length = (framed (blkF l)).length + (filtB (keysU l)).length := by simp
    rw [hfn] at hfl2
    clear o_ hbx
    skip
    refine wl_call ok_codec_Frame (frame_any hB rfl (by rw [hfn]; simp only [List.length_cons, List.length_nil]; omega)) ⟨rfl, trivial⟩ rfl ?_
    clear hB
    rintro _ _ ⟨X2, x2, rfl, o_, hbx⟩
    have hc2 := OwB.cap o_
    replace hs := hs.newO hbx o_ (Nat.le_refl _)
    clear hbx o_
    rw [show framed [framed (blkF l), filtB (keysU l)] = tabF l from rfl] at hs hc2 hfl2 ⊢
    simp only [List.length_cons, List.length_nil] at hfl2
    skip
    refine wl_bs (vs := [.slice X2 (tabF l).length x2]) tyBB ⟨rfl, rfl, rfl, trivial⟩ rfl (by decide) rfl fun R2 _ o_ hbx _ => ?_
    replace hs := hs.below hbx
    have hB := RdBB.one (r := tabF l) o_.rd (hs.ow 0 rfl).rd hc2
    clear o_ hbx
    skip
    refine wl_call ok_crc_Seal (seal_any hB rfl (Nat.le_refl 1) (by simp; omega) (by simp [hmax])) ⟨rfl, trivial⟩ rfl ?_
    clear hB
    rintro _ _ ⟨D, cD, rfl, hnw, hbx⟩
    rw [show ([tabF l] : List (List UInt8)).flatten = tabF l by simp] at hnw ⊢
    have hcD := hnw.cap
    replace hs := hs.newR hbx hnw
    clear hbx hnw
    by_cases hsz : 1048576 < (tabF l).length
    · rw [sealB, if_pos hsz] at hs hcD ⊢
      dsimp only at hs hcD ⊢
      have h2 : ¬ ((2 : Nat) : Int) = 0 := by decide
      replace hs := hs1.call hs
      dsimp only [List.cons_append, List.nil_append] at hs
      replace hs := ((((((hs.drop 0 rfl).drop 0 rfl).drop 0 rfl).drop 0 rfl).drop 0 rfl).drop 0 rfl).drop 0 rfl
      dsimp only [delC] at hs
      unfold zMt at hs
      refine wl_mv rfl rfl ?_; apply wl_val; apply opv_extract; exact rfl; exact rfl; exact rfl; apply wl_val; apply opv_extract; exact rfl; exact rfl; exact rfl; refine wl_as rfl rfl ?_; refine wl_as rfl rfl ?_; refine wl_ns ?_; refine wc_seq ?_; refine wc_sr ?_; refine wl_mv rfl rfl ?_; refine wl_bin rfl rfl bin_neq rfl ?_; refine wl_ns ?_; apply wc_condTb; exact rfl; exact rfl; refine wc_sr ?_; apply wl_val; apply opv_build (vs := []) (cs := zMt); exact trivial; exact buildMt0; exact rfl; refine wl_mv rfl rfl ?_; refine wl_as rfl rfl ?_; apply ws_stS hs 0; exact rfl; exact rfl; exact rfl; exact sMt; exact rfl; exact rfl; clear hs; intro _ hs; dsimp only [setC] at hs; refine wl_as rfl rfl ?_; refine wl_ns ?_; refine wc_ret ?_; refine we_seq_ret ?_
      exact we_retM rfl rfl rfl rfl (hs.ar 0 rfl) sMt ⟨_, rfl, .inr ⟨hsz, rfl, hs.bel⟩⟩
    · rw [sealB_ok (by omega)] at hs hcD ⊢
      dsimp only at hs hcD ⊢
      have h00' : ((0 : Nat) : Int) = 0 := rfl
      refine wl_mv rfl rfl ?_; apply wl_val; apply opv_extract; exact rfl; exact rfl; exact rfl; apply wl_val; apply opv_extract; exact rfl; exact rfl; exact rfl; refine wl_as rfl rfl ?_; refine wl_as rfl rfl ?_; refine wl_ns ?_; refine wc_seq ?_; refine wc_sr ?_; refine wl_mv rfl rfl ?_; refine wl_bin rfl rfl bin_neq rfl ?_; refine wl_ns ?_; apply wc_condFb; exact rfl; exact rfl; refine wc_skip ?_; refine we_seq ?_; refine wc_sr ?_; refine wl_mv rfl rfl ?_; refine wl_mv rfl rfl ?_; refine wl_mv rfl rfl ?_; apply wl_val; apply opv_len; exact rfl; exact tyB.sl; exact rfl
      refine wl_call ok_table_meta (meta_any (s := (crcRec (tabF l)).length) (rl1.below hs.bel) rfl hk.ne (by omega) fun x hx => by have := hbg x hx; omega) ⟨rfl, rfl, trivial⟩ rfl ?_
      rintro _ _ ⟨⟨C, k1, e, E, k2, f, rfl⟩, hbx⟩
      replace hs := hs.below hbx
      replace hs := (((((hs.drop 1 rfl).drop 1 rfl).drop 1 rfl).drop 1 rfl).drop 1 rfl).drop 1 rfl
      dsimp only [delC] at hs
      replace hs := hs1.call hs
      dsimp only [List.cons_append, List.nil_append] at hs
      unfold zMt at hs
      refine wl_as rfl rfl ?_; apply ws_stS hs 1; exact rfl; exact rfl; exact rfl; exact sMt; exact rfl; exact rfl; clear hs; intro _ hs; dsimp only [setC] at hs; refine wl_as rfl rfl ?_; refine wl_ns ?_; refine wc_ret ?_
      exact we_retM rfl rfl rfl rfl (hs.ar 1 rfl) sMt ⟨_, rfl, .inl ⟨by omega, D, cD, C, k1, e, E, k2, f, rfl, hs.drop 1 rfl, hcD⟩⟩
end Go.Proofs.YtdgagffieobiiaaGreatDoor

/-
  What the disk is after each step of the writing of a table, in plain terms.
-/
namespace Go.Proofs.YtdgagffieobiiaaGreatDoor
abbrev nmT : List UInt8 := [116]
abbrev nmN : List UInt8 := [116, 46, 110, 101, 119]
def NoT (X : Fs) : Prop := X = [] ∨ ∃ f, X = [(nmN, f)]
/-- A disk beside disk d0, with an errno: all well, and the files X; or dead by d0's arm. -/
structure Tw (d0 : Dk) (X : Fs) (e : Nat) (d : Dk) : Prop where
  ok : DkOk d
  room : d.room = 1073741824
  arm : d0.armed = false → d.armed = false
  st : (e = 0 ∧ d.dead = false ∧ d.fs = X) ∨ (e = 9 ∧ d.dead = true ∧ d0.armed = true ∧ NoT d.fs)
theorem turn_armed (d : Dk) (e : Nat) : (turnD d e).2.2.armed = d.armed := by
  unfold turnD; split; rfl; split; rfl; split; rfl; split <;> rfl
section
variable {d0 d : Dk} {X Y : Fs} {e : Nat} {b : List UInt8} {f : Fl}
theorem Tw.bad (h : Tw d0 X e d) (he : ¬ e = 0) : Tw d0 Y e d := ⟨h.ok, h.room, h.arm, .inr (h.st.elim (fun k => absurd k.1 he) id)⟩
theorem Tw.good (h : Tw d0 X 0 d) : d.dead = false ∧ d.fs = X := (h.st.elim (fun k => k.2) fun k => absurd k.1 (by decide))
theorem Tw.e_le (h : Tw d0 X e d) : e = 0 ∨ e = 9 := h.st.elim (fun k => .inl k.1) fun k => .inr k.1
theorem arm_of (h : Tw d0 X 0 d) (hd : (turnD d 0).2.1 = 9) : d0.armed = true := by
  cases ha : d0.armed with
  | true => rfl
  | false => rw [turn_quiet h.good.1 (h.arm ha)] at hd; cases hd
theorem tw_start (hok : DkOk d) (hr : d.room = 1073741824) (hd : d.dead = false) (hf : d.fs = X) : Tw d X 0 d := ⟨hok, hr, id, .inl ⟨rfl, hd, hf⟩⟩
theorem tw_rem (h : Tw d0 [(nmN, f)] 0 d) : Tw d0 [] (remD d).2 (remD d).1 := by
  obtain ⟨hd, hf⟩ := h.good
  obtain ⟨t1, t2⟩ := turnD_fs d 0
  have hk := h.ok.turn 0
  unfold remD
  rcases turn_cases d hd with ⟨k1, k2, k3⟩ | ⟨k1, k2, k3⟩
  · rw [if_pos k1]
    exact ⟨⟨fun p hp => (by cases hp), hk.room, Nat.zero_le _, hk.left⟩, t2.trans h.room, fun ha => (turn_armed d 0).trans (h.arm ha), .inl ⟨k2, k3, rfl⟩⟩
  · rw [if_neg (by rw [k1]; decide)]
    exact ⟨hk, t2.trans h.room, fun ha => (turn_armed d 0).trans (h.arm ha), .inr ⟨k2, k3, arm_of h k2, .inr ⟨f, by rw [t1, hf]⟩⟩⟩
theorem app_turn (hr : used d.fs + b.length ≤ d.room) : (appD d nmN b).2 = (turnD d 0).2.1 ∧ (appD d nmN b).1.armed = d.armed := by
  have e : (if d.room < used d.fs + b.length then 8 else 0) = 0 := if_neg (by omega)
  unfold appD
  rw [e]
  dsimp only
  refine ⟨rfl, ?_⟩
  split
  · exact turn_armed d 0
  · exact turn_armed d 0
theorem tw_app (h : Tw d0 [] 0 d) (hb : b.length ≤ 2000000) : Tw d0 [(nmN, ⟨b, 0⟩)] (appD d nmN b).2 (appD d nmN b).1 := by
  obtain ⟨hd, hf⟩ := h.good
  have hr : used d.fs + b.length ≤ d.room := by rw [hf, h.room]; simp [used]; omega
  obtain ⟨h1, h2, h3, h4⟩ := app_gen (n := nmN) (b := b) h.ok hd hr
  obtain ⟨h5, h6⟩ := app_turn hr
  have hfl : fileD d nmN = ⟨[], 0⟩ := by rw [fileD, hf]; rfl
  rw [hfl, hf] at h1
  refine ⟨h3, h2.trans h.room, fun ha => h6.trans (h.arm ha), ?_⟩
  rcases h4 with ⟨k1, k2⟩ | ⟨k1, k2⟩
  · exact .inl ⟨k1, k2, h1⟩
  · exact .inr ⟨k1, k2, arm_of h (h5 ▸ k1), .inr ⟨_, h1⟩⟩
theorem tw_sync (h : Tw d0 [(nmN, ⟨b, 0⟩)] 0 d) : Tw d0 [(nmN, ⟨b, b.length⟩)] (syncD d nmN).2 (syncD d nmN).1 := by
  obtain ⟨hd, hf⟩ := h.good
  obtain ⟨hfl, hth, _⟩ := One.file hf
  obtain ⟨h1, h2, h3⟩ := sync_gen (n := nmN) h.ok hd hth
  have h5 : (syncD d nmN).2 = (turnD d 0).2.1 ∧ (syncD d nmN).1.armed = d.armed := by
    unfold syncD
    rw [hth]
    dsimp only
    refine ⟨rfl, ?_⟩
    split
    · exact turn_armed d 0
    · exact turn_armed d 0
  refine ⟨h2, h1.trans h.room, fun ha => h5.2.trans (h.arm ha), ?_⟩
  rcases turn_cases d hd with ⟨k1, k2, k3⟩ | ⟨k1, k2, k3⟩
  · rcases h3 with ⟨m1, m2, m3⟩ | ⟨m1, _⟩
    · exact .inl ⟨m1, m2, by rw [m3, hf, hfl]; rfl⟩
    · rw [h5.1, k2] at m1; cases m1
  · have hz : (syncD d nmN).1 = (turnD d 0).2.2 := by
      unfold syncD
      rw [hth]
      dsimp only
      rw [if_neg (by rw [k1]; decide)]
    exact .inr ⟨h5.1.trans k2, by rw [hz]; exact k3, arm_of h k2, .inr ⟨_, by rw [hz, (turnD_fs d 0).1, hf]⟩⟩
theorem tw_ren (h : Tw d0 [(nmN, f)] 0 d) : Tw d0 [(nmT, f)] (renD d nmT f).2 (renD d nmT f).1 := by
  obtain ⟨hd, hf⟩ := h.good
  obtain ⟨t1, t2⟩ := turnD_fs d 0
  have hk := h.ok.turn 0
  unfold renD
  rcases turn_cases d hd with ⟨k1, k2, k3⟩ | ⟨k1, k2, k3⟩
  · rw [if_pos k1]
    refine ⟨⟨fun p hp => ?_, hk.room, ?_, hk.left⟩, t2.trans h.room, fun ha => (turn_armed d 0).trans (h.arm ha), .inl ⟨k2, k3, rfl⟩⟩
    · obtain rfl := List.mem_singleton.1 hp
      exact h.ok.safe (nmN, f) (by rw [hf]; exact List.mem_singleton.2 rfl)
    · have := h.ok.used
      rw [hf] at this
      rw [t2]
      simpa [used] using this
  · rw [if_neg (by rw [k1]; decide)]
    exact ⟨hk, t2.trans h.room, fun ha => (turn_armed d 0).trans (h.arm ha), .inr ⟨k2, k3, arm_of h k2, .inr ⟨f, by rw [t1, hf]⟩⟩⟩
end
end Go.Proofs.YtdgagffieobiiaaGreatDoor

/-
  Walk over the writing of a table.
-/
namespace Go.Proofs.YtdgagffieobiiaaGreatDoor
open Go.RowKit
theorem dead_any {g : Nat} {d : Dk} {w : World} (h : RdD w g d) : CallsV Tryz.prog 14 #[.pointer (some ⟨g, 0, none⟩)] w fun v w' => v = .bool d.dead ∧ w = w' := by
  obtain ⟨b, _, _, a1, _, _, _⟩ := h.look []
  unfold dkV at a1
  refine calls_in (N := _) Tryz.func14 rfl Tryz.ntmps14 rfl ?_; show WC _ _ _ _ _ _
  refine wc_sr ?_; refine wl_as rfl rfl ?_; refine wl_ns ?_; refine wc_sr ?_; refine wl_mv rfl rfl ?_; apply wl_val; apply opv_nilOk; exact rfl; exact rfl; apply wl_val; apply opv_fa; exact fa_sD (by decide); exact rfl; exact rfl; apply wl_val; apply opv_ldX; exact rfl; assumption; exact d1_bool; exact rfl; exact rfl; refine wl_as rfl rfl ?_; refine wl_ns ?_; refine wc_ret ?_
  exact we_ret1 rfl rfl ⟨_, rfl, rfl, rfl⟩
abbrev fT (l : List En) : Fl := ⟨crcRec (tabF l), (crcRec (tabF l)).length⟩
def RetW (S : BS) (g : Nat) (d : Dk) (l : List En) (w : World) (v : Value) (w' : World) : Prop :=
  (1048576 < (tabF l).length ∧ v = .tuple #[.agg zMt.toArray, .int .i64 2] ∧ St S w w' [.ck (dkC g d)]) ∨
  ((tabF l).length ≤ 1048576 ∧ ∃ (C : Option Addr) (k1 e1 : Nat) (D : Option Addr) (k2 f2 : Nat) (x y : Int) (e : Nat) (d' : Dk), v = .tuple #[.agg [Value.slice C k1 e1, .slice D k2 f2, .int .i64 x, .int .i64 y].toArray, .int .i64 (e : Int)] ∧ Tw d [(nmT, fT l)] e d' ∧ St S w w' [.ck (dkC g d')])
def WrJ (w : World) (S : BS) (g g8 g11 cB k1 e1 k2 f2 : Nat) (B C D : Option Addr) (d : Dk) (l : List En) (X : Fs) : FL → World → Prop := fun L w' =>
  ∃ (e : Nat) (d1 : Dk), L = [(0, .pointer (some ⟨g, 0, none⟩)), (1, str nmT), (8, .pointer (some ⟨g8, 0, none⟩)), (10, .slice B (crcRec (tabF l)).length cB), (11, .pointer (some ⟨g11, 0, none⟩)), (12, .int .i64 (e : Int))] ∧ Tw d X e d1 ∧
    St S w w' [.ck (dkC g d1), .blk g11 38 [.slice C k1 e1, .slice D k2 f2, .int .i64 (l.length : Int), .int .i64 ((crcRec (tabF l)).length : Int)], .ck (rdC B (crcRec (tabF l))), .blk g8 38 [.slice none 0 0, .slice none 0 0, .int .i64 0, .int .i64 0]]
set_option maxHeartbeats 2000000 in
theorem write_any {S : BS} {g n c : Nat} {d : Dk} {A : Option Addr} {l : List En} {w : World} (h0 : Sat w [.ck (dkC g d)] S) (hok : DkOk d) (hrm : d.room = 1073741824) (hd : d.dead = false) (hfs : NoT d.fs) (hrl : ∀ w', Mod S w w' → RdR 4 w' All A (l.map enEl)) (hn : l.length = n) (hc : l.length ≤ c) (hk : TbOk l) :
    CallsV Tryz.prog 11 #[.pointer (some ⟨g, 0, none⟩), str nmT, .int .i64 40, .slice A n c] w (RetW S g d l w) := by
  subst hn
  have hs := St.start h0
  refine calls_in (N := _) Tryz.func11 rfl Tryz.ntmps11 rfl ?_; show WC _ _ _ _ _ _
  refine wc_sr ?_
  refine ws_new hs zeroMt rfl ?_; clear hs; intro g8 _ hs
  unfold zMt at hs
  refine wl_as rfl rfl ?_; refine wl_ns ?_; refine wc_sr ?_; refine wl_mv rfl rfl ?_; refine wl_mv rfl rfl ?_
  refine wl_call ok_table_Bytes (bytes_any (hrl _ hs.1) rfl hc hk) ⟨rfl, rfl, trivial⟩ rfl ?_
  rintro _ w1 (⟨hsz, B, cB, C, k1, e1, D, k2, f2, rfl, hsx, hcB⟩ | ⟨hsz, rfl, hbx⟩)
  · replace hs := hs.call hsx
    clear hsx
    dsimp only [List.cons_append, List.nil_append] at hs
    unfold mtV
    refine wl_mv rfl rfl ?_; apply wl_val; apply opv_extract; exact rfl; exact rfl; exact rfl; apply wl_val; apply opv_extract; exact rfl; exact rfl; exact rfl; apply wl_val; apply opv_extract; exact rfl; exact rfl; exact rfl
    refine ws_new hs zeroMt rfl ?_; clear hs; intro g11 _ hs
    unfold zMt at hs
    refine wl_as rfl rfl ?_; apply ws_stS hs 0; exact rfl; exact rfl; exact rfl; exact sMt; exact rfl; exact rfl; clear hs; intro _ hs; dsimp only [setC] at hs; refine wl_as rfl rfl ?_; refine wl_ns ?_; refine wc_seq ?_; refine wc_sr ?_; refine wl_mv rfl rfl ?_; refine wl_bin rfl rfl bin_neq rfl ?_; refine wl_ns ?_; apply wc_condFb; exact rfl; exact rfl; refine wc_skip ?_; refine we_seq ?_; refine wc_seq ?_; refine wc_sr ?_; refine wl_mv rfl rfl ?_
    refine wl_call ok_disk_Disk_Dead (dead_any (hs.rdd 3 rfl)) ⟨rfl, trivial⟩ rfl ?_
    rintro _ _ ⟨rfl, rfl⟩
    rw [hd]
    obtain ⟨ns, hns, hns2⟩ : ∃ ns, sortN d.fs = ns ∧ ((ns = [] ∧ d.fs = []) ∨ (ns = [nmN] ∧ ∃ f, d.fs = [(nmN, f)])) := by
      rcases hfs with h | ⟨f, h⟩
      · exact ⟨[], by rw [h]; simp [sortN], .inl ⟨rfl, h⟩⟩
      · exact ⟨[nmN], by rw [h]; simp [sortN], .inr ⟨rfl, f, h⟩⟩
    have hpf : ∀ n ∈ ns, (∃ r, n = nmT ++ r) ∧ n.length ≤ 1048576 := fun n hn => by
      rcases hns2 with ⟨rfl, _⟩ | ⟨rfl, _⟩
      · cases hn
      · obtain rfl := List.mem_singleton.1 hn
        exact ⟨⟨[46, 110, 101, 119], rfl⟩, by decide⟩
    have hln : ns.length ≤ 1048576 := by
      rcases hns2 with ⟨rfl, _⟩ | ⟨rfl, _⟩ <;> decide
    have hnT : decide (nmT ∈ ns) = false := by
      rcases hns2 with ⟨rfl, _⟩ | ⟨rfl, _⟩ <;> decide
    refine wl_ns ?_; apply wc_condFb; exact rfl; exact rfl; refine wc_skip ?_; refine we_seq ?_; refine wc_seq ?_; refine wc_sr ?_; refine wl_mv rfl rfl ?_; refine wl_mv rfl rfl ?_
    refine wl_call ok_disk_Disk_List (list_any (hs.rdd 3 rfl) hd hns hpf hln) ⟨rfl, rfl, trivial⟩ rfl ?_
    rintro _ _ ⟨N1, n1, rfl, o_, hbx⟩
    replace hs := hs.below hbx
    refine wl_mv rfl rfl ?_
    refine wl_call ok_slices_Contains_string_string (contains_any (s := nmT) o_.rd rfl hln) ⟨rfl, rfl, trivial⟩ rfl ?_
    rintro _ _ ⟨rfl, rfl⟩
    rw [hnT]
    clear o_ hbx
    refine wl_ns ?_; apply wc_condFb; exact rfl; exact rfl; refine wc_skip ?_; refine we_seq ?_; refine wc_seq ?_; refine wc_sr ?_; refine wl_mv rfl rfl ?_; refine wl_mv rfl rfl ?_
    refine wl_call ok_disk_Disk_List (list_any (hs.rdd 3 rfl) hd hns hpf hln) ⟨rfl, rfl, trivial⟩ rfl ?_
    rintro _ _ ⟨N2, n2, rfl, o_, hbx⟩
    replace hs := hs.below hbx
    refine wl_mv rfl rfl ?_; apply wl_val; apply opv_bin; exact rfl; exact rfl; exact bin_catS (by decide); exact rfl
    refine wl_call ok_slices_Contains_string_string (contains_any (s := nmN) o_.rd rfl hln) ⟨rfl, rfl, trivial⟩ rfl ?_
    rintro _ _ ⟨rfl, rfl⟩
    clear o_ hbx
    refine wl_ns ?_
    replace hs := hs.front 3 rfl
    dsimp only [delC] at hs
    have hT := tw_start hok hrm hd rfl
    refine wc_cutE (WrJ w S g g8 g11 cB k1 e1 k2 f2 B C D d l []) ?_ ?_
    · refine wc_cond rfl (fun h1 => ?_) (fun h1 => ?_)
      · obtain ⟨f, hf⟩ : ∃ f, d.fs = [(nmN, f)] := by
          rcases hns2 with ⟨rfl, _⟩ | ⟨rfl, h⟩
          · cases h1
          · exact h
        rw [hf] at hT
        refine wc_region ?_; refine wl_mv rfl rfl ?_; refine wl_mv rfl rfl ?_; apply wl_val; apply opv_bin; exact rfl; exact rfl; exact bin_catS (by decide); exact rfl
        obtain ⟨S2, hS2, hB2, hM, hH, hB⟩ := St.lend (H1 := [.ck (dkC g d)]) (H2 := [_, _, _]) hs
        refine wl_call ok_disk_Disk_Remove (remove_one (a := nmN) hS2 hok hf) ⟨rfl, rfl, trivial⟩ rfl ?_
        rintro _ _ ⟨rfl, hsx⟩
        replace hs := hB _ _ hsx
        clear hsx hB hH hM hB2 hS2
        dsimp only [List.cons_append, List.nil_append] at hs
        refine wl_as rfl rfl ?_; refine wl_nil ?_
        exact we_cut _ ⟨_, _, rfl, tw_rem hT, hs⟩ ⟨rfl, rfl, rfl, rfl, rfl, rfl, trivial⟩
      · have hf : d.fs = [] := by
          rcases hns2 with ⟨_, h⟩ | ⟨rfl, _⟩
          · exact h
          · exact absurd (List.mem_singleton.2 rfl) h1
        rw [hf] at hT
        refine wc_skip ?_
        exact we_cut _ ⟨0, d, rfl, hT, hs⟩ ⟨rfl, rfl, rfl, rfl, rfl, rfl, trivial⟩
    clear hs hT
    rintro _ w2 ⟨e, d1, rfl, hT, hs⟩
    have hlb : (crcRec (tabF l)).length ≤ 2000000 := by rw [crcRec_length]; omega
    refine we_seq ?_; refine wc_seq ?_; refine wc_sr ?_; refine wl_mv rfl rfl ?_; refine wl_bin rfl rfl bin_eql rfl ?_; refine wl_ns ?_
    refine wc_cutE (WrJ w S g g8 g11 cB k1 e1 k2 f2 B C D d l [(nmN, ⟨crcRec (tabF l), 0⟩)]) ?_ ?_
    · refine wc_cond rfl (fun h1 => ?_) (fun h1 => ?_)
      · obtain rfl : e = 0 := by omega
        obtain ⟨hd1, hf1⟩ := hT.good
        refine wc_region ?_; refine wl_mv rfl rfl ?_; refine wl_mv rfl rfl ?_; apply wl_val; apply opv_bin; exact rfl; exact rfl; exact bin_catS (by decide); exact rfl; refine wl_mv rfl rfl ?_
        obtain ⟨S2, hS2, hB2, hM, hH, hB⟩ := St.lend (H1 := [.ck (dkC g d1)]) (H2 := [_, _, _]) hs
        refine wl_call ok_disk_Disk_Append (append_any (n := nmN) (b := crcRec (tabF l)) (cb := cB) hS2 hT.ok (fun w' hw => (hH w' hw).rdc (i := 1) rfl) hcB (by omega)) ⟨rfl, rfl, rfl, trivial⟩ rfl ?_
        rintro _ _ ⟨rfl, hsx⟩
        replace hs := hB _ _ hsx
        clear hsx hB hH hM hB2 hS2
        dsimp only [List.cons_append, List.nil_append] at hs
        refine wl_as rfl rfl ?_; refine wl_nil ?_
        exact we_cut _ ⟨_, _, rfl, tw_app hT hlb, hs⟩ ⟨rfl, rfl, rfl, rfl, rfl, rfl, trivial⟩
      · refine wc_skip ?_
        exact we_cut _ ⟨e, d1, rfl, hT.bad (by omega), hs⟩ ⟨rfl, rfl, rfl, rfl, rfl, rfl, trivial⟩
    clear hs hT
    rintro _ w2 ⟨e, d1, rfl, hT, hs⟩
    refine we_seq ?_; refine wc_seq ?_; refine wc_sr ?_; refine wl_mv rfl rfl ?_; refine wl_bin rfl rfl bin_eql rfl ?_; refine wl_ns ?_
    refine wc_cutE (WrJ w S g g8 g11 cB k1 e1 k2 f2 B C D d l [(nmN, fT l)]) ?_ ?_
    · refine wc_cond rfl (fun h1 => ?_) (fun h1 => ?_)
      · obtain rfl : e = 0 := by omega
        obtain ⟨hd1, hf1⟩ := hT.good
        refine wc_region ?_; refine wl_mv rfl rfl ?_; refine wl_mv rfl rfl ?_; apply wl_val; apply opv_bin; exact rfl; exact rfl; exact bin_catS (by decide); exact rfl
        obtain ⟨S2, hS2, hB2, hM, hH, hB⟩ := St.lend (H1 := [.ck (dkC g d1)]) (H2 := [_, _, _]) hs
        refine wl_call ok_disk_Disk_Sync (sync_any (n := nmN) hS2 hT.ok) ⟨rfl, rfl, trivial⟩ rfl ?_
        rintro _ _ ⟨rfl, hsx⟩
        replace hs := hB _ _ hsx
        clear hsx hB hH hM hB2 hS2
        dsimp only [List.cons_append, List.nil_append] at hs
        refine wl_as rfl rfl ?_; refine wl_nil ?_
        exact we_cut _ ⟨_, _, rfl, tw_sync hT, hs⟩ ⟨rfl, rfl, rfl, rfl, rfl, rfl, trivial⟩
      · refine wc_skip ?_
        exact we_cut _ ⟨e, d1, rfl, hT.bad (by omega), hs⟩ ⟨rfl, rfl, rfl, rfl, rfl, rfl, trivial⟩
    clear hs hT
    rintro _ w2 ⟨e, d1, rfl, hT, hs⟩
    refine we_seq ?_; refine wc_seq ?_; refine wc_sr ?_; refine wl_mv rfl rfl ?_; refine wl_bin rfl rfl bin_eql rfl ?_; refine wl_ns ?_
    refine wc_cutE (WrJ w S g g8 g11 cB k1 e1 k2 f2 B C D d l [(nmT, fT l)]) ?_ ?_
    · refine wc_cond rfl (fun h1 => ?_) (fun h1 => ?_)
      · obtain rfl : e = 0 := by omega
        obtain ⟨hd1, hf1⟩ := hT.good
        refine wc_region ?_; refine wl_mv rfl rfl ?_; refine wl_mv rfl rfl ?_; apply wl_val; apply opv_bin; exact rfl; exact rfl; exact bin_catS (by decide); exact rfl; refine wl_mv rfl rfl ?_
        obtain ⟨S2, hS2, hB2, hM, hH, hB⟩ := St.lend (H1 := [.ck (dkC g d1)]) (H2 := [_, _, _]) hs
        refine wl_call ok_disk_Disk_Rename (rename_one (a := nmN) (b := nmT) hS2 hT.ok hf1 (by decide)) ⟨rfl, rfl, rfl, trivial⟩ rfl ?_
        rintro _ _ ⟨rfl, hsx⟩
        replace hs := hB _ _ hsx
        clear hsx hB hH hM hB2 hS2
        dsimp only [List.cons_append, List.nil_append] at hs
        refine wl_as rfl rfl ?_; refine wl_nil ?_
        exact we_cut _ ⟨_, _, rfl, tw_ren hT, hs⟩ ⟨rfl, rfl, rfl, rfl, rfl, rfl, trivial⟩
      · refine wc_skip ?_
        exact we_cut _ ⟨e, d1, rfl, hT.bad (by omega), hs⟩ ⟨rfl, rfl, rfl, rfl, rfl, rfl, trivial⟩
    clear hs hT
    rintro _ w2 ⟨e, d1, rfl, hT, hs⟩
    refine we_seq ?_; refine wc_seq ?_; refine wc_sr ?_; refine wl_mv rfl rfl ?_; refine wl_bin rfl rfl bin_neq rfl ?_; refine wl_ns ?_
    refine wc_cond rfl (fun h1 => ?_) (fun h1 => ?_)
    · refine wc_sr ?_; apply wl_val; apply opv_build (vs := []) (cs := zMt); exact trivial; exact buildMt0; exact rfl; refine wl_mv rfl rfl ?_; apply ws_stS hs 3; exact rfl; exact rfl; exact rfl; exact sMt; exact rfl; exact rfl; clear hs; intro _ hs; dsimp only [setC] at hs; refine wl_as rfl rfl ?_; refine wl_ns ?_; refine wc_ret ?_; refine we_seq_ret ?_
      exact we_retC1 rfl rfl rfl (hs.ar 3 rfl) sMt ⟨_, rfl, .inr ⟨hsz, none, 0, 0, none, 0, 0, 0, 0, e, d1, rfl, hT, ((hs.drop 1 rfl).drop 1 rfl).drop 1 rfl⟩⟩
    · obtain rfl : e = 0 := by omega
      refine wc_skip ?_; refine we_seq ?_; refine wc_sr ?_; apply wl_val; apply opv_loadX; exact rfl; exact hs.ar 1 rfl; exact sMt; exact rfl; apply ws_stS hs 3; exact rfl; exact rfl; exact rfl; exact sMt; exact rfl; exact rfl; clear hs; intro _ hs; dsimp only [setC] at hs; refine wl_as rfl rfl ?_; refine wl_ns ?_; refine wc_ret ?_
      exact we_retC1 rfl rfl rfl (hs.ar 3 rfl) sMt ⟨_, rfl, .inr ⟨hsz, C, k1, e1, D, k2, f2, _, _, 0, d1, rfl, hT, ((hs.drop 1 rfl).drop 1 rfl).drop 1 rfl⟩⟩
  · replace hs := hs.below hbx
    unfold zMt
    refine wl_mv rfl rfl ?_; apply wl_val; apply opv_extract; exact rfl; exact rfl; exact rfl; apply wl_val; apply opv_extract; exact rfl; exact rfl; exact rfl; apply wl_val; apply opv_extract; exact rfl; exact rfl; exact rfl
    refine ws_new hs zeroMt rfl ?_; clear hs; intro g11 _ hs
    unfold zMt at hs
    refine wl_as rfl rfl ?_; apply ws_stS hs 0; exact rfl; exact rfl; exact rfl; exact sMt; exact rfl; exact rfl; clear hs; intro _ hs; dsimp only [setC] at hs; refine wl_as rfl rfl ?_; refine wl_ns ?_; refine wc_seq ?_; refine wc_sr ?_; refine wl_mv rfl rfl ?_; refine wl_bin rfl rfl bin_neq rfl ?_; refine wl_ns ?_; apply wc_condTb; exact rfl; exact rfl; refine wc_sr ?_; apply wl_val; apply opv_build (vs := []) (cs := zMt); exact trivial; exact buildMt0; exact rfl; refine wl_mv rfl rfl ?_; apply ws_stS hs 1; exact rfl; exact rfl; exact rfl; exact sMt; exact rfl; exact rfl; clear hs; intro _ hs; dsimp only [setC] at hs; refine wl_as rfl rfl ?_; refine wl_ns ?_; refine wc_ret ?_; refine we_seq_ret ?_
    exact we_retC1 rfl rfl rfl (hs.ar 1 rfl) sMt ⟨_, rfl, .inl ⟨hsz, rfl, (hs.drop 0 rfl).drop 0 rfl⟩⟩
end Go.Proofs.YtdgagffieobiiaaGreatDoor

/-
  Rows that are read: facts of memory as pieces.
-/
namespace Go.Proofs.YtdgagffieobiiaaGreatDoor
open Go.RowKit
def EnK (css : List (List Value)) (l : List En) (w : World) : Prop := css.length = l.length ∧ ∀ (i : Nat) (x : En), l[i]? = some x → ∃ cs, css[i]? = some cs ∧ (enEl x).P w All cs
section
variable {w w' : World} {css cs2 : List (List Value)} {l l2 : List En}
theorem EnK.nil : EnK [] [] w := ⟨rfl, fun i x h => by simp at h⟩
theorem EnK.app (h : EnK css l w) (h2 : EnK cs2 l2 w) : EnK (css ++ cs2) (l ++ l2) w := by
  refine ⟨by rw [List.length_append, List.length_append, h.1, h2.1], fun i r hi => ?_⟩
  rcases Nat.lt_or_ge i l.length with hlt | hge
  · rw [List.getElem?_append_left hlt] at hi
    rw [List.getElem?_append_left (by rw [h.1]; exact hlt)]
    exact h.2 i r hi
  · rw [List.getElem?_append_right hge] at hi
    rw [List.getElem?_append_right (by rw [h.1]; exact hge), h.1]
    exact h2.2 _ r hi
theorem EnK.one (h : EnK css l w) : ∀ u ∈ css.flatten, u.oneCell' = true := fun u hu => by
  obtain ⟨cs, h1, h2⟩ := List.mem_flatten.1 hu
  obtain ⟨i, hi, rfl⟩ := List.mem_iff_getElem.1 h1
  have hlt : i < l.length := by rw [← h.1]; exact hi
  obtain ⟨cs', k1, k2⟩ := h.2 i l[i] (List.getElem?_eq_getElem hlt)
  rw [List.getElem?_eq_getElem hi] at k1
  cases k1
  obtain ⟨A, c, B, d, he, _⟩ := enEl.rd k2
  exact enV_all l[i] A c B d u (by rw [← he]; simpa using h2)
theorem EnK.rdr {e : TypeId} {base c : Nat} {S : BS} {A : Option Addr} (h : EnK css l w) (hr : OwR 4 e w base S A c (css.map rawEl)) : RdR 4 w All A (l.map enEl) := by
  refine AllK.rdr (K := EnK css l) (Q := fun x cs w => (enEl x).P w All cs) (el := enEl) ⟨h.1, fun i x hi => ?_⟩ h (fun x cs hq => ⟨hq, ?_⟩) hr
  · obtain ⟨cs, k1, _⟩ := h.2 i x hi
    exact ⟨cs, k1, fun w' hw => by
      obtain ⟨cs', j1, j2⟩ := hw.2 i x hi
      rw [k1] at j1
      cases j1
      exact j2⟩
  · obtain ⟨A', c', B', d', rfl, _⟩ := enEl.rd hq
    rfl
theorem St.kpDec {M : BS} {w0 : World} {H : List Cd} {R : Option Addr} {rc : Nat} (hs : St M w0 w H) (hsx : St NoB w w' [.ck (rsC 4 31 R rc (l.map oE))]) :
    ∃ css, St M w0 w' (.ck (Go.Proofs.YtdgagffieobiiaaGreatDoor.kp fun w => EnK css l w ∧ RdR 4 w All R (css.map rawEl) ∧ RdR 4 w All R (l.map enEl)) :: H) := by
  obtain ⟨T, hc, hT⟩ := hsx.get 0 rfl
  have hge : ∀ b, T b → w.heap.size ≤ b := fun b h => (hT b h).elim (fun k => k.elim) id
  have hr := rs_rdr hc
  obtain ⟨css, ⟨g1, g2⟩, g3, g4⟩ := hr
  have gl : css.length = l.length := by rw [g1, List.length_map]
  have hraw : RdR 4 w' T R (css.map rawEl) := ⟨css, ⟨by rw [List.length_map], fun i cs hi => ⟨(g2 i cs hi).1, rawEl cs, by rw [List.getElem?_map, hi]; rfl, rfl⟩⟩, by rw [List.length_map, g1]; exact g3, fun a ha hn => g4 a ha (by rw [List.length_map, ← gl]; rw [List.length_map] at hn; exact hn)⟩
  have key : ∀ w'', w'.heap.size ≤ w''.heap.size → (∀ b, b < w'.heap.size → T b → w''.heap[b]? = w'.heap[b]?) → EnK css l w'' ∧ RdR 4 w'' All R (css.map rawEl) ∧ RdR 4 w'' All R (l.map enEl) := fun w'' hz hm => by
    refine ⟨⟨gl, fun i x hi => ?_⟩, RdR.move (by decide) hraw hz fun b hb h => ⟨trivial, hm b hb h⟩, RdR.move (by decide) (rs_rdr hc) hz fun b hb h => ⟨trivial, hm b hb h⟩⟩
    have hlt := (List.getElem?_eq_some_iff.1 hi).1
    have hcs : css[i]? = some (css[i]'(by omega)) := List.getElem?_eq_getElem (by omega)
    obtain ⟨_, E, hE, hp⟩ := g2 i _ hcs
    rw [List.getElem?_map, hi] at hE
    cases hE
    exact ⟨_, hcs, (enEl x).move hp hz fun b hb h => ⟨trivial, hm b hb h⟩⟩
  exact ⟨css, hs.kpNew hsx.bel (key w' (Nat.le_refl _) fun _ _ _ => rfl) fun w'' hz hm => key w'' hz fun b hb h => hm b (hge b h) hb⟩
/-- A row of byte lists, read. -/
def RK (A : Option Addr) (vs : List Value) (rows : List (List UInt8)) (w : World) : Prop := Rd w A rows.length vs ∧ EK vs rows w
theorem St.kpRow {M : BS} {w0 : World} {H : List Cd} {A : Option Addr} {c : Nat} {rows : List (List UInt8)} (hs : St M w0 w H) (hb : Below w.heap.size w w') (h : OwBB w' w.heap.size A c rows) : ∃ vs, St M w0 w' (.ck (Go.Proofs.YtdgagffieobiiaaGreatDoor.kp (RK A vs rows)) :: H) := by
  obtain ⟨vs, ho, hr, _⟩ := h
  have key : ∀ w'', w'.heap.size ≤ w''.heap.size → (∀ b, w.heap.size ≤ b → b < w'.heap.size → w''.heap[b]? = w'.heap[b]?) → RK A vs rows w'' := fun w'' hz hm => by
    refine ⟨(Ow.moveS ho fun a ha => hm _ (Ow.lt ho a ha).1 (Ow.lt ho a ha).2).rd, ho.rd.1, fun i r hi => ?_⟩
    obtain ⟨A', c', k1, k2, _⟩ := hr i r hi
    have k3 : OwB w'' w.heap.size A' c' r := Ow.moveS k2 fun a ha => hm _ (Ow.lt k2 a ha).1 (Ow.lt k2 a ha).2
    exact ⟨A', c', k1, k3.rd, k3.cap⟩
  exact ⟨vs, hs.kpNew hb (key w' (Nat.le_refl _) fun _ _ _ => rfl) key⟩
end
end Go.Proofs.YtdgagffieobiiaaGreatDoor

/-
  Walk over the parsing of a table's file.
-/
namespace Go.Proofs.YtdgagffieobiiaaGreatDoor
open Go.RowKit
theorem parts_eq {A : Option Addr} {n c : Nat} {xs : List UInt8} {w : World} {x : List (List UInt8) × Nat} (h : parts xs = x) (hr : RdB w A xs) (hn : xs.length = n) (hc : xs.length ≤ c) (hl : xs.length ≤ 1099511627776) : CallsV Tryz.prog 75 #[.slice A n c] w (RetP w x) := h ▸ parts_any hr hn hc hl
def TbK (R F : Option Addr) (l : List En) (w : World) : Prop := RdR 4 w All R (l.map enEl) ∧ RdB w F (filtB (keysU l))
theorem sat_rg {w : World} {H : List Cd} {S : BS} {k : Nat} {e : TypeId} {A : Option Addr} {c : Nat} {els : List El} (h : Sat w H S) (i : Nat) (hi : nthC H i = some (.rg k e A c els)) : ∃ T, OwR k e w 0 T A c els := by
  obtain ⟨T, _, hc, _⟩ := h.front hi
  exact ⟨T, hc.2⟩
set_option maxHeartbeats 2000000 in
theorem parse_any {A : Option Addr} {n c : Nat} {l : List En} {w : World} (hr : RdB w A (crcRec (tabF l))) (hn : (crcRec (tabF l)).length = n) (hc : (crcRec (tabF l)).length ≤ c) (hk : TbOk l) (hsz : (tabF l).length ≤ 1048576) :
    CallsV Tryz.prog 45 #[.slice A n c] w fun v w' => ∃ (R : Option Addr) (rc : Nat) (F : Option Addr) (fc : Nat), v = .tuple #[.slice R l.length rc, .slice F (filtB (keysU l)).length fc, .int .i64 0] ∧ St NoB w w' [.ck (kp (TbK R F l))] ∧ l.length ≤ rc ∧ (filtB (keysU l)).length ≤ fc := by
  have hs := St.init w
  have hmax : maxLen = 9223372036854775807 := rfl
  have hbf := blkF_flat hk
  have hfm := filt_max hk
  have hbl : (blkF l).length = (prtE l).length := List.length_map _
  have hpl := prt_len (l := l)
  have hll := hk.len
  have hfl1 := framed_length (blkF l) fun r hr => by have := blkF_each hk r hr; omega
  have hxl : (crcRec (tabF l)).length ≤ 1048584 := by rw [crcRec_length]; omega
  have hop := open_at (c := c) (openB_rec hsz) hr hn hc (by omega)
  have hp1 : parts (tabF l) = ([framed (blkF l), filtB (keysU l)], 0) := parts_framed fun r hr => by
    rcases List.mem_cons.1 hr with rfl | hr
    · omega
    · rcases List.mem_cons.1 hr with rfl | hr
      · omega
      · cases hr
  have hp2 : parts (framed (blkF l)) = (blkF l, 0) := parts_framed fun r hr => by have := blkF_each hk r hr; omega
  obtain ⟨ps, hps⟩ : ∃ ps, [framed (blkF l), filtB (keysU l)] = ps := ⟨_, rfl⟩
  have hps0 : ps[0]? = some (framed (blkF l)) := by rw [← hps]; rfl
  have hps1 : ps[1]? = some (filtB (keysU l)) := by rw [← hps]; rfl
  have hpsl : ps.length = 2 := by rw [← hps]; rfl
  rw [hps] at hp1
  clear hps
  obtain ⟨X, hX⟩ : ∃ X, crcRec (tabF l) = X := ⟨_, rfl⟩
  rw [hX] at hop hxl hc hn hr
  subst hn
  clear hX
  refine calls_in (N := _) Tryz.func45 rfl Tryz.ntmps45 rfl ?_; show WC _ _ _ _ _ _
  refine wc_sr ?_; refine wl_as rfl rfl ?_; refine wl_as rfl rfl ?_; refine wl_as rfl rfl ?_; refine wl_ns ?_; refine wc_sr ?_; refine wl_mv rfl rfl ?_
  refine wl_call ok_crc_Open hop ⟨rfl, rfl, trivial⟩ rfl ?_
  clear hop
  rintro _ _ ⟨B1, b1, rfl, o_, hbx⟩
  have hc1 := OwB.cap o_
  replace hs := hs.newO hbx o_ (Nat.le_refl _)
  clear hbx o_
  dsimp only at hs hc1 ⊢
  have h00 : ((0 : Nat) : Int) = 0 := rfl
  refine wl_mv rfl rfl ?_; apply wl_val; apply opv_extract; exact rfl; exact rfl; exact rfl; apply wl_val; apply opv_extract; exact rfl; exact rfl; exact rfl; apply wl_val; apply opv_extract; exact rfl; exact rfl; exact rfl; refine wl_as rfl rfl ?_; refine wl_as rfl rfl ?_; refine wl_as rfl rfl ?_; refine wl_ns ?_; refine wc_seq ?_; refine wc_sr ?_; refine wl_mv rfl rfl ?_; refine wl_bin rfl rfl bin_neq rfl ?_; refine wl_ns ?_; apply wc_condFb; exact rfl; exact rfl; refine wc_skip ?_; refine we_seq ?_; refine wc_sr ?_; refine wl_mv rfl rfl ?_
  refine wl_call ok_codec_Parts (parts_eq hp1 (hs.ow 0 rfl).rd rfl hc1 (by omega)) ⟨rfl, trivial⟩ rfl ?_
  rintro _ _ ⟨P1, p1, rfl, o_, hbx⟩
  obtain ⟨vs, hs⟩ := hs.kpRow hbx o_
  clear hbx o_
  dsimp only at hs ⊢
  rw [hpsl]
  have hlt : ¬ (X.length : Int) < (X.length : Int) := by omega
  have h22 : ((2 : Nat) : Int) = 2 := rfl
  refine wl_mv rfl rfl ?_; apply wl_val; apply opv_extract; exact rfl; exact rfl; exact rfl; apply wl_val; apply opv_extract; exact rfl; exact rfl; exact rfl; refine wl_as rfl rfl ?_; refine wl_as rfl rfl ?_; refine wl_ns ?_; refine wc_seq ?_; refine wc_sr ?_; refine wl_mv rfl rfl ?_; refine wl_bin rfl rfl bin_neq rfl ?_; refine wl_mv rfl rfl ?_; apply wl_take; exact rfl; exact rfl; exact rfl; refine bF ?_; omega; refine wl_mv rfl rfl ?_; apply wl_take; exact rfl; exact rfl; exact rfl; refine bF ?_; omega; refine wl_mv rfl rfl ?_; apply wl_take; exact rfl; exact rfl; exact rfl; refine bF ?_; omega; apply wl_val; apply opv_len; exact rfl; exact tyB.sl; exact rfl; apply wl_take; exact rfl; exact rfl; exact rfl; refine bF ?_; omega; refine wl_bin rfl rfl bin_lss rfl ?_; apply wl_val; apply opv_pickF; exact rfl; refine bF ?_; omega; exact rfl; exact rfl; refine wl_mv rfl rfl ?_; apply wl_take; exact rfl; exact rfl; exact rfl; refine bF ?_; (with_reducible assumption); refine wl_mv rfl rfl ?_; apply wl_take; exact rfl; exact rfl; exact rfl; refine bF ?_; (with_reducible assumption); apply wl_val; apply opv_len; exact rfl; exact tyBB.sl; exact rfl; apply wl_take; exact rfl; exact rfl; exact rfl; refine bF ?_; (with_reducible assumption); refine wl_bin rfl rfl bin_neq rfl ?_; apply wl_val; apply opv_pickF; exact rfl; refine bF ?_; (with_reducible assumption); exact rfl; exact rfl; refine wl_ns ?_; apply wc_condFb; exact rfl; exact rfl; refine wc_skip ?_; refine we_seq ?_; refine wc_sr ?_; refine wl_mv rfl rfl ?_
  obtain ⟨q1, q2⟩ := hs.kp 0 rfl
  obtain ⟨P0, c0, u0, r0, hc0⟩ := q2.2 0 _ hps0
  rw [hpsl] at q1
  refine wl_val (opv_idxR (kk := 0) (u := .slice P0 (framed (blkF l)).length c0) tyBB rfl rfl q1 rfl u0) rfl ?_
  refine wl_val (opv_loadR (kk := 0) (u := .slice P0 (framed (blkF l)).length c0) tyBB rfl q1 u0) rfl ?_
  skip
  refine wl_call ok_codec_Parts (parts_eq hp2 r0 rfl hc0 (by omega)) ⟨rfl, trivial⟩ rfl ?_
  clear q1 q2 r0 u0
  rintro _ _ ⟨P2, p2, rfl, o_, hbx⟩
  obtain ⟨vs2, hs⟩ := hs.kpRow hbx o_
  clear hbx o_
  dsimp only at hs ⊢
  replace hs := ((hs.kpNil (K := EnK [] []) fun _ => EnK.nil).nilG 4 31).drop 4 rfl
  dsimp only [delC] at hs
  refine wl_mv rfl rfl ?_; apply wl_val; apply opv_extract; exact rfl; exact rfl; exact rfl; apply wl_val; apply opv_extract; exact rfl; exact rfl; exact rfl; refine wl_as rfl rfl ?_; refine wl_as rfl rfl ?_; refine wl_ns ?_; refine wc_seq ?_; refine wc_sr ?_; refine wl_mv rfl rfl ?_; refine wl_bin rfl rfl bin_neq rfl ?_; refine wl_ns ?_; apply wc_condFb; exact rfl; exact rfl; refine wc_skip ?_; refine we_seq ?_; refine wc_sr ?_; refine wl_as rfl rfl ?_; refine wl_ns ?_; refine wc_seq ?_; refine wc_sr ?_; refine wl_mv rfl rfl ?_; apply wl_val; apply opv_len; exact rfl; exact tyBB.sl; exact rfl; refine wl_mv rfl rfl ?_; refine wl_ns ?_; refine wc_block ?_
  refine wc_loop (fun L wr mm => ∃ (i : Nat) (G : Option Addr) (cg : Nat) (acc : List (List Value)) (done : List En), L = [(0, .slice A X.length c), (8, .slice P1 2 p1), (10, .slice G done.length cg), (55, .slice P2 (blkF l).length p2), (56, .int .i64 ((blkF l).length : Int)), (57, .int .i64 (i : Int))] ∧ i ≤ (blkF l).length ∧ done = ((prtE l).take i).flatten ∧ done.length ≤ 40 ∧ done.length ≤ cg ∧
      St NoB w wr [.rg 4 31 G cg (acc.map rawEl), .ck (kp (EnK acc done)), .ck (kp (RK P2 vs2 (blkF l))), .ck (kp (RK P1 vs ps))] ∧ mm = (blkF l).length - i)
    [(0, .slice A X.length c), (8, .slice P1 2 p1), (10, .slice none 0 0), (55, .slice P2 (blkF l).length p2), (56, .int .i64 ((blkF l).length : Int)), (57, .int .i64 ((0 : Nat) : Int))] (blkF l).length ⟨0, none, 0, [], [], rfl, Nat.zero_le _, rfl, Nat.zero_le _, Nat.le_refl _, hs, rfl⟩ ⟨rfl, rfl, rfl, rfl, rfl, rfl, trivial⟩ ?_
  clear hs
  rintro _ w7 mm ⟨i, G, cg, acc, done, rfl, hi, hdn, hdl, hdc, hs, rfl⟩
  refine wc_sr ?_; refine wl_bin rfl rfl bin_lss rfl ?_; refine wl_ns ?_; refine wc_seq ?_
  refine wc_cond rfl (fun h5 => ?_) (fun h5 => ?_)
  · obtain ⟨p, hp⟩ : ∃ p, (prtE l)[i]? = some p := ⟨_, List.getElem?_eq_getElem (by omega)⟩
    have hpm := List.mem_of_getElem? hp
    have hbi : (blkF l)[i]? = some (crcRec (blkB 4 p)) := by rw [blkF, List.getElem?_map, hp]; rfl
    have hpk := prt_ok hk hpm
    have hpb := prt_blk hk hpm
    obtain ⟨z1, z2⟩ := prt_build hk hpm
    obtain ⟨Y, hY⟩ : ∃ Y, crcRec (blkB 4 p) = Y := ⟨_, rfl⟩
    have hYl : Y.length ≤ 100008 := by rw [← hY, crcRec_length]; omega
    rw [hY] at hbi z1 z2
    obtain ⟨q1, q2⟩ := hs.kp 2 rfl
    obtain ⟨Q, cq, u0, r0, hc0⟩ := q2.2 i _ hbi
    refine wc_skip ?_; refine we_seq ?_; refine wc_seq ?_; refine wc_block ?_; refine wc_sr ?_
    refine wl_val (opv_idxR (kk := i) (u := .slice Q Y.length cq) tyBB rfl rfl q1 rfl u0) rfl ?_
    refine wl_val (opv_loadR (kk := i) (u := .slice Q Y.length cq) tyBB rfl q1 u0) rfl ?_
    refine wl_as rfl rfl ?_; refine wl_ns ?_; refine wc_sr ?_; refine wl_mv rfl rfl ?_
    have hd := decode_any (c := cq) r0 rfl hc0 (by omega)
    rw [z2] at hd
    refine wl_call ok_block_Decode hd ⟨rfl, trivial⟩ rfl ?_
    clear hd
    rintro _ _ ⟨R, rc, rfl, hsx⟩
    obtain ⟨css, hs⟩ := hs.kpDec hsx
    clear hsx q1 q2 r0
    dsimp only at hs ⊢
    refine wl_mv rfl rfl ?_; apply wl_val; apply opv_extract; exact rfl; exact rfl; exact rfl; apply wl_val; apply opv_extract; exact rfl; exact rfl; exact rfl; refine wl_as rfl rfl ?_; refine wl_as rfl rfl ?_; refine wl_ns ?_; refine wc_seq ?_; refine wc_sr ?_; refine wl_mv rfl rfl ?_
    have hb := blkBuild_any (every := 4) (c := rc) (by decide) (by decide) (hs.kp 0 rfl).2.2 rfl (by have := hpk.len; omega) hpk.siz2
    rw [z1] at hb
    refine wl_call ok_block_Build hb ⟨rfl, rfl, trivial⟩ rfl ?_
    clear hb
    rintro _ _ ⟨D, cD, rfl, hnw, hbx⟩
    replace hs := hs.newR hbx hnw
    clear hbx hnw
    dsimp only at hs ⊢
    have hpn : ¬ (p.length : Int) = 0 := by have := List.length_pos_iff.2 hpk.ne; omega
    obtain ⟨q1, q2⟩ := hs.kp 4 rfl
    obtain ⟨Q', cq', u0', r0, _⟩ := q2.2 i _ hbi
    rw [u0] at u0'
    obtain ⟨rfl, rfl⟩ : Q = Q' ∧ cq = cq' := by simpa using u0'
    clear u0'
    refine wl_mv rfl rfl ?_; apply wl_val; apply opv_extract; exact rfl; exact rfl; exact rfl; apply wl_val; apply opv_extract; exact rfl; exact rfl; exact rfl; refine wl_as rfl rfl ?_; refine wl_as rfl rfl ?_; refine wl_ns ?_; refine wc_sr ?_; refine wl_mv rfl rfl ?_; refine wl_bin rfl rfl bin_neq rfl ?_; refine wl_mv rfl rfl ?_; apply wl_take; exact rfl; exact rfl; exact rfl; refine bF ?_; omega; refine wl_mv rfl rfl ?_; apply wl_take; exact rfl; exact rfl; exact rfl; refine bF ?_; omega; refine wl_bin rfl rfl bin_neq rfl ?_; apply wl_val; apply opv_pickF; exact rfl; refine bF ?_; omega; exact rfl; exact rfl; refine wl_mv rfl rfl ?_; apply wl_take; exact rfl; exact rfl; exact rfl; refine bF ?_; omega; refine wl_mv rfl rfl ?_; apply wl_take; exact rfl; exact rfl; exact rfl; refine bF ?_; omega; apply wl_val; apply opv_len; exact rfl; exact tkE.sl; exact rfl; apply wl_take; exact rfl; exact rfl; exact rfl; refine bF ?_; omega; refine wl_bin rfl rfl bin_eql rfl ?_; apply wl_val; apply opv_pickF; exact rfl; refine bF ?_; omega; exact rfl; exact rfl; refine wl_mv rfl rfl ?_; apply wl_take; exact rfl; exact rfl; exact rfl; refine bF ?_; (with_reducible assumption); refine wl_mv rfl rfl ?_; apply wl_take; exact rfl; exact rfl; exact rfl; refine bF ?_; (with_reducible assumption); refine wl_mv rfl rfl ?_; apply wl_take; exact rfl; exact rfl; exact rfl; refine bF ?_; (with_reducible assumption)
    refine wl_call ok_bytes_Equal (beq_any (hs.2.rdc (i := 0) rfl) r0 rfl rfl) ⟨rfl, rfl, trivial⟩ rfl ?_
    rintro _ _ ⟨rfl, rfl⟩
    rw [decide_eq_true rfl]
    apply wl_take; exact rfl; exact rfl; exact rfl; refine bF ?_; (with_reducible assumption); apply wl_val; apply opv_not; exact rfl; exact rfl; apply wl_val; apply opv_pickF; exact rfl; refine bF ?_; (with_reducible assumption); exact rfl; exact rfl; refine wl_ns ?_; apply wc_condFb; exact rfl; exact Bool.not_true; refine wc_skip ?_; refine we_seq ?_; refine wc_region ?_; refine wl_mv rfl rfl ?_; refine wl_mv rfl rfl ?_
    obtain ⟨e1, e2, _⟩ := hs.kp 1 rfl
    have hcl : css.length = p.length := e1.1
    have hac : acc.length = done.length := (hs.kp 3 rfl).1
    have hpl2 : p.length ≤ 40 := hpk.len
    refine ws_appR (css := css) (m := p.length) hs 2 rfl rfl tkE (by rw [List.length_map]; exact hac) rfl e2 hcl e1.one (by omega) (by omega) rfl ?_
    clear hs; intro G2 cg2 _ hs; dsimp only [setC] at hs
    replace hs := St.kpMono (K' := EnK (acc ++ css) (done ++ p)) (St.kpAnd ((hs.drop 0 rfl).front 2 rfl)) fun w h => h.1.app h.2.1
    replace hs := hs.front 1 rfl
    dsimp only [delC] at hs
    have hcg := OwR.len_le (hs.rg 0 rfl)
    rw [List.length_append, List.length_map, List.length_map, hac, hcl] at hcg
    rw [← List.map_append] at hs
    have hdn2 : done ++ p = ((prtE l).take (i + 1)).flatten := by rw [take_getR hp, List.flatten_append, ← hdn]; simp
    have hdl2 : (done ++ p).length ≤ 40 := by
      have h1 : (done ++ p) ++ ((prtE l).drop (i + 1)).flatten = l := by rw [hdn2, ← List.flatten_append, List.take_append_drop, prt_flat]
      have h2 := congrArg List.length h1
      rw [List.length_append] at h2
      omega
    refine wl_as rfl rfl ?_; refine wl_nil ?_; refine we_block_norm ?_; refine we_seq ?_; refine wc_region ?_; apply wl_val; apply opv_bin; exact rfl; exact rfl; exact bin_add64 (by omega); exact rfl; refine wl_mv rfl rfl ?_; refine wl_nil ?_
    exact we_loop _ ((blkF l).length - (i + 1)) ⟨i + 1, G2, cg2, acc ++ css, done ++ p, rfl, by omega, hdn2, hdl2, by rw [List.length_append]; exact hcg, hs, rfl⟩ (by omega) ⟨rfl, rfl, by rw [List.length_append]; rfl, rfl, rfl, by rw [show ((i + 1 : Nat) : Int) = (i : Int) + 1 by omega]; rfl, trivial⟩
  · obtain rfl : i = (blkF l).length := by omega
    rw [hbl, List.take_length, prt_flat] at hdn
    subst hdn
    refine wc_exit ?_; refine we_seq_exit ?_; refine we_loop_exit ?_; refine we_block_exit ?_; refine we_seq ?_; refine wc_seq ?_; refine wc_sr ?_; refine wl_mv rfl rfl ?_
    have hR := (hs.kp 1 rfl).rdr (hs.rg 0 rfl)
    refine wl_call ok_table_ordered (ordered_any hR rfl (ordE_of hk.ord) hk.ne (by omega)) ⟨rfl, trivial⟩ rfl ?_
    clear hR
    rintro _ _ ⟨rfl, hbx⟩
    replace hs := hs.below hbx
    clear hbx
    apply wl_val; apply opv_not; exact rfl; exact rfl; refine wl_ns ?_; apply wc_condFb; exact rfl; exact Bool.not_true; refine wc_skip ?_; refine we_seq ?_; refine wc_seq ?_; refine wc_sr ?_; refine wl_mv rfl rfl ?_
    have hR := (hs.kp 1 rfl).rdr (hs.rg 0 rfl)
    refine wl_call ok_table_filter (filter_any hR rfl hll fun x hx => by have := hk.big x hx; omega) ⟨rfl, trivial⟩ rfl ?_
    clear hR
    rintro _ _ ⟨F0, f0, rfl, o_, hbx⟩
    replace hs := hs.newO hbx o_ (Nat.le_refl _)
    clear hbx o_
    obtain ⟨q1, q2⟩ := hs.kp 4 rfl
    obtain ⟨F, fc, uP, r0, hfc⟩ := q2.2 1 _ hps1
    rw [hpsl] at q1
    have qP := q1
    refine wl_mv rfl rfl ?_; apply wl_val; apply opv_extract; exact rfl; exact rfl; exact rfl; apply wl_val; apply opv_extract; exact rfl; exact rfl; exact rfl; refine wl_as rfl rfl ?_; refine wl_as rfl rfl ?_; refine wl_ns ?_; refine wc_sr ?_; refine wl_mv rfl rfl ?_; refine wl_bin rfl rfl bin_neq rfl ?_; refine wl_mv rfl rfl ?_; apply wl_take; exact rfl; exact rfl; exact rfl; refine bF ?_; (with_reducible exact nne); refine wl_mv rfl rfl ?_; apply wl_take; exact rfl; exact rfl; exact rfl; refine bF ?_; (with_reducible exact nne); refine wl_mv rfl rfl ?_; apply wl_take; exact rfl; exact rfl; exact rfl; refine bF ?_; (with_reducible exact nne); apply wl_val; apply opv_idxR (kk := 1) (T := tyBB) (hr := qP) (hu := uP); exact rfl; exact rfl; exact rfl; exact rfl; apply wl_take; exact rfl; exact rfl; exact rfl; refine bF ?_; (with_reducible exact nne); apply wl_val; refine opv_loadR tyBB rfl qP uP; exact rfl; apply wl_take; exact rfl; exact rfl; exact rfl; refine bF ?_; (with_reducible exact nne)
    refine wl_call ok_bytes_Equal (beq_any (hs.ow 0 rfl).rd r0 rfl rfl) ⟨rfl, rfl, trivial⟩ rfl ?_
    rintro _ _ ⟨rfl, rfl⟩
    rw [decide_eq_true rfl]
    apply wl_take; exact rfl; exact rfl; exact rfl; refine bF ?_; (with_reducible exact nne); apply wl_val; apply opv_not; exact rfl; exact rfl; apply wl_val; apply opv_pickF; exact rfl; refine bF ?_; (with_reducible exact nne); exact rfl; exact rfl; refine wl_ns ?_; apply wc_condFb; exact rfl; exact Bool.not_true; refine wc_skip ?_; refine we_seq ?_; refine wc_seq ?_
    have hdc2 : done.length ≤ cg := hdc
    refine wc_drawB mixed (by kernel_rfl) ?_
    apply wq_val; intro _ hw_; apply opv_move; exact rfl; exact rfl; apply wq_val; intro _ hw_; apply opv_move; exact rfl; exact rfl; apply wq_val; intro _ hw_; apply opv_idxR (kk := 1) (T := tyBB) (hr := Rd.below qP hw_) (hu := uP); exact rfl; exact rfl; exact rfl; exact rfl; apply wq_val; intro _ hw_; refine opv_loadR tyBB rfl (Rd.below qP hw_) uP; exact rfl; apply wq_val; intro _ hw_; apply opv_assign; exact rfl; exact rfl; apply wq_val; intro _ hw_; apply opv_assign; exact rfl; exact rfl; apply wq_val; intro _ hw_; apply opv_assign; exact rfl; exact rfl; refine wq_nil fun w1 hw1 => ?_
    replace hs := hs.below hw1
    replace hs := St.kpOf (K := TbK G F done) (H1 := [_, _, _, _, _]) (H := []) hs fun w S hS => by
      obtain ⟨T, h1⟩ := sat_rg hS 1 rfl
      refine ⟨(Sat.kp (i := 2) hS rfl).rdr h1, ?_⟩
      obtain ⟨F', fc', k1, k2, _⟩ := (Sat.kp (i := 4) hS rfl).2.2 1 _ hps1
      rw [uP] at k1
      obtain ⟨rfl, rfl⟩ : F = F' ∧ fc = fc' := by simpa using k1
      exact k2
    refine we_seq ?_; refine wc_ret ?_
    exact we_ret3 rfl rfl rfl rfl ⟨_, rfl, G, cg, F, fc, rfl, hs, hdc2, hfc⟩
end Go.Proofs.YtdgagffieobiiaaGreatDoor

/-
  Walks over the opening of a table.
-/
namespace Go.Proofs.YtdgagffieobiiaaGreatDoor
open Go.RowKit
theorem fa_Tb1 : FieldAt Tryz.prog 49 1 4 := fieldAt_mk Tryz.underlying49 rfl rfl (by kernel_rfl)
theorem fa_Tb2 : FieldAt Tryz.prog 49 2 5 := fieldAt_mk Tryz.underlying49 rfl rfl (by kernel_rfl)
def tblV (m : List Value) (R : Option Addr) (n rc : Nat) (F : Option Addr) (k fc : Nat) : List Value := m ++ [.slice R n rc, .slice F k fc]
theorem topen_none {g : Nat} {d : Dk} {w : World} (h : RdD w g d) (hok : DkOk d) (hd : d.dead = false) (hth : thereD d nmT = 6) :
    CallsV Tryz.prog 16 #[.pointer (some ⟨g, 0, none⟩), str nmT] w fun v w' => v = .tuple #[.pointer none, .int .i64 6] ∧ Below w.heap.size w w' := by
  have hs := St.init w
  have hrd : readD d nmT = ([], 6) := by rw [readD, if_neg (by rw [hd]; decide), hth]; rfl
  have hc := read_any (n := nmT) h hok
  rw [hrd] at hc
  refine calls_in (N := _) Tryz.func16 rfl Tryz.ntmps16 rfl ?_; show WC _ _ _ _ _ _
  refine wc_sr ?_; refine wl_as rfl rfl ?_; refine wl_as rfl rfl ?_; refine wl_ns ?_; refine wc_sr ?_; refine wl_mv rfl rfl ?_; refine wl_mv rfl rfl ?_
  refine wl_call ok_disk_Disk_Read hc ⟨rfl, rfl, trivial⟩ rfl ?_
  rintro _ _ ⟨A, c, rfl, o_, hbx⟩
  dsimp only
  have h60 : ((6 : Nat) : Int) ≠ 0 := by decide
  refine wl_mv rfl rfl ?_; apply wl_val; apply opv_extract; exact rfl; exact rfl; exact rfl; apply wl_val; apply opv_extract; exact rfl; exact rfl; exact rfl; refine wl_as rfl rfl ?_; refine wl_as rfl rfl ?_; refine wl_ns ?_; refine wc_seq ?_; refine wc_sr ?_; refine wl_mv rfl rfl ?_; refine wl_bin rfl rfl bin_neq rfl ?_; refine wl_ns ?_; apply wc_condTb; exact rfl; exact rfl; refine wc_sr ?_; refine wl_mv rfl rfl ?_; refine wl_as rfl rfl ?_; refine wl_as rfl rfl ?_; refine wl_ns ?_; refine wc_ret ?_; refine we_seq_ret ?_
  exact we_ret2 rfl rfl rfl ⟨_, rfl, rfl, hbx⟩
theorem topen_any {g : Nat} {d : Dk} {l : List En} {w : World} (h : RdD w g d) (hok : DkOk d) (hd : d.dead = false) (hfs : d.fs = [(nmT, fT l)]) (hk : TbOk l) (hsz : (tabF l).length ≤ 1048576) :
    CallsV Tryz.prog 16 #[.pointer (some ⟨g, 0, none⟩), str nmT] w fun v w' => ∃ (t : Nat) (C : Option Addr) (k1 e1 : Nat) (D : Option Addr) (k2 f2 s : Nat) (R : Option Addr) (rc : Nat) (F : Option Addr) (fc : Nat), v = .tuple #[.pointer (some ⟨t, 0, none⟩), .int .i64 0] ∧ l.length ≤ rc ∧ (filtB (keysU l)).length ≤ fc ∧
      St NoB w w' [.blk t 49 (tblV (mtV C k1 e1 D k2 f2 l.length s) R l.length rc F (filtB (keysU l)).length fc), .ck (kp (TbK R F l))] := by
  have hs := St.init w
  obtain ⟨hfl, hth, _⟩ := One.file hfs
  have hrd : readD d nmT = (crcRec (tabF l), 0) := by rw [readD, if_neg (by rw [hd]; decide), hth, hfl]; rfl
  have hc := read_any (n := nmT) h hok
  rw [hrd] at hc
  refine calls_in (N := _) Tryz.func16 rfl Tryz.ntmps16 rfl ?_; show WC _ _ _ _ _ _
  refine wc_sr ?_; refine wl_as rfl rfl ?_; refine wl_as rfl rfl ?_; refine wl_ns ?_; refine wc_sr ?_; refine wl_mv rfl rfl ?_; refine wl_mv rfl rfl ?_
  refine wl_call ok_disk_Disk_Read hc ⟨rfl, rfl, trivial⟩ rfl ?_
  clear hc
  rintro _ _ ⟨A, c, rfl, o_, hbx⟩
  have hc1 := OwB.cap o_
  replace hs := hs.newO hbx o_ (Nat.le_refl _)
  clear hbx o_
  dsimp only at hs hc1 ⊢
  have h00 : ((0 : Nat) : Int) = 0 := rfl
  refine wl_mv rfl rfl ?_; apply wl_val; apply opv_extract; exact rfl; exact rfl; exact rfl; apply wl_val; apply opv_extract; exact rfl; exact rfl; exact rfl; refine wl_as rfl rfl ?_; refine wl_as rfl rfl ?_; refine wl_ns ?_; refine wc_seq ?_; refine wc_sr ?_; refine wl_mv rfl rfl ?_; refine wl_bin rfl rfl bin_neq rfl ?_; refine wl_ns ?_; apply wc_condFb; exact rfl; exact rfl; refine wc_skip ?_; refine we_seq ?_; refine wc_sr ?_; refine wl_mv rfl rfl ?_
  refine wl_call ok_table_parse (parse_any (hs.ow 0 rfl).rd rfl hc1 hk hsz) ⟨rfl, trivial⟩ rfl ?_
  rintro _ _ ⟨R, rc, F, fc, rfl, hsx, hrc, hfc⟩
  replace hs := (hs.call hsx).drop 1 rfl
  clear hsx
  dsimp only [List.cons_append, List.nil_append, delC] at hs
  refine wl_mv rfl rfl ?_; apply wl_val; apply opv_extract; exact rfl; exact rfl; exact rfl; apply wl_val; apply opv_extract; exact rfl; exact rfl; exact rfl; apply wl_val; apply opv_extract; exact rfl; exact rfl; exact rfl; refine wl_as rfl rfl ?_; refine wl_as rfl rfl ?_; refine wl_as rfl rfl ?_; refine wl_ns ?_; refine wc_seq ?_; refine wc_sr ?_; refine wl_mv rfl rfl ?_; refine wl_bin rfl rfl bin_neq rfl ?_; refine wl_ns ?_; apply wc_condFb; exact rfl; exact rfl; refine wc_skip ?_; refine we_seq ?_; refine wc_sr ?_; refine wl_mv rfl rfl ?_; refine wl_mv rfl rfl ?_; apply wl_val; apply opv_len; exact rfl; exact tyB.sl; exact rfl
  have hkx : ∀ x ∈ l, x.key.length ≤ 140737488355328 := fun x hx => by have := hk.big x hx; omega
  refine wl_call ok_table_meta (meta_any (s := (crcRec (tabF l)).length) (hs.kp 0 rfl).1 rfl hk.ne (by have := hk.len; omega) hkx) ⟨rfl, rfl, trivial⟩ rfl ?_
  rintro _ _ ⟨⟨C, k1, e1, D, k2, f2, rfl⟩, hbx⟩
  replace hs := hs.below hbx
  refine wl_mv rfl rfl ?_; refine wl_mv rfl rfl ?_
  refine wl_val (opv_build (vs := [(0, .agg (mtV C k1 e1 D k2 f2 l.length (crcRec (tabF l)).length).toArray), (1, .slice R l.length rc), (2, .slice F (filtB (keysU l)).length fc)]) (cs := tblV (mtV C k1 e1 D k2 f2 l.length (crcRec (tabF l)).length) R l.length rc F (filtB (keysU l)).length fc) ⟨rfl, rfl, rfl, rfl, rfl, rfl, trivial⟩ (by kernel_rfl)) rfl ?_
  refine ws_box (cs := tblV (mtV C k1 e1 D k2 f2 l.length (crcRec (tabF l)).length) R l.length rc F (filtB (keysU l)).length fc) hs rfl rfl ?_; clear hs; intro g35 _ hs
  refine wl_as rfl rfl ?_; refine wl_as rfl rfl ?_; refine wl_ns ?_; refine wc_ret ?_
  exact we_ret2 rfl rfl rfl ⟨_, rfl, _, C, k1, e1, D, k2, f2, _, R, rc, F, fc, rfl, hrc, hfc, hs⟩
end Go.Proofs.YtdgagffieobiiaaGreatDoor

/-
  Walks over the reading of a table: seek.
-/
namespace Go.Proofs.YtdgagffieobiiaaGreatDoor
open Go.RowKit
theorem e1_pTb : Cell1 Tryz.prog 45 := ⟨by kernel_rfl, by rw [Tryz.underlying45]⟩
theorem tseekP_any {k g h t s k1 e1 k2 f2 rc fk fc : Nat} {R F C D C1 D1 : Option Addr} {d e : Nat} {l : List En} {x y : En} {w : World} (hx : l[k]? = some x) (hr : RdR 4 w All R (l.map enEl)) (a9 : Ar w g 45 [.pointer (some ⟨t, 0, none⟩)]) (a8 : Ar w t 49 (tblV (mtV C1 k1 e1 D1 k2 f2 l.length s) R l.length rc F fk fc)) (a11 : Ar w h 31 (enV y C d D e)) (ry : RdB w C y.key) :
    CallsV Tryz.prog 82 #[.int .i64 (k : Int), .pointer (some ⟨g, 0, none⟩), .pointer (some ⟨h, 0, none⟩)] w fun v w' => v = .bool (!lessE x y) ∧ Below w.heap.size w w' := by
  have hs := St.init w
  have hk := (List.getElem?_eq_some_iff.1 hx).1
  unfold tblV mtV at a8
  dsimp only [List.cons_append, List.nil_append] at a8
  obtain ⟨bb, o, cs, rfl, _, _, hp, i0⟩ := RdR.at (k := 4) (by decide) hr (E := enEl x) (i := k) (by rw [List.getElem?_map, hx]; rfl)
  obtain ⟨X, cx, X2, cx2, rfl, rx, hcx, rx2, hcx2⟩ := enEl.rd hp
  refine calls_in (N := _) Tryz.func82 rfl Tryz.ntmps82 rfl ?_; show WC _ _ _ _ _ _
  refine wc_sr ?_; refine wl_as rfl rfl ?_; refine wl_ns ?_; refine wc_seq ?_
  refine wc_drawB mixed (by kernel_rfl) ?_
  apply wq_val; intro _ hw_; apply opv_ldX; exact rfl; exact Ar.bel (by assumption) hw_; exact e1_pTb; exact rfl; exact rfl; apply wq_val; intro _ hw_; apply opv_nilOk; exact rfl; exact rfl; apply wq_val; intro _ hw_; apply opv_fa; exact fa_Tb1; exact rfl; exact rfl; apply wq_val; intro _ hw_; apply opv_ldX; exact rfl; exact Ar.bel (by assumption) hw_; exact e1_row; exact rfl; exact rfl; apply wq_val; intro _ hw_; apply opv_move; exact rfl; exact rfl; apply wq_val; intro _ hw_; apply opv_idxG tkE; exact rfl; exact rfl; exact rfl; omega; exact rfl; apply wq_val; intro _ hw_; apply opv_ldG; exact rfl; exact Wi.below (by assumption) hw_; exact sE; exact rfl; apply wq_val; intro _ hw_; apply opv_loadX; exact rfl; exact Ar.bel (by assumption) hw_; exact sE; exact rfl
  refine wq_call (v := .bool (lessE x y)) ok_mem_Less (fun w' hw => (less_any (rx.below hw) (ry.below hw)).mono fun v w2 h2 => ⟨h2.1, hw.trans (h2.2.mono hw.size)⟩) ⟨rfl, rfl, trivial⟩ rfl ?_
  apply wq_val; intro _ hw_; apply opv_notD; exact rfl; exact rfl; apply wq_val; intro _ hw_; apply opv_assign; exact rfl; exact rfl; refine wq_nil fun w1 hw1 => ?_
  replace hs := hs.below hw1
  refine we_seq ?_; refine wc_ret ?_
  exact we_ret1 rfl rfl ⟨_, rfl, congrArg Value.bool (by unfold lessE; rw [decide_not]), hs.bel⟩
theorem tseek_any {t s k1 e1 k2 f2 rc fk fc kn kc m : Nat} {R F C1 D1 K : Option Addr} {l : List En} {key : List UInt8} {w : World} (hr : RdR 4 w All R (l.map enEl)) (a8 : Ar w t 49 (tblV (mtV C1 k1 e1 D1 k2 f2 l.length s) R l.length rc F fk fc)) (ho : Ord l) (hl : l.length ≤ 1048576) (rk : RdB w K key) (hkn : key.length = kn) :
    CallsV Tryz.prog 52 #[.pointer (some ⟨t, 0, none⟩), .slice K kn kc, .int .u64 (m : Int)] w fun v w' => (∃ i : Nat, v = .int .i64 (i : Int) ∧ SchR l.length (fun k => !lessE (l[k]?.getD noE) ⟨key, m, 0, []⟩) i) ∧ Below w.heap.size w w' := by
  subst hkn
  have hs := St.init w
  obtain ⟨y, hy⟩ : ∃ y : En, ⟨key, m, 0, []⟩ = y := ⟨_, rfl⟩
  rw [hy]
  refine calls_in (N := _) Tryz.func52 rfl Tryz.ntmps52 rfl ?_; show WC _ _ _ _ _ _
  refine wc_sr ?_
  refine ws_box1 hs rfl rfl rfl ?_
  clear hs; intro g3 _ hs
  refine wl_as rfl rfl ?_; refine wl_ns ?_; refine wc_sr ?_; refine wl_mv rfl rfl ?_; refine wl_mv rfl rfl ?_
  refine wl_val (opv_build (vs := [(0, .slice K key.length kc), (1, .int .u64 (m : Int))]) (cs := enV y K kc none 0) ⟨rfl, rfl, rfl, rfl, trivial⟩ (by subst hy; kernel_rfl)) rfl ?_
  skip
  refine ws_new hs zeroE rfl ?_; clear hs; intro g7 _ hs
  unfold zE at hs
  unfold enV
  apply ws_stS hs 0; exact rfl; exact rfl; exact rfl; exact sE; exact rfl; exact rfl; clear hs; intro _ hs; dsimp only [setC] at hs; refine wl_ns ?_; refine wc_sr ?_; apply wl_val; apply opv_ldX; exact rfl; exact hs.ar 1 rfl; exact e1_pTb; exact rfl; exact rfl; apply wl_val; apply opv_nilOk; exact rfl; exact rfl; apply wl_val; apply opv_fa; exact fa_Tb1; exact rfl; exact rfl
  have a8' := a8.bel hs.bel
  have a8'' := a8'
  unfold tblV mtV at a8''
  dsimp only [List.cons_append, List.nil_append] at a8''
  apply wl_val; apply opv_ldX; exact rfl; assumption; exact e1_row; exact rfl; exact rfl; apply wl_val; apply opv_len; exact rfl; exact tkE.sl; exact rfl
  refine wl_val (opv_mkFunc (us := [.pointer (some ⟨g3, 0, none⟩), .pointer (some ⟨g7, 0, none⟩)]) ⟨rfl, rfl, trivial⟩) rfl ?_
  have hrk := rk.below hs.bel
  have hrr := hr.below hs.bel
  refine wl_call ok_sort_Search (search_any (n := l.length) (p := fun k => !lessE (l[k]?.getD noE) y) ok_table_Table_seek_1 (by omega) (fun k hk w' hb => ?_) fun i j h1 h2 h3 => ord_mono ho h1 h2 h3) ⟨rfl, rfl, trivial⟩ rfl ?_
  · have hs' := hs.below hb
    have hx : l[k]? = some l[k] := List.getElem?_eq_getElem hk
    rw [hx, Option.getD_some]
    exact tseekP_any hx (hrr.below hb) (hs'.ar 1 rfl) (a8'.bel hb) (hs'.ar 0 rfl) (by subst hy; exact hrk.below hb)
  rintro _ w2 ⟨⟨i, rfl, hi⟩, hb⟩
  replace hs := hs.below hb
  clear hb
  refine wl_as rfl rfl ?_; refine wl_ns ?_; refine wc_ret ?_
  exact we_ret1 rfl rfl ⟨_, rfl, ⟨i, rfl, hi⟩, hs.bel⟩
end Go.Proofs.YtdgagffieobiiaaGreatDoor

/-
  Walk over Get of a table on a disk.
-/
namespace Go.Proofs.YtdgagffieobiiaaGreatDoor
open Go.RowKit
def RetGt (w : World) (o : Option En) (v : Value) (w' : World) : Prop :=
  (∃ (A : Option Addr) (c : Nat) (B : Option Addr) (d : Nat), v = .tuple #[.agg (enV (o.getD noE) A c B d).toArray, .bool o.isSome] ∧ RdB w' A (o.getD noE).key ∧ RdB w' B (o.getD noE).val) ∧ Below w.heap.size w w'
theorem getE_mem {l : List En} {key : List UInt8} {m : Nat} {x : En} (h : getE l key m = some x) : x ∈ l ∧ x.key = key := by
  have h1 := List.mem_of_find?_eq_some h
  have h2 := List.find?_some h
  exact ⟨h1, (of_decide_eq_true h2).1⟩
set_option maxHeartbeats 1000000 in
theorem dget_any {t s k1 e1 k2 f2 rc fc kn kc m : Nat} {R F C1 D1 K : Option Addr} {l : List En} {key : List UInt8} {w : World} (hT : TbK R F l w) (a8 : Ar w t 49 (tblV (mtV C1 k1 e1 D1 k2 f2 l.length s) R l.length rc F (filtB (keysU l)).length fc)) (hk : TbOk l) (rk : RdB w K key) (hkn : key.length = kn) (hkl : key.length ≤ 1099511627776) :
    CallsV Tryz.prog 22 #[.pointer (some ⟨t, 0, none⟩), .slice K kn kc, .int .u64 (m : Int)] w (RetGt w (getE l key m)) := by
  subst hkn
  obtain ⟨hr, hF⟩ := hT
  have hs := St.init w
  have hll := hk.len
  have hku := keysU_len (l := l)
  obtain ⟨q, hq1, hq2, hq3, hq4⟩ := filt_last (keys := keysU l) (by omega)
  have a8' := a8
  unfold tblV mtV at a8'
  dsimp only [List.cons_append, List.nil_append] at a8'
  have hsg := sek_get (key := key) (m := m) hk.ord
  obtain ⟨y, hy⟩ : ∃ y : En, ⟨key, m, 0, []⟩ = y := ⟨_, rfl⟩
  rw [hy] at hsg
  refine calls_in (N := _) Tryz.func22 rfl Tryz.ntmps22 rfl ?_; show WC _ _ _ _ _ _
  refine wc_sr ?_
  refine ws_new hs zeroE rfl ?_; clear hs; intro g6 _ hs
  unfold zE at hs
  have a9 := a8'.bel hs.bel
  refine wl_as rfl rfl ?_; refine wl_ns ?_; refine wc_seq ?_; refine wc_sr ?_; refine wl_mv rfl rfl ?_; apply wl_val; apply opv_nilOk; exact rfl; exact rfl; apply wl_val; apply opv_fa; exact fa_Tb2; exact rfl; exact rfl; apply wl_val; apply opv_ldX; exact rfl; assumption; exact e1_by; exact rfl; exact rfl; refine wl_mv rfl rfl ?_
  have hm := may_any (c := fc) (kc := kc) (hF.below hs.bel) hq1 (by omega) hq4 (rk.below hs.bel) rfl hkl
  rw [← hq1] at hm
  refine wl_call ok_bloom_May hm ⟨rfl, rfl, trivial⟩ rfl ?_
  clear hm
  rintro _ w1 ⟨rfl, hbx⟩
  replace hs := hs.below hbx
  clear hbx a9
  cases hmay : mayB (filtB (keysU l)) key with
  | false =>
    have hg : getE l key m = none := by
      cases h : getE l key m with
      | none => rfl
      | some x =>
        obtain ⟨h1, h2⟩ := getE_mem h
        have h3 := may_in (by omega) (keysU_in h1)
        rw [h2, hmay] at h3
        cases h3
    rw [hg]
    refine wl_mv rfl rfl ?_; apply wl_val; apply opv_extract; exact rfl; exact rfl; exact rfl; apply wl_val; apply opv_extract; exact rfl; exact rfl; exact rfl; refine wl_as rfl rfl ?_; refine wl_as rfl rfl ?_; refine wl_ns ?_; refine wc_sr ?_; refine wl_mv rfl rfl ?_; apply wl_val; apply opv_not; exact rfl; exact rfl; refine wl_ns ?_; apply wc_condTb; exact rfl; exact Bool.not_false; refine wc_sr ?_
    refine wl_val (opv_build (vs := []) (cs := zE) trivial (by kernel_rfl)) rfl ?_
    unfold zE
    apply ws_stS hs 0; exact rfl; exact rfl; exact rfl; exact sE; exact rfl; exact rfl; clear hs; intro _ hs; dsimp only [setC] at hs; refine wl_as rfl rfl ?_; refine wl_ns ?_; refine wc_ret ?_; refine we_seq_ret ?_
    exact we_retC1 rfl rfl rfl (hs.ar 0 rfl) sE ⟨_, rfl, ⟨none, 0, none, 0, rfl, Rd.nil _ _, Rd.nil _ _⟩, hs.bel⟩
  | true =>
    have a9 := a8'.bel hs.bel
    refine wl_mv rfl rfl ?_; apply wl_val; apply opv_extract; exact rfl; exact rfl; exact rfl; apply wl_val; apply opv_extract; exact rfl; exact rfl; exact rfl; refine wl_as rfl rfl ?_; refine wl_as rfl rfl ?_; refine wl_ns ?_; refine wc_sr ?_; refine wl_mv rfl rfl ?_; apply wl_val; apply opv_not; exact rfl; exact rfl; refine wl_ns ?_; apply wc_condFb; exact rfl; exact Bool.not_true; refine wc_skip ?_; refine we_seq ?_; refine wc_sr ?_; refine wl_mv rfl rfl ?_; refine wl_mv rfl rfl ?_; refine wl_mv rfl rfl ?_
    have hsk := tseek_any (kc := kc) (m := m) (hr.below hs.bel) (a8.bel hs.bel) hk.ord (by omega) (rk.below hs.bel) rfl
    rw [hy] at hsk
    refine wl_call ok_table_Table_seek hsk ⟨rfl, rfl, rfl, trivial⟩ rfl ?_
    clear hsk a9
    rintro _ w2 ⟨⟨i, rfl, hi⟩, hbx⟩
    replace hs := hs.below hbx
    clear hbx
    have hil := hi.le
    rw [sek_at hi] at hsg
    have a9 := a8'.bel hs.bel
    by_cases hin : i = l.length
    · have hg : getE l key m = none := by rw [hsg, List.getElem?_eq_none (by omega)]
      rw [hg]
      have hin' : (i : Int) = (l.length : Int) := by omega
      refine wl_as rfl rfl ?_; refine wl_ns ?_; refine wc_seq ?_; refine wc_sr ?_; refine wl_mv rfl rfl ?_; refine wl_mv rfl rfl ?_; apply wl_val; apply opv_nilOk; exact rfl; exact rfl; apply wl_val; apply opv_fa; exact fa_Tb1; exact rfl; exact rfl; apply wl_val; apply opv_ldX; exact rfl; assumption; exact e1_row; exact rfl; exact rfl; apply wl_val; apply opv_len; exact rfl; exact tkE.sl; exact rfl; refine wl_bin rfl rfl bin_eql rfl ?_; refine wl_mv rfl rfl ?_; apply wl_skip; exact rfl; exact rfl; exact rfl; refine bTn ?_; (with_reducible assumption); exact rfl; apply wl_skip; exact rfl; exact rfl; exact rfl; refine bTn ?_; (with_reducible assumption); exact rfl; apply wl_skip; exact rfl; exact rfl; exact rfl; refine bTn ?_; (with_reducible assumption); exact rfl; apply wl_skip; exact rfl; exact rfl; exact rfl; refine bTn ?_; (with_reducible assumption); exact rfl; apply wl_skip; exact rfl; exact rfl; exact rfl; refine bTn ?_; (with_reducible assumption); exact rfl; apply wl_skip; exact rfl; exact rfl; exact rfl; refine bTn ?_; (with_reducible assumption); exact rfl; apply wl_skip; exact rfl; exact rfl; exact rfl; refine bTn ?_; (with_reducible assumption); exact rfl; apply wl_skip; exact rfl; exact rfl; exact rfl; refine bTn ?_; (with_reducible assumption); exact rfl; apply wl_skip; exact rfl; exact rfl; exact rfl; refine bTn ?_; (with_reducible assumption); exact rfl; apply wl_skip; exact rfl; exact rfl; exact rfl; refine bTn ?_; (with_reducible assumption); exact rfl; apply wl_skip; exact rfl; exact rfl; exact rfl; refine bTn ?_; (with_reducible assumption); exact rfl; apply wl_val; apply opv_pickT; exact rfl; refine bT ?_; (with_reducible assumption); exact rfl; exact rfl; refine wl_ns ?_; apply wc_condTb; exact rfl; exact rfl; refine wc_sr ?_
      refine wl_val (opv_build (vs := []) (cs := zE) trivial (by kernel_rfl)) rfl ?_
      unfold zE
      apply ws_stS hs 0; exact rfl; exact rfl; exact rfl; exact sE; exact rfl; exact rfl; clear hs; intro _ hs; dsimp only [setC] at hs; refine wl_as rfl rfl ?_; refine wl_ns ?_; refine wc_ret ?_; refine we_seq_ret ?_
      exact we_retC1 rfl rfl rfl (hs.ar 0 rfl) sE ⟨_, rfl, ⟨none, 0, none, 0, rfl, Rd.nil _ _, Rd.nil _ _⟩, hs.bel⟩
    · have hin' : ¬ (i : Int) = (l.length : Int) := by omega
      obtain ⟨x, hx⟩ : ∃ x, l[i]? = some x := ⟨_, List.getElem?_eq_getElem (by omega)⟩
      rw [hx] at hsg
      obtain ⟨b2, o2, cs, rfl, _, _, hp, i0⟩ := RdR.at (k := 4) (by decide) (hr.below hs.bel) (E := enEl x) (i := i) (by rw [List.getElem?_map, hx]; rfl)
      obtain ⟨U, cu, U2, cu2, rfl, rx, hcx, rx2, _⟩ := enEl.rd hp
      have i1 := i0
      unfold enV at i1
      have hrk := rk.below hs.bel
      refine wl_as rfl rfl ?_; refine wl_ns ?_; refine wc_seq ?_; refine wc_sr ?_; refine wl_mv rfl rfl ?_; refine wl_mv rfl rfl ?_; apply wl_val; apply opv_nilOk; exact rfl; exact rfl; apply wl_val; apply opv_fa; exact fa_Tb1; exact rfl; exact rfl; apply wl_val; apply opv_ldX; exact rfl; assumption; exact e1_row; exact rfl; exact rfl; apply wl_val; apply opv_len; exact rfl; exact tkE.sl; exact rfl; refine wl_bin rfl rfl bin_eql rfl ?_; refine wl_mv rfl rfl ?_; apply wl_take; exact rfl; exact rfl; exact rfl; refine bF ?_; (with_reducible assumption); refine wl_mv rfl rfl ?_; apply wl_take; exact rfl; exact rfl; exact rfl; refine bF ?_; (with_reducible assumption); apply wl_val; apply opv_nilOk; exact rfl; exact rfl; apply wl_take; exact rfl; exact rfl; exact rfl; refine bF ?_; (with_reducible assumption); apply wl_val; apply opv_fa; exact fa_Tb1; exact rfl; exact rfl; apply wl_take; exact rfl; exact rfl; exact rfl; refine bF ?_; (with_reducible assumption); apply wl_val; apply opv_ldX; exact rfl; assumption; exact e1_row; exact rfl; exact rfl; apply wl_take; exact rfl; exact rfl; exact rfl; refine bF ?_; (with_reducible assumption); refine wl_mv rfl rfl ?_; apply wl_take; exact rfl; exact rfl; exact rfl; refine bF ?_; (with_reducible assumption); apply wl_val; apply opv_idxG tkE; exact rfl; exact rfl; exact rfl; omega; exact rfl; apply wl_take; exact rfl; exact rfl; exact rfl; refine bF ?_; (with_reducible assumption); apply wl_val; apply opv_fa; exact fa_sE (by decide); exact rfl; exact rfl; apply wl_take; exact rfl; exact rfl; exact rfl; refine bF ?_; (with_reducible assumption); apply wl_val; apply opv_ldW; exact rfl; assumption; exact e1_by; exact rfl; exact rfl; apply wl_take; exact rfl; exact rfl; exact rfl; refine bF ?_; (with_reducible assumption); refine wl_mv rfl rfl ?_; apply wl_take; exact rfl; exact rfl; exact rfl; refine bF ?_; (with_reducible assumption)
      refine wl_call ok_codec_Cmp (cmp_any rx hrk rfl rfl) ⟨rfl, rfl, trivial⟩ rfl ?_
      rintro _ _ ⟨rfl, rfl⟩
      by_cases hkk : x.key = key
      · have hc : cmpB x.key key = 0 := by rw [hkk]; exact cmp_refl _
        have hg : getE l key m = some x := by rw [hsg]; exact if_pos hkk
        rw [hg]
        have hbg := hk.big x (List.mem_of_getElem? hx)
        apply wl_take; exact rfl; exact rfl; exact rfl; refine bF ?_; (with_reducible assumption); refine wl_bin rfl rfl bin_neq rfl ?_; apply wl_val; apply opv_pickF; exact rfl; refine bF ?_; (with_reducible assumption); exact rfl; exact rfl; refine wl_ns ?_; apply wc_decF; exact rfl; omega; refine wc_skip ?_; refine we_seq ?_; refine wc_sr ?_; refine wl_mv rfl rfl ?_; apply wl_val; apply opv_nilOk; exact rfl; exact rfl; apply wl_val; apply opv_fa; exact fa_Tb1; exact rfl; exact rfl; apply wl_val; apply opv_ldX; exact rfl; assumption; exact e1_row; exact rfl; exact rfl; refine wl_mv rfl rfl ?_; apply wl_val; apply opv_idxG tkE; exact rfl; exact rfl; exact rfl; omega; exact rfl; apply wl_val; apply opv_ldG; exact rfl; assumption; exact sE; exact rfl
        refine wl_call ok_table_twin (twin_any rx rx2 (by omega) (by omega)) ⟨rfl, trivial⟩ rfl ?_
        rintro _ _ ⟨A, c, B, d, rfl, hsx⟩
        replace hs := hs.call hsx
        unfold enOw at hs
        dsimp only [List.cons_append, List.nil_append] at hs
        apply ws_stS hs 2; exact rfl; exact rfl; exact rfl; exact sE; exact rfl; exact rfl; clear hs; intro _ hs; dsimp only [setC] at hs; refine wl_as rfl rfl ?_; refine wl_ns ?_; refine wc_ret ?_
        exact we_retC1 rfl rfl rfl (hs.ar 2 rfl) sE ⟨_, rfl, ⟨A, c, B, d, rfl, (hs.ow 0 rfl).rd, (hs.ow 1 rfl).rd⟩, hs.bel⟩
      · have hc : ¬ cmpB x.key key = 0 := fun h => hkk (cmp_zero h)
        have hg : getE l key m = none := by rw [hsg]; exact if_neg hkk
        rw [hg]
        apply wl_take; exact rfl; exact rfl; exact rfl; refine bF ?_; (with_reducible assumption); refine wl_bin rfl rfl bin_neq rfl ?_; apply wl_val; apply opv_pickF; exact rfl; refine bF ?_; (with_reducible assumption); exact rfl; exact rfl; refine wl_ns ?_; apply wc_decT; exact rfl; (with_reducible assumption); refine wc_sr ?_
        refine wl_val (opv_build (vs := []) (cs := zE) trivial (by kernel_rfl)) rfl ?_
        unfold zE
        apply ws_stS hs 0; exact rfl; exact rfl; exact rfl; exact sE; exact rfl; exact rfl; clear hs; intro _ hs; dsimp only [setC] at hs; refine wl_as rfl rfl ?_; refine wl_ns ?_; refine wc_ret ?_; refine we_seq_ret ?_
        exact we_retC1 rfl rfl rfl (hs.ar 0 rfl) sE ⟨_, rfl, ⟨none, 0, none, 0, rfl, Rd.nil _ _, Rd.nil _ _⟩, hs.bel⟩
end Go.Proofs.YtdgagffieobiiaaGreatDoor

/-
  Walk over Range of a table on a disk, of all its entries.
-/
namespace Go.Proofs.YtdgagffieobiiaaGreatDoor
open Go.RowKit
theorem less_nil {x : En} (h : x.seq < 2 ^ 64) : lessE x ⟨[], 18446744073709551615, 0, []⟩ = false := by
  cases hb : lessE x ⟨[], 18446744073709551615, 0, []⟩ with
  | false => rfl
  | true =>
    rcases lessE_iff.1 hb with h1 | ⟨_, h1⟩
    · have := cmp_nil x.key
      exact absurd (show cmpB x.key [] < 0 from h1) (by omega)
    · exact absurd (show 18446744073709551615 < x.seq from h1) (by omega)
theorem tseek0_any {t s k1 e1 k2 f2 rc fk fc kc : Nat} {R F C1 D1 : Option Addr} {l : List En} {w : World} (hr : RdR 4 w All R (l.map enEl)) (a8 : Ar w t 49 (tblV (mtV C1 k1 e1 D1 k2 f2 l.length s) R l.length rc F fk fc)) (hk : TbOk l) :
    CallsV Tryz.prog 52 #[.pointer (some ⟨t, 0, none⟩), .slice none 0 kc, .int .u64 18446744073709551615] w fun v w' => v = .int .i64 0 ∧ Below w.heap.size w w' :=
  (tseek_any (K := none) (key := []) (kn := 0) (kc := kc) (m := 18446744073709551615) hr a8 hk.ord (by have := hk.len; omega) (Rd.nil _ _) rfl).mono fun v w' ⟨⟨i, hv, hi⟩, hb⟩ => ⟨by
    rw [hv]
    obtain rfl : i = 0 := by
      rcases Nat.eq_zero_or_pos i with h | h
      · exact h
      · have h1 := hi.lo 0 h
        have h2 : l[0]? = some (l[0]'(List.length_pos_iff.2 hk.ne)) := List.getElem?_eq_getElem _
        rw [h2, Option.getD_some, less_nil (hk.sq _ (List.getElem_mem _))] at h1
        cases h1
    rfl, hb⟩
set_option maxHeartbeats 1000000 in
theorem drange_any {t s k1 e1 k2 f2 rc fc : Nat} {R F C1 D1 : Option Addr} {l : List En} {w : World} (hT : TbK R F l w) (a8 : Ar w t 49 (tblV (mtV C1 k1 e1 D1 k2 f2 l.length s) R l.length rc F (filtB (keysU l)).length fc)) (hk : TbOk l) (hrc : l.length ≤ rc) :
    CallsV Tryz.prog 25 #[.pointer (some ⟨t, 0, none⟩), .slice none 0 0, .slice none 0 0] w fun v w' => ∃ R c, v = .slice R l.length c ∧ St NoB w w' [.ck (rsC 4 31 R c (l.map oE))] := by
  obtain ⟨hr, _⟩ := hT
  have hs := St.init w
  have hll := hk.len
  have a8' := a8
  unfold tblV mtV at a8'
  dsimp only [List.cons_append, List.nil_append] at a8'
  refine calls_in (N := _) Tryz.func25 rfl Tryz.ntmps25 rfl ?_; show WC _ _ _ _ _ _
  refine wc_sr ?_; refine wl_as rfl rfl ?_; refine wl_ns ?_; refine wc_sr ?_; refine wl_as rfl rfl ?_; refine wl_ns ?_; refine wc_seq ?_; refine wc_seq ?_
  refine wc_drawB mixed (by kernel_rfl) ?_
  apply wq_val; intro _ hw_; apply opv_move; exact rfl; exact rfl; apply wq_val; intro _ hw_; apply opv_nilOk; exact rfl; exact rfl; apply wq_val; intro _ hw_; apply opv_fa; exact fa_Tb1; exact rfl; exact rfl; apply wq_val; intro _ hw_; apply opv_ldX; exact rfl; exact Ar.bel (by assumption) hw_; exact e1_row; exact rfl; exact rfl; apply wq_val; intro _ hw_; apply opv_move; exact rfl; exact rfl; apply wq_val; intro _ hw_; apply opv_move; exact rfl; exact rfl
  refine wq_call (v := .int .i64 0) ok_table_Table_seek (fun w' hw => (tseek0_any (hr.below hw) (a8.bel hw) hk).mono fun v w2 h2 => ⟨h2.1, hw.trans (h2.2.mono hw.size)⟩) ⟨rfl, rfl, rfl, trivial⟩ rfl ?_
  skip
  refine wq_val (v := .slice (cutK R rc 0 4) (l.length - 0) (rc - 0)) (fun _ _ => opv_sliceK (l := 0) (h := l.length) tkE rfl ⟨_, rfl⟩ rfl (Nat.zero_le _) hrc) rfl ?_
  rw [cutK_zero, Nat.sub_zero, Nat.sub_zero]
  apply wq_val; intro _ hw_; apply opv_len; exact rfl; exact tkE.sl; exact rfl; apply wq_val; intro _ hw_; apply opv_move; exact rfl; exact rfl; refine wq_nil fun w1 hw1 => ?_
  replace hs := (hs.below hw1).nilS 4 31
  refine we_seq ?_; refine wc_block ?_
  refine wc_loop (fun L wr mm => ∃ (i : Nat) (G : Option Addr) (cg : Nat), L = [(0, .pointer (some ⟨t, 0, none⟩)), (2, .slice none 0 0), (7, .slice G i cg), (17, .slice R l.length rc), (18, .int .i64 (l.length : Int)), (19, .int .i64 (i : Int))] ∧ i ≤ l.length ∧ St NoB w wr [.ck (rsC 4 31 G cg ((l.take i).map oE))] ∧ mm = l.length - i)
    [(0, .pointer (some ⟨t, 0, none⟩)), (2, .slice none 0 0), (7, .slice none 0 0), (17, .slice R l.length rc), (18, .int .i64 (l.length : Int)), (19, .int .i64 ((0 : Nat) : Int))] l.length ⟨0, none, 0, rfl, Nat.zero_le _, hs, rfl⟩ ⟨rfl, rfl, rfl, rfl, rfl, rfl, trivial⟩ ?_
  clear hs
  rintro _ w7 mm ⟨i, G, cg, rfl, hi, hs, rfl⟩
  refine wc_sr ?_; refine wl_bin rfl rfl bin_lss rfl ?_; refine wl_ns ?_; refine wc_seq ?_
  refine wc_cond rfl (fun h5 => ?_) (fun h5 => ?_)
  · obtain ⟨x, hx⟩ : ∃ x, l[i]? = some x := ⟨_, List.getElem?_eq_getElem (by omega)⟩
    obtain ⟨b2, o2, cs, rfl, _, _, hp, i0⟩ := RdR.at (k := 4) (by decide) hr (E := enEl x) (i := i) (by rw [List.getElem?_map, hx]; rfl)
    obtain ⟨U, cu, U2, cu2, rfl, rx, hcx, rx2, _⟩ := enEl.rd hp
    have hbg := hk.big x (List.mem_of_getElem? hx)
    have i1 := i0.below hs.bel
    refine wc_skip ?_; refine we_seq ?_; refine wc_seq ?_; refine wc_block ?_; refine wc_sr ?_; apply wl_val; apply opv_idxG tkE; exact rfl; exact rfl; exact rfl; omega; exact rfl; apply wl_val; apply opv_ldG; exact rfl; assumption; exact sE; exact rfl
    refine ws_new hs zeroE rfl ?_; clear hs; intro g9 _ hs
    unfold zE at hs
    clear i1
    have h00 : ¬ ((0 : Nat) : Int) > 0 := by decide
    apply ws_stS hs 0; exact rfl; exact rfl; exact rfl; exact sE; exact rfl; exact rfl; clear hs; intro _ hs; dsimp only [setC] at hs; refine wl_ns ?_; refine wc_seq ?_; refine wc_sr ?_; refine wl_mv rfl rfl ?_; apply wl_val; apply opv_len; exact rfl; exact tyB.sl; exact rfl; refine wl_bin rfl rfl bin_gtr rfl ?_; refine wl_mv rfl rfl ?_; apply wl_skip; exact rfl; exact rfl; exact rfl; refine bFn ?_; (with_reducible assumption); exact rfl; apply wl_skip; exact rfl; exact rfl; exact rfl; refine bFn ?_; (with_reducible assumption); exact rfl; apply wl_skip; exact rfl; exact rfl; exact rfl; refine bFn ?_; (with_reducible assumption); exact rfl; apply wl_skip; exact rfl; exact rfl; exact rfl; refine bFn ?_; (with_reducible assumption); exact rfl; apply wl_skip; exact rfl; exact rfl; exact rfl; refine bFn ?_; (with_reducible assumption); exact rfl; apply wl_val; apply opv_pickF; exact rfl; refine bF ?_; (with_reducible assumption); exact rfl; exact rfl; refine wl_ns ?_; apply wc_condFb; exact rfl; exact rfl; refine wc_skip ?_; refine we_seq ?_; refine wc_region ?_; refine wl_mv rfl rfl ?_; apply wl_val; apply opv_loadX; exact rfl; exact hs.ar 0 rfl; exact sE; exact rfl
    refine wl_call ok_table_twin (twin_any (rx.below hs.bel) (rx2.below hs.bel) (by omega) (by omega)) ⟨rfl, trivial⟩ rfl ?_
    rintro _ w5 ⟨C, e2, D, f2', rfl, hsx⟩
    replace hs := ((hs.call hsx).pack (H1 := enOw x C e2 D f2') (.ce (oE x) (enV x C e2 D f2')) oE_of).front 2 rfl
    dsimp only [delC] at hs
    have hel : ((l.take i).map oE).length = i := by rw [List.length_map, List.length_take]; omega
    refine ws_pushS hs tkE (fun _ => rfl) (hel) ⟨_, rfl, rfl⟩ rfl rfl (by decide) (by omega) (by simp only [maxLen]; omega) rfl rfl ?_; clear hs; intro _ R2 c2 _ hs
    refine wl_as rfl rfl ?_; refine wl_nil ?_; refine we_block_norm ?_; refine we_seq ?_; refine wc_region ?_; apply wl_val; apply opv_bin; exact rfl; exact rfl; exact bin_add64 (by omega); exact rfl; refine wl_mv rfl rfl ?_; refine wl_nil ?_
    replace hs := hs.drop 1 rfl
    dsimp only [delC] at hs
    rw [show (l.take i).map oE ++ [oE x] = (l.take (i + 1)).map oE by rw [take_getR hx, List.map_append]; rfl] at hs
    exact we_loop _ (l.length - (i + 1)) ⟨i + 1, R2, c2, rfl, by omega, hs, rfl⟩ (by omega) ⟨rfl, rfl, rfl, rfl, rfl, by rw [show ((i + 1 : Nat) : Int) = (i : Int) + 1 by omega]; rfl, trivial⟩
  · obtain rfl : i = l.length := by omega
    rw [List.take_length] at hs
    refine wc_exit ?_; refine we_seq_exit ?_; refine we_loop_exit ?_; refine we_block_exit ?_; refine we_seq ?_; refine wc_sr ?_; refine wl_mv rfl rfl ?_; refine wl_as rfl rfl ?_; refine wl_ns ?_; refine wc_ret ?_
    exact we_ret1 rfl rfl ⟨_, rfl, G, cg, rfl, hs⟩
end Go.Proofs.YtdgagffieobiiaaGreatDoor

/-
  How long a table's file is at most; what a crash leaves of its writing.
-/
namespace Go.Proofs.YtdgagffieobiiaaGreatDoor
theorem blk_sum : ∀ (ps : List (List En)), (∀ p ∈ ps, Siz p) → ((ps.map fun p => crcRec (blkB 4 p)).flatten).length ≤ tszE ps.flatten + 45 * ps.flatten.length + 12 * ps.length
  | [], _ => by simp
  | p :: ps, h => by
    have h1 := blk_size (every := 4) (h p (List.mem_cons_self ..))
    have h2 := blk_sum ps fun q hq => h q (List.mem_cons_of_mem _ hq)
    have h3 : tszE (p ++ ps.flatten) = (p.map fun x => x.key.length + x.val.length).sum + tszE ps.flatten := by rw [tszE, List.map_append, List.sum_append]; rfl
    rw [List.map_cons, List.flatten_cons, List.flatten_cons, List.length_append, List.length_append, crcRec_length, h3, List.length_cons]
    omega
theorem tab_big {l : List En} (h : TbOk l) (hb : 1048576 < (tabF l).length) : 500000 < tszE l := by
  have h1 := blk_sum (prtE l) fun p hp => (prt_ok h hp).siz
  rw [prt_flat] at h1
  have h2 := prt_len (l := l)
  have h3 := h.len
  have h4 := filt_max h
  have h5 := blkF_len (l := l)
  have h6 := framed_length (blkF l) fun r hr => by have := blkF_each h r hr; omega
  have h8 := blkF_flat h
  have h7 := framed_length [framed (blkF l), filtB (keysU l)] fun r hr => by
    rcases List.mem_cons.1 hr with rfl | hr
    · omega
    · rcases List.mem_cons.1 hr with rfl | hr
      · omega
      · cases hr
  have h9 : ([framed (blkF l), filtB (keysU l)] : List (List UInt8)).flatten.length = (framed (blkF l)).length + (filtB (keysU l)).length := by simp
  rw [h9, show framed [framed (blkF l), filtB (keysU l)] = tabF l from rfl] at h7
  simp only [List.length_cons, List.length_nil] at h7
  rw [show ((prtE l).map fun p => crcRec (blkB 4 p)) = blkF l from rfl] at h1
  omega
theorem crash_tw {d : Dk} {keeps : List Int} (hok : DkOk d) (hf : NoT d.fs) : NoT (crashK keeps d (sortN d.fs)).fs ∧ DkOk (crashK keeps d (sortN d.fs)) := by
  rcases hf with hf | ⟨f, hf⟩
  · have e : (crashK keeps d (sortN d.fs)).fs = [] := by
      rw [crashK, hf, show sortN [] = [] by simp [sortN]]
      rfl
    exact ⟨.inl e, ⟨fun p hp => (by rw [e] at hp; cases hp), hok.room, by rw [e]; exact Nat.zero_le _, ⟨by show -9223372036854775808 ≤ (0 : Int); decide, by show (0 : Int) ≤ 9223372036854775807; decide, fun h => by cases h⟩⟩⟩
  · have hs := hok.safe (nmN, f) (by rw [hf]; exact List.mem_singleton.2 rfl)
    obtain ⟨e, h1, h2, h3⟩ := crash_last keeps (X := []) (n := nmN) (f := f) (by simp) hs
    have e3 : (crashK keeps d (sortN d.fs)).fs = [(nmN, ⟨f.data.take e, e⟩)] := by
      rw [crashK, hf, show sortN [(nmN, f)] = [nmN] by simp [sortN]]
      exact h3
    have hu := hok.used
    rw [hf] at hu
    refine ⟨.inr ⟨_, e3⟩, ⟨fun p hp => ?_, hok.room, ?_, ⟨by show -9223372036854775808 ≤ (0 : Int); decide, by show (0 : Int) ≤ 9223372036854775807; decide, fun h => by cases h⟩⟩⟩
    · rw [e3] at hp
      obtain rfl := List.mem_singleton.1 hp
      show e ≤ (f.data.take e).length
      rw [List.length_take]; omega
    · rw [e3]
      simp only [used, List.map_cons, List.map_nil, List.sum_cons, List.sum_nil] at hu ⊢
      show (f.data.take e).length + 0 ≤ d.room
      change f.data.length + 0 ≤ d.room at hu
      rw [List.length_take]; omega
end Go.Proofs.YtdgagffieobiiaaGreatDoor
