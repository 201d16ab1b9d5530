/-
  The texts of this proof, joined: Za, Zb, Zd, Ib, Iv, Ya, Ic, Id, Held, Zc, I1, Pa, Wb, Wa, Pb, Wg, Row, Pc.
-/
import Derived.Test.YtdgagffieobiiaaSeaM1
import Derived.Deep.MidRow
import Derived.OrdersHeld
import Derived.Deep.RegionHeld3

/-
  What a call holds, told as a list of pieces that lie apart: blocks, rows, rows of elements with their own memory, and pieces that a reader of this list names; the laws by which a piece changes, comes in and goes, and what a call leaves alone. Nothing here names the program.
-/
namespace Go.Proofs.Ytdgagffieobiiaa
open Go.RowKit

abbrev BS := Nat → Prop
/-- Outside a set of blocks the world w' is as w was. -/
structure Mod (M : BS) (w w' : World) : Prop where
  os : w'.os = w.os
  tape : w'.tape = w.tape
  output : w'.output = w.output
  size : w.heap.size ≤ w'.heap.size
  block : ∀ b, b < w.heap.size → ¬ M b → w'.heap[b]? = w.heap[b]?
def NoB : BS := fun _ => False
section
variable {w w' w'' : World} {M M' : BS}
theorem Mod.refl (M : BS) (w : World) : Mod M w w := ⟨rfl, rfl, rfl, Nat.le_refl _, fun _ _ _ => rfl⟩
theorem Mod.trans (h : Mod M w w') (h2 : Mod M' w' w'') (hs : ∀ b, b < w.heap.size → M' b → M b) : Mod M w w'' :=
  ⟨h2.os.trans h.os, h2.tape.trans h.tape, h2.output.trans h.output, Nat.le_trans h.size h2.size, fun b hb hm => (h2.block b (Nat.lt_of_lt_of_le hb h.size) fun hk => hm (hs b hb hk)).trans (h.block b hb hm)⟩
theorem Mod.of_below (h : Below w.heap.size w w') (M : BS) : Mod M w w' := ⟨h.os, h.tape, h.output, h.size, fun b hb _ => h.block b hb⟩
theorem Mod.below (h : Mod NoB w w') : Below w.heap.size w w' := ⟨h.os, h.tape, h.output, h.size, fun b hb => h.block b hb id⟩
theorem Mod.of_gr {A : Option Addr} (h : Gr w w' A) (hA : ∀ a, A = some a → M a.block) : Mod M w w' := ⟨h.os, h.tape, h.output, World.grownBy.size h, fun b hb hm => h.block b hb fun hk => by
  cases A with
  | none => simp at hk
  | some a => simp at hk; exact hm (hk ▸ hA a rfl)⟩
theorem Mod.mono (h : Mod M w w') (hs : ∀ b, b < w.heap.size → M b → M' b) : Mod M' w w' := ⟨h.os, h.tape, h.output, h.size, fun b hb hm => h.block b hb fun hk => hm (hs b hb hk)⟩
end

/-- A piece that a reader names. -/
structure Ck where
  P : World → BS → Prop
  move : ∀ {w w' : World} {S S' : BS}, P w S → w.heap.size ≤ w'.heap.size → (∀ b, b < w.heap.size → S b → S' b ∧ w'.heap[b]? = w.heap[b]?) → P w' S'
/-- The pieces. -/
inductive Cd
  | blk (g : Nat) (t : TypeId) (cs : List Value)
  | ow (e : TypeId) (A : Option Addr) (n c : Nat) (xs : List Value)
  | rg (k : Nat) (e : TypeId) (A : Option Addr) (c : Nat) (els : List El)
  | ce (E : El) (cs : List Value)
  | ck (c : Ck)
def Cd.P : Cd → World → BS → Prop
  | .blk g t cs, w, S => S g ∧ Ar w g t cs
  | .ow e A n c xs, w, S => (∀ a, A = some a → S a.block) ∧ Ow w 0 e A n c xs
  | .rg k e A c els, w, S => (∀ a, A = some a → S a.block) ∧ OwR k e w 0 S A c els
  | .ce E cs, w, S => E.P w S cs
  | .ck c, w, S => c.P w S
theorem OwR.moveS {k base c : Nat} {e : TypeId} {w w' : World} {S S' : BS} {A : Option Addr} {els : List El} (h : OwR k e w base S A c els) (hA : ∀ a, A = some a → S a.block) (hz : w.heap.size ≤ w'.heap.size) (hm : ∀ b, b < w.heap.size → S b → S' b ∧ w'.heap[b]? = w.heap[b]?) :
    OwR k e w' base S' A c els := by
  have hl := OwR.lt h
  obtain ⟨css, h1, h2⟩ := h
  refine ⟨css, h1.move hz fun b hb hs => ⟨⟨(hm b hb hs.1).1, hs.2⟩, (hm b hb hs.1).2⟩, h2.1, ?_⟩
  rcases h2.2 with hn | ⟨g, cap, cur, hv, hg, hc, rest⟩
  · exact .inl hn
  · injection hv with hA' hn hc'
    subst hA'
    exact .inr ⟨g, cap, cur, by rw [hc'], hg, by rw [(hm g (hl _ rfl).2 (hA _ rfl)).2]; exact hc, rest⟩
theorem Ow.moveS {base n c : Nat} {e : TypeId} {w w' : World} {A : Option Addr} {xs : List Value} (h : Ow w base e A n c xs) (hm : ∀ a, A = some a → w'.heap[a.block]? = w.heap[a.block]?) : Ow w' base e A n c xs := by
  refine ⟨h.1, ?_⟩
  rcases h.2 with hn | ⟨g, cap, cur, hv, hg, hc, rest⟩
  · exact .inl hn
  · injection hv with hA' hn hc'
    subst hA'
    exact .inr ⟨g, cap, cur, by rw [hc'], hg, by rw [hm _ rfl]; exact hc, rest⟩
theorem Cd.move : ∀ {c : Cd} {w w' : World} {S S' : BS}, c.P w S → w.heap.size ≤ w'.heap.size → (∀ b, b < w.heap.size → S b → S' b ∧ w'.heap[b]? = w.heap[b]?) → c.P w' S'
  | .blk g t cs, w, w', S, S', h, _, hm => ⟨(hm g h.2.lt h.1).1, (hm g h.2.lt h.1).2.trans h.2⟩
  | .ow e A n c xs, w, w', S, S', h, _, hm => ⟨fun a ha => (hm _ (Ow.lt h.2 a ha).2 (h.1 a ha)).1, h.2.moveS fun a ha => (hm _ (Ow.lt h.2 a ha).2 (h.1 a ha)).2⟩
  | .rg k e A c els, w, w', S, S', h, hz, hm => ⟨fun a ha => (hm _ (OwR.lt h.2 a ha).2 (h.1 a ha)).1, h.2.moveS h.1 hz hm⟩
  | .ce E cs, w, w', S, S', h, hz, hm => E.move h hz hm
  | .ck c, w, w', S, S', h, hz, hm => c.move h hz hm

/-- The pieces hold, each in blocks of its own. -/
def Sat (w : World) : List Cd → BS → Prop
  | [], _ => True
  | c :: H, S => ∃ T : BS, (∀ b, T b → S b) ∧ c.P w T ∧ Sat w H fun b => S b ∧ ¬ T b
section
variable {w w' : World} {S S' : BS} {H H1 H2 : List Cd} {c c' : Cd}
theorem Sat.move : ∀ {H : List Cd} {S S' : BS}, Sat w H S → w.heap.size ≤ w'.heap.size → (∀ b, b < w.heap.size → S b → S' b ∧ w'.heap[b]? = w.heap[b]?) → Sat w' H S'
  | [], _, _, _, _, _ => trivial
  | c :: H, S, S', ⟨T, hT, hc, hr⟩, hz, hm => ⟨fun b => T b ∧ b < w.heap.size, fun b hb => (hm b hb.2 (hT b hb.1)).1, Cd.move hc hz fun b hb h => ⟨⟨h, hb⟩, (hm b hb (hT b h)).2⟩,
      Sat.move hr hz fun b hb h => ⟨⟨(hm b hb h.1).1, fun k => h.2 k.1⟩, (hm b hb h.1).2⟩⟩
theorem Sat.mono (h : Sat w H S) (hs : ∀ b, b < w.heap.size → S b → S' b) : Sat w H S' := h.move (Nat.le_refl _) fun b hb h => ⟨hs b hb h, rfl⟩
theorem Sat.append : ∀ {H1 : List Cd} {S : BS}, Sat w (H1 ++ H2) S → ∃ T : BS, (∀ b, T b → S b) ∧ Sat w H1 T ∧ Sat w H2 fun b => S b ∧ ¬ T b
  | [], S, h => ⟨NoB, fun _ h => h.elim, trivial, h.mono fun b _ h => ⟨h, id⟩⟩
  | c :: H1, S, ⟨T, hT, hc, hr⟩ => by
    obtain ⟨T2, h2, h3, h4⟩ := Sat.append hr
    exact ⟨fun b => T b ∨ T2 b, fun b hb => hb.elim (hT b) fun h => (h2 b h).1, ⟨T, fun b => .inl, hc, h3.mono fun b _ hb => ⟨.inr hb, (h2 b hb).2⟩⟩,
      h4.mono fun b _ hb => ⟨hb.1.1, fun k => k.elim hb.1.2 hb.2⟩⟩
theorem Sat.join : ∀ {H1 : List Cd} {S T : BS}, (∀ b, T b → S b) → Sat w H1 T → (Sat w H2 fun b => S b ∧ ¬ T b) → Sat w (H1 ++ H2) S
  | [], S, T, _, _, h2 => h2.mono fun b _ h => h.1
  | c :: H1, S, T, hT, ⟨U, hU, hc, hr⟩, h2 => ⟨U, fun b h => hT b (hU b h), hc, Sat.join (T := fun b => T b ∧ ¬ U b) (fun b h => ⟨hT b h.1, h.2⟩) hr (h2.mono fun b _ h => ⟨⟨h.1, fun k => h.2 (hU b k)⟩, fun k => h.2 k.1⟩)⟩
theorem Sat.swap (h : Sat w (H1 ++ H2) S) : Sat w (H2 ++ H1) S := by
  obtain ⟨T, h1, h2, h3⟩ := h.append
  exact Sat.join (T := fun b => S b ∧ ¬ T b) (fun b h => h.1) h3 (h2.mono fun b _ h => ⟨h1 b h, fun k => k.2 h⟩)
/-- A piece in front of the others. -/
def nthC : List Cd → Nat → Option Cd
  | [], _ => none
  | c :: _, 0 => some c
  | _ :: H, k + 1 => nthC H k
def delC : List Cd → Nat → List Cd
  | [], _ => []
  | _ :: H, 0 => H
  | c :: H, k + 1 => c :: delC H k
def setC : List Cd → Nat → Cd → List Cd
  | [], _, _ => []
  | _ :: H, 0, d => d :: H
  | c :: H, k + 1, d => c :: setC H k d
theorem Sat.front : ∀ {H : List Cd} {i : Nat} {S : BS}, Sat w H S → nthC H i = some c → Sat w (c :: delC H i) S
  | d :: H, 0, S, h, hi => by simp only [nthC, Option.some.injEq] at hi; subst hi; exact h
  | d :: H, i + 1, S, ⟨T, hT, hd, hr⟩, hi => by
    obtain ⟨U, hU, hc, hr2⟩ := Sat.front hr hi
    exact ⟨U, fun b h => (hU b h).1, hc, T, fun b h => ⟨hT b h, fun k => (hU b k).2 h⟩, hd, hr2.mono fun b _ h => ⟨⟨h.1.1, h.2⟩, h.1.2⟩⟩
theorem Sat.back : ∀ {H : List Cd} {i : Nat} {S : BS}, Sat w (c' :: delC H i) S → nthC H i = some c → Sat w (setC H i c') S
  | d :: H, 0, S, h, hi => h
  | d :: H, i + 1, S, ⟨U, hU, hc, T, hT, hd, hr⟩, hi =>
    ⟨T, fun b h => (hT b h).1, hd, Sat.back (H := H) (i := i) ⟨U, fun b h => ⟨hU b h, fun k => (hT b k).2 h⟩, hc, hr.mono fun b _ h => ⟨⟨h.1.1, h.2⟩, h.1.2⟩⟩ hi⟩
  | [], i, S, h, hi => by simp [nthC] at hi
end

/-- What the call may touch: the blocks that came with it, and new ones. -/
def Fr (M : BS) (w0 : World) : BS := fun b => M b ∨ w0.heap.size ≤ b
/-- The state of a call that began in the world w0 and may write in the blocks of M: it holds these pieces. -/
def St (M : BS) (w0 w : World) (H : List Cd) : Prop := Mod M w0 w ∧ Sat w H (Fr M w0)
section
variable {w0 w w' : World} {M : BS} {H H' H1 H2 : List Cd} {c c' : Cd} {i : Nat}
theorem St.start (h : Sat w H M) : St M w w H := ⟨Mod.refl _ _, h.mono fun _ _ h => .inl h⟩
theorem St.init (w : World) : St NoB w w [] := ⟨Mod.refl _ _, trivial⟩
theorem St.bel (h : St NoB w0 w H) : Below w0.heap.size w0 w := h.1.below
theorem St.nil (h : St M w0 w H) : St M w0 w [] := ⟨h.1, trivial⟩
theorem St.size (h : St M w0 w H) : w0.heap.size ≤ w.heap.size := h.1.size
/-- Other words for the same pieces. -/
theorem St.map (h : St M w0 w H) (hH : ∀ S, Sat w H S → Sat w H' S) : St M w0 w H' := ⟨h.1, hH _ h.2⟩
theorem St.front (h : St M w0 w H) (i : Nat) (hi : nthC H i = some c) : St M w0 w (c :: delC H i) := ⟨h.1, h.2.front hi⟩
theorem St.drop (h : St M w0 w H) (i : Nat) (hi : nthC H i = some c) : St M w0 w (delC H i) := ⟨h.1, by obtain ⟨T, hT, _, hr⟩ := h.2.front hi; exact hr.mono fun _ _ h => h.1⟩
/-- The pieces in front are handed to a call. -/
theorem St.lend (h : St M w0 w (H1 ++ H2)) : ∃ S : BS, Sat w H1 S ∧ (∀ b, S b → b < w.heap.size) ∧ (∀ w', Mod S w w' → Mod M w0 w') ∧ (∀ w', Mod S w w' → Sat w' H2 fun b => Fr M w0 b ∧ ¬ S b) ∧ ∀ w' H1', St S w w' H1' → St M w0 w' (H1' ++ H2) := by
  obtain ⟨T, hT, h1, h2⟩ := h.2.append
  have hM : ∀ w', Mod (fun b => T b ∧ b < w.heap.size) w w' → Mod M w0 w' := fun w' hm => h.1.trans hm fun b hb k => (hT b k.1).elim id fun k => absurd k (Nat.not_le.2 hb)
  refine ⟨fun b => T b ∧ b < w.heap.size, h1.mono fun b hb h => ⟨h, hb⟩, fun b h => h.2, hM, fun w' hm => h2.move hm.size fun b hb k => ⟨⟨k.1, fun k2 => k.2 k2.1⟩, hm.block b hb fun k2 => k.2 k2.1⟩, fun w' H1' hs => ⟨hM _ hs.1, ?_⟩⟩
  refine Sat.join (T := Fr (fun b => T b ∧ b < w.heap.size) w) (fun b hb => hb.elim (fun k => hT b k.1) fun k => .inr (Nat.le_trans h.1.size k)) hs.2 ?_
  refine h2.move hs.1.size fun b hb k => ⟨⟨k.1, ?_⟩, hs.1.block b hb fun k2 => k.2 k2.1⟩
  rintro (k2 | k2)
  · exact k.2 k2.1
  · omega
/-- A step that leaves all blocks that are there. -/
theorem St.below (h : St M w0 w H) (hb : Below w.heap.size w w') : St M w0 w' H := by
  obtain ⟨_, _, _, _, _, hB⟩ := St.lend (H1 := []) h
  exact hB w' [] ⟨Mod.of_below hb _, trivial⟩
/-- A call that only reads brings pieces. -/
theorem St.call (h : St M w0 w H) (hb : St NoB w w' H1) : St M w0 w' (H1 ++ H) := by
  obtain ⟨S, _, _, _, _, hB⟩ := St.lend (H1 := []) h
  exact hB w' H1 ⟨hb.1.mono fun _ _ h => h.elim, hb.2.mono fun b _ h => h.elim (fun k => k.elim) .inr⟩
/-- New blocks hold a piece. -/
theorem St.fresh {T : BS} (hb : Below w.heap.size w w') (hc : c.P w' T) (hT : ∀ b, b < w'.heap.size → T b → w.heap.size ≤ b) : St NoB w w' [c] :=
  ⟨Mod.of_below hb _, fun b => T b ∧ b < w'.heap.size, fun b k => .inr (hT b k.2 k.1), Cd.move hc (Nat.le_refl _) fun b hb k => ⟨⟨k, hb⟩, rfl⟩, trivial⟩
theorem St.new {T : BS} (h : St M w0 w H) (hb : Below w.heap.size w w') (hc : c.P w' T) (hT : ∀ b, b < w'.heap.size → T b → w.heap.size ≤ b) : St M w0 w' (c :: H) := h.call (St.fresh hb hc hT)
theorem St.newO {e : TypeId} {A : Option Addr} {base n cc : Nat} {xs : List Value} (h : St M w0 w H) (hb : Below w.heap.size w w') (hc : Ow w' base e A n cc xs) (hB : w.heap.size ≤ base) : St M w0 w' (.ow e A n cc xs :: H) :=
  h.new (T := fun b => w.heap.size ≤ b) (c := .ow e A n cc xs) hb ⟨fun a ha => Nat.le_trans hB (Ow.lt hc a ha).1, hc.mono (Nat.zero_le _)⟩ fun _ _ h => h
theorem St.newA {g : Nat} {t : TypeId} {cs : List Value} (h : St M w0 w H) (hb : Below w.heap.size w w') (hg : w.heap.size ≤ g) (hc : Ar w' g t cs) : St M w0 w' (.blk g t cs :: H) :=
  h.new (T := fun b => w.heap.size ≤ b) (c := .blk g t cs) hb ⟨hg, hc⟩ fun _ _ h => h
/-- What a piece says. -/
theorem St.get (h : St M w0 w H) (i : Nat) (hi : nthC H i = some c) : ∃ T : BS, c.P w T ∧ (∀ b, T b → Fr M w0 b) := by
  obtain ⟨T, hT, hc, _⟩ := h.2.front hi
  exact ⟨T, hc, hT⟩
theorem St.ar {g : Nat} {t : TypeId} {cs : List Value} (h : St M w0 w H) (i : Nat) (hi : nthC H i = some (.blk g t cs)) : Ar w g t cs := by obtain ⟨T, hc, _⟩ := h.get i hi; exact hc.2
theorem St.ow {e : TypeId} {A : Option Addr} {n c : Nat} {xs : List Value} (h : St M w0 w H) (i : Nat) (hi : nthC H i = some (.ow e A n c xs)) : Ow w 0 e A n c xs := by obtain ⟨T, hc, _⟩ := h.get i hi; exact hc.2
theorem St.rg {k : Nat} {e : TypeId} {A : Option Addr} {c : Nat} {els : List El} (h : St M w0 w H) (i : Nat) (hi : nthC H i = some (.rg k e A c els)) : OwR k e w 0 All A c els := by obtain ⟨T, hc, _⟩ := h.get i hi; exact hc.2.mono (Nat.le_refl _) fun _ _ _ => trivial
theorem St.ce {E : El} {cs : List Value} (h : St M w0 w H) (i : Nat) (hi : nthC H i = some (.ce E cs)) : E.P w All cs := by obtain ⟨T, hc, _⟩ := h.get i hi; exact El.all hc
/-- One piece is written. -/
theorem St.upd (h : St M w0 w H) (i : Nat) (hi : nthC H i = some c) : ∃ T : BS, c.P w T ∧ (∀ b, T b → b < w.heap.size) ∧ ∀ w' c' (T' : BS), Mod T w w' → c'.P w' T' → (∀ b, b < w'.heap.size → T' b → T b ∨ w.heap.size ≤ b) → St M w0 w' (setC H i c') := by
  have h0 := h.front i hi
  obtain ⟨S, ⟨T, hT, hc, _⟩, hS, _, _, hB⟩ := St.lend (H1 := [c]) (H2 := delC H i) h0
  refine ⟨S, Cd.move hc (Nat.le_refl _) fun b _ k => ⟨hT b k, rfl⟩, hS, fun w' c' T' hm hc' hT' => ?_⟩
  have := hB w' [c'] ⟨hm, fun b => T' b ∧ b < w'.heap.size, fun b k => (hT' b k.2 k.1).elim .inl .inr, Cd.move hc' (Nat.le_refl _) fun b hb k => ⟨⟨k, hb⟩, rfl⟩, trivial⟩
  exact ⟨this.1, this.2.back hi⟩
theorem St.updA {g : Nat} {t : TypeId} {cs cs' : List Value} (h : St M w0 w H) (i : Nat) (hi : nthC H i = some (.blk g t cs)) (ha : Ar w' g t cs') (hg : Gr w w' (some ⟨g, 0, none⟩)) : St M w0 w' (setC H i (.blk g t cs')) := by
  obtain ⟨T, hc, hT, hK⟩ := h.upd i hi
  exact hK w' (.blk g t cs') T (Mod.of_gr hg fun a h => by cases h; exact hc.1) ⟨hc.1, ha⟩ fun _ _ h => .inl h
theorem at_in {A A' : Option Addr} {T : BS} (hat : A'.map (·.block) = A.map (·.block) ∨ ∀ a', A' = some a' → w.heap.size ≤ a'.block) (hA : ∀ a, A = some a → T a.block) : ∀ a, A' = some a → T a.block ∨ w.heap.size ≤ a.block := by
  rintro a rfl
  rcases hat with k | k
  · cases A with
    | none => simp at k
    | some a0 => simp at k; exact .inl (k ▸ hA a0 rfl)
  · exact .inr (k a rfl)
theorem at_new {A A' : Option Addr} (h : A'.map (·.block) = A.map (·.block) ∨ A'.map (·.block) = some w.heap.size) : A'.map (·.block) = A.map (·.block) ∨ ∀ a', A' = some a' → w.heap.size ≤ a'.block := h.imp id fun k a ha => by subst ha; simp at k; omega
theorem St.updO {e : TypeId} {A A' : Option Addr} {n n' c c' base : Nat} {xs xs' : List Value} (h : St M w0 w H) (i : Nat) (hi : nthC H i = some (.ow e A n c xs)) (ho : Ow w' base e A' n' c' xs') (hg : Gr w w' A)
    (hat : A'.map (·.block) = A.map (·.block) ∨ ∀ a', A' = some a' → w.heap.size ≤ a'.block) : St M w0 w' (setC H i (.ow e A' n' c' xs')) := by
  obtain ⟨T, hc, hT, hK⟩ := h.upd i hi
  exact hK w' (.ow e A' n' c' xs') (fun b => T b ∨ w.heap.size ≤ b) (Mod.of_gr hg hc.1) ⟨fun a ha => at_in hat hc.1 a ha, ho.mono (Nat.zero_le _)⟩ fun _ _ h => h
end
end Go.Proofs.Ytdgagffieobiiaa

/-
  The engine's rules over what a call holds: blocks are made, read and written, rows are made, appended to and set, and the list of pieces keeps count. Nothing here names the program.
-/
namespace Go.Proofs.Ytdgagffieobiiaa
open Go.RowKit

section
variable {P : Program} {N : Nat} {ops : Array Oper} {Q : Exit → Act → World → Prop} {rest : List Oper} {L : FL} {w0 w : World} {M : BS} {H : List Cd} {t e : TypeId} {g : Nat} {cs cs' : List Value} {z : Value} {bytes k : Nat}
/-! #### Blocks -/
theorem ws_st {x y : Operand} {ty : TypeId} {pos : String} {aft : Array Edge} {kk : Nat} {T : TypeId} {u : Value} (hs : St M w0 w H) (i : Nat) (hx : look L x = some (.pointer (some ⟨g, kk, none⟩))) (hi : nthC H i = some (.blk g T cs)) (E : Cell1 P e) (hk : Nat.blt kk cs.length = true)
    (hy : look L y = some u) (h1 : u.oneCell' = true)
    (h : ∀ w', St M w0 w' (setC H i (.blk g T (cs.set kk u))) → WL P N ops Q rest L w') :
    WL P N ops Q (⟨none, .store e x y, ty, pos, aft, none⟩ :: rest) L w :=
  wl_stA E (hs.ar i hi) hx (by simpa [Nat.blt_eq] using hk) hy h1 fun _ a2 g2 _ => h _ (hs.updA i hi a2 g2)
theorem ws_box {d : Nat} {x : Operand} {ty : TypeId} {pos : String} {aft : Array Edge} (hs : St M w0 w H) (hx : look L x = some (.agg cs.toArray)) (hd : Nat.blt d N = true)
    (h : ∀ g w', St M w0 w' (.blk g t cs :: H) → WL P N ops Q rest ((d, .pointer (some ⟨g, 0, none⟩)) :: L) w') :
    WL P N ops Q (⟨some d, .box t x, ty, pos, aft, none⟩ :: rest) L w :=
  wl_box hx hd fun g _ hg a hb => h g _ (hs.newA hb hg a)
theorem ws_var {d : Nat} {x : Operand} {ty1 ty2 : TypeId} {p1 p2 : String} {f1 f2 : Array Edge} {zs : List Value} (hs : St M w0 w H) (hz : (P.info? t).map (·.zero) = some (some (.agg zs.toArray))) (S : StT P t cs.length) (hl : zs.length = cs.length)
    (hx : ∀ p, look ((d, p) :: L) x = some (.agg cs.toArray)) (h1 : cs.all (·.oneCell') = true) (hd : Nat.blt d N = true)
    (h : ∀ g w', St M w0 w' (.blk g t cs :: H) → WL P N ops Q rest ((d, .pointer (some ⟨g, 0, none⟩)) :: L) w') :
    WL P N ops Q (⟨some d, .alloc t, ty1, p1, f1, none⟩ :: ⟨none, .store t (.tmp d) x, ty2, p2, f2, none⟩ :: rest) L w :=
  wl_var hz S hl hx h1 hd fun g _ hg a hb => h g _ (hs.newA hb hg a)
/-! #### Rows of one cell an element -/
theorem ws_bs {d len : Nat} {ps : List (Nat × Operand)} {vs : List Value} {ty : TypeId} {pos : String} {aft : Array Edge} (hs : St M w0 w H) (T : Row1 P t e z bytes) (hp : PLooks L 0 ps vs) (hl : vs.length = len) (hle : len ≤ 16777216) (hd : Nat.blt d N = true)
    (h : ∀ A w', St M w0 w' (.ow e A len len vs :: H) → WL P N ops Q rest ((d, .slice A len len) :: L) w') :
    WL P N ops Q (⟨some d, .buildSlice t len ps.toArray, ty, pos, aft, none⟩ :: rest) L w :=
  wl_bs T hp hl hle hd fun A w' ho hb _ => h A w' (hs.newO hb ho (Nat.le_refl _))
theorem ws_app {d : Nat} {s x : Operand} {ty : TypeId} {pos : String} {aft : Array Edge} {A : Option Addr} {n c : Nat} {xs : List Value} {B : Option Addr} {m c' : Nat} {ys : List Value} (hs : St M w0 w H) (i : Nat) (hx0 : look L s = some (.slice A n c)) (hi : nthC H i = some (.ow e A n c xs)) (T : Row1 P t e z bytes)
    (hx : look L x = some (.slice B m c')) (hr : Rd w B m ys) (h1 : ∀ u ∈ ys, u.oneCell' = true)
    (hbytes : (n + m) * bytes ≤ 140737488355328) (hmax : n + m ≤ maxLen) (hd : Nat.blt d N = true)
    (h : ∀ A' c' w', St M w0 w' (setC H i (.ow e A' (n + m) c' (xs ++ ys))) → WL P N ops Q rest ((d, .slice A' (n + m) c') :: L) w') :
    WL P N ops Q (⟨some d, .call { callee := .builtin .append, args := #[s, x], argTypes := #[t, t] }, ty, pos, aft, none⟩ :: rest) L w :=
  wl_app T hx0 (hs.ow i hi) hx hr h1 hbytes hmax (Nat.zero_le _) hd fun A' c' w' ho hg hat => h A' c' w' (hs.updO i hi ho hg (at_new hat))
theorem ws_push {d1 d2 len : Nat} {ps : List (Nat × Operand)} {vs : List Value} {s : Operand} {ty1 ty2 : TypeId} {p1 p2 : String} {f1 f2 : Array Edge} {A : Option Addr} {n c : Nat} {xs : List Value} (hs : St M w0 w H) (i : Nat) (hx0 : look L s = some (.slice A n c)) (hi : nthC H i = some (.ow e A n c xs)) (T : Row1 P t e z bytes)
    (hp : PLooks L 0 ps vs) (hl : vs.length = len) (hle : len ≤ 16777216) (hs1 : look ((d1, .slice (some ⟨w.heap.size, 0, none⟩) len len) :: L) s = some (.slice A n c))
    (hbytes : (n + len) * bytes ≤ 140737488355328) (hmax : n + len ≤ maxLen) (hd1 : Nat.blt d1 N = true) (hd2 : Nat.blt d2 N = true)
    (h : ∀ p A' c' w', St M w0 w' (setC H i (.ow e A' (n + len) c' (xs ++ vs))) → WL P N ops Q rest ((d2, .slice A' (n + len) c') :: (d1, p) :: L) w') :
    WL P N ops Q (⟨some d1, .buildSlice t len ps.toArray, ty1, p1, f1, none⟩ :: ⟨some d2, .call { callee := .builtin .append, args := #[s, .tmp d1], argTypes := #[t, t] }, ty2, p2, f2, none⟩ :: rest) L w :=
  wl_push T hx0 (hs.ow i hi) hp hl hle hs1 hbytes hmax (Nat.zero_le _) hd1 hd2 fun p A' c' w' ho hg hat => h p A' c' w' (hs.updO i hi ho hg hat)
/-! #### Rows of elements -/
/-- What is known by its cells alone. -/
def rawEl (cs : List Value) : El := ⟨fun _ _ cs' => cs' = cs, fun h _ _ => h⟩
theorem St.raw (hs : St M w0 w H) (cs : List Value) : St M w0 w (.ce (rawEl cs) cs :: H) := ⟨hs.1, NoB, fun _ h => h.elim, rfl, hs.2.mono fun _ _ h => ⟨h, id⟩⟩
theorem St.nilO (hs : St M w0 w H) (e : TypeId) : St M w0 w (.ow e none 0 0 [] :: H) := ⟨hs.1, NoB, fun _ h => h.elim, ⟨by simp, Ow.nil _ _ _⟩, hs.2.mono fun _ _ h => ⟨h, id⟩⟩
/-- Pieces in front are told as one. -/
theorem St.pack {H1 : List Cd} (hs : St M w0 w (H1 ++ H)) (c : Cd) (h : ∀ w S, Sat w H1 S → c.P w S) : St M w0 w (c :: H) := by
  obtain ⟨T, hT, h1, h2⟩ := hs.2.append
  exact ⟨hs.1, T, hT, h _ _ h1, h2⟩
theorem Sat.split {c : Cd} {S : BS} (h : Sat w (c :: H) S) {H1 : List Cd} (hc : ∀ T, c.P w T → Sat w H1 T) : Sat w (H1 ++ H) S := by
  obtain ⟨T, hT, h1, h2⟩ := h
  exact Sat.join hT (hc _ h1) h2
theorem RdR.raw {w : World} {S : BS} {A : Option Addr} {css : List (List Value)} (h : RdR k w S A (css.map rawEl)) : Rd w A (css.length * k) css.flatten ∧ ∀ cs ∈ css, cs.length = k := by
  obtain ⟨css', h1, h2, _⟩ := h
  have he : css' = css := by
    apply List.ext_getElem?
    intro i
    cases hi : css'[i]? with
    | none => rw [List.getElem?_eq_none]; have := h1.1; rw [List.length_map] at this; have := List.getElem?_eq_none_iff.1 hi; omega
    | some cs =>
      obtain ⟨_, E, hE, hp⟩ := h1.2 i cs hi
      rw [List.getElem?_map] at hE
      cases hc : css[i]? with
      | none => rw [hc] at hE; cases hE
      | some x => rw [hc] at hE; cases hE; have hp' : cs = x := hp; rw [hp']
  subst he
  rw [List.length_map] at h2
  exact ⟨h2, h1.ks⟩
theorem OwR.raw {w : World} {S : BS} {A : Option Addr} {css : List (List Value)} {base c : Nat} (h : OwR k e w base S A c (css.map rawEl)) : w.ownsRow base e k (.slice A css.length c) css.length css.flatten ∧ ∀ cs ∈ css, cs.length = k := by
  obtain ⟨css', h1, h2⟩ := h
  have he : css' = css := by
    apply List.ext_getElem?
    intro i
    cases hi : css'[i]? with
    | none => rw [List.getElem?_eq_none]; have := h1.1; rw [List.length_map] at this; have := List.getElem?_eq_none_iff.1 hi; omega
    | some cs =>
      obtain ⟨_, E, hE, hp⟩ := h1.2 i cs hi
      rw [List.getElem?_map] at hE
      cases hc : css[i]? with
      | none => rw [hc] at hE; cases hE
      | some x => rw [hc] at hE; cases hE; have hp' : cs = x := hp; rw [hp']
  subst he
  rw [List.length_map] at h2
  exact ⟨h2, h1.ks⟩
/-- A beginning of a row. -/
theorem OwR.pre {w : World} {S : BS} {A : Option Addr} {base c m : Nat} {els : List El} (h : OwR k e w base S A c els) (hm : m ≤ els.length) : OwR k e w base S A c (els.take m) := by
  obtain ⟨css, hg, ho⟩ := h
  have hl : (els.take m).length = m := by simp; omega
  refine ⟨css.take m, hg.take m, ?_⟩
  rw [hl]
  refine ⟨by have := (hg.take m).len; rw [hl] at this; exact this, ?_⟩
  rcases ho.2 with ⟨hv, hn⟩ | ⟨g, cap, cur, hv, hg', h1, h2, h3, h4, h5⟩
  · injection hv with hA _ hc
    have : m = 0 := by omega
    subst this
    exact .inl ⟨by rw [hA, hc], rfl⟩
  · injection hv with hA _ hc
    subst hA hc
    refine .inr ⟨g, c, cur, rfl, hg', h1, by omega, h3, h4, ?_⟩
    rw [← flat_take m hg.ks, ← h5, List.take_take, Nat.min_eq_left (Nat.mul_le_mul_right _ hm)]
theorem St.pre {A : Option Addr} {c m : Nat} {els : List El} (hs : St M w0 w (.rg k e A c els :: H)) (hm : m ≤ els.length) : St M w0 w (.rg k e A c (els.take m) :: H) := by
  obtain ⟨T, hT, hc, hr⟩ := hs.2
  exact ⟨hs.1, T, hT, ⟨hc.1, hc.2.pre hm⟩, hr⟩
end
end Go.Proofs.Ytdgagffieobiiaa

/-
  The bytes of a constant string, over pieces: made, marked, and read from then on. Nothing here names the program.
-/
namespace Go.Proofs.Ytdgagffieobiiaa
open Go.RowKit

theorem zell_freeze (w : World) (a : Addr) (n : Nat) (p : Addr) : (w.freeze a n).cell? p = w.cell? p := by
  unfold World.freeze
  split
  · rfl
  · unfold World.cell?
    simp only [Array.getElem?_modify]
    by_cases h : a.block = p.block
    · rw [if_pos h]
      cases w.heap[p.block]? with
      | none => rfl
      | some o => cases o <;> rfl
    · rw [if_neg h]
section
variable {P : Program} {N : Nat} {ops : Array Oper} {Q : Exit → Act → World → Prop} {rest : List Oper} {L : FL} {w0 w : World} {M : BS} {H : List Cd} {t e : TypeId} {bytes : Nat}
end
end Go.Proofs.Ytdgagffieobiiaa

/-
  Maps with string keys as pieces: made, asked, written, robbed of an entry, gone through. Nothing here names the program.
-/
namespace Go.Proofs.Ytdgagffieobiiaa
open Go.RowKit

def mpC (b : Nat) (es : List ME) (clk : Nat) : Ck := ⟨fun w S => S b ∧ Mp w b es clk, fun ⟨h1, h2⟩ _ hm => ⟨(hm b h2.lt h1).1, (hm b h2.lt h1).2.trans h2⟩⟩
section
variable {P : Program} {N : Nat} {ops : Array Oper} {Q : Exit → Act → World → Prop} {rest : List Oper} {L : FL} {w0 w : World} {M : BS} {H : List Cd} {t e kt : TypeId} {b clk : Nat} {es : List ME} {k : List UInt8}
theorem St.mp (h : St M w0 w H) (i : Nat) (hi : nthC H i = some (.ck (mpC b es clk))) : Mp w b es clk := by obtain ⟨T, hc, _⟩ := h.get i hi; exact hc.2
theorem ws_mkMap {d : Nat} {ty : TypeId} {pos : String} {aft : Array Edge} (hs : St M w0 w H) (hd : Nat.blt d N = true)
    (h : ∀ g w', St M w0 w' (.ck (mpC g [] 0) :: H) → WL P N ops Q rest ((d, .map (some g)) :: L) w') :
    WL P N ops Q (⟨some d, .makeMap t none, ty, pos, aft, none⟩ :: rest) L w :=
  wl_mkMap hd fun g w' hg hm hb => h g w' (hs.new (T := fun b => b = g) (c := .ck (mpC g [] 0)) hb ⟨rfl, hm⟩ fun b _ e => e ▸ hg)
theorem ws_mput {m y z : Operand} {ty : TypeId} {pos : String} {aft : Array Edge} {v : Value} (hs : St M w0 w H) (i : Nat) (hi : nthC H i = some (.ck (mpC b es clk))) (ht : P.underlying t = some (.map kt e)) (hk : P.underlying kt = some .string) (hx : look L m = some (.map (some b))) (hy : look L y = some (str k)) (hz : look L z = some v)
    (h : ∀ w', St M w0 w' (setC H i (.ck (mpC b (mput es clk k v).1 (mput es clk k v).2))) → WL P N ops Q rest L w') :
    WL P N ops Q (⟨none, .mapUpdate t m y z, ty, pos, aft, none⟩ :: rest) L w := by
  refine wl_mput ht hk hx hy hz (hs.mp i hi) fun w' hm hg hsz => h w' ?_
  obtain ⟨T, hc, hT, hK⟩ := hs.upd i hi
  exact hK w' (.ck (mpC b (mput es clk k v).1 (mput es clk k v).2)) T (Mod.of_gr hg fun a ha => by cases ha; exact hc.1) ⟨hc.1, hm⟩ fun _ _ h => .inl h
/-- A map is asked, and told whether it has it. -/
theorem opv_lookup2 {x y : Operand} {ty : TypeId} {z : Value} (ht : P.underlying t = some (.map kt e)) (hk : P.underlying kt = some .string) (hz : (P.info? e).map (·.zero) = some (some z)) (hx : look L x = some (.map (some b))) (hy : look L y = some (str k)) (hm : Mp w b es clk) :
    OpV P (.lookup t x y true) ty L w (.tuple #[(mget es k).getD z, .bool (mget es k).isSome]) w := fun ρ o hρ ho _ => by
  have hzr : (zeroValue e).run P w = .ok z w := by
    cases hq : P.info? e with
    | none => simp [hq] at hz
    | some i => have : i.zero = some z := by simpa [hq] using hz
                simp [zeroValue, typeInfo, hq, this]
  have hg : (getObj b).run P w = .ok (.map (es.map toE).toArray clk) w := by simp [getObj, Sem.run, show w.heap[b]? = _ from hm]
  have hck : ∀ em, (Instr.checkKey em 10000 kt (str k)).run P w = .ok () w := fun em => MapKept.run_checkKey hk (show MapKept.IsKey .string (str k) from trivial) em 9999
  unfold execOp
  simp only [ho, Instr.lookup, Sem.run_bind, run_underlying ht, Result.andThen_ok, hρ x _ hx, hρ y _ hy, hg, hck, Sem.run_pure]
  rw [run_findKey hk]
  unfold mget
  cases fnd k es 0 with
  | none => simp [hzr]
  | some p => simp
theorem opv_lookupN {x y : Operand} {ty : TypeId} {z : Value} {c : Bool} (ht : P.underlying t = some (.map kt e)) (hk : P.underlying kt = some .string) (hz : (P.info? e).map (·.zero) = some (some z)) (hx : look L x = some (.map none)) (hy : look L y = some (str k)) :
    OpV P (.lookup t x y c) ty L w (if c then .tuple #[z, .bool false] else z) w := fun ρ o hρ ho _ => by
  have hzr : (zeroValue e).run P w = .ok z w := by
    cases hq : P.info? e with
    | none => simp [hq] at hz
    | some i => have : i.zero = some z := by simpa [hq] using hz
                simp [zeroValue, typeInfo, hq, this]
  have hck : ∀ em, (Instr.checkKey em 10000 kt (str k)).run P w = .ok () w := fun em => MapKept.run_checkKey hk (show MapKept.IsKey .string (str k) from trivial) em 9999
  have hf : (Instr.findKey kt (str k) []).run P w = .ok none w := run_findKey (es := []) hk
  unfold execOp
  simp only [ho, Instr.lookup, Sem.run_bind, run_underlying ht, Result.andThen_ok, hρ x _ hx, hρ y _ hy, hck, Sem.run_pure, hf]
  cases c <;> simp [hzr]
/-- Is a map nil? -/
theorem bin_eqlMapNil (ht : P.underlying t = some (.map kt e)) : BinV P .eql t (.map (some b)) (.map none) (.bool false) := .mk fun x y w => by
  have h : ∀ d : Nat, (Op.equalIn (d + 1) t (.map (some b)) (.map none)).run P w = .ok false w := fun d => by simp [Op.equalIn, run_underlying ht]
  simp [eqGuard, binOp, Op.equal, Op.maxDepth, h 9999]
theorem bin_eqlMapNN (ht : P.underlying t = some (.map kt e)) : BinV P .eql t (.map none) (.map none) (.bool true) := .mk fun x y w => by
  have h : ∀ d : Nat, (Op.equalIn (d + 1) t (.map none) (.map none)).run P w = .ok true w := fun d => by simp [Op.equalIn, run_underlying ht]
  simp [eqGuard, binOp, Op.equal, Op.maxDepth, h 9999]
end
end Go.Proofs.Ytdgagffieobiiaa

/-
  The engine's rules for calls through an interface value, and for elements of rows that are known by their cells and are written in place. Nothing here names the program.
-/
namespace Go.Proofs.Ytdgagffieobiiaa
open Go.RowKit

section
variable {P : Program} {N : Nat} {ops : Array Oper} {Q : Exit → Act → World → Prop} {rest : List Oper} {L : FL} {w : World}
end

/-! #### Rows that are known by their cells, written in place -/
section
variable {P : Program} {N : Nat} {ops : Array Oper} {Q : Exit → Act → World → Prop} {rest : List Oper} {L : FL} {w0 w : World} {M : BS} {H : List Cd} {t e : TypeId} {g : Nat} {cs cs' : List Value} {z : Value} {bytes k : Nat}
/-- A row of the call's own that is known by its cells, where it has elements, lies at the start of a block. -/
theorem OwR.form {S : BS} {A : Option Addr} {base c : Nat} {els : List El} (h : OwR k e w base S A c els) (hn : 0 < els.length) : ∃ g, A = some ⟨g, 0, none⟩ := by
  obtain ⟨css, _, h2⟩ := h
  rcases h2.2 with ⟨hv, h0⟩ | ⟨g, cap, cur, hv, _⟩
  · omega
  · injection hv with hA; exact ⟨g, hA⟩
end
end Go.Proofs.Ytdgagffieobiiaa

/-
  Rows whose elements lie apart from one another; pieces told as one; bytes of one's own whose values are not known. Nothing here names the program.
-/
namespace Go.Proofs.Ytdgagffieobiiaa
open Go.RowKit

/-- Pieces told as one. -/
def packC (H : List Cd) : Ck := ⟨fun w S => Sat w H S, fun h hz hm => h.move hz hm⟩
/-- Elements and their cells, piece by piece. -/
def zipCe : List El → List (List Value) → List Cd
  | E :: els, cs :: css => .ce E cs :: zipCe els css
  | _, _ => []
/-- A row of the call's own whose elements lie apart. -/
def rsC (k : Nat) (e : TypeId) (A : Option Addr) (c : Nat) (els : List El) : Ck := ⟨fun w S => ∃ css : List (List Value), css.length = els.length ∧ Sat w (.rg k e A c (css.map rawEl) :: zipCe els css) S, fun ⟨css, hl, h⟩ hz hm => ⟨css, hl, h.move hz hm⟩⟩
theorem zipCe_grp {k : Nat} {w : World} : ∀ {els : List El} {css : List (List Value)} {S : BS}, Sat w (zipCe els css) S → css.length = els.length → (∀ cs ∈ css, cs.length = k) → Grp k w S els css
  | [], [], S, _, _, _ => Grp.nil _ _ _
  | E :: els, cs :: css, S, ⟨T, hT, hc, hr⟩, h, hk => by
    have h1 := zipCe_grp hr (by simpa using h) fun cs hcs => hk cs (List.mem_cons_of_mem _ hcs)
    exact (Grp.one (El.mono hc fun b _ h => hT b h) (hk cs List.mem_cons_self)).append (h1.mono fun b _ h => h.1)
  | [], _ :: _, _, _, h, _ => by simp at h
  | _ :: _, [], _, _, h, _ => by simp at h
section
variable {w0 w : World} {M : BS} {H H1 H2 : List Cd} {k : Nat} {e : TypeId} {A : Option Addr} {c : Nat} {els : List El}
theorem Sat.permL {w : World} {H H' : List Cd} (p : H.Perm H') : ∀ {S : BS}, Sat w H S → Sat w H' S := by
  induction p with
  | nil => intro S h; exact h
  | cons c _ ih => rintro S ⟨T, hT, hc, hr⟩; exact ⟨T, hT, hc, ih hr⟩
  | swap a b H => intro S h; exact h.front (i := 1) rfl
  | trans _ _ ih1 ih2 => intro S h; exact ih2 (ih1 h)
theorem Sat.dropC {w : World} {c : Cd} {H : List Cd} {S : BS} (h : Sat w (c :: H) S) : Sat w H S := by
  obtain ⟨T, hT, h1, h2⟩ := h
  exact h2.mono fun _ _ h => h.1
/-- Where the elements lie apart, the row is a row of elements too. -/
theorem rs_rg {T : BS} (h : (rsC k e A c els).P w T) : (Cd.rg k e A c els).P w T := by
  obtain ⟨css, hl, T1, hT1, h1, h2⟩ := h
  obtain ⟨ho, hk⟩ := OwR.raw h1.2
  refine ⟨fun a ha => hT1 _ (h1.1 a ha), css, (zipCe_grp h2 hl hk).mono fun b _ h => ⟨h.1, fun a ha hb => h.2 (by rw [hb]; exact h1.1 a ha)⟩, by rw [← hl]; exact ho⟩
theorem St.rs (hs : St M w0 w H) (i : Nat) (hi : nthC H i = some (.ck (rsC k e A c els))) : OwR k e w 0 All A c els := by
  obtain ⟨T, hc, _⟩ := hs.get i hi
  exact (rs_rg hc).2.mono (Nat.le_refl _) fun _ _ _ => trivial
end
section
variable {P : Program} {N : Nat} {ops : Array Oper} {Q : Exit → Act → World → Prop} {rest : List Oper} {L : FL} {w0 w : World} {M : BS} {H : List Cd} {t e : TypeId} {cs : List Value} {z : Value} {bytes k : Nat}
end
end Go.Proofs.Ytdgagffieobiiaa

/-
  Disks: a plain model, the types, and a disk as one piece.
-/
namespace Go.Proofs.Ytdgagffieobiiaa
open Go.RowKit

/-! ### Plain -/
structure Fl where
  data : List UInt8
  safe : Nat
abbrev Fs := List (List UInt8 × Fl)
structure Dk where
  fs : Fs
  room : Nat
  armed : Bool
  left : Int
  dead : Bool
def getF (n : List UInt8) : Fs → Option Fl
  | [] => none
  | p :: fs => if p.1 = n then some p.2 else getF n fs
def putF (n : List UInt8) (f : Fl) : Fs → Fs
  | [] => [(n, f)]
  | p :: fs => if p.1 = n then (n, f) :: fs else p :: putF n f fs
def used (fs : Fs) : Nat := (fs.map fun p => p.2.data.length).sum
def turnD (d : Dk) (e : Nat) : Bool × Nat × Dk :=
  if d.dead = true then (false, 9, d) else if e ≠ 0 then (false, e, d) else if d.armed = true ∧ d.left = 0 then (false, 9, { d with dead := true })
  else if d.armed = true then (true, 0, { d with left := d.left - 1 }) else (true, 0, d)
def thereD (d : Dk) (n : List UInt8) : Nat := if (getF n d.fs).isSome then 0 else 6
def fileD (d : Dk) (n : List UInt8) : Fl := (getF n d.fs).getD ⟨[], 0⟩
def putD (d : Dk) (n : List UInt8) (f : Fl) : Dk := { d with fs := putF n f d.fs }
def appD (d : Dk) (n b : List UInt8) : Dk × Nat :=
  let t := turnD d (if d.room < used d.fs + b.length then 8 else 0)
  (if t.1 = true ∨ t.2.2.dead = true ∧ d.dead = false then putD t.2.2 n ⟨(fileD t.2.2 n).data ++ b, (fileD t.2.2 n).safe⟩ else t.2.2, t.2.1)
def syncD (d : Dk) (n : List UInt8) : Dk × Nat :=
  let t := turnD d (thereD d n)
  (if t.1 = true then putD t.2.2 n ⟨(fileD t.2.2 n).data, (fileD t.2.2 n).data.length⟩ else t.2.2, t.2.1)
def cutD (d : Dk) (n : List UInt8) (k : Int) : Dk × Nat :=
  let t := turnD d (if k < 0 ∨ thereD d n = 0 ∧ ((fileD d n).data.length : Int) < k then 1 else thereD d n)
  (if t.1 = true then putD t.2.2 n ⟨(fileD t.2.2 n).data.take k.toNat, k.toNat⟩ else t.2.2, t.2.1)
def readD (d : Dk) (n : List UInt8) : List UInt8 × Nat := if d.dead = true then ([], 9) else if thereD d n ≠ 0 then ([], thereD d n) else ((fileD d n).data, 0)
def keepN (keeps : List Int) (i tail : Nat) : Nat := match keeps[i % keeps.length]? with | some k => (max 0 k).toNat % (tail + 1) | none => 0
def crashF (keeps : List Int) : Nat → List (List UInt8) → Fs → Fs
  | _, [], fs => fs
  | i, n :: ns, fs =>
    let f := (getF n fs).getD ⟨[], 0⟩
    if f.data.length - f.safe = 0 then crashF keeps i ns fs
    else
      let e := f.safe + keepN keeps i (f.data.length - f.safe)
      crashF keeps (i + 1) ns (putF n ⟨f.data.take e, e⟩ fs)
/-- What is known of a disk. -/
structure DkOk (d : Dk) : Prop where
  safe : ∀ p ∈ d.fs, p.2.safe ≤ p.2.data.length
  room : d.room ≤ 1099511627776
  used : used d.fs ≤ d.room
  left : -9223372036854775808 ≤ d.left ∧ d.left ≤ 9223372036854775807 ∧ (d.armed = true → 0 ≤ d.left)
theorem turnD_fs (d : Dk) (e : Nat) : (turnD d e).2.2.fs = d.fs ∧ (turnD d e).2.2.room = d.room := by
  unfold turnD; split; exact ⟨rfl, rfl⟩; split; exact ⟨rfl, rfl⟩; split; exact ⟨rfl, rfl⟩; split <;> exact ⟨rfl, rfl⟩
theorem DkOk.turn {d : Dk} (h : DkOk d) (e : Nat) : DkOk (turnD d e).2.2 := by
  obtain ⟨h1, h2⟩ := turnD_fs d e
  refine ⟨by rw [h1]; exact h.safe, by rw [h2]; exact h.room, by rw [h1, h2]; exact h.used, ?_⟩
  have hl := h.left
  unfold turnD
  split; exact hl; split; exact hl; split; exact hl; split
  · rename_i h1 h2 h3 h4
    have := hl.2.2 h4
    have h5 : ¬ d.left = 0 := fun h => h3 ⟨h4, h⟩
    exact ⟨show -9223372036854775808 ≤ d.left - 1 by omega, show d.left - 1 ≤ 9223372036854775807 by omega, fun _ => show 0 ≤ d.left - 1 by omega⟩
  · exact hl
theorem used_cons (p : List UInt8 × Fl) (fs : Fs) : used (p :: fs) = p.2.data.length + used fs := by simp [used]
theorem getF_le {n : List UInt8} {f : Fl} : ∀ {fs : Fs}, getF n fs = some f → f.data.length ≤ used fs
  | [], h => by cases h
  | p :: fs, h => by
    unfold getF at h
    rw [used_cons]
    split at h
    · cases h; omega
    · have := getF_le h; omega
theorem getF_mem {n : List UInt8} {f : Fl} : ∀ {fs : Fs}, getF n fs = some f → (n, f) ∈ fs
  | [], h => by cases h
  | p :: fs, h => by
    unfold getF at h
    split at h
    · rename_i hp; cases h; subst hp; exact List.mem_cons_self
    · exact List.mem_cons_of_mem _ (getF_mem h)
theorem used_put {n : List UInt8} {f : Fl} : ∀ (fs : Fs), used (putF n f fs) + ((getF n fs).getD ⟨[], 0⟩).data.length = used fs + f.data.length
  | [] => by simp [putF, getF, used]
  | p :: fs => by
    unfold putF getF
    by_cases h : p.1 = n
    · rw [if_pos h, if_pos h, used_cons, used_cons]; simp; omega
    · rw [if_neg h, if_neg h, used_cons, used_cons]; have := used_put (n := n) (f := f) fs; omega
theorem put_mem {n : List UInt8} {f : Fl} {p : List UInt8 × Fl} : ∀ {fs : Fs}, p ∈ putF n f fs → p = (n, f) ∨ p ∈ fs
  | [], h => by simp [putF] at h; exact .inl h
  | q :: fs, h => by
    unfold putF at h
    split at h
    · rcases List.mem_cons.1 h with h | h
      · exact .inl h
      · exact .inr (List.mem_cons_of_mem _ h)
    · rcases List.mem_cons.1 h with h | h
      · exact .inr (h ▸ List.mem_cons_self)
      · rcases put_mem h with h | h
        · exact .inl h
        · exact .inr (List.mem_cons_of_mem _ h)
theorem fileD_safe {d : Dk} (h : ∀ p ∈ d.fs, p.2.safe ≤ p.2.data.length) (n : List UInt8) : (fileD d n).safe ≤ (fileD d n).data.length := by
  unfold fileD
  cases hg : getF n d.fs with
  | none => simp
  | some f => exact h _ (getF_mem hg)
theorem fileD_le (d : Dk) (n : List UInt8) : (fileD d n).data.length ≤ used d.fs := by
  unfold fileD
  cases hg : getF n d.fs with
  | none => simp
  | some f => exact getF_le hg

/-! ### Types -/
theorem d1_bool : Cell1 Try.prog 4 := ⟨by kernel_rfl, by rw [Try.underlying4]⟩
theorem d1_int : Cell1 Try.prog 3 := ⟨by kernel_rfl, by rw [Try.underlying3]⟩
theorem d1_by : Cell1 Try.prog 30 := ⟨by kernel_rfl, by rw [Try.underlying30]⟩
theorem d1_map : Cell1 Try.prog 65 := ⟨by kernel_rfl, by rw [Try.underlying65]⟩
theorem tyDM : Try.prog.underlying 65 = some (.map 9 72) := Try.underlying65
theorem fa_D0 : FieldAt Try.prog 67 0 0 := fieldAt_mk Try.underlying67 rfl rfl (by kernel_rfl)
theorem fa_D1 : FieldAt Try.prog 67 1 1 := fieldAt_mk Try.underlying67 rfl rfl (by kernel_rfl)
theorem fa_D2 : FieldAt Try.prog 67 2 2 := fieldAt_mk Try.underlying67 rfl rfl (by kernel_rfl)
theorem fa_D3 : FieldAt Try.prog 67 3 3 := fieldAt_mk Try.underlying67 rfl rfl (by kernel_rfl)
theorem fa_D4 : FieldAt Try.prog 67 4 4 := fieldAt_mk Try.underlying67 rfl rfl (by kernel_rfl)
theorem sF : StT Try.prog 72 2 := ⟨by kernel_rfl, by kernel_rfl⟩
theorem fa_F0 : FieldAt Try.prog 72 0 0 := fieldAt_mk Try.underlying72 rfl rfl (by kernel_rfl)
theorem fa_F1 : FieldAt Try.prog 72 1 1 := fieldAt_mk Try.underlying72 rfl rfl (by kernel_rfl)
theorem fa_sD {k : Nat} (h : k < 5) : FieldAt Try.prog 67 k k := by
  match k, h with
  | 0, _ => exact fa_D0
  | 1, _ => exact fa_D1
  | 2, _ => exact fa_D2
  | 3, _ => exact fa_D3
  | 4, _ => exact fa_D4
theorem fa_sF {k : Nat} (h : k < 2) : FieldAt Try.prog 72 k k := by
  match k, h with
  | 0, _ => exact fa_F0
  | 1, _ => exact fa_F1
theorem tyStrD : Try.prog.underlying 9 = some .string := Try.underlying9
def zF : List Value := [.slice none 0 0, .int .i64 0]
theorem zeroF : (Try.prog.info? 72).map (·.zero) = some (some (.agg zF.toArray)) := by kernel_rfl

/-! ### A disk in memory -/
structure FE where
  nm : List UInt8
  A : Option Addr
  c : Nat
  f : Fl
  born : Nat
def flV (f : Fl) (A : Option Addr) (c : Nat) : List Value := [.slice A f.data.length c, .int .i64 (f.safe : Int)]
def FE.me (x : FE) : ME := (x.nm, .agg (flV x.f x.A x.c).toArray, x.born)
def FE.pl (x : FE) : List UInt8 × Fl := (x.nm, x.f)
def FE.cd (x : FE) : Cd := .ow 5 x.A x.f.data.length x.c (bvs x.f.data)
structure DkI (fs : Fs) (xs : List FE) (clk : Nat) : Prop where
  fs : xs.map FE.pl = fs
  nd : (xs.map (·.nm)).Nodup
  old : ∀ x ∈ xs, x.born < clk
  bn : (xs.map (·.born)).Nodup
def dkV (d : Dk) (b : Option Nat) : List Value := [.map b, .int .i64 (d.room : Int), .bool d.armed, .int .i64 d.left, .bool d.dead]
def flC (xs : List FE) : Ck := packC (xs.map FE.cd)
def dkC (g : Nat) (d : Dk) : Ck := ⟨fun w S => (d.fs = [] ∧ Sat w [.blk g 67 (dkV d none)] S) ∨ ∃ m xs clk, DkI d.fs xs clk ∧ Sat w [.blk g 67 (dkV d (some m)), .ck (mpC m (xs.map FE.me) clk), .ck (flC xs)] S,
  fun h hz hm => h.elim (fun h => .inl ⟨h.1, h.2.move hz hm⟩) fun ⟨m, xs, clk, h1, h2⟩ => .inr ⟨m, xs, clk, h1, h2.move hz hm⟩⟩
/-- A disk, read. -/
def RdD (w : World) (g : Nat) (d : Dk) : Prop := (d.fs = [] ∧ Ar w g 67 (dkV d none)) ∨ ∃ m xs clk, DkI d.fs xs clk ∧ Ar w g 67 (dkV d (some m)) ∧ Mp w m (xs.map FE.me) clk ∧ ∀ x ∈ xs, RdB w x.A x.f.data ∧ x.f.data.length ≤ x.c
theorem RdD.below {w w' : World} {g : Nat} {d : Dk} (h : RdD w g d) (hb : Below w.heap.size w w') : RdD w' g d := by
  rcases h with ⟨h1, h2⟩ | ⟨m, xs, clk, h1, h2, h3, h4⟩
  · exact .inl ⟨h1, h2.below hb (Nat.le_refl _)⟩
  · exact .inr ⟨m, xs, clk, h1, h2.below hb (Nat.le_refl _), h3.bel hb, fun x hx => ⟨(h4 x hx).1.below hb, (h4 x hx).2⟩⟩
/-- A name among the files. -/
theorem fnd_split (k : List UInt8) : ∀ (xs : List FE) (i : Nat), (fnd k (xs.map FE.me) i = none ∧ getF k (xs.map FE.pl) = none ∧ k ∉ xs.map (·.nm)) ∨
    ∃ X x Y, xs = X ++ x :: Y ∧ x.nm = k ∧ k ∉ X.map (·.nm) ∧ fnd k (xs.map FE.me) i = some (i + X.length, .agg (flV x.f x.A x.c).toArray) ∧ getF k (xs.map FE.pl) = some x.f
  | [], i => .inl ⟨rfl, rfl, by simp⟩
  | x :: xs, i => by
    by_cases hk : x.nm = k
    · exact .inr ⟨[], x, xs, rfl, hk, by simp, by simp [fnd, FE.me, hk], by simp [getF, FE.pl, hk]⟩
    · have hk' : ¬ k = x.nm := fun h => hk h.symm
      rcases fnd_split k xs (i + 1) with ⟨h1, h2, h3⟩ | ⟨X, y, Y, rfl, h2, h3, h4, h5⟩
      · exact .inl ⟨by simpa [fnd, FE.me, hk'] using h1, by simpa [getF, FE.pl, hk] using h2, by simpa [hk'] using h3⟩
      · refine .inr ⟨x :: X, y, Y, rfl, h2, by simpa [hk'] using h3, ?_, by simpa [getF, FE.pl, hk] using h5⟩
        simp only [List.map_cons, fnd, FE.me, if_neg hk']
        rw [show i + (x :: X).length = i + 1 + X.length by simp; omega]
        exact h4
theorem modify_mid {α : Type} (f : α → α) (x : α) (Y : List α) : ∀ X : List α, (X ++ x :: Y).modify X.length f = X ++ f x :: Y
  | [] => rfl
  | y :: X => by simp [modify_mid f x Y X]
theorem mput_new {k : List UInt8} {xs : List FE} {clk : Nat} (h : fnd k (xs.map FE.me) 0 = none) (A : Option Addr) (c : Nat) (f : Fl) :
    mput (xs.map FE.me) clk k (.agg (flV f A c).toArray) = ((xs ++ [(⟨k, A, c, f, clk⟩ : FE)]).map FE.me, clk + 1) := by simp [mput, h, FE.me]
theorem mput_old {k : List UInt8} {X Y : List FE} {x : FE} {clk : Nat} (h : fnd k ((X ++ x :: Y).map FE.me) 0 = some (0 + X.length, .agg (flV x.f x.A x.c).toArray)) (hk : x.nm = k) (A : Option Addr) (c : Nat) (f : Fl) :
    mput ((X ++ x :: Y).map FE.me) clk k (.agg (flV f A c).toArray) = ((X ++ (⟨k, A, c, f, x.born⟩ : FE) :: Y).map FE.me, clk) := by
  unfold mput
  rw [h]
  simp only [Nat.zero_add, List.map_append, List.map_cons, Prod.mk.injEq, and_true]
  have e : X.length = (X.map FE.me).length := by simp
  rw [e, modify_mid]
  rfl
theorem DkI.new {fs : Fs} {xs : List FE} {clk : Nat} (h : DkI fs xs clk) {k : List UInt8} (hk : k ∉ xs.map (·.nm)) (hg : getF k fs = none) (A : Option Addr) (c : Nat) (f : Fl) : DkI (putF k f fs) (xs ++ [⟨k, A, c, f, clk⟩]) (clk + 1) := by
  have hp : ∀ fs : Fs, getF k fs = none → putF k f fs = fs ++ [(k, f)] := by
    intro fs
    induction fs with
    | nil => intro _; rfl
    | cons p fs ih =>
      intro h
      unfold getF at h
      unfold putF
      split at h
      · cases h
      · rename_i hn; rw [if_neg hn, ih h]; rfl
  refine ⟨by rw [hp fs hg, List.map_append, h.fs]; rfl, ?_, ?_, ?_⟩
  · rw [List.map_append, List.nodup_append]
    refine ⟨h.nd, by simp, ?_⟩
    intro a ha b hb
    simp at hb
    subst hb
    exact fun e => hk (e ▸ ha)
  · intro x hx
    rcases List.mem_append.1 hx with hx | hx
    · have := h.old x hx; omega
    · simp at hx; subst hx; exact Nat.lt_succ_self clk
  · rw [List.map_append, List.nodup_append]
    refine ⟨h.bn, by simp, ?_⟩
    intro a ha b hb
    simp at hb
    subst hb
    obtain ⟨x, hx, rfl⟩ := List.mem_map.1 ha
    exact Nat.ne_of_lt (h.old x hx)
theorem DkI.old' {fs : Fs} {X Y : List FE} {x : FE} {clk : Nat} (h : DkI fs (X ++ x :: Y) clk) {k : List UInt8} (hk : x.nm = k) (hX : k ∉ X.map (·.nm)) (A : Option Addr) (c : Nat) (f : Fl) : DkI (putF k f fs) (X ++ ⟨k, A, c, f, x.born⟩ :: Y) clk := by
  have hp : ∀ X : List FE, k ∉ X.map (·.nm) → putF k f ((X ++ x :: Y).map FE.pl) = (X ++ ⟨k, A, c, f, x.born⟩ :: Y).map FE.pl := by
    intro X
    induction X with
    | nil => intro _; simp [putF, FE.pl, hk]
    | cons y X ih =>
      intro hn
      simp only [List.map_cons, List.mem_cons, not_or] at hn
      simp only [List.cons_append, List.map_cons, putF]
      rw [if_neg (fun e => hn.1 (by rw [← e]; rfl)), ih hn.2]
  have hfs := h.fs
  subst hfs
  refine ⟨(hp X hX).symm, ?_, ?_, ?_⟩
  · have := h.nd; simp only [List.map_append, List.map_cons, hk] at this ⊢; exact this
  · intro y hy
    rcases List.mem_append.1 hy with hy | hy
    · exact h.old y (List.mem_append_left _ hy)
    · rcases List.mem_cons.1 hy with rfl | hy
      · exact h.old x (List.mem_append_right _ List.mem_cons_self)
      · exact h.old y (List.mem_append_right _ (List.mem_cons_of_mem _ hy))
  · have := h.bn; simp only [List.map_append, List.map_cons] at this ⊢; exact this
section
variable {M : BS} {w0 w : World} {H : List Cd} {g : Nat} {d : Dk}
theorem St.opn (hs : St M w0 w (.ck (dkC g d) :: H)) : (d.fs = [] ∧ St M w0 w (.blk g 67 (dkV d none) :: H)) ∨
    ∃ m xs clk, DkI d.fs xs clk ∧ St M w0 w (.blk g 67 (dkV d (some m)) :: .ck (mpC m (xs.map FE.me) clk) :: .ck (flC xs) :: H) := by
  obtain ⟨hM, T, hT, hc, hr⟩ := hs
  rcases hc with ⟨h1, h2⟩ | ⟨m, xs, clk, h1, h2⟩
  · exact .inl ⟨h1, hM, Sat.join (H1 := [_]) hT h2 hr⟩
  · exact .inr ⟨m, xs, clk, h1, hM, Sat.join (H1 := [_, _, _]) hT h2 hr⟩
theorem St.cls {m clk : Nat} {xs : List FE} (hs : St M w0 w (.blk g 67 (dkV d (some m)) :: .ck (mpC m (xs.map FE.me) clk) :: .ck (flC xs) :: H)) (h : DkI d.fs xs clk) : St M w0 w (.ck (dkC g d) :: H) :=
  hs.pack (H1 := [_, _, _]) _ fun _ _ k => .inr ⟨m, xs, clk, h, k⟩
theorem St.cls0 (hs : St M w0 w (.blk g 67 (dkV d none) :: H)) (h : d.fs = []) : St M w0 w (.ck (dkC g d) :: H) :=
  hs.pack (H1 := [_]) _ fun _ _ k => .inl ⟨h, k⟩
end
theorem flC_rd {w : World} {S : BS} : ∀ {xs : List FE}, Sat w (xs.map FE.cd) S → ∀ x ∈ xs, RdB w x.A x.f.data ∧ x.f.data.length ≤ x.c
  | [], _, x, hx => by cases hx
  | y :: xs, h, x, hx => by
    obtain ⟨T, _, h1, h2⟩ := h
    rcases List.mem_cons.1 hx with rfl | hx
    · exact ⟨Ow.rd h1.2, OwB.cap (show OwB w 0 x.A x.c x.f.data from h1.2)⟩
    · exact flC_rd h2 x hx
theorem dkC_rd {w : World} {S : BS} {g : Nat} {d : Dk} (h : (dkC g d).P w S) : RdD w g d := by
  rcases h with ⟨h1, T, _, h2, _⟩ | ⟨m, xs, clk, h1, T, _, h2, T2, _, h3, T3, _, h4, _⟩
  · exact .inl ⟨h1, h2.2⟩
  · exact .inr ⟨m, xs, clk, h1, h2.2, h3.2, flC_rd h4⟩
end Go.Proofs.Ytdgagffieobiiaa

/-
  Walks over disks: New, there, Used, turn.
-/
namespace Go.Proofs.Ytdgagffieobiiaa
open Go.RowKit

section
variable {P : Program} {N : Nat} {ops : Array Oper} {Q : Exit → Act → World → Prop} {rest : List Oper} {L : FL} {w : World} {b clk : Nat} {es : List ME} {k : List UInt8} {x y : Operand} {ty : TypeId} {v : Value}
theorem lk2_some (hx : look L x = some (.map (some b))) (hy : look L y = some (str k)) (hm : Mp w b es clk) (hg : mget es k = some v) : OpV Try.prog (.lookup 65 x y true) ty L w (.tuple #[v, .bool true]) w := by
  have := opv_lookup2 (ty := ty) tyDM tyStrD zeroF hx hy hm
  rw [hg] at this; exact this
theorem lk2_none (hx : look L x = some (.map (some b))) (hy : look L y = some (str k)) (hm : Mp w b es clk) (hg : mget es k = none) : OpV Try.prog (.lookup 65 x y true) ty L w (.tuple #[.agg zF.toArray, .bool false]) w := by
  have := opv_lookup2 (ty := ty) tyDM tyStrD zeroF hx hy hm
  rw [hg] at this; exact this
theorem lk1_some (hx : look L x = some (.map (some b))) (hy : look L y = some (str k)) (hm : Mp w b es clk) (hg : mget es k = some v) : OpV Try.prog (.lookup 65 x y false) ty L w v w := by
  have := opv_lookup (ty := ty) tyDM tyStrD zeroF hx hy hm
  rw [hg] at this; exact this
theorem lk1_none (hx : look L x = some (.map (some b))) (hy : look L y = some (str k)) (hm : Mp w b es clk) (hg : mget es k = none) : OpV Try.prog (.lookup 65 x y false) ty L w (.agg zF.toArray) w := by
  have := opv_lookup (ty := ty) tyDM tyStrD zeroF hx hy hm
  rw [hg] at this; exact this
theorem lk2_nil (hx : look L x = some (.map none)) (hy : look L y = some (str k)) : OpV Try.prog (.lookup 65 x y true) ty L w (.tuple #[.agg zF.toArray, .bool false]) w := opv_lookupN tyDM tyStrD zeroF hx hy
theorem lk1_nil (hx : look L x = some (.map none)) (hy : look L y = some (str k)) : OpV Try.prog (.lookup 65 x y false) ty L w (.agg zF.toArray) w := opv_lookupN tyDM tyStrD zeroF hx hy
/-- A nil map is gone through. -/
theorem wl_rangeN {d : Nat} {pos : String} {aft : Array Edge} {t kt e : TypeId} (ht : P.underlying t = some (.map kt e)) (hx : look L x = some (.map none)) (hd : Nat.blt d N = true)
    (h : ∀ r w', w.heap.size ≤ r → w'.heap[r]? = some (.mapIter none 0 #[] 0) → Below w.heap.size w w' → WL P N ops Q rest ((d, .pointer (some ⟨r, 0, none⟩)) :: L) w') :
    WL P N ops Q (⟨some d, .range t x, ty, pos, aft, none⟩ :: rest) L w := by
  refine wl_val (v := .pointer (some ⟨w.heap.size, 0, none⟩)) (w' := w.alloc (.mapIter none 0 #[] 0)) (fun ρ o hρ ho _ => ?_) hd (h _ _ (Nat.le_refl _) (heap_alloc_new w _) ((Below.refl _ _).alloc (Nat.le_refl _) _))
  simp [execOp, ho, Instr.range, run_underlying ht, hρ x _ hx]
theorem wl_nextN {d r : Nat} {pos : String} {aft : Array Edge} (hx : look L x = some (.pointer (some ⟨r, 0, none⟩))) (hi : w.heap[r]? = some (.mapIter none 0 #[] 0)) (hd : Nat.blt d N = true)
    (h : WL P N ops Q rest ((d, .tuple #[.bool false]) :: L) w) : WL P N ops Q (⟨some d, .next x false, ty, pos, aft, none⟩ :: rest) L w := by
  refine wl_val (v := .tuple #[.bool false]) (w' := w) (fun ρ o hρ ho _ => ?_) hd h
  have hg : (getObj r).run P w = .ok (.mapIter none 0 #[] 0) w := by simp [getObj, Sem.run, hi]
  simp [execOp, ho, hρ x _ hx, Instr.next, hg]
end
theorem mget_split (k : List UInt8) (xs : List FE) : (mget (xs.map FE.me) k = none ∧ getF k (xs.map FE.pl) = none ∧ k ∉ xs.map (·.nm)) ∨
    ∃ X x Y, xs = X ++ x :: Y ∧ x.nm = k ∧ k ∉ X.map (·.nm) ∧ fnd k (xs.map FE.me) 0 = some (0 + X.length, .agg (flV x.f x.A x.c).toArray) ∧ mget (xs.map FE.me) k = some (.agg (flV x.f x.A x.c).toArray) ∧ getF k (xs.map FE.pl) = some x.f := by
  rcases fnd_split k xs 0 with ⟨h1, h2, h3⟩ | ⟨X, x, Y, h1, h2, h3, h4, h5⟩
  · exact .inl ⟨by unfold mget; rw [h1]; rfl, h2, h3⟩
  · exact .inr ⟨X, x, Y, h1, h2, h3, h4, by unfold mget; rw [h4]; rfl, h5⟩
theorem there_any {g : Nat} {d : Dk} {n : List UInt8} {w : World} (h : RdD w g d) : CallsV Try.prog 33 #[.pointer (some ⟨g, 0, none⟩), str n] w fun v w' => v = .int .i64 (thereD d n : Nat) ∧ Below w.heap.size w w' := by
  have hb := Below.refl w.heap.size w
  refine calls_in (N := _) Try.func33 rfl Try.ntmps33 rfl ?_; show WC _ _ _ _ _ _
  rcases h with ⟨h1, a1⟩ | ⟨m, xs, clk, hI, a1, hm, hrd⟩
  · have ht : thereD d n = 6 := by simp [thereD, h1, getF]
    rw [ht]
    refine wc_sr ?_; refine wl_as rfl rfl ?_; refine wl_ns ?_; refine wc_seq ?_; refine wc_sr ?_; refine wl_mv rfl rfl ?_; apply wl_val; apply opv_nilOk; exact rfl; exact rfl; apply wl_val; apply opv_fa; exact fa_sD (by decide); exact rfl; exact rfl; apply wl_val; apply opv_ldX; exact rfl; assumption; exact d1_map; exact rfl; exact rfl; refine wl_mv rfl rfl ?_; apply wl_val; apply lk2_nil; exact rfl; exact rfl; exact rfl; refine wl_mv rfl rfl ?_; apply wl_val; apply opv_extract; exact rfl; exact rfl; exact rfl; apply wl_val; apply opv_extract; exact rfl; exact rfl; exact rfl
    refine wl_var (cs := zF) zeroF sF rfl (fun _ => rfl) (by first | rfl | simp [Value.oneCell'] | simp [ceV, Value.oneCell']) rfl fun g5 _ hg5 a5 hbx => ?_; replace hb := hb.trans (hbx.mono hb.size); clear hbx
    refine wl_as rfl rfl ?_; refine wl_ns ?_; refine wc_sr ?_; refine wl_mv rfl rfl ?_; apply wl_val; apply opv_not; exact rfl; exact rfl; refine wl_ns ?_; apply wc_condTb; exact rfl; exact Bool.not_false; refine wc_sr ?_; refine wl_as rfl rfl ?_; refine wl_ns ?_; refine wc_ret ?_; refine we_seq_ret ?_
    exact we_ret1 rfl rfl ⟨_, rfl, rfl, hb⟩
  · rcases mget_split n xs with ⟨hg, hf, _⟩ | ⟨X, x, Y, hx, _, _, _, hg, hf⟩
    · have ht : thereD d n = 6 := by rw [thereD, ← hI.fs, hf]; rfl
      rw [ht]
      refine wc_sr ?_; refine wl_as rfl rfl ?_; refine wl_ns ?_; refine wc_seq ?_; refine wc_sr ?_; refine wl_mv rfl rfl ?_; apply wl_val; apply opv_nilOk; exact rfl; exact rfl; apply wl_val; apply opv_fa; exact fa_sD (by decide); exact rfl; exact rfl; apply wl_val; apply opv_ldX; exact rfl; assumption; exact d1_map; exact rfl; exact rfl; refine wl_mv rfl rfl ?_; apply wl_val; apply lk2_none; exact rfl; exact rfl; assumption; assumption; exact rfl; refine wl_mv rfl rfl ?_; apply wl_val; apply opv_extract; exact rfl; exact rfl; exact rfl; apply wl_val; apply opv_extract; exact rfl; exact rfl; exact rfl
      refine wl_var (cs := zF) zeroF sF rfl (fun _ => rfl) (by first | rfl | simp [Value.oneCell'] | simp [ceV, Value.oneCell']) rfl fun g5 _ hg5 a5 hbx => ?_; replace hb := hb.trans (hbx.mono hb.size); clear hbx
      refine wl_as rfl rfl ?_; refine wl_ns ?_; refine wc_sr ?_; refine wl_mv rfl rfl ?_; apply wl_val; apply opv_not; exact rfl; exact rfl; refine wl_ns ?_; apply wc_condTb; exact rfl; exact Bool.not_false; refine wc_sr ?_; refine wl_as rfl rfl ?_; refine wl_ns ?_; refine wc_ret ?_; refine we_seq_ret ?_
      exact we_ret1 rfl rfl ⟨_, rfl, rfl, hb⟩
    · have ht : thereD d n = 0 := by rw [thereD, ← hI.fs, hf]; rfl
      rw [ht]
      refine wc_sr ?_; refine wl_as rfl rfl ?_; refine wl_ns ?_; refine wc_seq ?_; refine wc_sr ?_; refine wl_mv rfl rfl ?_; apply wl_val; apply opv_nilOk; exact rfl; exact rfl; apply wl_val; apply opv_fa; exact fa_sD (by decide); exact rfl; exact rfl; apply wl_val; apply opv_ldX; exact rfl; assumption; exact d1_map; exact rfl; exact rfl; refine wl_mv rfl rfl ?_; apply wl_val; apply lk2_some; exact rfl; exact rfl; assumption; assumption; exact rfl; refine wl_mv rfl rfl ?_; apply wl_val; apply opv_extract; exact rfl; exact rfl; exact rfl; apply wl_val; apply opv_extract; exact rfl; exact rfl; exact rfl
      refine wl_var (cs := flV x.f x.A x.c) zeroF sF rfl (fun _ => rfl) (by first | rfl | simp [Value.oneCell'] | simp [ceV, Value.oneCell']) rfl fun g5 _ hg5 a5 hbx => ?_; replace hb := hb.trans (hbx.mono hb.size); clear hbx
      refine wl_as rfl rfl ?_; refine wl_ns ?_; refine wc_sr ?_; refine wl_mv rfl rfl ?_; apply wl_val; apply opv_not; exact rfl; exact rfl; refine wl_ns ?_; apply wc_condFb; exact rfl; exact Bool.not_true; refine wc_skip ?_; refine we_seq ?_; refine wc_sr ?_; refine wl_as rfl rfl ?_; refine wl_ns ?_; refine wc_ret ?_
      exact we_ret1 rfl rfl ⟨_, rfl, rfl, hb⟩
/-- How many bytes the entries have that are left to come. -/
def lnM (e : ME) : Nat := match e.2.1 with | .agg cs => (match cs[0]? with | some (Value.slice _ n _) => n | _ => 0) | _ => 0
theorem left_step {es : List ME} {seen : List Nat} {y : ME} (hy : y ∈ left es seen) (hn : (es.map fun x => x.2.2).Nodup) (f : ME → Nat) : ((left es seen).map f).sum = f y + ((left es (seen ++ [y.2.2])).map f).sum := by
  induction es with
  | nil => simp [left] at hy
  | cons e es ih =>
    simp only [List.map_cons, List.nodup_cons] at hn
    have hl : ∀ s, left (e :: es) s = if s.contains e.2.2 then left es s else e :: left es s := by
      intro s; unfold left; rw [List.filter_cons]; cases s.contains e.2.2 <;> rfl
    rw [hl] at hy ⊢
    rw [hl]
    by_cases hc : seen.contains e.2.2 = true
    · rw [if_pos hc] at hy ⊢
      rw [if_pos (by simp at hc ⊢; exact .inl hc)]
      exact ih hy hn.2
    · rw [if_neg hc] at hy ⊢
      rcases List.mem_cons.1 hy with rfl | hy
      · rw [if_pos (by simp)]
        have : left es (seen ++ [y.2.2]) = left es seen := by
          unfold left
          apply List.filter_congr
          intro x hx
          have hne : x.2.2 ≠ y.2.2 := fun h => hn.1 (List.mem_map.2 ⟨x, hx, h⟩)
          simp [hne]
        rw [this]; simp
      · have hm : y ∈ es := (List.mem_filter.1 hy).1
        have hne : e.2.2 ≠ y.2.2 := fun h => hn.1 (List.mem_map.2 ⟨y, hm, h.symm⟩)
        rw [if_neg (by simp at hc ⊢; exact ⟨hc, hne⟩)]
        have := ih hy hn.2
        simp only [List.map_cons, List.sum_cons] at this ⊢
        omega
theorem ones_len : ∀ l : List ME, (l.map fun _ => 1).sum = l.length
  | [] => rfl
  | _ :: l => by rw [List.map_cons, List.sum_cons, ones_len l, List.length_cons]; omega
theorem left_nil (es : List ME) : left es [] = es := by simp [left]
theorem used_ln (xs : List FE) : ((xs.map FE.me).map lnM).sum = used (xs.map FE.pl) := by
  simp [used, List.map_map, Function.comp_def, lnM, FE.me, FE.pl, flV]
def UseI (w : World) (d : Dk) (xs : List FE) (r m clk : Nat) : FL → World → Nat → Prop := fun L wr k =>
  ∃ (n last : Nat) (seen : List Nat), L = [(3, .int .i64 (n : Int)), (10, .pointer (some ⟨r, 0, none⟩))] ∧ w.heap.size ≤ r ∧ MI wr r m clk seen last ∧ clk ≤ last ∧ Mp wr m (xs.map FE.me) clk ∧ Below w.heap.size w wr ∧
    n + ((left (xs.map FE.me) seen).map lnM).sum = used d.fs ∧ k = (left (xs.map FE.me) seen).length
theorem used_any {g : Nat} {d : Dk} {w : World} (h : RdD w g d) (hu : used d.fs ≤ 1099511627776) : CallsV Try.prog 26 #[.pointer (some ⟨g, 0, none⟩)] w fun v w' => v = .int .i64 (used d.fs : Nat) ∧ Below w.heap.size w w' := by
  have hb := Below.refl w.heap.size w
  refine calls_in (N := _) Try.func26 rfl Try.ntmps26 rfl ?_; show WC _ _ _ _ _ _
  rcases h with ⟨h1, a1⟩ | ⟨m, xs, clk, hI, a1, hm, hrd⟩
  · rw [h1]
    refine wc_sr ?_; refine wl_as rfl rfl ?_; refine wl_ns ?_; refine wc_sr ?_; refine wl_as rfl rfl ?_; refine wl_ns ?_; refine wc_seq ?_; refine wc_sr ?_; refine wl_mv rfl rfl ?_; apply wl_val; apply opv_nilOk; exact rfl; exact rfl; apply wl_val; apply opv_fa; exact fa_sD (by decide); exact rfl; exact rfl; apply wl_val; apply opv_ldX; exact rfl; assumption; exact d1_map; exact rfl; exact rfl
    refine wl_rangeN tyDM rfl rfl fun r w1 hr hi hbx => ?_
    refine wl_ns ?_; refine wc_block ?_
    refine wc_loop (fun L wr _ => L = [(3, .int .i64 (0 : Nat)), (10, .pointer (some ⟨r, 0, none⟩))] ∧ wr = w1) [(3, .int .i64 (0 : Nat)), (10, .pointer (some ⟨r, 0, none⟩))] 0 ⟨rfl, rfl⟩ ⟨rfl, rfl, trivial⟩ ?_
    rintro _ _ _ ⟨rfl, rfl⟩
    refine wc_sr ?_
    refine wl_nextN rfl hi rfl ?_
    apply wl_val; apply opv_extract; exact rfl; exact rfl; exact rfl; refine wl_ns ?_; refine wc_seq ?_; apply wc_condFb; exact rfl; exact rfl; refine wc_exit ?_; refine we_seq_exit ?_; refine we_loop_exit ?_; refine we_block_exit ?_; refine we_seq ?_; refine wc_sr ?_; refine wl_mv rfl rfl ?_; refine wl_as rfl rfl ?_; refine wl_ns ?_; refine wc_ret ?_
    exact we_ret1 rfl rfl ⟨_, rfl, rfl, hbx⟩
  · have hold : ∀ y ∈ xs.map FE.me, y.2.2 < clk := by intro y hy; obtain ⟨x, hx, rfl⟩ := List.mem_map.1 hy; exact hI.old x hx
    have hbn : ((xs.map FE.me).map fun x => x.2.2).Nodup := by rw [List.map_map]; exact hI.bn
    refine wc_sr ?_; refine wl_as rfl rfl ?_; refine wl_ns ?_; refine wc_sr ?_; refine wl_as rfl rfl ?_; refine wl_ns ?_; refine wc_seq ?_; refine wc_sr ?_; refine wl_mv rfl rfl ?_; apply wl_val; apply opv_nilOk; exact rfl; exact rfl; apply wl_val; apply opv_fa; exact fa_sD (by decide); exact rfl; exact rfl; apply wl_val; apply opv_ldX; exact rfl; assumption; exact d1_map; exact rfl; exact rfl
    refine wl_rangeM tyDM rfl hm rfl fun r w1 hr hi hbx => ?_
    replace hm := hm.bel hbx
    refine wl_ns ?_; refine wc_block ?_
    refine wc_loop (UseI w d xs r m clk) [(3, .int .i64 (0 : Nat)), (10, .pointer (some ⟨r, 0, none⟩))] _ ⟨0, clk, [], rfl, hr, hi, Nat.le_refl _, hm, hbx, by rw [left_nil, used_ln, hI.fs]; omega, rfl⟩ ⟨rfl, rfl, trivial⟩ ?_
    clear hm hi hbx hb hr
    rintro _ w2 k ⟨n, last, seen, rfl, hr, hi, hcl, hm, hb, hsum, rfl⟩
    refine wc_sr ?_
    refine wl_nextM rfl hi hm hold hcl rfl (fun he => ?_) (fun y w3 hy hi2 hgr hsz => ?_)
    · rw [he] at hsum
      have hn : n = used d.fs := by simpa using hsum
      subst hn
      apply wl_val; apply opv_extract; exact rfl; exact rfl; exact rfl; refine wl_ns ?_; refine wc_seq ?_; apply wc_condFb; exact rfl; exact rfl; refine wc_exit ?_; refine we_seq_exit ?_; refine we_loop_exit ?_; refine we_block_exit ?_; refine we_seq ?_; refine wc_sr ?_; refine wl_mv rfl rfl ?_; refine wl_as rfl rfl ?_; refine wl_ns ?_; refine wc_ret ?_
      exact we_ret1 rfl rfl ⟨_, rfl, rfl, hb⟩
    · have hstep := left_step hy hbn lnM
      have hlen := left_step hy hbn fun _ => 1
      rw [ones_len, ones_len] at hlen
      obtain ⟨x, hx, rfl⟩ := List.mem_map.1 (List.mem_filter.1 hy).1
      have hlx : lnM x.me = x.f.data.length := rfl
      have hrw := hi.lt
      replace hm := hm.gr hgr (fun a ha => by cases ha; intro e; have h1 := hi; have h2 := hm; subst e; unfold MI at h1; unfold Mp at h2; rw [h1] at h2; cases h2)
      replace hb := hgr.belowI hb hr hb.size
      have hle : n + x.f.data.length ≤ 1099511627776 := by omega
      apply wl_val; apply opv_extract; exact rfl; exact rfl; exact rfl; refine wl_ns ?_; refine wc_seq ?_; apply wc_condTb; exact rfl; exact rfl; refine wc_skip ?_; refine we_seq ?_; refine wc_block ?_; refine wc_sr ?_
      refine wl_val (opv_entry rfl hi2 hm (List.mem_map.2 ⟨x, hx, rfl⟩) hbn) rfl ?_
      apply wl_val; apply opv_extract; exact rfl; exact rfl; exact rfl
      refine wl_var (cs := flV x.f x.A x.c) zeroF sF rfl (fun _ => rfl) (by first | rfl | simp [Value.oneCell']) rfl fun g5 _ hg5 a5 hbx => ?_
      replace hb := hb.trans (hbx.mono hb.size)
      replace hm := hm.bel hbx
      replace hi2 := hi2.bel hbx
      clear hbx
      unfold flV at a5
      refine wl_ns ?_; refine wc_region ?_; refine wl_mv rfl rfl ?_; apply wl_val; apply opv_fa; exact fa_sF (by decide); exact rfl; exact rfl; apply wl_val; apply opv_ldX; exact rfl; assumption; exact d1_by; exact rfl; exact rfl; apply wl_val; apply opv_len; exact rfl; exact tyB.sl; exact rfl; apply wl_val; apply opv_bin; exact rfl; exact rfl; exact bin_add64 (by omega); exact rfl; refine wl_as rfl rfl ?_; refine wl_nil ?_; refine we_block_norm ?_
      exact we_loop _ _ ⟨n + x.f.data.length, _, _, rfl, hr, hi2, Nat.le_refl _, hm, hb, by rw [← hsum, hstep, hlx]; omega, rfl⟩ (by omega) ⟨by simp [lookT], rfl, trivial⟩
end Go.Proofs.Ytdgagffieobiiaa

/-
  The engine's rules for a region whose order Go leaves open and which makes memory: operations that yield one value in every world of a class are taken first; where one operation alone may come up, it is carried out. Nothing here names the program.
-/
namespace Go.Proofs.Ytdgagffieobiiaa
open Go.RowKit

def WH (P : Program) (N : Nat) (ops : Array Oper) (Q : Exit → Act → World → Prop) (S : World → Prop) (fuel : Nat) (listed : Array Bool) (L : FL) (w : World) : Prop :=
  ∀ a, Has N a L → wpAnyH P .any ops (NoPanic Q) S fuel listed a w
/-- What must hold behind the one operation that could come up. -/
def HeldQ (P : Program) (ops : Array Oper) (Q : Exit → Act → World → Prop) (S : World → Prop) (fuel : Nat) (listed : Array Bool) : Exit → Act → World → Prop :=
  Exit.then (fun a w => S w ∧ wpAnyH P .any ops (NoPanic Q) S fuel listed a w) (NoPanic Q)

section
variable {P : Program} {N : Nat} {ops : Array Oper} {Q : Exit → Act → World → Prop} {S : World → Prop} {fuel : Nat} {listed : Array Bool} {L : FL} {w : World}

theorem wc_held {id : Nat} {l : List Oper} (S : World → Prop) (hm : P.follows .mixedOrders = true) (h : WH P N l.toArray Q S l.length (Array.replicate l.length false) L w.drew) : WC P N (.region id l.toArray true) Q L w := fun a ha =>
  wp_region_noPanic (wp_region_held (S := S) hm (by simpa using h a ha))
/-- The class of the worlds that extend the one ahead of the region. -/
theorem wc_heldB {id : Nat} {l : List Oper} (hm : P.follows .mixedOrders = true) (h : ∀ w1, Below w.heap.size w w1 → WH P N l.toArray Q (Below w.heap.size w) l.length (Array.replicate l.length false) L w1) : WC P N (.region id l.toArray true) Q L w :=
  wc_held (Below w.heap.size w) hm (h _ ((Below.refl _ _).drew))
theorem np {Q : Exit → Act → World → Prop} {a a' : Act} {c : List PanicEntry} {w : World} (h : NoPanic Q (.panic c) a' w) : NoPanic Q (.panic c) a w := by simp [NoPanic] at h
theorem wh_done (hr : Region.ready .any ops listed = []) (h : WE N Q .normal L w) : WH P N ops Q S fuel listed L w := fun a ha => wpAnyH_done (Q := NoPanic Q) hr (NoPanic.normal (h a ha)) fuel
theorem wh_take (i : Nat) {d : Nat} {op : Op} {ty : TypeId} {pos : String} {aft : Array Edge} {v : Value} (hi : ops[i]? = some ⟨some d, op, ty, pos, aft, none⟩) (hs : Region.noSelect ops = true)
    (hf : Region.free .any ops listed i = true) (hr : (Region.ready .any ops listed).contains i = true) (hS : S w) (hv : ∀ w, S w → OpV P op ty L w v w) (hd : Nat.blt d N = true)
    (h : WH P N ops Q S fuel (listed.setIfInBounds i true) ((d, v) :: L) w) : WH P N ops Q S (fuel + 1) listed L w := fun a ha =>
  wpAnyH_take hi hs hf hr (fun _ _ _ h => np h) (.inl ⟨by simp [Region.wanted], fun w hw => hv w hw a.eval _ (fun x u hx => ha.eval hx) rfl rfl⟩) hS (h _ (ha.put hd v))
/-- The same with what must be computed in one piece, behind the guard. -/
def okAt (ops : Array Oper) (listed : Array Bool) (i : Nat) : Bool := Region.noSelect ops && (Region.free .any ops listed i && (Region.ready .any ops listed).contains i)
theorem okAt_of {i : Nat} (h : okAt ops listed i = true) : Region.noSelect ops = true ∧ Region.free .any ops listed i = true ∧ (Region.ready .any ops listed).contains i = true := by
  simpa only [okAt, Bool.and_eq_true] using h
/-- One operation alone may come up. -/
theorem wh_one (i : Nat) {o : Oper} (hr : Region.ready .any ops listed = [i]) (hi : ops[i]? = some o)
    (h : WL P N ops (HeldQ P ops Q S fuel (listed.setIfInBounds i true)) [o] L w) : WH P N ops Q S (fuel + 1) listed L w := fun a ha => by
  refine wpAnyH_all hr (by simp) fun i' hi' => ?_
  obtain rfl : i' = i := by simpa using hi'
  have h' := h a ha
  unfold wpOp
  simp only [hi]
  unfold wpList at h'
  split
  · rename_i hw
    rw [if_pos hw] at h'
    rcases h' with h' | ⟨ha, a0, w0, h'⟩
    · exact .inl (upon_mono (fun a w h => h) (fun e a w he h => by cases e <;> first | exact absurd rfl he | exact h) h')
    · exact .inr ⟨ha, a0, w0, h'⟩
  · rename_i hw
    rw [if_neg hw] at h'
    exact h'
theorem we_held (hS : S w) (h : WH P N ops Q S fuel listed L w) : WE N (HeldQ P ops Q S fuel listed) .normal L w := fun a ha => ⟨hS, h a ha⟩
end
end Go.Proofs.Ytdgagffieobiiaa

/-
  The engine's rules for a region whose order Go leaves open and which stores at its end: up to the first store (number m, for which all others wait) operations that yield one value in every world of a class are taken first; from there on the class no longer counts. Nothing here names the program.
-/
namespace Go.Proofs.Ytdgagffieobiiaa
open Go.RowKit

def AnyM (P : Program) (ops : Array Oper) (Q : Exit → Act → World → Prop) (S : World → Prop) (m : Nat) : Nat → Array Bool → Act → World → Prop
  | 0, listed, a, w => Region.ready .any ops listed = [] ∧ Q .normal a w
  | fuel + 1, listed, a, w =>
    (Region.ready .any ops listed = [] → Q .normal a w) ∧
    ∀ i ∈ Region.ready .any ops listed, wpOp P ops Q i (fun a' w' => ((listed.setIfInBounds i true).getD m false = false → S w') ∧ AnyM P ops Q S m fuel (listed.setIfInBounds i true) a' w') a w
section
variable {P : Program} {ops : Array Oper} {Q : Exit → Act → World → Prop} {S : World → Prop} {m : Nat}
theorem any_of_M : ∀ (fuel : Nat) (listed : Array Bool) (a : Act) (w : World), AnyM P ops Q S m fuel listed a w → wpAny P .any ops Q fuel listed a w
  | 0, _, _, _, h => h
  | fuel + 1, _, _, _, h => ⟨h.1, fun i hi => wpOp_mono (fun a' w' h' => any_of_M fuel _ a' w' h'.2) (h.2 i hi)⟩
theorem anyM_first {i : Nat} {oi om : Oper} {v : Value} (hi : ops[i]? = some oi) (hsel : ∀ (j : Nat) (o : Oper) cs b, ops[j]? = some o → o.op ≠ .select cs b)
    (hQ : ∀ c a w, Q (.panic c) (a.put oi.dst v) w → Q (.panic c) a w) (hm : ops[m]? = some om) (hmi : m ≠ i) (hwait : ∃ e ∈ om.after, Region.binds .any e = true ∧ e.on = i) :
    ∀ (fuel : Nat) (listed : Array Bool) (a : Act) (w : World),
      (∀ j oj, ops[j]? = some oj → j ≠ i → listed.getD j true = false → (∀ e ∈ oj.after, Region.binds .any e = true → e.on ≠ i) → oi.apart ops oj = true) →
      i ∈ Region.ready .any ops listed → YieldsIf P ops S oi v a → S w → listed.getD m false = false →
      AnyM P ops Q S m fuel (listed.setIfInBounds i true) (a.put oi.dst v) w → AnyM P ops Q S m (fuel + 1) listed a w := by
  have hset : ∀ (l : Array Bool) (j : Nat), m ≠ j → (l.setIfInBounds j true).getD m false = l.getD m false := fun l j h => getD_set_ne false (Ne.symm h)
  intro fuel
  induction fuel with
  | zero =>
    intro listed a w _ hr hy hS hlm H
    refine ⟨fun h => (by rw [h] at hr; cases hr), fun j hj => ?_⟩
    by_cases hji : j = i
    · subst hji; exact hy.wpOp hi hS ⟨fun _ => hS, H⟩
    · have := ready_mono hj hji
      rw [H.1] at this
      cases this
  | succ fuel ih =>
    intro listed a w hfree hr hy hS hlm H
    refine ⟨fun h => (by rw [h] at hr; cases hr), fun j hj => ?_⟩
    by_cases hji : j = i
    · subst hji; exact hy.wpOp hi hS ⟨fun _ => hS, H⟩
    · have h1 := H.2 j (ready_mono hj hji)
      obtain ⟨hjun, oj, hoj, hall⟩ := mem_ready.1 hj
      have hnot : ∀ e ∈ oj.after, Region.binds .any e = true → e.on ≠ i := fun e he hb heq => by
        have h1 := hall e he hb
        have h0 := (mem_ready.1 hr).1
        rw [heq] at h1
        rcases Nat.lt_or_ge i listed.size with h' | h'
        · simp [h'] at h0 h1; rw [h0] at h1; cases h1
        · simp [Array.getElem?_eq_none h'] at h1
      have hjm : m ≠ j := by
        rintro rfl
        rw [hm] at hoj; cases hoj
        obtain ⟨e, he, hb, hon⟩ := hwait
        exact hnot e he hb hon
      have h2 := wpOp_putIf hoj (hfree j oj hoj hji hjun hnot) (fun cs b => hsel i oi cs b hi) (fun cs b => hsel j oj cs b hoj) hQ hy h1
      have hfree' : ∀ k ok, ops[k]? = some ok → k ≠ i → (listed.setIfInBounds j true).getD k true = false →
          (∀ e ∈ ok.after, Region.binds .any e = true → e.on ≠ i) → oi.apart ops ok = true := fun k ok hk hki hun hno => by
        refine hfree k ok hk hki ?_ hno
        by_cases hjk : j = k
        · subst hjk; exact hjun
        · rw [getD_set_ne true hjk] at hun; exact hun
      have hl2 : (listed.setIfInBounds j true).getD m false = false := by rw [hset _ _ hjm]; exact hlm
      refine wpOp_mono (fun a' w' h3 => ?_) h2
      have hSw : S w' := h3.2.1 (by rw [hset _ _ hjm, hset _ _ hmi]; exact hlm)
      refine ⟨fun _ => hSw, ih (listed.setIfInBounds j true) a' w' hfree' (ready_mono hr (Ne.symm hji)) h3.1 hSw hl2 ?_⟩
      rw [Array.setIfInBounds_comm _ _ hji]
      exact h3.2.2
end

def waits (ops : Array Oper) (m i : Nat) : Bool := match ops[m]? with
  | some o => o.after.toList.any fun e => Region.binds .any e && Nat.beq e.on i
  | none => false
def okM (ops : Array Oper) (listed : Array Bool) (m i : Nat) : Bool := okAt ops listed i && (waits ops m i && (!Nat.beq m i && !listed.getD m false))
def WM (P : Program) (N : Nat) (ops : Array Oper) (Q : Exit → Act → World → Prop) (S : World → Prop) (m fuel : Nat) (listed : Array Bool) (L : FL) (w : World) : Prop :=
  ∀ a, Has N a L → AnyM P ops (NoPanic Q) S m fuel listed a w
def HeldM (P : Program) (ops : Array Oper) (Q : Exit → Act → World → Prop) (S : World → Prop) (m fuel : Nat) (listed : Array Bool) : Exit → Act → World → Prop :=
  Exit.then (fun a w => (listed.getD m false = false → S w) ∧ AnyM P ops (NoPanic Q) S m fuel listed a w) (NoPanic Q)
section
variable {P : Program} {N : Nat} {ops : Array Oper} {Q : Exit → Act → World → Prop} {S : World → Prop} {m fuel : Nat} {listed : Array Bool} {L : FL} {w : World}
theorem wc_heldM (m : Nat) {id : Nat} {l : List Oper} (hm : P.follows .mixedOrders = true) (h : ∀ w1, Below w.heap.size w w1 → WM P N l.toArray Q (Below w.heap.size w) m l.length (Array.replicate l.length false) L w1) : WC P N (.region id l.toArray true) Q L w := fun a ha =>
  wp_region_noPanic (wp_region_any hm (any_of_M (S := Below w.heap.size w) (m := m) _ _ _ _ (by simpa using h _ ((Below.refl _ _).drew) a ha)))
theorem okM_of {i : Nat} (h : okM ops listed m i = true) : okAt ops listed i = true ∧ (∃ om, ops[m]? = some om ∧ ∃ e ∈ om.after, Region.binds .any e = true ∧ e.on = i) ∧ m ≠ i ∧ listed.getD m false = false := by
  simp only [okM, Bool.and_eq_true, Bool.not_eq_true'] at h
  obtain ⟨h1, h2, h3, h4⟩ := h
  refine ⟨h1, ?_, Nat.ne_of_beq_eq_false h3, h4⟩
  unfold waits at h2
  split at h2
  · rename_i o ho
    obtain ⟨e, he, hb⟩ := List.any_eq_true.1 h2
    rw [Bool.and_eq_true] at hb
    exact ⟨o, ho, e, by simpa using he, hb.1, Nat.eq_of_beq_eq_true hb.2⟩
  · cases h2
theorem wm_done (hr : Region.ready .any ops listed = []) (h : WE N Q .normal L w) : WM P N ops Q S m fuel listed L w := fun a ha => by
  have hq : NoPanic Q .normal a w := NoPanic.normal (h a ha)
  cases fuel with
  | zero => exact ⟨hr, hq⟩
  | succ fuel => exact ⟨fun _ => hq, by rw [hr]; simp⟩
theorem anyM_take {i : Nat} {o : Oper} {v : Value} {a : Act} (hi : ops[i]? = some o) (hk : okM ops listed m i = true) (hS : S w) (hy : YieldsIf P ops S o v a)
    (h : AnyM P ops (NoPanic Q) S m fuel (listed.setIfInBounds i true) (a.put o.dst v) w) : AnyM P ops (NoPanic Q) S m (fuel + 1) listed a w := by
  obtain ⟨h1, ⟨om, h2, h3⟩, h4, h5⟩ := okM_of hk
  obtain ⟨k1, k2, k3⟩ := okAt_of h1
  exact anyM_first hi (Region.noSelect_spec k1) (fun _ _ _ h => np h) h2 h4 h3 fuel listed a w (Region.free_spec hi k2) (by simpa using k3) hy hS h5 h
theorem wm_take (i : Nat) {d : Nat} {op : Op} {ty : TypeId} {pos : String} {aft : Array Edge} {v : Value} (hi : ops[i]? = some ⟨some d, op, ty, pos, aft, none⟩) (hv : ∀ w, S w → OpV P op ty L w v w) (hd : Nat.blt d N = true) (hk : okM ops listed m i = true) (hS : S w)
    (h : WM P N ops Q S m fuel (listed.setIfInBounds i true) ((d, v) :: L) w) : WM P N ops Q S m (fuel + 1) listed L w := fun a ha =>
  anyM_take hi hk hS (.inl ⟨by simp [Region.wanted], fun w hw => hv w hw a.eval _ (fun x u hx => ha.eval hx) rfl rfl⟩) (h _ (ha.put hd v))
/-- One operation alone may come up. -/
theorem wm_one (i : Nat) {o : Oper} (hr : Region.ready .any ops listed = [i]) (hi : ops[i]? = some o)
    (h : WL P N ops (HeldM P ops Q S m fuel (listed.setIfInBounds i true)) [o] L w) : WM P N ops Q S m (fuel + 1) listed L w := fun a ha => by
  refine ⟨fun h0 => absurd (hr ▸ h0) (by simp), hr ▸ fun i' hi' => ?_⟩
  obtain rfl : i' = i := by simpa using hi'
  have h' := h a ha
  unfold wpOp
  simp only [hi]
  unfold wpList at h'
  split
  · rename_i hw
    rw [if_pos hw] at h'
    rcases h' with h' | ⟨ha, a0, w0, h'⟩
    · exact .inl (upon_mono (fun a w h => h) (fun e a w he h => by cases e <;> first | exact absurd rfl he | exact h) h')
    · exact .inr ⟨ha, a0, w0, h'⟩
  · rename_i hw
    rw [if_neg hw] at h'
    exact h'
theorem we_heldM (hS : listed.getD m false = false → S w) (h : WM P N ops Q S m fuel listed L w) : WE N (HeldM P ops Q S m fuel listed) .normal L w := fun a ha => ⟨hS, h a ha⟩
end
end Go.Proofs.Ytdgagffieobiiaa

/-
  Walks over disks: turn, put, New, Arm.
-/
namespace Go.Proofs.Ytdgagffieobiiaa
open Go.RowKit

section
variable {M : BS} {w0 w : World} {H : List Cd} {g : Nat} {d : Dk}
theorem St.flAdd {xs : List FE} {x : FE} (hs : St M w0 w (.ck (flC xs) :: x.cd :: H)) : St M w0 w (.ck (flC (xs ++ [x])) :: H) := by
  refine hs.pack (H1 := [_, _]) _ fun w S h => ?_
  have h1 := Sat.split h (H1 := xs.map FE.cd) fun _ k => k
  show Sat w ((xs ++ [x]).map FE.cd) S
  rw [List.map_append]; exact h1
theorem St.flSet {X Y : List FE} {x y : FE} (hs : St M w0 w (.ck (flC (X ++ x :: Y)) :: y.cd :: H)) : St M w0 w (.ck (flC (X ++ y :: Y)) :: H) := by
  refine hs.pack (H1 := [_, _]) _ fun w S h => ?_
  have h1 := Sat.split h (H1 := (X ++ x :: Y).map FE.cd) fun _ k => k
  show Sat w ((X ++ y :: Y).map FE.cd) S
  rw [List.map_append, List.map_cons] at h1 ⊢
  refine Sat.dropC (c := x.cd) (Sat.permL ?_ h1)
  rw [List.append_assoc, List.cons_append]
  refine (List.perm_middle (a := x.cd)).trans (List.Perm.cons _ ?_)
  rw [← List.append_assoc]
  exact (List.perm_append_comm (l₁ := X.map FE.cd ++ Y.map FE.cd) (l₂ := [y.cd])).trans (show (y.cd :: (X.map FE.cd ++ Y.map FE.cd)).Perm (X.map FE.cd ++ y.cd :: Y.map FE.cd) from List.perm_middle.symm)
end
theorem turn_any {S : BS} {g e : Nat} {d : Dk} {b : Option Nat} {w : World} (h0 : Sat w [.blk g 67 (dkV d b)] S) (hl : d.armed = true → 0 ≤ d.left) (hl2 : d.left ≤ 9223372036854775807) :
    CallsV Try.prog 27 #[.pointer (some ⟨g, 0, none⟩), .int .i64 (e : Nat)] w fun v w' => v = .tuple #[.bool (turnD d e).1, .int .i64 ((turnD d e).2.1 : Nat)] ∧ St S w w' [.blk g 67 (dkV (turnD d e).2.2 b)] := by
  have hs := St.start h0
  refine calls_in (N := _) Try.func27 rfl Try.ntmps27 rfl ?_; show WC _ _ _ _ _ _
  obtain ⟨fs, room, armed, left, dead⟩ := d
  unfold dkV at hs ⊢
  simp only at hs hl hl2
  cases dead with
  | true =>
    refine wc_sr ?_; refine wl_as rfl rfl ?_; refine wl_as rfl rfl ?_; refine wl_ns ?_; refine wc_seq ?_; refine wc_block ?_; refine wc_sr ?_; refine wl_mv rfl rfl ?_; apply wl_val; apply opv_nilOk; exact rfl; exact rfl; apply wl_val; apply opv_fa; exact fa_sD (by decide); exact rfl; exact rfl; apply wl_val; apply opv_ldX; exact rfl; exact hs.ar 0 rfl; exact d1_bool; exact rfl; exact rfl; refine wl_as rfl rfl ?_; refine wl_ns ?_; apply wc_condTb; exact rfl; exact rfl; refine wc_sr ?_; refine wl_as rfl rfl ?_; refine wl_as rfl rfl ?_; refine wl_ns ?_; refine wc_ret ?_; refine we_block_ret ?_; refine we_seq_ret ?_
    exact we_ret2 rfl rfl rfl ⟨_, rfl, rfl, hs⟩
  | false =>
    refine wc_sr ?_; refine wl_as rfl rfl ?_; refine wl_as rfl rfl ?_; refine wl_ns ?_; refine wc_seq ?_; refine wc_block ?_; refine wc_sr ?_; refine wl_mv rfl rfl ?_; apply wl_val; apply opv_nilOk; exact rfl; exact rfl; apply wl_val; apply opv_fa; exact fa_sD (by decide); exact rfl; exact rfl; apply wl_val; apply opv_ldX; exact rfl; exact hs.ar 0 rfl; exact d1_bool; exact rfl; exact rfl; refine wl_as rfl rfl ?_; refine wl_ns ?_; apply wc_condFb; exact rfl; exact rfl; refine wc_sr ?_; refine wl_mv rfl rfl ?_; refine wl_bin rfl rfl bin_neq rfl ?_; refine wl_as rfl rfl ?_; refine wl_ns ?_
    refine wc_cond rfl (fun h1 => ?_) (fun h1 => ?_)
    · have h1' : ¬ e = 0 := by omega
      simp only [turnD, h1', ne_eq, not_false_eq_true, if_true, Bool.false_eq_true, if_false]
      refine wc_sr ?_; refine wl_mv rfl rfl ?_; refine wl_as rfl rfl ?_; refine wl_as rfl rfl ?_; refine wl_ns ?_; refine wc_ret ?_; refine we_block_ret ?_; refine we_seq_ret ?_
      exact we_ret2 rfl rfl rfl ⟨_, rfl, rfl, hs⟩
    · have h1' : e = 0 := by omega
      subst h1'
      cases armed with
      | false =>
        refine wc_sr ?_; refine wl_mv rfl rfl ?_; apply wl_val; apply opv_nilOk; exact rfl; exact rfl; apply wl_val; apply opv_fa; exact fa_sD (by decide); exact rfl; exact rfl; apply wl_val; apply opv_ldX; exact rfl; exact hs.ar 0 rfl; exact d1_bool; exact rfl; exact rfl; refine wl_mv rfl rfl ?_; apply wl_skip; exact rfl; exact rfl; exact rfl; exact bR2; exact rfl; apply wl_skip; exact rfl; exact rfl; exact rfl; exact bR2; exact rfl; apply wl_skip; exact rfl; exact rfl; exact rfl; exact bR2; exact rfl; apply wl_skip; exact rfl; exact rfl; exact rfl; exact bR2; exact rfl; apply wl_skip; exact rfl; exact rfl; exact rfl; exact bR2; exact rfl; apply wl_val; apply opv_pickF; exact rfl; exact rfl; exact rfl; exact rfl; refine wl_as rfl rfl ?_; refine wl_ns ?_; apply wc_condFb; exact rfl; exact rfl; refine wc_sr ?_; refine wl_mv rfl rfl ?_; apply wl_val; apply opv_nilOk; exact rfl; exact rfl; apply wl_val; apply opv_fa; exact fa_sD (by decide); exact rfl; exact rfl; apply wl_val; apply opv_ldX; exact rfl; exact hs.ar 0 rfl; exact d1_bool; exact rfl; exact rfl; refine wl_as rfl rfl ?_; refine wl_ns ?_; apply wc_condFb; exact rfl; exact rfl; refine wc_skip ?_; refine we_block_norm ?_; refine we_seq ?_; refine wc_sr ?_; refine wl_as rfl rfl ?_; refine wl_as rfl rfl ?_; refine wl_ns ?_; refine wc_ret ?_
        exact we_ret2 rfl rfl rfl ⟨_, rfl, rfl, hs⟩
      | true =>
        have hl := hl rfl
        by_cases h2 : left = 0
        · subst h2
          refine wc_sr ?_; refine wl_mv rfl rfl ?_; apply wl_val; apply opv_nilOk; exact rfl; exact rfl; apply wl_val; apply opv_fa; exact fa_sD (by decide); exact rfl; exact rfl; apply wl_val; apply opv_ldX; exact rfl; exact hs.ar 0 rfl; exact d1_bool; exact rfl; exact rfl; refine wl_mv rfl rfl ?_; apply wl_take; exact rfl; exact rfl; exact rfl; exact rfl; refine wl_mv rfl rfl ?_; apply wl_take; exact rfl; exact rfl; exact rfl; exact rfl; apply wl_val; apply opv_nilOk; exact rfl; exact rfl; apply wl_take; exact rfl; exact rfl; exact rfl; exact rfl; apply wl_val; apply opv_fa; exact fa_sD (by decide); exact rfl; exact rfl; apply wl_take; exact rfl; exact rfl; exact rfl; exact rfl; apply wl_val; apply opv_ldX; exact rfl; exact hs.ar 0 rfl; exact d1_int; exact rfl; exact rfl; apply wl_take; exact rfl; exact rfl; exact rfl; exact rfl; refine wl_bin rfl rfl bin_eql rfl ?_; apply wl_val; apply opv_pickT; exact rfl; exact rfl; exact rfl; exact rfl; refine wl_as rfl rfl ?_; refine wl_ns ?_; apply wc_condTb; exact rfl; exact rfl; refine wc_sr ?_; refine wl_mv rfl rfl ?_; apply wl_val; apply opv_nilOk; exact rfl; exact rfl; apply wl_val; apply opv_fa; exact fa_sD (by decide); exact rfl; exact rfl; apply ws_st hs 0; exact rfl; exact rfl; exact d1_bool; exact rfl; exact rfl; exact rfl; clear hs; intro _ hs; dsimp only [setC, List.set] at hs; refine wl_ns ?_; refine wc_sr ?_; refine wl_as rfl rfl ?_; refine wl_as rfl rfl ?_; refine wl_ns ?_; refine wc_ret ?_; refine we_block_ret ?_; refine we_seq_ret ?_
          exact we_ret2 rfl rfl rfl ⟨_, rfl, rfl, hs⟩
        · simp only [turnD, h2, ne_eq, not_true_eq_false, and_false, if_true, Bool.false_eq_true, if_false]
          refine wc_sr ?_; refine wl_mv rfl rfl ?_; apply wl_val; apply opv_nilOk; exact rfl; exact rfl; apply wl_val; apply opv_fa; exact fa_sD (by decide); exact rfl; exact rfl; apply wl_val; apply opv_ldX; exact rfl; exact hs.ar 0 rfl; exact d1_bool; exact rfl; exact rfl; refine wl_mv rfl rfl ?_; apply wl_take; exact rfl; exact rfl; exact rfl; exact rfl; refine wl_mv rfl rfl ?_; apply wl_take; exact rfl; exact rfl; exact rfl; exact rfl; apply wl_val; apply opv_nilOk; exact rfl; exact rfl; apply wl_take; exact rfl; exact rfl; exact rfl; exact rfl; apply wl_val; apply opv_fa; exact fa_sD (by decide); exact rfl; exact rfl; apply wl_take; exact rfl; exact rfl; exact rfl; exact rfl; apply wl_val; apply opv_ldX; exact rfl; exact hs.ar 0 rfl; exact d1_int; exact rfl; exact rfl; apply wl_take; exact rfl; exact rfl; exact rfl; exact rfl; refine wl_bin rfl rfl bin_eql rfl ?_; apply wl_val; apply opv_pickT; exact rfl; exact rfl; exact rfl; exact rfl; refine wl_as rfl rfl ?_; refine wl_ns ?_; apply wc_decF; exact rfl; (with_reducible assumption); refine wc_sr ?_; refine wl_mv rfl rfl ?_; apply wl_val; apply opv_nilOk; exact rfl; exact rfl; apply wl_val; apply opv_fa; exact fa_sD (by decide); exact rfl; exact rfl; apply wl_val; apply opv_ldX; exact rfl; exact hs.ar 0 rfl; exact d1_bool; exact rfl; exact rfl; refine wl_as rfl rfl ?_; refine wl_ns ?_; apply wc_condTb; exact rfl; exact rfl; refine wc_region ?_; refine wl_mv rfl rfl ?_; apply wl_val; apply opv_nilOk; exact rfl; exact rfl; apply wl_val; apply opv_fa; exact fa_sD (by decide); exact rfl; exact rfl; apply wl_val; apply opv_ldX; exact rfl; exact hs.ar 0 rfl; exact d1_int; exact rfl; exact rfl; apply wl_val; apply opv_bin; exact rfl; exact rfl; exact bin_sub64 (by omega); exact rfl; apply wl_val; apply opv_nilOk; exact rfl; exact rfl; apply wl_val; apply opv_fa; exact fa_sD (by decide); exact rfl; exact rfl; apply ws_st hs 0; exact rfl; exact rfl; exact d1_int; exact rfl; exact rfl; exact rfl; clear hs; intro _ hs; dsimp only [setC, List.set] at hs; refine wl_nil ?_; refine we_block_norm ?_; refine we_seq ?_; refine wc_sr ?_; refine wl_as rfl rfl ?_; refine wl_as rfl rfl ?_; refine wl_ns ?_; refine wc_ret ?_
          exact we_ret2 rfl rfl rfl ⟨_, rfl, rfl, hs⟩
theorem put_any {S : BS} {g c : Nat} {d : Dk} {n : List UInt8} {f : Fl} {A : Option Addr} {w : World} (h0 : Sat w [.ck (dkC g d), .ow 5 A f.data.length c (bvs f.data)] S) :
    CallsV Try.prog 29 #[.pointer (some ⟨g, 0, none⟩), str n, .agg (flV f A c).toArray] w fun v w' => v = .tuple #[] ∧ St S w w' [.ck (dkC g (putD d n f))] := by
  have hs := St.start h0
  refine calls_in (N := _) Try.func29 rfl Try.ntmps29 rfl ?_; show WC _ _ _ _ _ _
  refine wc_sr ?_
  refine ws_box (cs := flV f A c) hs rfl rfl ?_; clear hs; intro g5 _ hs
  replace hs := hs.front 1 rfl
  dsimp only [delC] at hs
  rcases hs.opn with ⟨hfs, hs1⟩ | ⟨m, xs, clk, hI, hs1⟩
  · replace hs := hs1
    clear hs1
    unfold dkV at hs
    refine wl_ns ?_; refine wc_seq ?_; refine wc_sr ?_; refine wl_mv rfl rfl ?_; apply wl_val; apply opv_nilOk; exact rfl; exact rfl; apply wl_val; apply opv_fa; exact fa_sD (by decide); exact rfl; exact rfl; apply wl_val; apply opv_ldX; exact rfl; exact hs.ar 0 rfl; exact d1_map; exact rfl; exact rfl; apply wl_val; apply opv_bin; exact rfl; exact rfl; exact bin_eqlMapNN tyDM; exact rfl; refine wl_ns ?_; apply wc_condTb; exact rfl; exact rfl; refine wc_region ?_; refine wl_mv rfl rfl ?_
    refine ws_mkMap hs rfl ?_
    clear hs; intro m _ hs
    apply wl_val; apply opv_nilOk; exact rfl; exact rfl; apply wl_val; apply opv_fa; exact fa_sD (by decide); exact rfl; exact rfl; apply ws_st hs 1; exact rfl; exact rfl; exact d1_map; exact rfl; exact rfl; exact rfl; clear hs; intro _ hs; dsimp only [setC, List.set] at hs; refine wl_ns ?_
    refine wc_heldM 6 mixed fun w_ hS => ?_
    apply wm_take 0; exact rfl; intro _ hw_; apply opv_move; exact rfl; exact rfl; kernel_rfl; exact hS; apply wm_take 1; exact rfl; intro _ hw_; apply opv_nilOk; exact rfl; exact rfl; kernel_rfl; exact hS; apply wm_take 2; exact rfl; intro _ hw_; apply opv_fa; exact fa_sD (by decide); exact rfl; exact rfl; kernel_rfl; exact hS; apply wm_take 3; exact rfl; intro _ hw_; apply opv_ldX; exact rfl; exact Ar.bel (hs.ar 1 rfl) hw_; exact d1_map; exact rfl; exact rfl; kernel_rfl; exact hS; apply wm_take 4; exact rfl; intro _ hw_; apply opv_move; exact rfl; exact rfl; kernel_rfl; exact hS; apply wm_take 5; exact rfl; intro _ hw_; apply opv_loadX; exact rfl; exact Ar.bel (hs.ar 2 rfl) hw_; exact sF; exact rfl; kernel_rfl; exact hS
    replace hs := hs.below hS
    refine wm_one 6 (by kernel_rfl) rfl ?_; dsimp only [List.getElem_toArray, List.getElem_cons_succ, List.getElem_cons_zero]
    refine ws_mput hs 0 rfl tyDM tyStrD rfl rfl rfl ?_
    clear hs; intro _ hs
    refine wl_nil ?_
    refine we_heldM (fun h => absurd h (by decide)) ?_
    refine wm_done (by kernel_rfl) ?_
    have hI : DkI (putF n f d.fs) ([] ++ [⟨n, A, c, f, 0⟩]) 1 := DkI.new (fs := d.fs) (xs := []) (clk := 0) ⟨by rw [hfs]; rfl, List.nodup_nil, (fun _ h => absurd h List.not_mem_nil), List.nodup_nil⟩ List.not_mem_nil (by rw [hfs]; rfl) A c f
    replace hs := (((hs.drop 2 rfl).front 2 rfl).pack (H1 := [_]) (.ck (flC [⟨n, A, c, f, 0⟩])) fun _ _ h => h).front 1 rfl
    dsimp only [delC] at hs
    replace hs := (hs.front 2 rfl)
    dsimp only [delC] at hs
    exact we_end0 rfl ⟨_, rfl, rfl, St.cls (d := putD d n f) (m := m) (clk := 1) (xs := [⟨n, A, c, f, 0⟩]) hs hI⟩
  · replace hs := hs1
    clear hs1
    unfold dkV at hs
    refine wl_ns ?_; refine wc_seq ?_; refine wc_sr ?_; refine wl_mv rfl rfl ?_; apply wl_val; apply opv_nilOk; exact rfl; exact rfl; apply wl_val; apply opv_fa; exact fa_sD (by decide); exact rfl; exact rfl; apply wl_val; apply opv_ldX; exact rfl; exact hs.ar 0 rfl; exact d1_map; exact rfl; exact rfl; apply wl_val; apply opv_bin; exact rfl; exact rfl; exact bin_eqlMapNil tyDM; exact rfl; refine wl_ns ?_; apply wc_condFb; exact rfl; exact rfl; refine wc_skip ?_; refine we_seq ?_
    refine wc_heldM 6 mixed fun w_ hS => ?_
    apply wm_take 0; exact rfl; intro _ hw_; apply opv_move; exact rfl; exact rfl; kernel_rfl; exact hS; apply wm_take 1; exact rfl; intro _ hw_; apply opv_nilOk; exact rfl; exact rfl; kernel_rfl; exact hS; apply wm_take 2; exact rfl; intro _ hw_; apply opv_fa; exact fa_sD (by decide); exact rfl; exact rfl; kernel_rfl; exact hS; apply wm_take 3; exact rfl; intro _ hw_; apply opv_ldX; exact rfl; exact Ar.bel (hs.ar 0 rfl) hw_; exact d1_map; exact rfl; exact rfl; kernel_rfl; exact hS; apply wm_take 4; exact rfl; intro _ hw_; apply opv_move; exact rfl; exact rfl; kernel_rfl; exact hS; apply wm_take 5; exact rfl; intro _ hw_; apply opv_loadX; exact rfl; exact Ar.bel (hs.ar 3 rfl) hw_; exact sF; exact rfl; kernel_rfl; exact hS
    replace hs := hs.below hS
    refine wm_one 6 (by kernel_rfl) rfl ?_; dsimp only [List.getElem_toArray, List.getElem_cons_succ, List.getElem_cons_zero]
    refine ws_mput hs 1 rfl tyDM tyStrD rfl rfl rfl ?_
    clear hs; intro _ hs
    refine wl_nil ?_
    refine we_heldM (fun h => absurd h (by decide)) ?_
    refine wm_done (by kernel_rfl) ?_
    dsimp only [setC] at hs
    rcases fnd_split n xs 0 with ⟨h1, h2, h3⟩ | ⟨X, x, Y, rfl, h2, h3, h4, h5⟩
    · rw [hI.fs] at h2
      rw [mput_new h1 A c f] at hs
      replace hs := ((hs.drop 3 rfl).front 3 rfl).front 3 rfl
      dsimp only [delC] at hs
      replace hs := St.flAdd (x := ⟨n, A, c, f, clk⟩) hs
      replace hs := (hs.front 2 rfl).front 2 rfl
      dsimp only [delC] at hs
      exact we_end0 rfl ⟨_, rfl, rfl, St.cls (d := putD d n f) (m := m) hs (hI.new h3 h2 A c f)⟩
    · rw [mput_old h4 h2 A c f] at hs
      replace hs := ((hs.drop 3 rfl).front 3 rfl).front 3 rfl
      dsimp only [delC] at hs
      replace hs := St.flSet (y := ⟨n, A, c, f, x.born⟩) hs
      replace hs := (hs.front 2 rfl).front 2 rfl
      dsimp only [delC] at hs
      exact we_end0 rfl ⟨_, rfl, rfl, St.cls (d := putD d n f) (m := m) hs (hI.old' h2 h3 A c f)⟩
end Go.Proofs.Ytdgagffieobiiaa

/-
  Plain functions on lists of bytes, for layer 1 (codec), and what is true of them. Nothing here names the program or the model.
-/
namespace Go.Proofs.Ytdgagffieobiiaa

/-- A number in groups of seven bits. -/
def putU (n : Nat) : List UInt8 := if n < 128 then [UInt8.ofNat n] else UInt8.ofNat (n % 128 + 128) :: putU (n / 128)

/-- The number at the head of a list: n is what has been read, i how many bytes; value, count, error. -/
def getAux : Nat → Nat → List UInt8 → Nat × Nat × Nat
  | _, _, [] => (0, 0, 5)
  | i, n, x :: r =>
    if (i = 9 ∧ 1 < x.toNat) ∨ (x.toNat = 0 ∧ 0 < i) then (0, 0, 3)
    else if x.toNat < 128 then (n + x.toNat * 128 ^ i, i + 1, 0)
    else getAux (i + 1) (n + (x.toNat - 128) * 128 ^ i) r

/-- The number at a place: value, place behind it, error. -/
def getU (b : List UInt8) (p : Int) : Nat × Int × Nat :=
  if p < 0 ∨ (b.length : Int) < p then (0, 0, 1) else
  match getAux 0 0 (b.drop p.toNat) with
  | (n, k, 0) => (n, p + k, 0)
  | (_, _, e) => (0, 0, e)

theorem take_get {l : List UInt8} {k : Nat} {b : UInt8} (h : l[k]? = some b) : l.take (k + 1) = l.take k ++ [b] := by
  rw [List.take_add_one, h]; rfl

end Go.Proofs.Ytdgagffieobiiaa

/-
  Walks over PutU of the program and of the reference, inside, and GetU of both.
-/
namespace Go.Proofs.Ytdgagffieobiiaa
open Go.RowKit

def PutI (w : World) (n : Nat) (s : Nat) : FL → World → Nat → Prop := fun L wr m =>
  ∃ (pre : List UInt8) (A : Option Addr) (c : Nat), L = [(0, .int .u64 m), (s, .slice A pre.length c)] ∧ OwB wr w.heap.size A c pre ∧ putU n = pre ++ putU m ∧ Below w.heap.size w wr ∧ m < 2 ^ (64 - 7 * pre.length) ∧ 7 * pre.length ≤ 63
theorem PutI.start {w : World} {n s : Nat} (hn : n < 2 ^ 64) : PutI w n s [(0, .int .u64 n), (s, .slice none 0 0)] w n :=
  ⟨[], none, 0, rfl, Ow.nil _ _ _, rfl, Below.refl _ _, hn, by decide⟩
theorem PutI.next {w wr w' : World} {n m s : Nat} {pre : List UInt8} {A A' : Option Addr} {c c' : Nat} {v : Value} (hown : OwB wr w.heap.size A c pre) (heq : putU n = pre ++ putU m) (hbel : Below w.heap.size w wr) (hm : m < 2 ^ (64 - 7 * pre.length)) (hl : 7 * pre.length ≤ 63)
    (h : 128 ≤ m) (ho : Ow w' w.heap.size 5 A' (pre.length + 1) c' (bvs pre ++ [v])) (hg : Gr wr w' A) (hv : bv (UInt8.ofNat (m % 128 + 128)) = v) :
    PutI w n s [(0, .int .u64 (m / 128 : Nat)), (s, .slice A' (pre.length + 1) c')] w' (m / 128) := by
  have h7 : 8 ≤ 64 - 7 * pre.length := by
    rcases Nat.lt_or_ge 7 (64 - 7 * pre.length) with h' | h'
    · exact h'
    · have := Nat.lt_of_lt_of_le hm (Nat.pow_le_pow_right (by decide) h'); omega
  refine ⟨pre ++ [UInt8.ofNat (m % 128 + 128)], A', c', by simp, OwB.snoc ho hv, ?_, hg.below hbel hown (Nat.le_refl _) hbel.size, ?_, ?_⟩
  · rw [heq, putU, if_neg (by omega)]; simp
  · refine Nat.div_lt_of_lt_mul ?_
    rw [show 128 = 2 ^ 7 from rfl, ← Nat.pow_add]
    simp only [List.length_append, List.length_cons, List.length_nil]
    rw [show 7 + (64 - 7 * (pre.length + (0 + 1))) = 64 - 7 * pre.length by omega]
    exact hm
  · simp; omega
theorem PutI.last {w wr w' : World} {n m : Nat} {pre : List UInt8} {A A' : Option Addr} {c c' : Nat} {v : Value} (hown : OwB wr w.heap.size A c pre) (heq : putU n = pre ++ putU m) (hbel : Below w.heap.size w wr)
    (h : m < 128) (ho : Ow w' w.heap.size 5 A' (pre.length + 1) c' (bvs pre ++ [v])) (hg : Gr wr w' A) (hv : bv (UInt8.ofNat m) = v) :
    RetB w (putU n) (.slice A' (pre.length + 1) c') w' := by
  have e : putU n = pre ++ [UInt8.ofNat m] := by rw [heq, putU, if_pos h]
  rw [e]
  exact ⟨A', c', by simp, OwB.snoc ho hv, hg.below hbel hown (Nat.le_refl _) hbel.size⟩

end Go.Proofs.Ytdgagffieobiiaa

/-
  Walks over the smallest functions of layer 1: Copy, Equal, Cmp of the references, PutU of both.
-/
namespace Go.Proofs.Ytdgagffieobiiaa
open Go.RowKit

theorem equal_any {A B : Option Addr} {n m c d : Nat} {xs ys : List UInt8} {w : World} (hx : RdB w A xs) (hy : RdB w B ys) (hn : xs.length = n) (hm : ys.length = m) (hlx : xs.length ≤ maxLen) :
    CallsV Try.prog 36 #[.slice A n c, .slice B m d] w fun v w' => v = .bool (decide (xs = ys)) ∧ Below w.heap.size w w' := by
  subst hn hm
  simp only [maxLen] at hlx
  refine calls_in (N := _) Try.func36 rfl Try.ntmps36 rfl ?_; show WC _ _ _ _ _ _
  refine wc_sr ?_; refine wl_as rfl rfl ?_; refine wl_ns ?_; refine wc_seq ?_; refine wc_sr ?_; refine wl_mv rfl rfl ?_; apply wl_val; apply opv_len; exact rfl; exact tyB.sl; exact rfl; refine wl_mv rfl rfl ?_; apply wl_val; apply opv_len; exact rfl; exact tyB.sl; exact rfl; refine wl_bin rfl rfl bin_neq rfl ?_; refine wl_ns ?_
  refine wc_cond rfl (fun h => ?_) (fun h => ?_)
  · refine wc_sr ?_; refine wl_as rfl rfl ?_; refine wl_ns ?_; refine wc_ret ?_; refine we_seq_ret ?_
    refine we_ret1 rfl rfl ⟨_, rfl, ?_, Below.refl _ _⟩
    have hne : ¬ xs = ys := fun e => h (by rw [e])
    simp [hne]
  · have hlen : xs.length = ys.length := by omega
    refine wc_skip ?_; refine we_seq ?_; refine wc_seq ?_; refine wc_sr ?_; refine wl_as rfl rfl ?_; refine wl_ns ?_; refine wc_block ?_
    refine wc_loop (fun L wr m => ∃ k : Nat, L = [(0, .slice A xs.length c), (1, .slice B ys.length d), (5, .int .i64 k)] ∧ k ≤ xs.length ∧ xs.take k = ys.take k ∧ Below w.heap.size w wr ∧ m = xs.length - k)
      [(0, .slice A xs.length c), (1, .slice B ys.length d), (5, .int .i64 (0 : Nat))] xs.length ⟨0, rfl, by omega, rfl, Below.refl _ _, rfl⟩ ⟨rfl, rfl, rfl, trivial⟩ ?_
    rintro _ wr m ⟨k, rfl, hk, heq, hbel, rfl⟩
    have hrx := RdB.below hx hbel
    have hry := RdB.below hy hbel
    refine wc_seq ?_; refine wc_sr ?_; refine wl_mv rfl rfl ?_; refine wl_mv rfl rfl ?_; apply wl_val; apply opv_len; exact rfl; exact tyB.sl; exact rfl; refine wl_bin rfl rfl bin_lss rfl ?_; refine wl_ns ?_
    refine wc_cond rfl (fun h1 => ?_) (fun h1 => ?_)
    · refine wc_skip ?_; refine we_seq ?_; refine wc_seq ?_; refine wc_block ?_; refine wc_seq ?_
      refine wc_drawB mixed (by kernel_rfl) ?_
      apply wq_val; intro _ hw_; apply opv_move; exact rfl; exact rfl; apply wq_val; intro _ hw_; apply opv_move; exact rfl; exact rfl
      refine wq_by tyB rfl rfl hrx rfl (by omega) rfl rfl fun p1 x hxk => ?_
      apply wq_val; intro _ hw_; apply opv_move; exact rfl; exact rfl; apply wq_val; intro _ hw_; apply opv_move; exact rfl; exact rfl
      refine wq_by tyB rfl rfl hry rfl (by omega) rfl rfl fun p2 y hyk => ?_
      apply wq_val; intro _ hw_; apply opv_bin; exact rfl; exact rfl; exact bin_neq; exact rfl; refine wq_nil fun w1 hw1 => ?_
      have hb1 := hbel.trans (hw1.mono hbel.size)
      refine we_seq ?_
      refine wc_cond rfl (fun h2 => ?_) (fun h2 => ?_)
      · refine wc_sr ?_; refine wl_as rfl rfl ?_; refine wl_ns ?_; refine wc_ret ?_; refine we_block_ret ?_; refine we_seq_ret ?_; refine we_loop_ret ?_; refine we_block_ret ?_; refine we_seq_ret ?_
        refine we_ret1 rfl rfl ⟨_, rfl, ?_, hb1⟩
        have hne : ¬ xs = ys := fun e => by subst e; rw [hxk] at hyk; cases hyk; exact h2 rfl
        simp [hne]
      · refine wc_skip ?_; refine we_block_norm ?_; refine we_seq ?_; refine wc_region ?_; refine wl_mv rfl rfl ?_; apply wl_val; apply opv_bin; exact rfl; exact rfl; exact bin_add64 (by omega); exact rfl; refine wl_as rfl rfl ?_; refine wl_nil ?_
        refine we_loop [(0, .slice A xs.length c), (1, .slice B ys.length d), (5, .int .i64 (k + 1 : Nat))] (xs.length - (k + 1)) ⟨k + 1, rfl, by omega, ?_, hb1, rfl⟩ (by omega) ⟨rfl, rfl, by simp [lookT], trivial⟩
        have : x = y := UInt8.toNat_inj.1 (by omega)
        rw [take_get hxk, take_get hyk, heq, this]
    · refine wc_exit ?_; refine we_seq_exit ?_; refine we_loop_exit ?_; refine we_block_exit ?_; refine we_seq ?_; refine wc_sr ?_; refine wl_as rfl rfl ?_; refine wl_ns ?_; refine wc_ret ?_
      refine we_ret1 rfl rfl ⟨_, rfl, ?_, hbel⟩
      have hkl : k = xs.length := by omega
      rw [hkl, List.take_length, hlen, List.take_length] at heq
      simp [heq]
end Go.Proofs.Ytdgagffieobiiaa

/-
  Plain functions on lists of bytes, for layer 1 (codec): bytes with an end are read back; numbers of eight bytes; frames; what stands next. Nothing here names the program or the model.
-/
namespace Go.Proofs.Ytdgagffieobiiaa

/-! ### What stands next -/
end Go.Proofs.Ytdgagffieobiiaa

/-
  Walks over bytes.Clone and over Next of the program and of the reference.
-/
namespace Go.Proofs.Ytdgagffieobiiaa
open Go.RowKit

theorem rd_none {w : World} {xs : List UInt8} (h : RdB w none xs) : xs = [] := by
  cases xs with
  | nil => rfl
  | cons x r => obtain ⟨_, _, h, _⟩ := h.2 (by simp); cases h

theorem clone_any {A : Option Addr} {n c : Nat} {xs : List UInt8} {w : World} (hr : RdB w A xs) (hn : xs.length = n) (hl : xs.length ≤ 140737488355328) : CallsV Try.prog 28 #[.slice A n c] w (RetB w xs) := by
  subst hn
  refine calls_in (N := _) Try.func28 rfl Try.ntmps28 rfl ?_; show WC _ _ _ _ _ _
  refine wc_sr ?_; refine wl_as rfl rfl ?_; refine wl_ns ?_; refine wc_seq ?_; refine wc_sr ?_; refine wl_mv rfl rfl ?_
  refine wl_val (opv_bin rfl rfl (bin_eqlSliceNil Try.underlying30)) rfl ?_
  refine wl_ns ?_
  refine wc_condB rfl (fun h => ?_) (fun h => ?_)
  · obtain rfl : A = none := by cases A <;> simp at h ⊢
    obtain rfl := rd_none hr
    refine wc_sr ?_; refine wl_as rfl rfl ?_; refine wl_ns ?_; refine wc_ret ?_; refine we_seq_ret ?_
    exact we_ret1 rfl rfl ⟨_, rfl, none, 0, rfl, Ow.nil _ _ _, Below.refl _ _⟩
  · refine wc_skip ?_; refine we_seq ?_; refine wc_sr ?_
    refine wl_bs (vs := []) tyB trivial rfl (by decide) rfl fun A1 w1 ho hb _ => ?_
    refine wl_mv rfl rfl ?_
    refine wl_app tyB rfl ho rfl (RdB.below hr hb) (bvs_one _) (by omega) (by simp only [maxLen]; omega) hb.size rfl fun A' c' w' ho' hg _ => ?_
    refine wl_as rfl rfl ?_; refine wl_ns ?_; refine wc_ret ?_
    refine we_ret1 rfl rfl ⟨_, rfl, A', c', by simp, ?_, ?_⟩
    · have := ho'; simp only [Nat.zero_add, List.nil_append] at this; exact this
    · exact hg.below hb ho (Nat.le_refl _) hb.size

end Go.Proofs.Ytdgagffieobiiaa

/-
  Lists of lists of bytes: read, or rows of the call's own that lie apart; and the rules to read one and to append one.
-/
namespace Go.Proofs.Ytdgagffieobiiaa
open Go.RowKit

section
variable {P : Program} {N : Nat} {ops : Array Oper} {Q : Exit → Act → World → Prop} {rest : List Oper} {L : FL} {w : World} {t e : TypeId} {z : Value} {bytes : Nat}
theorem Rd.in_len {A : Option Addr} {n k : Nat} {xs : List Value} {u : Value} (hr : Rd w A n xs) (h : xs[k]? = some u) : k < n := by
  have := (List.getElem?_eq_some_iff.1 h).1; have := hr.1; omega
theorem wl_elK {d1 d2 : Nat} {x i : Operand} {ty1 ty2 : TypeId} {p1 p2 : String} {f1 f2 : Array Edge} {A : Option Addr} {n c kk : Nat} {ik : IntKind} {q : Int} {xs : List Value} {u : Value} (T : Row1 P t e z bytes)
    (hx : look L x = some (Value.slice A n c)) (hi : look L i = some (.int ik q)) (hr : Rd w A n xs) (hq : q = (kk : Int)) (hb : xs[kk]? = some u) (hd1 : Nat.blt d1 N = true) (hd2 : Nat.blt d2 N = true)
    (h : ∀ p, WL P N ops Q rest ((d2, u) :: (d1, p) :: L) w) :
    WL P N ops Q (⟨some d1, .indexAddr t x i, ty1, p1, f1, none⟩ :: ⟨some d2, .load e (.tmp d1), ty2, p2, f2, none⟩ :: rest) L w :=
  wl_el T hx hi hr hq (hr.in_len hb) hd1 hd2 fun p u' hu => by rw [hb] at hu; cases hu; exact h p
theorem wq_elK {w0 : World} {Qa : Act → Prop} {d1 d2 : Nat} {x i : Operand} {ty1 ty2 : TypeId} {p1 p2 : String} {f1 f2 : Array Edge} {A : Option Addr} {n c kk : Nat} {ik : IntKind} {q : Int} {xs : List Value} {u : Value} (T : Row1 P t e z bytes)
    (hx : look L x = some (Value.slice A n c)) (hi : look L i = some (.int ik q)) (hr : Rd w0 A n xs) (hq : q = (kk : Int)) (hb : xs[kk]? = some u) (hd1 : Nat.blt d1 N = true) (hd2 : Nat.blt d2 N = true)
    (h : ∀ p, WQ P N ops (Below w0.heap.size w0) Qa rest ((d2, u) :: (d1, p) :: L)) :
    WQ P N ops (Below w0.heap.size w0) Qa (⟨some d1, .indexAddr t x i, ty1, p1, f1, none⟩ :: ⟨some d2, .load e (.tmp d1), ty2, p2, f2, none⟩ :: rest) L :=
  wq_el T hx hi hr hq (hr.in_len hb) hd1 hd2 fun p u' hu => by rw [hb] at hu; cases hu; exact h p
end

/-- The slice reads as a list of lists of bytes. -/
def RdBB (w : World) (A : Option Addr) (rows : List (List UInt8)) : Prop :=
  ∃ vs : List Value, Rd w A rows.length vs ∧ ∀ (i : Nat) (r : List UInt8), rows[i]? = some r → ∃ (A' : Option Addr) (c' : Nat), vs[i]? = some (Value.slice A' r.length c') ∧ RdB w A' r ∧ r.length ≤ c'
/-- It is a row of the call's own, of rows of its own that all lie apart. -/
def OwBB (w : World) (base : Nat) (A : Option Addr) (c : Nat) (rows : List (List UInt8)) : Prop :=
  ∃ vs : List Value, Ow w base 30 A rows.length c vs ∧ (∀ (i : Nat) (r : List UInt8), rows[i]? = some r → ∃ (A' : Option Addr) (c' : Nat), vs[i]? = some (Value.slice A' r.length c') ∧ OwB w base A' c' r ∧ (∀ a a', A = some a → A' = some a' → a'.block ≠ a.block)) ∧
    vs.Pairwise fun v v' => ∀ g, v.ownBlock = some g → v'.ownBlock ≠ some g

section
variable {w w' : World} {A : Option Addr} {base c : Nat} {rows : List (List UInt8)}
theorem RdBB.below (h : RdBB w A rows) (hb : Below w.heap.size w w') : RdBB w' A rows := by
  obtain ⟨vs, hv, hr⟩ := h
  refine ⟨vs, hv.below hb, fun i r hi => ?_⟩
  obtain ⟨A', c', h1, h2, h3⟩ := hr i r hi
  exact ⟨A', c', h1, h2.below hb, h3⟩
theorem RdBB.at (h : RdBB w A rows) {k : Nat} {r : List UInt8} (hk : rows[k]? = some r) : ∃ (vs : List Value) (A' : Option Addr) (c' : Nat), Rd w A rows.length vs ∧ vs[k]? = some (Value.slice A' r.length c') ∧ RdB w A' r ∧ r.length ≤ c' := by
  obtain ⟨vs, hv, hr⟩ := h
  obtain ⟨A', c', h1, h2, h3⟩ := hr k r hk
  exact ⟨vs, A', c', hv, h1, h2, h3⟩
theorem OwBB.rd (h : OwBB w base A c rows) : RdBB w A rows := by
  obtain ⟨vs, ho, hr, _⟩ := h
  refine ⟨vs, ho.rd, fun i r hi => ?_⟩
  obtain ⟨A', c', h1, h2, _⟩ := hr i r hi
  exact ⟨A', c', h1, OwB.rd h2, h2.cap⟩
theorem OwBB.below (h : OwBB w base A c rows) (hb : Below w.heap.size w w') : OwBB w' base A c rows := by
  obtain ⟨vs, ho, hr, hs⟩ := h
  refine ⟨vs, Ow.below ho hb (Nat.le_refl _), fun i r hi => ?_, hs⟩
  obtain ⟨A', c', h1, h2, h3⟩ := hr i r hi
  exact ⟨A', c', h1, h2.below hb, h3⟩
theorem OwBB.nil (w : World) (base : Nat) : OwBB w base none 0 [] := ⟨[], Ow.nil _ _ _, by simp, List.Pairwise.nil⟩
theorem OwBB.empty (h : Ow w base 30 A 0 c []) : OwBB w base A c [] := ⟨[], h, by simp, List.Pairwise.nil⟩
theorem OwBB.mono {base' : Nat} (h : OwBB w base A c rows) (hb : base' ≤ base) : OwBB w base' A c rows := by
  obtain ⟨vs, ho, hr, hs⟩ := h
  refine ⟨vs, ho.mono hb, fun i r hi => ?_, hs⟩
  obtain ⟨A', c', h1, h2, h3⟩ := hr i r hi
  exact ⟨A', c', h1, Ow.mono h2 hb, h3⟩
theorem OwBB.cap (h : OwBB w base A c rows) : rows.length ≤ c := by
  obtain ⟨vs, h, _⟩ := h
  rcases h.2 with ⟨hv, hn⟩ | ⟨g, cap, cur, hv, _, _, hnc, _⟩
  · omega
  · injection hv with _ _ hc; omega
theorem OwBB.blocks {vs : List Value} (ho : Ow w base 30 A rows.length c vs) (hr : ∀ (i : Nat) (r : List UInt8), rows[i]? = some r → ∃ (A' : Option Addr) (c' : Nat), vs[i]? = some (Value.slice A' r.length c') ∧ OwB w base A' c' r ∧ (∀ a a', A = some a → A' = some a' → a'.block ≠ a.block)) :
    ∀ v ∈ vs, ∀ g, v.ownBlock = some g → g < w.heap.size := by
  intro v hv g hg
  obtain ⟨i, hi, rfl⟩ := List.getElem_of_mem hv
  have hl : i < rows.length := by have := ho.len; omega
  obtain ⟨A', c', h1, h2, _⟩ := hr i _ (List.getElem?_eq_getElem hl)
  rw [List.getElem?_eq_getElem hi] at h1
  simp only [Option.some.injEq] at h1
  rw [h1, ownBlock_slice] at hg
  cases A' with
  | none => simp at hg
  | some a' => have := (Ow.lt h2 a' rfl).2; simp at hg; omega
end

/-- append(rows, row): the row has been made behind the rows. -/
theorem wl_pushR {N : Nat} {ops : Array Oper} {Q : Exit → Act → World → Prop} {rest : List Oper} {L : FL} {w0 w wf : World} {d1 d2 : Nat} {s x : Operand} {ty1 ty2 : TypeId} {p1 p2 : String} {f1 f2 : Array Edge}
    {base n c c1 : Nat} {A A1 : Option Addr} {rows : List (List UInt8)} {r : List UInt8} (hown : OwBB w0 base A c rows) (hb : Below w0.heap.size w0 w) (hbase : base ≤ w0.heap.size) (hnew : OwB w w0.heap.size A1 c1 r) (hbel : Below base wf w)
    (hn : rows.length = n) (hbytes : (n + 1) * 24 ≤ 140737488355328) (hs : look L s = some (Value.slice A n c)) (hx : look L x = some (Value.slice A1 r.length c1))
    (hs1 : look ((d1, .slice (some ⟨w.heap.size, 0, none⟩) 1 1) :: L) s = some (Value.slice A n c)) (hd1 : Nat.blt d1 N = true) (hd2 : Nat.blt d2 N = true)
    (h : ∀ p A' c' w', OwBB w' base A' c' (rows ++ [r]) → Below base wf w' → WL Try.prog N ops Q rest ((d2, .slice A' (n + 1) c') :: (d1, p) :: L) w') :
    WL Try.prog N ops Q (⟨some d1, .buildSlice 22 1 #[(0, x)], ty1, p1, f1, none⟩ :: ⟨some d2, .call { callee := .builtin .append, args := #[s, .tmp d1], argTypes := #[22, 22] }, ty2, p2, f2, none⟩ :: rest) L w := by
  subst hn
  obtain ⟨vs, ho, hr, hsep⟩ := hown
  have hlt := OwBB.blocks ho hr
  have ho1 := Ow.below ho hb (Nat.le_refl _)
  have hsz := hb.size
  refine wl_push (vs := [.slice A1 r.length c1]) tyBB hs ho1 ⟨rfl, hx, rfl, trivial⟩ rfl (by decide) hs1 hbytes (by simp only [maxLen]; omega) (by omega) hd1 hd2 fun p A' c' w' ho' hg hat => ?_
  refine h p A' c' w' ⟨vs ++ [.slice A1 r.length c1], by rw [List.length_append]; exact ho', ?_, ?_⟩ ?_
  · intro i q hi
    have hlen := ho.len
    rw [List.getElem?_append] at hi
    by_cases hil : i < rows.length
    · rw [if_pos hil] at hi
      obtain ⟨A2, c2, h1, h2, h3⟩ := hr i q hi
      refine ⟨A2, c2, by rw [List.getElem?_append_left (by omega)]; exact h1, Ow.gr (base' := 0) (e' := 0) (Ow.below h2 hb (Nat.le_refl _)) hg (fun a b ha hb' => h3 _ _ hb' ha), ?_⟩
      rintro a a' rfl rfl
      have hl2 := (Ow.lt h2 a' rfl).2
      rcases hat with hat | hat
      · cases A with
        | none => simp at hat
        | some aa => simp only [Option.map_some, Option.some.injEq] at hat; rw [hat]; exact h3 aa a' rfl rfl
      · have := hat a rfl; omega
    · rw [if_neg hil] at hi
      have hi0 : i = rows.length := by
        have := (List.getElem?_eq_some_iff.1 hi).1
        simp at this; omega
      subst hi0
      simp at hi
      subst hi
      have hne : ∀ a b, A1 = some a → A = some b → a.block ≠ b.block := by
        rintro a b rfl rfl
        have := (Ow.lt hnew a rfl).1
        have := (Ow.lt ho b rfl).2
        omega
      refine ⟨A1, c1, by rw [← hlen]; simp, Ow.mono (Ow.gr (base' := 0) (e' := 0) hnew hg hne) hbase, ?_⟩
      rintro a a' rfl rfl
      have hl2 := (Ow.lt hnew a' rfl).2
      rcases hat with hat | hat
      · cases A with
        | none => simp at hat
        | some aa => simp only [Option.map_some, Option.some.injEq] at hat; rw [hat]; exact hne a' aa rfl rfl
      · have := hat a rfl; omega
  · rw [List.pairwise_append]
    refine ⟨hsep, List.pairwise_singleton _ _, fun v hv v' hv' g hg1 hg2 => ?_⟩
    simp only [List.mem_singleton] at hv'
    subst hv'
    have h1 := hlt v hv g hg1
    rw [ownBlock_slice] at hg2
    cases A1 with
    | none => simp at hg2
    | some a1 => have := (Ow.lt hnew a1 rfl).1; simp at hg2; omega
  · exact hg.below hbel ho1 (Nat.le_refl _) (by omega)
end Go.Proofs.Ytdgagffieobiiaa

/-
  Plain laws of lists: tuples of written lists, frames, numbers of eight bytes. No program in sight.
-/
namespace Go.Proofs.Ytdgagffieobiiaa

/-! ### Tuples -/

theorem take_getR {α : Type} {l : List α} {k : Nat} {b : α} (h : l[k]? = some b) : l.take (k + 1) = l.take k ++ [b] := by
  rw [List.take_add_one, h]; rfl
theorem flat_mem : ∀ {l : List (List UInt8)} {k : Nat} {x : List UInt8}, l[k]? = some x → x.length ≤ l.flatten.length
  | [], _, _, h => by simp at h
  | y :: l, 0, x, h => by
    simp only [List.getElem?_cons_zero, Option.some.injEq] at h
    subst h
    rw [List.flatten_cons, List.length_append]; omega
  | y :: l, k + 1, x, h => by
    simp only [List.getElem?_cons_succ] at h
    have := flat_mem h
    rw [List.flatten_cons, List.length_append]; omega
end Go.Proofs.Ytdgagffieobiiaa
