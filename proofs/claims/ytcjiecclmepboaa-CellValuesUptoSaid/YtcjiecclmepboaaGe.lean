
/-
  Rows whose elements have several cells, and whose cells may lead on to other rows: read, and held in rows of the call's own; the rules to index, load, write out, append and cut them. Nothing here names the program.
-/
import Derived.Test.YtcjiecclmepboaaSr
import Derived.Deep.MidRow
namespace Go.Proofs.Ytcjiecclmepboaa
open Go.RowKit

/-- What some cells hold, as far as the blocks of a set tell it. -/
structure El where
  P : World → (Nat → Prop) → List Value → Prop
  move : ∀ {w w' : World} {S S' : Nat → Prop} {cs : List Value}, P w S cs → w.heap.size ≤ w'.heap.size → (∀ b, b < w.heap.size → S b → S' b ∧ w'.heap[b]? = w.heap[b]?) → P w' S' cs
/-- All blocks. -/
def All : Nat → Prop := fun _ => True
/-- All blocks but that of an address. -/
def But (A : Option Addr) : Nat → Prop := fun b => ∀ a, A = some a → b ≠ a.block
section
variable {w w' : World} {S S' : Nat → Prop} {cs : List Value} {E : El}
theorem El.mono (h : E.P w S cs) (hs : ∀ b, b < w.heap.size → S b → S' b) : E.P w S' cs := E.move h (Nat.le_refl _) fun b hb h => ⟨hs b hb h, rfl⟩
theorem El.all (h : E.P w S cs) : E.P w All cs := El.mono h fun _ _ _ => trivial
theorem El.below (h : E.P w S cs) (hb : Below w.heap.size w w') : E.P w' S cs := E.move h hb.size fun b hlt h => ⟨h, hb.block b hlt⟩
theorem El.belowI {B : Nat} (h : E.P w S cs) (hb : Below B w w') (hs : ∀ b, b < w.heap.size → S b → b < B) : E.P w' S cs := E.move h hb.size fun b hlt h => ⟨h, hb.block b (hs b hlt h)⟩
theorem El.gr {A : Option Addr} (h : E.P w S cs) (g : Gr w w' A) (hs : ∀ b, b < w.heap.size → S b → But A b) : E.P w' S cs := E.move h g.size fun b hlt h => ⟨h, g.block b hlt fun hk => by
  cases A with
  | none => simp at hk
  | some a => simp at hk; exact hs b hlt h a rfl hk⟩
end
/-- A cell that holds just this. -/
def vEl (u : Value) : El where
  P _ _ cs := cs = [u]
  move h _ _ := h
/-- A cell that holds bytes. -/
def byEl (xs : List UInt8) : El where
  P w S cs := ∃ (A : Option Addr) (c : Nat), cs = [.slice A xs.length c] ∧ xs.length ≤ c ∧ Rd w A xs.length (bvs xs) ∧ (∀ a, A = some a → 0 < xs.length → S a.block)
  move := by
    rintro w w' S S' cs ⟨A, c, rfl, hc, hr, hs⟩ hz h
    refine ⟨A, c, rfl, hc, ⟨hr.1, fun hn => ?_⟩, fun a ha hn => ?_⟩
    · obtain ⟨b, o, rfl, hb, hcell⟩ := hr.2 hn
      exact ⟨b, o, rfl, by omega, fun j u hu => (World.cell?_of_block (a := ⟨b, o + j, none⟩) (h b hb (hs _ rfl hn)).2).trans (hcell j u hu)⟩
    · obtain ⟨b, o, rfl, hb, _⟩ := hr.2 hn
      cases ha
      exact (h b hb (hs _ rfl hn)).1
theorem byEl.mk {w : World} {A : Option Addr} {c : Nat} {xs : List UInt8} {S : Nat → Prop} (hr : Rd w A xs.length (bvs xs)) (hc : xs.length ≤ c) (hs : ∀ a, A = some a → 0 < xs.length → S a.block) : (byEl xs).P w S [.slice A xs.length c] := ⟨A, c, rfl, hc, hr, hs⟩

/-- Groups of k cells hold the elements. -/
def Grp (k : Nat) (w : World) (S : Nat → Prop) (els : List El) (css : List (List Value)) : Prop :=
  css.length = els.length ∧ ∀ (i : Nat) cs, css[i]? = some cs → cs.length = k ∧ ∃ E, els[i]? = some E ∧ E.P w S cs
section
variable {k : Nat} {w w' : World} {S S' : Nat → Prop} {els : List El} {css : List (List Value)}
theorem Grp.move (h : Grp k w S els css) (hz : w.heap.size ≤ w'.heap.size) (hm : ∀ b, b < w.heap.size → S b → S' b ∧ w'.heap[b]? = w.heap[b]?) : Grp k w' S' els css :=
  ⟨h.1, fun i cs hi => by obtain ⟨h1, E, h2, h3⟩ := h.2 i cs hi; exact ⟨h1, E, h2, E.move h3 hz hm⟩⟩
theorem Grp.mono (h : Grp k w S els css) (hs : ∀ b, b < w.heap.size → S b → S' b) : Grp k w S' els css := h.move (Nat.le_refl _) fun b hb h => ⟨hs b hb h, rfl⟩
theorem Grp.all (h : Grp k w S els css) : Grp k w All els css := h.mono fun _ _ _ => trivial
theorem Grp.below (h : Grp k w S els css) (hb : Below w.heap.size w w') : Grp k w' S els css := h.move hb.size fun b hlt h => ⟨h, hb.block b hlt⟩
theorem Grp.gr {A : Option Addr} (h : Grp k w S els css) (g : Gr w w' A) (hs : ∀ b, b < w.heap.size → S b → But A b) : Grp k w' S els css := h.move g.size fun b hlt h => ⟨h, g.block b hlt fun hk => by
  cases A with
  | none => simp at hk
  | some a => simp at hk; exact hs b hlt h a rfl hk⟩
theorem Grp.len (h : Grp k w S els css) : css.flatten.length = els.length * k := by
  rw [← h.1]
  have h2 : ∀ cs ∈ css, cs.length = k := fun cs hc => by obtain ⟨i, hi, rfl⟩ := List.getElem_of_mem hc; exact (h.2 i _ (List.getElem?_eq_getElem hi)).1
  clear h
  induction css with
  | nil => simp
  | cons x css ih =>
    simp only [List.flatten_cons, List.length_append, List.length_cons, ih fun cs hc => h2 cs (List.mem_cons_of_mem _ hc), h2 x List.mem_cons_self]
    rw [Nat.add_mul]; omega
theorem Grp.nil (k : Nat) (w : World) (S : Nat → Prop) : Grp k w S [] [] := ⟨rfl, by simp⟩
theorem Grp.append {els' : List El} {css' : List (List Value)} (h : Grp k w S els css) (h' : Grp k w S els' css') : Grp k w S (els ++ els') (css ++ css') := by
  refine ⟨by simp [h.1, h'.1], fun i cs hi => ?_⟩
  rw [List.getElem?_append] at hi ⊢
  rw [← h.1]
  split at hi
  · rename_i hlt
    rw [if_pos hlt]; exact h.2 i cs hi
  · rename_i hlt
    rw [if_neg hlt]; exact h'.2 _ cs hi
theorem Grp.one {cs : List Value} {E : El} (h : E.P w S cs) (hk : cs.length = k) : Grp k w S [E] [cs] := by
  refine ⟨rfl, fun i cs' hi => ?_⟩
  match i, hi with
  | 0, hi => simp at hi; subst hi; exact ⟨hk, E, rfl, h⟩
theorem Grp.take (h : Grp k w S els css) (n : Nat) : Grp k w S (els.take n) (css.take n) := by
  refine ⟨by simp [h.1], fun i cs hi => ?_⟩
  rw [List.getElem?_take] at hi ⊢
  split at hi
  · rename_i hlt; rw [if_pos hlt]; exact h.2 i cs hi
  · cases hi
theorem Grp.drop (h : Grp k w S els css) (n : Nat) : Grp k w S (els.drop n) (css.drop n) := by
  refine ⟨by simp [h.1], fun i cs hi => ?_⟩
  rw [List.getElem?_drop] at hi ⊢
  exact h.2 _ cs hi
theorem Grp.at (h : Grp k w S els css) {i : Nat} {E : El} (hi : els[i]? = some E) : ∃ cs, css[i]? = some cs ∧ cs.length = k ∧ E.P w S cs := by
  have hlt : i < css.length := by rw [h.1]; exact (List.getElem?_eq_some_iff.1 hi).1
  obtain ⟨h1, E', h2, h3⟩ := h.2 i _ (List.getElem?_eq_getElem hlt)
  rw [hi] at h2; cases h2
  exact ⟨_, List.getElem?_eq_getElem hlt, h1, h3⟩
theorem flat_get : ∀ {css : List (List Value)} {i j : Nat} {cs : List Value} {u : Value}, (∀ cs ∈ css, cs.length = k) → css[i]? = some cs → cs[j]? = some u → css.flatten[i * k + j]? = some u
  | [], i, j, cs, u, _, hi, _ => by simp at hi
  | x :: css, 0, j, cs, u, hk, hi, hj => by
    simp at hi; subst hi
    have hl := (List.getElem?_eq_some_iff.1 hj).1
    rw [List.flatten_cons, Nat.zero_mul, Nat.zero_add, List.getElem?_append_left hl]; exact hj
  | x :: css, i + 1, j, cs, u, hk, hi, hj => by
    have hx := hk x List.mem_cons_self
    rw [List.flatten_cons, List.getElem?_append_right (by rw [hx, Nat.add_mul]; omega), hx, show (i + 1) * k + j - k = i * k + j by rw [Nat.add_mul]; omega]
    exact flat_get (fun cs hc => hk cs (List.mem_cons_of_mem _ hc)) (by simpa using hi) hj
theorem Grp.ks (h : Grp k w S els css) : ∀ cs ∈ css, cs.length = k := fun cs hc => by obtain ⟨i, hi, rfl⟩ := List.getElem_of_mem hc; exact (h.2 i _ (List.getElem?_eq_getElem hi)).1
theorem flat_take (n : Nat) : ∀ {css : List (List Value)}, (∀ cs ∈ css, cs.length = k) → css.flatten.take (n * k) = (css.take n).flatten := by
  induction n with
  | zero => intro css _; simp
  | succ n ih =>
    intro css hk
    cases css with
    | nil => simp
    | cons x css =>
      have hx := hk x List.mem_cons_self
      rw [List.flatten_cons, List.take_succ_cons, List.flatten_cons, List.take_append, hx, List.take_of_length_le (by rw [hx, Nat.add_mul]; omega), show (n + 1) * k - k = n * k by rw [Nat.add_mul]; omega, ih fun cs hc => hk cs (List.mem_cons_of_mem _ hc)]
theorem flat_drop (n : Nat) : ∀ {css : List (List Value)}, (∀ cs ∈ css, cs.length = k) → css.flatten.drop (n * k) = (css.drop n).flatten := by
  induction n with
  | zero => intro css _; simp
  | succ n ih =>
    intro css hk
    cases css with
    | nil => simp
    | cons x css =>
      have hx := hk x List.mem_cons_self
      rw [List.flatten_cons, List.drop_succ_cons, List.drop_append, hx, List.drop_of_length_le (by rw [hx, Nat.add_mul]; omega), show (n + 1) * k - k = n * k by rw [Nat.add_mul]; omega, ih fun cs hc => hk cs (List.mem_cons_of_mem _ hc)]
      simp
end

/-- The slice at A reads as these elements, of k cells each. -/
def RdR (k : Nat) (w : World) (S : Nat → Prop) (A : Option Addr) (els : List El) : Prop :=
  ∃ css, Grp k w S els css ∧ Rd w A (els.length * k) css.flatten ∧ (∀ a, A = some a → 0 < els.length → S a.block)
/-- It is a row of the call's own, the elements' own memory lying in blocks of S and in other blocks than the row. -/
def OwR (k : Nat) (e : TypeId) (w : World) (base : Nat) (S : Nat → Prop) (A : Option Addr) (c : Nat) (els : List El) : Prop :=
  ∃ css, Grp k w (fun b => S b ∧ But A b) els css ∧ w.ownsRow base e k (.slice A els.length c) els.length css.flatten
/-- The cells from offset o of block b on. -/
def Wi (w : World) (b o : Nat) (cs : List Value) : Prop := b < w.heap.size ∧ w.rangeAt b o cs
section
variable {k : Nat} {w w' : World} {S S' : Nat → Prop} {els : List El} {A : Option Addr} {e : TypeId} {base c : Nat}
theorem Wi.below {b o : Nat} {cs : List Value} (h : Wi w b o cs) (hb : Below w.heap.size w w') : Wi w' b o cs := ⟨Nat.lt_of_lt_of_le h.1 hb.size, fun j u hu => (World.cell?_of_block (a := ⟨b, o + j, none⟩) (hb.block b h.1)).trans (h.2 j u hu)⟩
theorem Wi.gr {b o : Nat} {cs : List Value} (h : Wi w b o cs) (g : Gr w w' A) (hne : But A b) : Wi w' b o cs := ⟨Nat.lt_of_lt_of_le h.1 g.size, fun j u hu => (World.cell?_of_block (a := ⟨b, o + j, none⟩) (g.block b h.1 fun hk => by
  cases A with
  | none => simp at hk
  | some a => simp at hk; exact hne a rfl hk)).trans (h.2 j u hu)⟩
theorem Rd.sizes {n : Nat} {xs : List Value} (h : Rd w A n xs) (hz : w.heap.size ≤ w'.heap.size) (hm : ∀ a, A = some a → 0 < n → a.block < w.heap.size → w'.heap[a.block]? = w.heap[a.block]?) : Rd w' A n xs := ⟨h.1, fun hn => by
  obtain ⟨b, o, rfl, hb, hc⟩ := h.2 hn
  exact ⟨b, o, rfl, by omega, fun j u hu => (World.cell?_of_block (a := ⟨b, o + j, none⟩) (hm ⟨b, o, none⟩ rfl hn hb)).trans (hc j u hu)⟩⟩
theorem RdR.move (hk : 0 < k) (h : RdR k w S A els) (hz : w.heap.size ≤ w'.heap.size) (hm : ∀ b, b < w.heap.size → S b → S' b ∧ w'.heap[b]? = w.heap[b]?) : RdR k w' S' A els := by
  obtain ⟨css, h1, h2, h3⟩ := h
  have hpos : 0 < els.length → 0 < els.length * k := fun hn => Nat.mul_pos hn hk
  refine ⟨css, h1.move hz hm, h2.sizes hz fun a ha hn hb => (hm _ hb (h3 a ha ?_)).2, fun a ha hn => ?_⟩
  · rcases Nat.eq_zero_or_pos els.length with h0 | h0
    · rw [h0] at hn; simp at hn
    · exact h0
  · obtain ⟨b, o, rfl, hb, _⟩ := h2.2 (hpos hn)
    cases ha
    exact (hm b hb (h3 _ rfl hn)).1
theorem RdR.below (h : RdR k w S A els) (hb : Below w.heap.size w w') : RdR k w' S A els := by
  obtain ⟨css, h1, h2, h3⟩ := h
  exact ⟨css, h1.below hb, h2.below hb, h3⟩
theorem RdR.all (h : RdR k w S A els) : RdR k w All A els := by
  obtain ⟨css, h1, h2, h3⟩ := h
  exact ⟨css, h1.all, h2, fun _ _ _ => trivial⟩
theorem RdR.nil (A : Option Addr) : RdR k w S A [] := ⟨[], Grp.nil _ _ _, by simpa using Rd.nil w A, fun _ _ h => absurd h (by simp)⟩
theorem RdR.at (hk : 0 < k) (h : RdR k w S A els) {i : Nat} {E : El} (hi : els[i]? = some E) : ∃ b o cs, A = some ⟨b, o, none⟩ ∧ S b ∧ cs.length = k ∧ E.P w S cs ∧ Wi w b (o + i * k) cs := by
  obtain ⟨css, h1, h2, h3⟩ := h
  have hlt := (List.getElem?_eq_some_iff.1 hi).1
  have hn : 0 < els.length := by omega
  obtain ⟨b, o, rfl, hb, hc⟩ := h2.2 (Nat.mul_pos hn hk)
  obtain ⟨cs, hcs, hl, hp⟩ := h1.at hi
  exact ⟨b, o, cs, rfl, h3 _ rfl hn, hl, hp, hb, fun j u hu => by rw [Nat.add_assoc]; exact hc _ u (flat_get h1.ks hcs hu)⟩
/-- The address of the part of a slice from l on. -/
def cutK (A : Option Addr) (c l k : Nat) : Option Addr := if c = l then A else A.map (·.add (l * k))
theorem RdR.cut {n l h : Nat} (hr : RdR k w S A els) (hn : els.length = n) (h1 : l ≤ h) (h2 : h ≤ n) (hc : n ≤ c) : RdR k w S (cutK A c l k) ((els.take h).drop l) := by
  subst hn
  obtain ⟨css, g1, g2, g3⟩ := hr
  have hle : h ≤ css.length := by rw [g1.1]; exact h2
  refine ⟨(css.take h).drop l, (g1.take h).drop l, ⟨?_, fun hp => ?_⟩, fun a ha hp => ?_⟩
  · rw [((g1.take h).drop l).len]
  · have hlt : l < h := by
      rcases Nat.lt_or_ge l h with h' | h'
      · exact h'
      · exfalso
        have : ((els.take h).drop l).length = 0 := by simp; omega
        rw [this] at hp; simp at hp
    have hk : 0 < k := by
      rcases Nat.eq_zero_or_pos k with h0 | h0
      · rw [h0] at hp; simp at hp
      · exact h0
    obtain ⟨b, o, rfl, hb, hcell⟩ := g2.2 (Nat.mul_pos (by omega) hk)
    have hne : ¬ c = l := by omega
    refine ⟨b, o + l * k, by simp [cutK, hne, Addr.add_lit], hb, fun j u hu => ?_⟩
    rw [← flat_drop l (fun cs hcs => g1.ks cs (List.mem_of_mem_take hcs)), ← flat_take h g1.ks, List.getElem?_drop, List.getElem?_take] at hu
    split at hu
    · rw [Nat.add_assoc]; exact hcell _ u hu
    · cases hu
  · have hlt : l < h := by simp at hp; omega
    have hne : ¬ c = l := by omega
    unfold cutK at ha
    rw [if_neg hne] at ha
    cases A with
    | none => simp at ha
    | some a0 =>
      have : a.block = a0.block := by
        simp only [Option.map_some, Option.some.injEq] at ha
        rw [← ha]; unfold Addr.add; split <;> rfl
      rw [this]
      exact g3 a0 rfl (by omega)
theorem OwR.len_le (h : OwR k e w base S A c els) : els.length ≤ c := by
  obtain ⟨css, _, h2⟩ := h
  rcases h2.2 with ⟨hv, hn⟩ | ⟨g, cap, cur, hv, _, _, hnc, _⟩
  · omega
  · injection hv with _ _ hc; omega
theorem OwR.lt (h : OwR k e w base S A c els) : ∀ a, A = some a → base ≤ a.block ∧ a.block < w.heap.size := fun a ha => by
  obtain ⟨css, _, h2⟩ := h
  exact World.ownsRow.lt h2 a.block (by rw [ha]; rfl)
theorem own_rd {n : Nat} {xs : List Value} (h : w.ownsRow base e k (.slice A n c) n xs) : Rd w A (n * k) xs := by
  refine ⟨h.1, fun hn => ?_⟩
  rcases h.2 with ⟨hv, h0⟩ | ⟨g, cap, cur, hv, _, hg, _⟩
  · rw [h0] at hn; simp at hn
  · injection hv with hA hn' hc
    subst hA
    have hcells := World.ownsRow.cells h (g := g) rfl
    exact ⟨g, 0, rfl, (Array.getElem?_eq_some_iff.1 hg).1, fun j u hu => by have := hcells j u hu; simpa [Addr.add_lit] using this⟩
theorem OwR.rd (h : OwR k e w base S A c els) : RdR k w All A els := by
  obtain ⟨css, h1, h2⟩ := h
  exact ⟨css, h1.all, own_rd h2, fun _ _ _ => trivial⟩
theorem OwR.rdS (h : OwR k e w base S A c els) (hs : ∀ b, base ≤ b → S b) : RdR k w S A els := by
  have hl := OwR.lt h
  obtain ⟨css, h1, h2⟩ := h
  exact ⟨css, h1.mono fun b _ hb => hb.1, own_rd h2, fun a ha _ => hs _ (hl a ha).1⟩
theorem OwR.below (h : OwR k e w base S A c els) (hb : Below w.heap.size w w') : OwR k e w' base S A c els := by
  have hl := OwR.lt h
  obtain ⟨css, h1, h2⟩ := h
  refine ⟨css, h1.below hb, World.ownsRow.kept (row := none) h2 ⟨hb.os, hb.tape, hb.output, hb.size, fun k hk _ => hb.block k hk⟩ ?_⟩
  cases A with
  | none => exact .inl rfl
  | some a => exact .inr (by simp [Value.ownBlock])
theorem OwR.gr {B : Option Addr} (h : OwR k e w base S A c els) (g : Gr w w' B) (hs : ∀ b, b < w.heap.size → S b → But A b → But B b) (hA : ∀ a, A = some a → But B a.block) : OwR k e w' base S A c els := by
  obtain ⟨css, h1, h2⟩ := h
  refine ⟨css, h1.gr g fun b hb h => hs b hb h.1 h.2, World.ownsRow.kept h2 g ?_⟩
  cases A with
  | none => exact .inl rfl
  | some a =>
    refine .inr ?_
    cases B with
    | none => simp [Value.ownBlock]
    | some b => simpa [Value.ownBlock] using hA a rfl b rfl
theorem OwR.mono {base' : Nat} (h : OwR k e w base S A c els) (hb : base' ≤ base) (hs : ∀ b, b < w.heap.size → S b → S' b) : OwR k e w base' S' A c els := by
  obtain ⟨css, h1, h2⟩ := h
  refine ⟨css, h1.mono fun b hl h => ⟨hs b hl h.1, h.2⟩, h2.1, ?_⟩
  rcases h2.2 with hn | ⟨g, cap, cur, hv, hg, rest⟩
  · exact .inl hn
  · exact .inr ⟨g, cap, cur, hv, Nat.le_trans hb hg, rest⟩
theorem OwR.nil (w : World) (base : Nat) (S : Nat → Prop) : OwR k e w base S none 0 [] := ⟨[], Grp.nil _ _ _, World.ownsRow_nil w base e k⟩
theorem OwR.nilc (h : w.ownsRow base e k (.slice A 0 c) 0 []) : OwR k e w base S A c [] := ⟨[], Grp.nil _ _ _, h⟩
end

/-- A slice type whose elements have k cells. -/
structure RowK (P : Program) (t e : TypeId) (k : Nat) (z : Value) (bytes : Nat) : Prop where
  sl : P.underlying t = some (.slice e)
  info : (P.info? e).map (fun i => (i.zero, i.size, i.bytes)) = some (some z, k, bytes)
  zs : z.cells.size = k
  pos : 0 < k
section
variable {P : Program} {N : Nat} {ops : Array Oper} {Q : Exit → Act → World → Prop} {rest : List Oper} {L : FL} {w : World} {t e : TypeId} {z : Value} {bytes k : Nat}
theorem RowK.size (T : RowK P t e k z bytes) (w : World) : (sizeOf e).run P w = .ok k w := by
  obtain ⟨i, hi, _, hs, _⟩ := info_parts T.info
  simp [sizeOf, typeInfo, hi, hs]
theorem RowK.zero (T : RowK P t e k z bytes) (w : World) : (zeroValue e).run P w = .ok z w := by
  obtain ⟨i, hi, hz, _, _⟩ := info_parts T.info
  simp [zeroValue, typeInfo, hi, hz]
theorem opv_idxG {x i : Operand} {ty : TypeId} {b o : Nat} {n c kk : Nat} {ik : IntKind} {q : Int} (T : RowK P t e k z bytes) (hx : look L x = some (.slice (some ⟨b, o, none⟩) n c)) (hi : look L i = some (.int ik q)) (hq : q = (kk : Int)) (hk : kk < n) :
    OpV P (.indexAddr t x i) ty L w (.pointer (some ⟨b, o + kk * k, none⟩)) w := fun ρ op hρ ho _ => by
  subst hq
  simp [execOp, ho, Instr.indexAt, asIntOf, hρ x _ hx, hρ i _ hi, run_underlying T.sl, hk, T.size, Addr.add_lit]
/-- A whole element, of several cells. -/
theorem opv_ldG {x : Operand} {ty : TypeId} {b o : Nat} {cs : List Value} (hx : look L x = some (.pointer (some ⟨b, o, none⟩))) (hr : Wi w b o cs) (S : StT P e cs.length) : OpV P (.load e x) ty L w (.agg cs.toArray) w := fun ρ op hρ ho _ => by
  obtain ⟨fs, hu⟩ := S.get
  have := run_loadVar_mid (P := P) w b o e cs _ hr.2 hu rfl S.size
  simp [execOp, ho, Instr.loadAt, Instr.sureAddr, hρ x _ hx, this]
/-- One of its cells. -/
theorem opv_ldW {x : Operand} {ty : TypeId} {b o j : Nat} {cs : List Value} {u : Value} (hx : look L x = some (.pointer (some ⟨b, o + j, none⟩))) (hr : Wi w b o cs) (E : Cell1 P e) (hj : cs[j]? = some u) : OpV P (.load e x) ty L w u w :=
  opv_loadC E hx (hr.2 j u hj)
theorem opv_ldW0 {x : Operand} {ty : TypeId} {b o : Nat} {cs : List Value} {u : Value} (hx : look L x = some (.pointer (some ⟨b, o, none⟩))) (hr : Wi w b o cs) (E : Cell1 P e) (hj : cs[0]? = some u) : OpV P (.load e x) ty L w u w :=
  opv_loadC E hx (hr.2 0 u hj)
theorem opv_sliceK {x : Operand} {lo hi : Option Operand} {ty : TypeId} {A : Option Addr} {n c l h : Nat} (T : RowK P t e k z bytes) (hx : look L x = some (.slice A n c)) (hl : SLo L lo l) (hh : SHi L n hi h) (h1 : l ≤ h) (h2 : h ≤ c) :
    OpV P (.slice t x lo hi none) ty L w (.slice (cutK A c l k) (h - l) (c - l)) w := fun ρ o hρ ho _ => by
  have e1 : (Instr.sliceBounds true n c (lo.map ρ) (hi.map ρ) none).run P w = .ok (l, h, c) w := by
    cases lo with
    | none =>
      cases hi with
      | none => have a := hl; have b := hh; simp only [SLo, SHi] at a b; subst a b; simp [Instr.sliceBounds]
      | some y =>
        have a := hl; obtain ⟨k, b⟩ := hh; simp only [SLo] at a; subst a
        simp [Instr.sliceBounds, Instr.sliceBound, hρ y _ b, asIntOf, h2]
    | some u =>
      obtain ⟨k, a⟩ := hl
      cases hi with
      | none => have b := hh; simp only [SHi] at b; subst b; simp [Instr.sliceBounds, Instr.sliceBound, hρ u _ a, asIntOf, h1]
      | some y =>
        obtain ⟨k', b⟩ := hh
        simp [Instr.sliceBounds, Instr.sliceBound, hρ u _ a, hρ y _ b, asIntOf, h1, h2]
  unfold execOp
  simp only [ho, Instr.sliceAt, Instr.slice, Sem.run_bind, run_underlying T.sl, Result.andThen_ok, hρ x _ hx, Option.map_none, e1, T.size]
  simp [cutK]
theorem wl_slK {d : Nat} {x : Operand} {lo hi : Option Operand} {ty : TypeId} {pos : String} {aft : Array Edge} {A : Option Addr} {n c l h : Nat} (T : RowK P t e k z bytes) (hx : look L x = some (.slice A n c)) (hl : SLo L lo l) (hh : SHi L n hi h) (h1 : l ≤ h) (h2 : h ≤ c)
    (hd : Nat.blt d N = true) (hK : WL P N ops Q rest ((d, .slice (cutK A c l k) (h - l) (c - l)) :: L) w) :
    WL P N ops Q (⟨some d, .slice t x lo hi none, ty, pos, aft, none⟩ :: rest) L w :=
  wl_val (opv_sliceK T hx hl hh h1 h2) hd hK

/-- The parts of a slice that a statement writes out, each of k cells. -/
def GLooks (L : FL) (k : Nat) : Nat → List (Nat × Operand) → List (List Value) → Prop
  | _, [], [] => True
  | j, (i, x) :: ps, cs :: css => i = j ∧ (∃ v, look L x = some v ∧ v.cells = cs.toArray) ∧ cs.length = k ∧ GLooks L k (j + 1) ps css
  | _, _, _ => False
theorem put_at (cs : List Value) : ∀ (off : Nat) (cur : Array Value), off + cs.length ≤ cur.size →
    ((cs.toArray.zipIdx.foldl (fun cs (x : Value × Nat) => cs.setIfInBounds (off + x.2) x.1) cur)).toList = cur.toList.take off ++ cs ++ cur.toList.drop (off + cs.length) := by
  intro off cur h
  have key : ∀ (cs : List Value) (j : Nat) (cur : Array Value), off + j + cs.length ≤ cur.size →
      (((cs.zipIdx j).foldl (fun cs (x : Value × Nat) => cs.setIfInBounds (off + x.2) x.1) cur)).toList = cur.toList.take (off + j) ++ cs ++ cur.toList.drop (off + j + cs.length) := by
    intro cs
    induction cs with
    | nil => intro j cur h; simp
    | cons x cs ih =>
      intro j cur h
      simp only [List.length_cons] at h
      rw [List.zipIdx_cons, List.foldl_cons, ih (j + 1) _ (by simp; omega)]
      rw [Array.toList_setIfInBounds]
      apply List.ext_getElem?
      intro i
      have m1 : min (off + (j + 1)) cur.size = off + (j + 1) := by omega
      have m2 : min (off + j) cur.size = off + j := by omega
      simp only [List.getElem?_append, List.length_append, List.length_take, List.length_set, List.getElem?_take, List.getElem?_set, List.getElem?_drop, List.length_cons, Array.length_toList, m1, m2]
      rcases Nat.lt_trichotomy i (off + j) with hi | hi | hi
      · have e1 : i < off + (j + 1) := by omega
        have e2 : i < off + (j + 1) + cs.length := by omega
        have e3 : i < off + j + (cs.length + 1) := by omega
        have e4 : ¬ off + j = i := by omega
        simp [hi, e1, e2, e3, e4]
      · subst hi
        have e1 : off + j < off + (j + 1) := by omega
        have e2 : off + j < off + (j + 1) + cs.length := by omega
        have e5 : off + j < cur.size := by omega
        simp [e1, e2, e5]
      · have e1 : ¬ i < off + (j + 1) := by omega
        have e2 : ¬ i < off + j := by omega
        have e6 : i - (off + j) = (i - (off + (j + 1))) + 1 := by omega
        by_cases e7 : i < off + (j + 1) + cs.length
        · have e8 : i < off + j + (cs.length + 1) := by omega
          rw [if_pos e7, if_neg e1, if_pos e8, if_neg e2, e6]; simp
        · have e8 : ¬ i < off + j + (cs.length + 1) := by omega
          have e9 : off + (j + 1) + cs.length + (i - (off + (j + 1) + cs.length)) = i := by omega
          have e10 : off + j + (cs.length + 1) + (i - (off + j + (cs.length + 1))) = i := by omega
          rw [if_neg e7, if_neg e8, e9, e10]
          rw [if_neg (by omega)]
  have := key cs 0 cur (by omega)
  rw [← Array.foldl_toList, Array.toList_zipIdx]
  simpa using this
theorem GLooks.fill {ρ : Operand → Value} (hρ : ∀ x u, look L x = some u → ρ x = u) : ∀ {ps : List (Nat × Operand)} {css : List (List Value)} {j : Nat} (cur : Array Value), GLooks L k j ps css → (j + css.length) * k = cur.size →
    Instr.fill (fun i => some (i * k, k)) cur (ps.map fun p => (p.1, ρ p.2)) = some (cur.toList.take (j * k) ++ css.flatten).toArray
  | [], [], j, cur, _, hk => by
    simp only [List.map_nil, Instr.fill, List.flatten_nil, List.append_nil]
    rw [List.take_of_length_le (by simp at hk ⊢; omega)]
  | (i, x) :: ps, cs :: css, j, cur, h, hk => by
    obtain ⟨rfl, ⟨v, hx, hv⟩, h1, h2⟩ := h
    simp only [List.length_cons] at hk
    have e1 : (i + (css.length + 1)) * k = i * k + k + css.length * k := by rw [Nat.add_mul, Nat.add_mul]; omega
    simp only [List.map_cons, Instr.fill, hρ x v hx, hv]
    have hcond : ¬ (cs.toArray.size ≠ k ∨ i * k + cs.toArray.size > cur.size) := by simp [h1]; omega
    have hbool : ((cs.toArray.size ≠ k) || decide (i * k + cs.toArray.size > cur.size)) = false := by simp [h1]; omega
    rw [if_neg (by simpa using hcond)]
    have hput := put_at cs (i * k) cur (by omega)
    have hsz : (cs.toArray.zipIdx.foldl (fun cs (x : Value × Nat) => cs.setIfInBounds (i * k + x.2) x.1) cur).size = cur.size := by
      rw [← Array.length_toList, hput]
      simp; omega
    rw [GLooks.fill hρ _ h2 (by rw [hsz, ← hk]; congr 1; omega), hput]
    congr 2
    rw [List.flatten_cons]
    have : (cur.toList.take (i * k) ++ cs ++ cur.toList.drop (i * k + cs.length)).take ((i + 1) * k) = cur.toList.take (i * k) ++ cs := by
      rw [List.take_append_of_le_length (by simp [h1, Nat.add_mul]; omega), List.take_of_length_le (by simp [h1, Nat.add_mul]; omega)]
    rw [this, List.append_assoc]
  | [], _ :: _, _, _, h, _ => h.elim
  | _ :: _, [], _, _, h, _ => h.elim

theorem opv_bsG {len : Nat} {ps : List (Nat × Operand)} {css : List (List Value)} {ty : TypeId} (T : RowK P t e k z bytes) (hp : GLooks L k 0 ps css) (hl : css.length = len) (hle : len * k ≤ 16777216) (h0 : 0 < len) :
    OpV P (.buildSlice t len ps.toArray) ty L w (.slice (some ⟨w.heap.size, 0, none⟩) len len) (w.alloc (.cells css.flatten.toArray e)) := fun ρ o hρ ho _ => by
  have hne : ¬ len * k = 0 := by have := Nat.mul_pos h0 T.pos; omega
  have hf := GLooks.fill hρ ((Array.range (len * k)).map fun i => z.cells[i % z.cells.size]!) hp (by simp [hl])
  simp only [Nat.zero_mul, List.take_zero, List.nil_append] at hf
  have hmap : (Array.map (fun (x : Nat × Operand) => (x.1, ρ x.2)) ps.toArray).toList = ps.map fun p => (p.1, ρ p.2) := by simp
  unfold execOp
  simp only [ho, Instr.buildSlice, Sem.run_bind, run_underlying T.sl, Result.andThen_ok, T.size]
  have h24 : ¬ (len * k > 2 ^ 24) := by omega
  rw [if_neg h24]
  simp only [hne, if_false, Sem.run_bind, Sem.run_pure, Result.andThen_ok, T.zero]
  rw [hmap, hf]
  simp [newRow]
theorem GLooks.ks : ∀ {ps : List (Nat × Operand)} {css : List (List Value)} {j : Nat}, GLooks L k j ps css → css.flatten.length = css.length * k
  | [], [], _, _ => by simp
  | (i, x) :: ps, cs :: css, j, h => by
    obtain ⟨_, _, h1, h2⟩ := h
    rw [List.flatten_cons, List.length_append, h1, GLooks.ks h2, List.length_cons, Nat.add_mul]; omega
  | [], _ :: _, _, h => h.elim
  | _ :: _, [], _, h => h.elim
/-- A slice of elements of k cells that a statement writes out. -/
theorem wl_bsG {d len : Nat} {ps : List (Nat × Operand)} {css : List (List Value)} {S : Nat → Prop} {els : List El} {ty : TypeId} {pos : String} {aft : Array Edge} (T : RowK P t e k z bytes) (hp : GLooks L k 0 ps css) (hl : els.length = len) (hle : len * k ≤ 16777216) (h0 : 0 < len)
    (hg : Grp k w S els css) (hd : Nat.blt d N = true)
    (h : ∀ A w', OwR k e w' w.heap.size S A len els → Below w.heap.size w w' → w'.heap.size = w.heap.size + 1 → WL P N ops Q rest ((d, .slice A len len) :: L) w') :
    WL P N ops Q (⟨some d, .buildSlice t len ps.toArray, ty, pos, aft, none⟩ :: rest) L w := by
  have hcl : css.length = len := by rw [hg.1, hl]
  have hb : Below w.heap.size w (w.alloc (.cells css.flatten.toArray e)) := (Below.refl _ _).alloc (Nat.le_refl _) _
  refine wl_val (opv_bsG T hp hcl hle h0) hd (h (some ⟨w.heap.size, 0, none⟩) _ ⟨css, hg.move hb.size fun b hlt hs => ⟨⟨hs, ?_⟩, hb.block b hlt⟩, ?_⟩ hb (by simp))
  · intro a ha; cases ha; exact Nat.ne_of_lt hlt
  · subst hl
    have hk := T.pos
    have hmax : els.length ≤ maxLen := by
      have : els.length * 1 ≤ els.length * k := Nat.mul_le_mul_left _ hk
      simp only [maxLen]; omega
    have := World.ownsRow_lit (e := e) (size := k) (base := w.heap.size) w css.flatten.toArray els.length (Nat.le_refl _) hmax (by simpa using hg.len)
    simpa using this
theorem wpList_appG {o : Oper} {a : Act} {base : Nat} {A : Option Addr} {n c : Nat} {xs : List Value} (T : RowK P t e k z bytes) (hgd : o.guard = none) (s x : Operand)
    (ho : o.op = .call { callee := .builtin .append, args := #[s, x], argTypes := #[t, t] })
    (hs : a.eval s = .slice A n c) (hown : w.ownsRow base e k (.slice A n c) n xs) {B : Option Addr} {m d : Nat} {ys : List Value} (hx : a.eval x = .slice B m d) (hr : Rd w B (m * k) ys) (h1 : ∀ u ∈ ys, u.oneCell' = true)
    (hbytes : (n + m) * bytes ≤ 140737488355328) (hmax : n + m ≤ maxLen) (hbase : base ≤ w.heap.size)
    (h : ∀ A' c' w', w'.ownsRow base e k (.slice A' (n + m) c') (n + m) (xs ++ ys) → Gr w w' A → (A'.map (·.block) = A.map (·.block) ∨ A'.map (·.block) = some w.heap.size) → wpList P ops Q rest (a.put o.dst (.slice A' (n + m) c')) w') : wpList P ops Q (o :: rest) a w := by
  obtain ⟨i, hi0, hz, hs1, hby⟩ := info_parts T.info
  have hk := T.pos
  have hob : ∀ (A : Option Addr) n c, (Value.slice A n c).ownBlock = A.map (·.block) := fun A _ _ => by cases A <;> rfl
  have hfin : ∀ v' w', w'.ownsRow base e k v' (n + m) (xs ++ ys) → w.grownBy w' (Value.slice A n c).ownBlock → (v'.ownBlock = (Value.slice A n c).ownBlock ∨ v'.ownBlock = some w.heap.size) →
      wpList P ops Q rest (a.put o.dst v') w' := by
    intro v' w' h2 h3 h4
    rw [hob] at h3
    rcases h2.2 with ⟨rfl, h0⟩ | ⟨g, cap, cur, rfl, _⟩
    · have := h none 0 w' (by rw [h0] at h2 ⊢; exact h2) h3 (by simpa only [hob] using h4)
      rw [h0] at this
      exact this
    · exact h _ _ w' h2 h3 (by simpa only [hob] using h4)
  by_cases h0 : 0 < m
  · obtain ⟨b, of, hA, _, hc⟩ := hr.2 (Nat.mul_pos h0 hk)
    subst hA
    exact wpList_append_own_at w hgd s x t ho base e i z k bytes T.sl hi0 hz hs1 hby T.zs hk _ n xs hs hown _ m d ys hx (by simpa using hr.1)
      (fun j u hu => by rw [Addr.add_lit]; exact hc j u hu) h1 hmax hbytes hbase fun v' w' h2 h3 _ h4 => hfin v' w' h2 h3 h4
  · have hm : m = 0 := by omega
    subst hm
    have hn : ys = [] := List.eq_nil_of_length_eq_zero (by simpa using hr.1)
    subst hn
    cases B with
    | some ad =>
      exact wpList_append_own_at w hgd s x t ho base e i z k bytes T.sl hi0 hz hs1 hby T.zs hk _ n xs hs hown ad 0 d [] hx (by simp)
        (fun j u hu => by simp at hu) h1 hmax hbytes hbase fun v' w' h2 h3 _ h4 => hfin v' w' h2 h3 h4
    | none =>
      have hrun : (Builtin.append_ #[t, t] o.type #[.slice A n c, .slice none 0 d]).run P w = .ok (.slice A n c) w := by
        rcases hown.2 with ⟨hv, hn0⟩ | ⟨g, cap, cur, hv, _, _, hnc, _⟩
        · injection hv with hA hn hc; subst hA hn0 hc
          simp [Builtin.append_, run_underlying T.sl, sizeOf, typeInfo, hi0, Builtin.lenOf, Builtin.firstCells]
        · injection hv with hA hn hc; subst hA hc
          simp [Builtin.append_, run_underlying T.sl, sizeOf, typeInfo, hi0, Builtin.lenOf, Builtin.firstCells, hnc, storeCells]
      refine wpList_plain hgd fun K hK => ?_
      unfold Oper.wp execOp
      simp only [ho, resolve, invoke, builtin, Sem.run_bind, Sem.run_pure, Result.andThen_ok, List.map_toArray, List.map_cons, List.map_nil, hs, hx, hrun]
      refine hK _ _ (hfin _ _ (by rw [List.append_nil]; exact hown) ⟨rfl, rfl, rfl, Nat.le_refl _, fun _ _ _ => rfl⟩ (.inl rfl))
/-- append(s, x...): whole rows of elements of k cells. -/
theorem wl_appG {d : Nat} {s x : Operand} {ty : TypeId} {pos : String} {aft : Array Edge} {base : Nat} {S : Nat → Prop} {A : Option Addr} {n c : Nat} {els : List El} {B : Option Addr} {m c' : Nat} {els' : List El} (T : RowK P t e k z bytes)
    (hs : look L s = some (.slice A n c)) (hown : OwR k e w base S A c els) (hn : els.length = n) (hx : look L x = some (.slice B m c')) (hr : RdR k w (fun b => S b ∧ But A b) B els') (hm : els'.length = m) (h1 : ∀ css, Grp k w (fun b => S b ∧ But A b) els' css → ∀ u ∈ css.flatten, u.oneCell' = true)
    (hbytes : (n + m) * bytes ≤ 140737488355328) (hmax : n + m ≤ maxLen) (hbase : base ≤ w.heap.size) (hd : Nat.blt d N = true)
    (h : ∀ A' c' w', OwR k e w' base S A' c' (els ++ els') → Gr w w' A → (A'.map (·.block) = A.map (·.block) ∨ A'.map (·.block) = some w.heap.size) → WL P N ops Q rest ((d, .slice A' (n + m) c') :: L) w') :
    WL P N ops Q (⟨some d, .call { callee := .builtin .append, args := #[s, x], argTypes := #[t, t] }, ty, pos, aft, none⟩ :: rest) L w := fun a ha => by
  subst hn hm
  obtain ⟨css, hg, ho⟩ := hown
  obtain ⟨css', hg', hr', hS'⟩ := hr
  refine wpList_appG T rfl s x rfl (ha.eval hs) ho (ha.eval hx) hr' (h1 _ hg') hbytes hmax hbase fun A' c' w' ho' hgr hat => ?_
  refine h A' c' w' ⟨css ++ css', ?_, by rw [List.length_append, List.flatten_append]; exact ho'⟩ hgr hat _ (ha.put hd _)
  refine (hg.append hg').move hgr.size fun b hlt hb => ⟨⟨hb.1, fun a' ha' => ?_⟩, hgr.block b hlt ?_⟩
  · subst ha'
    rcases hat with e | e
    · cases A with
      | none => simp at e
      | some a0 => simp only [Option.map_some, Option.some.injEq] at e; rw [e]; exact hb.2 a0 rfl
    · simp only [Option.map_some, Option.some.injEq] at e; omega
  · intro hk
    cases A with
    | none => simp at hk
    | some a0 => simp only [Option.map_some, Option.some.injEq] at hk; exact hb.2 a0 rfl hk
/-- append(s, x, y ..): the elements written out. -/
theorem wl_pushG {d1 d2 len : Nat} {ps : List (Nat × Operand)} {css' : List (List Value)} {s : Operand} {ty1 ty2 : TypeId} {p1 p2 : String} {f1 f2 : Array Edge} {base : Nat} {S : Nat → Prop} {A : Option Addr} {n c : Nat} {els els' : List El} (T : RowK P t e k z bytes)
    (hs1 : ∀ p, look ((d1, p) :: L) s = some (.slice A n c)) (hown : OwR k e w base S A c els) (hn : els.length = n) (hp : GLooks L k 0 ps css') (hg' : Grp k w (fun b => S b ∧ But A b) els' css') (hl : els'.length = len) (h1 : ∀ u ∈ css'.flatten, u.oneCell' = true) (hle : len * k ≤ 16777216) (h0 : 0 < len)
    (hbytes : (n + len) * bytes ≤ 140737488355328) (hmax : n + len ≤ maxLen) (hbase : base ≤ w.heap.size) (hd1 : Nat.blt d1 N = true) (hd2 : Nat.blt d2 N = true)
    (h : ∀ p A' c' w', OwR k e w' base S A' c' (els ++ els') → Gr w w' A → (A'.map (·.block) = A.map (·.block) ∨ ∀ a', A' = some a' → w.heap.size ≤ a'.block) → WL P N ops Q rest ((d2, .slice A' (n + len) c') :: (d1, p) :: L) w') :
    WL P N ops Q (⟨some d1, .buildSlice t len ps.toArray, ty1, p1, f1, none⟩ :: ⟨some d2, .call { callee := .builtin .append, args := #[s, .tmp d1], argTypes := #[t, t] }, ty2, p2, f2, none⟩ :: rest) L w := by
  subst hl
  have hcl : css'.length = els'.length := hg'.1
  refine wl_val (opv_bsG T hp hcl hle h0) hd1 ?_
  have hb : Below w.heap.size w (w.alloc (.cells css'.flatten.toArray e)) := (Below.refl _ _).alloc (Nat.le_refl _) _
  have hl := hg'.len
  intro a ha
  obtain ⟨css, hg, ho⟩ := hown
  subst hn
  have hrd : Rd (w.alloc (.cells css'.flatten.toArray e)) (some ⟨w.heap.size, 0, none⟩) (els'.length * k) css'.flatten := by
    have := Rd.new w css'.flatten.toArray e
    simpa [hl] using this
  have ho1 := World.ownsRow.alloc ho (.cells css'.flatten.toArray e)
  refine wpList_appG (B := some ⟨w.heap.size, 0, none⟩) (m := els'.length) (d := els'.length) T rfl s (.tmp d1) rfl (ha.eval (hs1 _)) ho1 (ha.eval (by simp [look, lookT])) hrd h1 hbytes hmax (by simp; omega) fun A' c' w' ho' hgr hat => ?_
  have hgr' : Gr w w' A := (Gr.of_below A hb (Nat.le_refl _)).trans hgr
  refine h _ A' c' w' ⟨css ++ css', ?_, by rw [List.length_append, List.flatten_append]; exact ho'⟩ hgr' ?_ _ (ha.put hd2 _)
  · refine (hg.append hg').move hgr'.size fun b hlt hb => ⟨⟨hb.1, fun a' ha' => ?_⟩, hgr'.block b hlt ?_⟩
    · subst ha'
      rcases hat with e | e
      · cases A with
        | none => simp at e
        | some a0 => simp only [Option.map_some, Option.some.injEq] at e; rw [e]; exact hb.2 a0 rfl
      · simp only [Option.map_some, Option.some.injEq] at e; simp at e; omega
    · intro hk
      cases A with
      | none => simp at hk
      | some a0 => simp only [Option.map_some, Option.some.injEq] at hk; exact hb.2 a0 rfl hk
  · rcases hat with e | e
    · exact .inl e
    · refine .inr fun a' ha' => ?_
      rw [ha'] at e
      simp at e
      omega
end
end Go.Proofs.Ytcjiecclmepboaa
