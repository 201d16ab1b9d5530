
/-
  How arguments of any type are read: a reading of a type as data, for numbers, texts, bytes, slices of what can be read; structs are opened field by field.
-/
import Derived.Test.YtcjiecclmepboaaGf
import Derived.Test.YtcjiecclmepboaaArgs
import Derived.Deep.Slices
import Derived.ChangeMaps5
namespace Go.Proofs.Ytcjiecclmepboaa
open Go.RowKit Go.ChangeShapes Go.WideShapes Go.ChangeAt Go.Deep

/-- A cell that holds a row of elements. -/
def rowEl (k : Nat) (els : List El) : El where
  P w S cs := ∃ (A : Option Addr) (c : Nat), cs = [.slice A els.length c] ∧ els.length ≤ c ∧ RdR k w S A els ∧ 0 < k
  move := by rintro w w' S S' cs ⟨A, c, h, hc, hb, hk⟩ hz hm; exact ⟨A, c, h, hc, RdR.move hk hb hz hm, hk⟩
theorem rowEl.rd {k : Nat} {els : List El} {w : World} {S : Nat → Prop} {A : Option Addr} {n c : Nat} (h : (rowEl k els).P w S [.slice A n c]) : els.length = n ∧ n ≤ c ∧ RdR k w S A els := by
  obtain ⟨A', c', h1, h2, h3, _⟩ := h
  simp only [List.cons.injEq, Value.slice.injEq, and_true] at h1
  obtain ⟨rfl, rfl, rfl⟩ := h1
  exact ⟨rfl, h2, h3⟩
theorem rowEl.mk {k : Nat} {els : List El} {w : World} {S : Nat → Prop} {A : Option Addr} {c : Nat} (h : RdR k w S A els) (hc : els.length ≤ c) (hk : 0 < k) : (rowEl k els).P w S [.slice A els.length c] := ⟨A, c, rfl, hc, h, hk⟩

/-- What stands at type t is read as some a, in k cells; its bulk; what is known of a. -/
def Opens (P : Program) (t : TypeId) {α : Type} (R : α → El) (k : Nat) (bulk : α → Nat) (ok : α → Prop) : Prop :=
  ∀ {H : Type} (enc : TypeId × Value → H) (W : World) (fuel : Nat) (cs : List Value) (x : DataW H × List MemPlace), DataW.trod enc P W 0 (fun _ => true) true fuel t cs = some x →
    ∃ a, (R a).P W All cs ∧ cs.length = k ∧ ok a ∧ bulk a + 1 ≤ Rows.uptoBulk x.1
section
variable {P : Program} {t e : TypeId} {α : Type} {R : α → El} {k : Nat} {bulk : α → Nat} {ok : α → Prop}
theorem opens_int {ik : IntKind} (ht : P.underlying t = some (.int ik)) : Opens P t (fun n : Int => vEl (.int ik n)) 1 (fun _ => 0) (fun n => (Lit.int ik n).wf = true) := fun enc W fuel cs x h => by
  obtain ⟨n, rfl, rfl, hw⟩ := DataW.trod_int ht h
  exact ⟨n, rfl, rfl, hw, by simp [Rows.uptoBulk]⟩
theorem opens_bool (ht : P.underlying t = some .bool) : Opens P t (fun b : Bool => vEl (.bool b)) 1 (fun _ => 0) (fun _ => True) := fun enc W fuel cs x h => by
  obtain ⟨n, rfl, rfl⟩ := DataW.trod_bool ht h
  exact ⟨n, rfl, rfl, trivial, by simp [Rows.uptoBulk]⟩
theorem opens_str (ht : P.underlying t = some .string) : Opens P t (fun s : List UInt8 => vEl (str s)) 1 (fun s => s.length) (fun _ => True) := fun enc W fuel cs x h => by
  obtain ⟨s, rfl, rfl, _⟩ := DataW.trod_string ht h
  obtain ⟨l, rfl⟩ := str_of s
  exact ⟨l, rfl, rfl, trivial, by simp [Rows.uptoBulk]⟩
def sumB (bulk : α → Nat) (l : List α) : Nat := (l.map fun a => bulk a + 1).sum
theorem sumB_cons (a : α) (l : List α) : sumB bulk (a :: l) = bulk a + 1 + sumB bulk l := by simp [sumB]
theorem sumB_mem {l : List α} {a : α} (h : a ∈ l) : bulk a + 1 ≤ sumB bulk l := by
  induction l with
  | nil => cases h
  | cons x l ih =>
    rw [sumB_cons]
    rcases List.mem_cons.1 h with rfl | h
    · omega
    · have := ih h; omega
theorem sumB_len (l : List α) : l.length ≤ sumB bulk l := by
  induction l with
  | nil => simp
  | cons x l ih => rw [sumB_cons]; simp only [List.length_cons]; omega
theorem opens_slice {z : Value} {bytes : Nat} (T : RowK P t e k z bytes) (hC : P.cellsOf e = k) (he : Opens P e R k bulk ok) :
    Opens P t (fun l : List α => rowEl k (l.map R)) 1 (sumB bulk) (fun l => (∀ a ∈ l, ok a)) := fun {H} enc W fuel cs x h => by
  rcases open_slice T.sl h with ⟨rfl, rfl⟩ | ⟨a, len, cap, m, n, D, Pl, rfl, hb, hl, hm, hmm, rfl, hi⟩
  · exact ⟨[], ⟨none, 0, rfl, by simp, RdR.nil _, T.pos⟩, rfl, by simp, by simp [sumB, Rows.uptoBulk]⟩
  · have hmc : m = cap := by simpa using hmm
    subst hmc
    rw [hC] at hi
    have each : ∀ i, i < m → ∃ (v : α) (cs' : List Value), (R v).P W All cs' ∧ cs'.length = k ∧ ok v ∧ bulk v + 1 ≤ Rows.uptoBulk (D i) ∧ ∀ j u, cs'[j]? = some u → W.cell? (a.add (i * k + j)) = some u := by
      intro i him
      obtain ⟨cs', hc, ht'⟩ := hi i him
      obtain ⟨v, h1, h2, h3, h4⟩ := he enc W n cs' _ ht'
      obtain ⟨_, hcl, hat⟩ := World.cells?_some hc
      refine ⟨v, cs', h1, h2, h3, h4, fun j u hu => ?_⟩
      have hj : j < k := by have := (List.getElem?_eq_some_iff.1 hu).1; omega
      rw [← Go.Deep.add_add, hat j hj, hu]
    have hch : ∃ (V : Nat → Option α) (C : Nat → List Value), ∀ i, i < m → ∃ v, V i = some v ∧ (R v).P W All (C i) ∧ (C i).length = k ∧ ok v ∧ bulk v + 1 ≤ Rows.uptoBulk (D i) ∧ ∀ j u, (C i)[j]? = some u → W.cell? (a.add (i * k + j)) = some u :=
      ⟨fun i => if h : i < m then some (Classical.choose (each i h)) else none, fun i => if h : i < m then Classical.choose (Classical.choose_spec (each i h)) else [], fun i him => ⟨Classical.choose (each i him), by simp only [dif_pos him], by simp only [dif_pos him]; exact Classical.choose_spec (Classical.choose_spec (each i him))⟩⟩
    obtain ⟨V, C, hV⟩ := hch
    have build : ∀ q, q ≤ m → ∃ l : List α, l.length = q ∧ (∀ i, i < q → l[i]? = V i) ∧ (∀ v ∈ l, ok v) ∧ sumB bulk l ≤ Rows.uptoBulkAll ((List.range q).map D) := by
      intro q
      induction q with
      | zero => intro _; exact ⟨[], rfl, by simp, by simp, by simp [sumB]⟩
      | succ q ih =>
        intro hq
        obtain ⟨l, h1, h2, h3, h4⟩ := ih (by omega)
        obtain ⟨v, hv, _, _, hok, hbk, _⟩ := hV q (by omega)
        refine ⟨l ++ [v], by simp [h1], fun i hi => ?_, fun u hu => ?_, ?_⟩
        · by_cases hiq : i < q
          · rw [List.getElem?_append_left (by omega)]; exact h2 i hiq
          · obtain rfl : i = q := by omega
            rw [← h1, List.getElem?_concat_length, h1, hv]
        · rcases List.mem_append.1 hu with hu | hu
          · exact h3 u hu
          · simp at hu; subst hu; exact hok
        · have e1 : ∀ (l : List α) (v : α), sumB bulk (l ++ [v]) = sumB bulk l + (bulk v + 1) := fun l v => by simp [sumB]
          have e2 : ∀ (l : List (DataW H)) (d : DataW H), Rows.uptoBulkAll (l ++ [d]) = Rows.uptoBulkAll l + Rows.uptoBulk d := by
            intro l d
            induction l with
            | nil => simp [Rows.uptoBulkAll]
            | cons x l ih => simp only [List.cons_append, Rows.uptoBulkAll, ih]; omega
          rw [e1, List.range_succ, List.map_append, List.map_cons, List.map_nil, e2]; omega
    obtain ⟨l, hlen, hget, hok, hsum⟩ := build len hl
    subst hlen
    refine ⟨l, ⟨some a, m, by simp, by simpa using hl, ⟨(List.range l.length).map C, ⟨by simp, fun i cs hi' => ?_⟩, ?_, fun _ _ _ => trivial⟩, T.pos⟩, rfl, hok, ?_⟩
    · rw [List.getElem?_map] at hi'
      by_cases hil : i < l.length
      · rw [List.getElem?_range hil] at hi'
        simp only [Option.map_some, Option.some.injEq] at hi'
        subst hi'
        obtain ⟨v, hv, hp, hk, _⟩ := hV i (by omega)
        refine ⟨hk, R v, ?_, hp⟩
        rw [List.getElem?_map, hget i hil, hv]; rfl
      · rw [List.getElem?_eq_none (by simp; omega)] at hi'; simp at hi'
    · have hks : ∀ cs ∈ (List.range l.length).map C, cs.length = k := by
        intro cs hcs
        obtain ⟨i, hi', rfl⟩ := List.mem_map.1 hcs
        obtain ⟨v, _, _, hk, _⟩ := hV i (by have := List.mem_range.1 hi'; omega)
        exact hk
      have hfl : ((List.range l.length).map C).flatten.length = l.length * k := by
        rw [List.length_flatten]
        have : ((List.range l.length).map C).map List.length = List.replicate l.length k := by
          apply List.ext_getElem?
          intro i
          rw [List.getElem?_map, List.getElem?_map, List.getElem?_replicate]
          by_cases hil : i < l.length
          · rw [List.getElem?_range hil, if_pos hil]
            simp only [Option.map_some]
            rw [hks _ (List.mem_map.2 ⟨i, List.mem_range.2 hil, rfl⟩)]
          · rw [if_neg hil, List.getElem?_eq_none (by simp; omega)]; rfl
        rw [this]; simp
      refine ⟨by simpa using hfl, fun hpos => ?_⟩
      simp only [List.length_map] at hpos
      have hk0 := T.pos
      have hl0 : 0 < l.length := by
        rcases Nat.eq_zero_or_pos l.length with h0 | h0
        · rw [h0] at hpos; simp at hpos
        · exact h0
      obtain ⟨b, o, spot⟩ := a
      obtain ⟨v0, _, _, hk0', _, _, hc0⟩ := hV 0 (by omega)
      obtain ⟨u0, hu0⟩ : ∃ u, (C 0)[0]? = some u := ⟨_, List.getElem?_eq_getElem (by omega)⟩
      have hc00 := hc0 0 u0 hu0
      have hspot : spot = none := by simpa [Addr.add] using World.cell?_spot hc00
      subst hspot
      refine ⟨b, o, rfl, World.block_lt_of_cell? W _ (by simpa [Addr.add] using hc00), fun j u hu => ?_⟩
      have hjl : j < l.length * k := by rw [← hfl]; exact (List.getElem?_eq_some_iff.1 hu).1
      have hi0 : j / k < l.length := (Nat.div_lt_iff_lt_mul hk0).2 hjl
      have hjk : j % k < k := Nat.mod_lt _ hk0
      obtain ⟨v, hv, _, hk', _, _, hc⟩ := hV (j / k) (by omega)
      obtain ⟨u', hu'⟩ : ∃ u', (C (j / k))[j % k]? = some u' := ⟨_, List.getElem?_eq_getElem (by omega)⟩
      have hf := flat_get hks (i := j / k) (j := j % k) (by rw [List.getElem?_map, List.getElem?_range hi0]; rfl) hu'
      rw [Nat.div_add_mod'] at hf
      rw [hu] at hf
      cases hf
      have := hc _ u hu'
      rw [Nat.div_add_mod', Addr.add_lit] at this
      exact this
    · simp only [Rows.uptoBulk]; omega
theorem len1 {α : Type _} {l : List α} (h : l.length = 1) : ∃ a0, l = [a0] := match l, h with | [a0], _ => ⟨a0, rfl⟩
theorem len2 {α : Type _} {l : List α} (h : l.length = 2) : ∃ a0 a1, l = [a0, a1] := match l, h with | [a0, a1], _ => ⟨a0, a1, rfl⟩
theorem len3 {α : Type _} {l : List α} (h : l.length = 3) : ∃ a0 a1 a2, l = [a0, a1, a2] := match l, h with | [a0, a1, a2], _ => ⟨a0, a1, a2, rfl⟩
theorem len4 {α : Type _} {l : List α} (h : l.length = 4) : ∃ a0 a1 a2 a3, l = [a0, a1, a2, a3] := match l, h with | [a0, a1, a2, a3], _ => ⟨a0, a1, a2, a3, rfl⟩
theorem len5 {α : Type _} {l : List α} (h : l.length = 5) : ∃ a0 a1 a2 a3 a4, l = [a0, a1, a2, a3, a4] := match l, h with | [a0, a1, a2, a3, a4], _ => ⟨a0, a1, a2, a3, a4, rfl⟩
theorem len6 {α : Type _} {l : List α} (h : l.length = 6) : ∃ a0 a1 a2 a3 a4 a5, l = [a0, a1, a2, a3, a4, a5] := match l, h with | [a0, a1, a2, a3, a4, a5], _ => ⟨a0, a1, a2, a3, a4, a5, rfl⟩
theorem len7 {α : Type _} {l : List α} (h : l.length = 7) : ∃ a0 a1 a2 a3 a4 a5 a6, l = [a0, a1, a2, a3, a4, a5, a6] := match l, h with | [a0, a1, a2, a3, a4, a5, a6], _ => ⟨a0, a1, a2, a3, a4, a5, a6, rfl⟩
theorem len8 {α : Type _} {l : List α} (h : l.length = 8) : ∃ a0 a1 a2 a3 a4 a5 a6 a7, l = [a0, a1, a2, a3, a4, a5, a6, a7] := match l, h with | [a0, a1, a2, a3, a4, a5, a6, a7], _ => ⟨a0, a1, a2, a3, a4, a5, a6, a7, rfl⟩
theorem field_at {H : Type} {enc : TypeId × Value → H} {w : World} {base : Nat} {spare : Nat → Bool} {held : Bool} {n : Nat} {fs : Array Field} {cs : List Value} {xs : List (DataW H × List MemPlace)}
    (hf : ∀ (i : Nat) (f : Field), fs[i]? = some f → DataW.trod enc P w base spare held n f.type ((cs.drop f.offset).take (P.cellsOf f.type)) = xs[i]?) {i off k : Nat} {f : Field} {t : TypeId}
    (hi : fs[i]? = some f) (ht : f.type = t) (ho : f.offset = off) (hk : P.cellsOf t = k) : DataW.trod enc P w base spare held n t ((cs.drop off).take k) = xs[i]? := by
  subst ht ho hk; exact hf i f hi
theorem El.P_congr {E E' : El} (h : E = E') {w : World} {S : Nat → Prop} {cs : List Value} (hp : E.P w S cs) : E'.P w S cs := h ▸ hp
end
theorem opens_bytes : Opens Try.prog 30 byEl 1 (fun l => l.length) (fun _ => True) := fun enc W fuel cs x h => by
  have hs : (∃ a len cap, cs = [.slice a len cap]) := by
    rcases open_slice Try.underlying30 h with ⟨rfl, _⟩ | ⟨a, len, cap, m, n, D, Pl, rfl, _⟩
    · exact ⟨_, _, _, rfl⟩
    · exact ⟨_, _, _, rfl⟩
  obtain ⟨a, len, cap, rfl⟩ := hs
  obtain ⟨xs, hl, hr, hc, hm, hb, _⟩ := arg_bytes (enc := enc) (W := W) (a0 := a) (len0 := len) (cap0 := cap) (d0 := x.1) (p0 := x.2) ⟨fuel, by simpa [Value.cells] using h⟩
  subst hl
  exact ⟨xs, byEl.mk hr hc fun _ _ _ => trivial, rfl, trivial, hb⟩
end Go.Proofs.Ytcjiecclmepboaa
