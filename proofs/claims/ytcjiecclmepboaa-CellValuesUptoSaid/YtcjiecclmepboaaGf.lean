
/-
  More of the engine's rules: a variable that is made and set at once, append of a text to bytes, values without memory. Nothing here names the program.
-/
import Derived.Test.YtcjiecclmepboaaGe
import Derived.Test.YtcjiecclmepboaaStr
import Derived.Lib.AppendStr
namespace Go.Proofs.Ytcjiecclmepboaa
open Go.RowKit
section
variable {P : Program} {N : Nat} {ops : Array Oper} {Q : Exit → Act → World → Prop} {rest : List Oper} {L : FL} {w w' : World} {t e : TypeId} {g : Nat} {cs cs' : List Value}
theorem setRow_same {w : World} {g : Nat} {cs cs' : List Value} {t : TypeId} (h : Ar w g t cs) : ∀ k, k ≠ g → (w.setRow g cs'.toArray).heap[k]? = w.heap[k]? := fun k hk => by
  simp only [World.setRow, Array.getElem?_modify]
  rw [if_neg (fun h => hk h.symm)]
/-- A variable of a struct type that is made and set. -/
theorem wl_var {d : Nat} {x : Operand} {ty1 ty2 : TypeId} {p1 p2 : String} {f1 f2 : Array Edge} {zs : List Value} (hz : (P.info? t).map (·.zero) = some (some (.agg zs.toArray))) (S : StT P t cs.length) (hl : zs.length = cs.length)
    (hx : ∀ p, look ((d, p) :: L) x = some (.agg cs.toArray)) (h1 : cs.all (·.oneCell') = true) (hd : Nat.blt d N = true)
    (h : ∀ g w', w.heap.size ≤ g → Ar w' g t cs → Below w.heap.size w w' → WL P N ops Q rest ((d, .pointer (some ⟨g, 0, none⟩)) :: L) w') :
    WL P N ops Q (⟨some d, .alloc t, ty1, p1, f1, none⟩ :: ⟨none, .store t (.tmp d) x, ty2, p2, f2, none⟩ :: rest) L w := by
  refine wl_new hz hd fun g w1 hg a1 hb1 => ?_
  refine wl_storeS S a1 (by simp [look, lookT]) (hx _) hl h1 fun w2 a2 g2 _ => ?_
  exact h g w2 hg a2 (Gr.belowI g2 hb1 hg hb1.size)
/-- A block of another type is another block. -/
theorem Ar.ne_row {k base n c : Nat} {A : Option Addr} {xs : List Value} (h : Ar w g t cs) (ho : w.ownsRow base e k (.slice A n c) n xs) (hne : (t == e) = false) : ∀ a, A = some a → a.block ≠ g := by
  rintro a rfl hk
  rcases ho.2 with ⟨hv, _⟩ | ⟨g', cap, cur, hv, _, hg, _⟩
  · cases hv
  · injection hv with hA
    injection hA with hA
    subst hA
    simp only at hk
    subst hk
    unfold Ar at h
    rw [h] at hg
    simp only [Option.some.injEq, Obj.cells.injEq] at hg
    simp [hg.2.1] at hne
theorem Ar.ne_ow {base n c : Nat} {A : Option Addr} {xs : List Value} (h : Ar w g t cs) (ho : Ow w base e A n c xs) (hne : (t == e) = false) : ∀ a, A = some a → a.block ≠ g := Ar.ne_row h ho hne
theorem Ar.ne_owR {k base c : Nat} {S : Nat → Prop} {A : Option Addr} {els : List El} (h : Ar w g t cs) (ho : OwR k e w base S A c els) (hne : (t == e) = false) : ∀ a, A = some a → a.block ≠ g := by
  obtain ⟨css, _, h2⟩ := ho
  exact Ar.ne_row h h2 hne
theorem Ow.bel {base n c : Nat} {A : Option Addr} {xs : List Value} (h : Ow w base e A n c xs) (hb : Below w.heap.size w w') : Ow w' base e A n c xs := Ow.below h hb (Nat.le_refl _)
theorem Ow.re {base n c : Nat} {A : Option Addr} {xs : List UInt8} (h : Ow w base e A xs.length c (bvs xs)) (hn : xs.length = n) : Ow w base e A n c (bvs xs) := hn ▸ h
theorem Ow.gr2 {base n c : Nat} {A B : Option Addr} {xs : List Value} (h : Ow w base e A n c xs) (g : Gr w w' B) (hB : ∀ b, B = some b → b.block < base) : Ow w' base e A n c xs :=
  Ow.gr (base' := 0) (e' := 0) h g fun a b ha hb => by have := (Ow.lt h a ha).1; have := hB b hb; omega
/-- Rows of elements where another row has been written. -/
theorem But.upd {A A' : Option Addr} (hat : A'.map (·.block) = A.map (·.block) ∨ ∀ a', A' = some a' → w.heap.size ≤ a'.block) : ∀ b, b < w.heap.size → But A b → But A' b := by
  rintro b hb h a rfl
  rcases hat with hat | hat
  · cases A with
    | none => simp at hat
    | some a0 => simp only [Option.map_some, Option.some.injEq] at hat; rw [hat]; exact h a0 rfl
  · have := hat a rfl; omega
theorem OwR.move {k base c : Nat} {S S' : Nat → Prop} {A B : Option Addr} {els : List El} (h : OwR k e w base S A c els) (g : Gr w w' B) (hs : ∀ b, b < w.heap.size → S b → But A b → S' b ∧ But B b) (hA : ∀ a, A = some a → But B a.block) : OwR k e w' base S' A c els := by
  obtain ⟨css, h1, h2⟩ := h
  refine ⟨css, h1.move g.size fun b hb h => ⟨⟨(hs b hb h.1 h.2).1, h.2⟩, g.block b hb fun hk => ?_⟩, World.ownsRow.kept h2 g ?_⟩
  · cases B with
    | none => simp at hk
    | some x => simp at hk; exact (hs b hb h.1 h.2).2 x rfl hk
  · cases A with
    | none => exact .inl rfl
    | some a =>
      refine .inr ?_
      cases B with
      | none => simp [Value.ownBlock]
      | some b => simpa [Value.ownBlock] using hA a rfl b rfl
/-- A row that is older than all that its neighbour holds is written. -/
theorem OwR.gr2 {k base c : Nat} {S : Nat → Prop} {A B : Option Addr} {els : List El} (h : OwR k e w base S A c els) (g : Gr w w' B) (hB : ∀ b, B = some b → b.block < base) (hs : ∀ b, b < w.heap.size → S b → But A b → But B b) : OwR k e w' base S A c els :=
  h.move g (fun b hb h1 h2 => ⟨h1, hs b hb h1 h2⟩) fun a ha b hb' => by have := (OwR.lt h a ha).1; have := hB b hb'; omega
theorem Gr.belowR {k base c B : Nat} {w0 : World} {S : Nat → Prop} {A : Option Addr} {els : List El} (g : Gr w w' A) (h : Below B w0 w) (ho : OwR k e w base S A c els) (hb : B ≤ base) (hB : B ≤ w.heap.size) : Below B w0 w' :=
  h.grown g hB fun k hk => by
    cases A with
    | none => simp at hk
    | some a => simp at hk; have := (OwR.lt ho a rfl).1; omega
theorem row_ne {e' : TypeId} {k k' base base' n m c d : Nat} {A B : Option Addr} {xs ys : List Value} (h : w.ownsRow base e k (.slice A n c) n xs) (h' : w.ownsRow base' e' k' (.slice B m d) m ys) (hne : (e == e') = false) : ∀ a b, A = some a → B = some b → a.block ≠ b.block := by
  rintro a b rfl rfl hk
  rcases h.2 with ⟨hv, _⟩ | ⟨g, cap, cur, hv, _, hg, _⟩
  · cases hv
  rcases h'.2 with ⟨hv', _⟩ | ⟨g', cap', cur', hv', _, hg', _⟩
  · cases hv'
  injection hv with hA; injection hA with hA; subst hA
  injection hv' with hB; injection hB with hB; subst hB
  simp only at hk
  subst hk
  rw [hg] at hg'
  simp only [Option.some.injEq, Obj.cells.injEq] at hg'
  simp [hg'.2.1] at hne
theorem OwR.ne {e' : TypeId} {k k' base base' c d : Nat} {S S' : Nat → Prop} {A B : Option Addr} {els els' : List El} (h : OwR k e w base S A c els) (h' : OwR k' e' w base' S' B d els') (hne : (e == e') = false) : ∀ a, A = some a → But B a.block := by
  obtain ⟨_, _, h2⟩ := h
  obtain ⟨_, _, h3⟩ := h'
  exact fun a ha b hb => row_ne h2 h3 hne a b ha hb
theorem OwR.ne_ow {e' : TypeId} {k base base' n c d : Nat} {S : Nat → Prop} {A B : Option Addr} {els : List El} {xs : List Value} (h : OwR k e w base S A c els) (h' : Ow w base' e' B n d xs) (hne : (e == e') = false) : ∀ a, A = some a → But B a.block := by
  obtain ⟨_, _, h2⟩ := h
  exact fun a ha b hb => row_ne h2 h' hne a b ha hb
theorem OwR.below' {k base c B : Nat} {S : Nat → Prop} {A : Option Addr} {els : List El} (h : OwR k e w base S A c els) (hb : Below B w w') (hB : w.heap.size ≤ B) : OwR k e w' base S A c els := h.below (hb.mono hB)
/-- The same of a type of one cell. -/
theorem wl_var1 {d : Nat} {x : Operand} {ty1 ty2 : TypeId} {p1 p2 : String} {f1 f2 : Array Edge} {z u : Value} (hz : (P.info? t).map (·.zero) = some (some z)) (hz1 : z.oneCell' = true) (E : Cell1 P t)
    (hx : ∀ p, look ((d, p) :: L) x = some u) (h1 : u.oneCell' = true) (hd : Nat.blt d N = true)
    (h : ∀ g w', w.heap.size ≤ g → Ar w' g t [u] → Below w.heap.size w w' → WL P N ops Q rest ((d, .pointer (some ⟨g, 0, none⟩)) :: L) w') :
    WL P N ops Q (⟨some d, .alloc t, ty1, p1, f1, none⟩ :: ⟨none, .store t (.tmp d) x, ty2, p2, f2, none⟩ :: rest) L w := by
  refine wl_val (opv_alloc hz) hd ?_
  rw [cells_one hz1]
  have a1 : Ar (w.alloc (.cells #[z] t)) w.heap.size t [z] := Ar.new w t [z]
  have hb1 : Below w.heap.size w (w.alloc (.cells #[z] t)) := (Below.refl _ _).alloc (Nat.le_refl _) _
  refine wl_stA (k := 0) E a1 (by simp [look, lookT]) (by simp) (hx _) h1 fun w2 a2 g2 _ => ?_
  exact h _ w2 (Nat.le_refl _) a2 (Gr.belowI g2 hb1 (Nat.le_refl _) hb1.size)
theorem opv_neg64 {x : Operand} {tt ty : TypeId} {q : Int} (hx : look L x = some (.int .i64 q)) (hq : -9223372036854775807 ≤ q ∧ q ≤ 9223372036854775807) : OpV P (.unOp .neg tt x) ty L w (.int .i64 (-q)) w := fun ρ o hρ ho _ => by
  have e := IntWalk.i64_in (-q) (by omega)
  simp [execOp, ho, hρ x _ hx, Op.unary, Op.intArith, e]
/-- append(b, s...) of a text s. -/
theorem wl_appS {d : Nat} {s x : Operand} {ty : TypeId} {u : TypeId} {pos : String} {aft : Array Edge} {base : Nat} {A : Option Addr} {n c : Nat} {xs : List Value} {ys : List UInt8} (T : Row1 P t e (.int .u8 0) 1) (hu : P.underlying u = some .string)
    (hs : look L s = some (.slice A n c)) (hown : Ow w base e A n c xs) (hx : look L x = some (str ys)) (hbytes : n + ys.length ≤ 140737488355328) (hbase : base ≤ w.heap.size) (hd : Nat.blt d N = true)
    (h : ∀ A' c' w', Ow w' base e A' (n + ys.length) c' (xs ++ bvs ys) → Gr w w' A → WL P N ops Q rest ((d, .slice A' (n + ys.length) c') :: L) w') :
    WL P N ops Q (⟨some d, .call { callee := .builtin .append, args := #[s, x], argTypes := #[t, u] }, ty, pos, aft, none⟩ :: rest) L w := fun a ha => by
  obtain ⟨i, hi, hz, hs1, hby⟩ := info_parts T.info
  have e1 : Lib.strCells ⟨ys.toArray⟩ = bvs ys := by simp [Lib.strCells, bvs, bv]
  refine Lib.wpList_append_own_string w rfl s x t u rfl base e i T.sl hu hi hz hs1 hby _ n xs (ha.eval hs) hown ⟨ys.toArray⟩ (ha.eval hx) (by simp only [maxLen, size_list]; omega) (by simpa only [size_list] using hbytes) hbase fun v' w' h2 h3 _ => ?_
  rw [size_list, e1] at h2
  rw [ownBlock_slice] at h3
  rcases h2.2 with ⟨rfl, h0⟩ | ⟨g, cap, cur, rfl, _⟩
  · rw [h0] at h2
    have := h none 0 w' (by rw [h0]; exact h2) h3
    rw [h0] at this
    exact this _ (ha.put hd _)
  · exact h _ _ w' h2 h3 _ (ha.put hd _)
end
end Go.Proofs.Ytcjiecclmepboaa
