/-
  The texts of this proof, joined: Zb, Iv, Ya, Pa, Wf, Wa, Pb, Wg, Row, Pc, Wh, Ja, Held, Jb, Jc.
-/
import Derived.Test.YtpnckagibkdcpaaStrM1
import Derived.Deep.MidRow
import Derived.Laws.Externs
import Derived.OrdersHeld
import Derived.Deep.RegionHeld3

/-
  The engine's rules over what a call holds: blocks are made, read and written, rows are made, appended to and set, and the list of pieces keeps count. Nothing here names the program.
-/
namespace Go.Proofs.Ytpnckagibkdcpaa
open Go.RowKit

section
variable {P : Program} {N : Nat} {ops : Array Oper} {Q : Exit → Act → World → Prop} {rest : List Oper} {L : FL} {w0 w : World} {M : BS} {H : List Cd} {t e : TypeId} {g : Nat} {cs cs' : List Value} {z : Value} {bytes k : Nat}
/-! #### Blocks -/
theorem ws_st {x y : Operand} {ty : TypeId} {pos : String} {aft : Array Edge} {kk : Nat} {T : TypeId} {u : Value} (hs : St M w0 w H) (i : Nat) (hx : look L x = some (.pointer (some ⟨g, kk, none⟩))) (hi : nthC H i = some (.blk g T cs)) (E : Cell1 P e) (hk : Nat.blt kk cs.length = true)
    (hy : look L y = some u) (h1 : u.oneCell' = true)
    (h : ∀ w', St M w0 w' (setC H i (.blk g T (cs.set kk u))) → WL P N ops Q rest L w') :
    WL P N ops Q (⟨none, .store e x y, ty, pos, aft, none⟩ :: rest) L w :=
  wl_stA E (hs.ar i hi) hx (by simpa [Nat.blt_eq] using hk) hy h1 fun _ a2 g2 _ => h _ (hs.updA i hi a2 g2)
theorem ws_stS {x y : Operand} {ty T : TypeId} {pos : String} {aft : Array Edge} (hs : St M w0 w H) (i : Nat) (hx : look L x = some (.pointer (some ⟨g, 0, none⟩))) (hi : nthC H i = some (.blk g T cs)) (hy : look L y = some (.agg cs'.toArray)) (S : StT P t cs'.length) (hl : cs.length = cs'.length) (h1 : cs'.all (·.oneCell') = true)
    (h : ∀ w', St M w0 w' (setC H i (.blk g T cs')) → WL P N ops Q rest L w') :
    WL P N ops Q (⟨none, .store t x y, ty, pos, aft, none⟩ :: rest) L w :=
  wl_storeS S (hs.ar i hi) hx hy hl h1 fun _ a2 g2 _ => h _ (hs.updA i hi a2 g2)
theorem ws_box {d : Nat} {x : Operand} {ty : TypeId} {pos : String} {aft : Array Edge} (hs : St M w0 w H) (hx : look L x = some (.agg cs.toArray)) (hd : Nat.blt d N = true)
    (h : ∀ g w', St M w0 w' (.blk g t cs :: H) → WL P N ops Q rest ((d, .pointer (some ⟨g, 0, none⟩)) :: L) w') :
    WL P N ops Q (⟨some d, .box t x, ty, pos, aft, none⟩ :: rest) L w :=
  wl_box hx hd fun g _ hg a hb => h g _ (hs.newA hb hg a)
theorem ws_new {d : Nat} {ty : TypeId} {pos : String} {aft : Array Edge} (hs : St M w0 w H) (hz : (P.info? t).map (·.zero) = some (some (.agg cs.toArray))) (hd : Nat.blt d N = true)
    (h : ∀ g w', St M w0 w' (.blk g t cs :: H) → WL P N ops Q rest ((d, .pointer (some ⟨g, 0, none⟩)) :: L) w') :
    WL P N ops Q (⟨some d, .alloc t, ty, pos, aft, none⟩ :: rest) L w :=
  wl_new hz hd fun g _ hg a hb => h g _ (hs.newA hb hg a)
theorem ws_new1 {d : Nat} {ty : TypeId} {pos : String} {aft : Array Edge} (hs : St M w0 w H) (hz : (P.info? t).map (·.zero) = some (some z)) (hz1 : z.oneCell' = true) (hd : Nat.blt d N = true)
    (h : ∀ g w', St M w0 w' (.blk g t [z] :: H) → WL P N ops Q rest ((d, .pointer (some ⟨g, 0, none⟩)) :: L) w') :
    WL P N ops Q (⟨some d, .alloc t, ty, pos, aft, none⟩ :: rest) L w :=
  wl_alloc hz hd fun w' a hb _ => h _ w' (hs.newA hb (Nat.le_refl _) (by rw [cells_one hz1] at a; exact a))
theorem ws_var {d : Nat} {x : Operand} {ty1 ty2 : TypeId} {p1 p2 : String} {f1 f2 : Array Edge} {zs : List Value} (hs : St M w0 w H) (hz : (P.info? t).map (·.zero) = some (some (.agg zs.toArray))) (S : StT P t cs.length) (hl : zs.length = cs.length)
    (hx : ∀ p, look ((d, p) :: L) x = some (.agg cs.toArray)) (h1 : cs.all (·.oneCell') = true) (hd : Nat.blt d N = true)
    (h : ∀ g w', St M w0 w' (.blk g t cs :: H) → WL P N ops Q rest ((d, .pointer (some ⟨g, 0, none⟩)) :: L) w') :
    WL P N ops Q (⟨some d, .alloc t, ty1, p1, f1, none⟩ :: ⟨none, .store t (.tmp d) x, ty2, p2, f2, none⟩ :: rest) L w :=
  wl_var hz S hl hx h1 hd fun g _ hg a hb => h g _ (hs.newA hb hg a)
theorem ws_var1 {d : Nat} {x : Operand} {ty1 ty2 : TypeId} {p1 p2 : String} {f1 f2 : Array Edge} {u : Value} (hs : St M w0 w H) (hz : (P.info? t).map (·.zero) = some (some z)) (hz1 : z.oneCell' = true) (E : Cell1 P t)
    (hx : ∀ p, look ((d, p) :: L) x = some u) (h1 : u.oneCell' = true) (hd : Nat.blt d N = true)
    (h : ∀ g w', St M w0 w' (.blk g t [u] :: H) → WL P N ops Q rest ((d, .pointer (some ⟨g, 0, none⟩)) :: L) w') :
    WL P N ops Q (⟨some d, .alloc t, ty1, p1, f1, none⟩ :: ⟨none, .store t (.tmp d) x, ty2, p2, f2, none⟩ :: rest) L w :=
  wl_var1 hz hz1 E hx h1 hd fun g _ hg a hb => h g _ (hs.newA hb hg a)
/-! #### Rows of one cell an element -/
theorem ws_bs {d len : Nat} {ps : List (Nat × Operand)} {vs : List Value} {ty : TypeId} {pos : String} {aft : Array Edge} (hs : St M w0 w H) (T : Row1 P t e z bytes) (hp : PLooks L 0 ps vs) (hl : vs.length = len) (hle : len ≤ 16777216) (hd : Nat.blt d N = true)
    (h : ∀ A w', St M w0 w' (.ow e A len len vs :: H) → WL P N ops Q rest ((d, .slice A len len) :: L) w') :
    WL P N ops Q (⟨some d, .buildSlice t len ps.toArray, ty, pos, aft, none⟩ :: rest) L w :=
  wl_bs T hp hl hle hd fun A w' ho hb _ => h A w' (hs.newO hb ho (Nat.le_refl _))
theorem ws_mk {d : Nat} {x y : Operand} {ty : TypeId} {pos : String} {aft : Array Edge} {n c : Nat} {p q : Int} {k1 k2 : IntKind} (hs : St M w0 w H) (T : Row1 P t e z bytes) (hx : look L x = some (.int k1 p)) (hy : look L y = some (.int k2 q)) (hp : p = (n : Int)) (hq : q = (c : Int)) (hnc : n ≤ c)
    (hb : bytes * c ≤ 281474976710656) (hm : c ≤ maxLen) (hd : Nat.blt d N = true)
    (h : ∀ A w', St M w0 w' (.ow e A n c (List.replicate n z) :: H) → WL P N ops Q rest ((d, .slice A n c) :: L) w') :
    WL P N ops Q (⟨some d, .makeSlice t x y, ty, pos, aft, none⟩ :: rest) L w :=
  wl_mk T hx hy hp hq hnc hb hm hd fun A w' ho hb _ => h A w' (hs.newO hb ho (Nat.le_refl _))
theorem ws_app {d : Nat} {s x : Operand} {ty : TypeId} {pos : String} {aft : Array Edge} {A : Option Addr} {n c : Nat} {xs : List Value} {B : Option Addr} {m c' : Nat} {ys : List Value} (hs : St M w0 w H) (i : Nat) (hx0 : look L s = some (.slice A n c)) (hi : nthC H i = some (.ow e A n c xs)) (T : Row1 P t e z bytes)
    (hx : look L x = some (.slice B m c')) (hr : Rd w B m ys) (h1 : ∀ u ∈ ys, u.oneCell' = true)
    (hbytes : (n + m) * bytes ≤ 140737488355328) (hmax : n + m ≤ maxLen) (hd : Nat.blt d N = true)
    (h : ∀ A' c' w', St M w0 w' (setC H i (.ow e A' (n + m) c' (xs ++ ys))) → WL P N ops Q rest ((d, .slice A' (n + m) c') :: L) w') :
    WL P N ops Q (⟨some d, .call { callee := .builtin .append, args := #[s, x], argTypes := #[t, t] }, ty, pos, aft, none⟩ :: rest) L w :=
  wl_app T hx0 (hs.ow i hi) hx hr h1 hbytes hmax (Nat.zero_le _) hd fun A' c' w' ho hg hat => h A' c' w' (hs.updO i hi ho hg (at_new hat))
theorem Gr.at_any {A A' : Option Addr} {n c base : Nat} {xs : List Value} {w' : World} (hg : Gr w w' A) (ho : Ow w' base e A' n c xs) (h : A'.map (·.block) = A.map (·.block) ∨ ∀ a', A' = some a' → w.heap.size ≤ a'.block) : A'.map (·.block) = A.map (·.block) ∨ ∀ a', A' = some a' → w.heap.size ≤ a'.block := h
theorem ws_push {d1 d2 len : Nat} {ps : List (Nat × Operand)} {vs : List Value} {s : Operand} {ty1 ty2 : TypeId} {p1 p2 : String} {f1 f2 : Array Edge} {A : Option Addr} {n c : Nat} {xs : List Value} (hs : St M w0 w H) (i : Nat) (hx0 : look L s = some (.slice A n c)) (hi : nthC H i = some (.ow e A n c xs)) (T : Row1 P t e z bytes)
    (hp : PLooks L 0 ps vs) (hl : vs.length = len) (hle : len ≤ 16777216) (hs1 : look ((d1, .slice (some ⟨w.heap.size, 0, none⟩) len len) :: L) s = some (.slice A n c))
    (hbytes : (n + len) * bytes ≤ 140737488355328) (hmax : n + len ≤ maxLen) (hd1 : Nat.blt d1 N = true) (hd2 : Nat.blt d2 N = true)
    (h : ∀ p A' c' w', St M w0 w' (setC H i (.ow e A' (n + len) c' (xs ++ vs))) → WL P N ops Q rest ((d2, .slice A' (n + len) c') :: (d1, p) :: L) w') :
    WL P N ops Q (⟨some d1, .buildSlice t len ps.toArray, ty1, p1, f1, none⟩ :: ⟨some d2, .call { callee := .builtin .append, args := #[s, .tmp d1], argTypes := #[t, t] }, ty2, p2, f2, none⟩ :: rest) L w :=
  wl_push T hx0 (hs.ow i hi) hp hl hle hs1 hbytes hmax (Nat.zero_le _) hd1 hd2 fun p A' c' w' ho hg hat => h p A' c' w' (hs.updO i hi ho hg hat)
theorem ws_set {d1 : Nat} {x i y : Operand} {ty1 ty2 : TypeId} {p1 p2 : String} {f1 f2 : Array Edge} {A : Option Addr} {n c kk : Nat} {ik : IntKind} {q : Int} {u : Value} {xs : List Value} (hs : St M w0 w H) (j : Nat) (hx : look L x = some (.slice A n c)) (hj : nthC H j = some (.ow e A n c xs)) (T : Row1 P t e z bytes)
    (hi : look L i = some (.int ik q)) (hq : q = (kk : Int)) (hk : kk < n)
    (hy : ∀ p, look ((d1, p) :: L) y = some u) (h1 : u.oneCell' = true) (hd1 : Nat.blt d1 N = true)
    (h : ∀ p w', St M w0 w' (setC H j (.ow e A n c (xs.set kk u))) → WL P N ops Q rest ((d1, p) :: L) w') :
    WL P N ops Q (⟨some d1, .indexAddr t x i, ty1, p1, f1, none⟩ :: ⟨none, .store e (.tmp d1) y, ty2, p2, f2, none⟩ :: rest) L w :=
  wl_set T hx hi (hs.ow j hj) hq hk hy h1 hd1 fun p w' ho hg _ => h p w' (hs.updO j hj ho hg (.inl rfl))
theorem ws_appS {d : Nat} {s x : Operand} {ty : TypeId} {u : TypeId} {pos : String} {aft : Array Edge} {A : Option Addr} {n c : Nat} {xs : List Value} {ys : List UInt8} (hs : St M w0 w H) (i : Nat) (hx0 : look L s = some (.slice A n c)) (hi : nthC H i = some (.ow e A n c xs)) (T : Row1 P t e (.int .u8 0) 1) (hu : P.underlying u = some .string)
    (hx : look L x = some (str ys)) (hbytes : n + ys.length ≤ 140737488355328) (hd : Nat.blt d N = true)
    (h : ∀ A' c' w', St M w0 w' (.ow e A' (n + ys.length) c' (xs ++ bvs ys) :: delC H i) → WL P N ops Q rest ((d, .slice A' (n + ys.length) c') :: L) w') (hfr : A = none) :
    WL P N ops Q (⟨some d, .call { callee := .builtin .append, args := #[s, x], argTypes := #[t, u] }, ty, pos, aft, none⟩ :: rest) L w := by
  subst hfr
  have hn : n = 0 := by
    rcases (hs.ow i hi).2 with ⟨_, hn⟩ | ⟨_, _, _, hv, _⟩
    · exact hn
    · injection hv with hA _ _; cases hA
  subst hn
  have hxs : xs = [] := List.eq_nil_of_length_eq_zero (hs.ow i hi).len
  subst hxs
  have hc : c = 0 := by
    rcases (hs.ow i hi).2 with ⟨hv, _⟩ | ⟨_, _, _, hv, _⟩
    · injection hv
    · injection hv with hA _ _; cases hA
  subst hc
  refine wl_appS (base := w.heap.size) T hu hx0 (Ow.nil _ _ _) hx hbytes (Nat.le_refl _) hd fun A' c' w' ho hg => h A' c' w' ((hs.drop i hi).newO ?_ ho (Nat.le_refl _))
  exact ⟨hg.os, hg.tape, hg.output, World.grownBy.size hg, fun b hb => hg.block b hb (by simp)⟩
/-! #### Rows of elements -/
/-- What is known by its cells alone. -/
def rawEl (cs : List Value) : El := ⟨fun _ _ cs' => cs' = cs, fun h _ _ => h⟩
theorem St.raw (hs : St M w0 w H) (cs : List Value) : St M w0 w (.ce (rawEl cs) cs :: H) := ⟨hs.1, NoB, fun _ h => h.elim, rfl, hs.2.mono fun _ _ h => ⟨h, id⟩⟩
theorem St.nilO (hs : St M w0 w H) (e : TypeId) : St M w0 w (.ow e none 0 0 [] :: H) := ⟨hs.1, NoB, fun _ h => h.elim, ⟨by simp, Ow.nil _ _ _⟩, hs.2.mono fun _ _ h => ⟨h, id⟩⟩
theorem St.nilG (hs : St M w0 w H) (k : Nat) (e : TypeId) : St M w0 w (.rg k e none 0 [] :: H) := ⟨hs.1, NoB, fun _ h => h.elim, ⟨by simp, OwR.nil _ _ _⟩, hs.2.mono fun _ _ h => ⟨h, id⟩⟩
/-- Pieces in front are told as one. -/
theorem St.pack {H1 : List Cd} (hs : St M w0 w (H1 ++ H)) (c : Cd) (h : ∀ w S, Sat w H1 S → c.P w S) : St M w0 w (c :: H) := by
  obtain ⟨T, hT, h1, h2⟩ := hs.2.append
  exact ⟨hs.1, T, hT, h _ _ h1, h2⟩
theorem Sat.split {c : Cd} {S : BS} (h : Sat w (c :: H) S) {H1 : List Cd} (hc : ∀ T, c.P w T → Sat w H1 T) : Sat w (H1 ++ H) S := by
  obtain ⟨T, hT, h1, h2⟩ := h
  exact Sat.join hT (hc _ h1) h2
/-- A piece in front is told as some. -/
theorem St.unpack {c : Cd} (hs : St M w0 w (c :: H)) {H1 : List Cd} (h : ∀ T, c.P w T → Sat w H1 T) : St M w0 w (H1 ++ H) := ⟨hs.1, hs.2.split h⟩
theorem St.unpackE {c : Cd} (hs : St M w0 w (c :: H)) {α : Type} {H1 : α → List Cd} (h : ∀ T, c.P w T → ∃ a, Sat w (H1 a) T) : ∃ a, St M w0 w (H1 a ++ H) := by
  obtain ⟨T, hT, hc, hr⟩ := hs.2
  obtain ⟨a, ha⟩ := h T hc
  exact ⟨a, hs.1, Sat.join hT ha hr⟩
/-- An element, with the memory that is its own, goes into a row. -/
theorem ws_pushG {d1 d2 : Nat} {x : Operand} {E : El} {s : Operand} {ty1 ty2 : TypeId} {p1 p2 : String} {f1 f2 : Array Edge} {A : Option Addr} {n c : Nat} {els : List El} (hs : St M w0 w (.rg k e A c els :: .ce E cs :: H)) (T : RowK P t e k z bytes)
    (hs1 : ∀ p, look ((d1, p) :: L) s = some (.slice A n c)) (hn : els.length = n) (hx : ∃ v, look L x = some v ∧ v.cells = cs.toArray) (hl : cs.length = k) (h1 : cs.all (·.oneCell') = true) (hk : k ≤ 16777216)
    (hbytes : (n + 1) * bytes ≤ 140737488355328) (hmax : n + 1 ≤ maxLen) (hd1 : Nat.blt d1 N = true) (hd2 : Nat.blt d2 N = true)
    (h : ∀ p A' c' w', St M w0 w' (.rg k e A' c' (els ++ [E]) :: H) → WL P N ops Q rest ((d2, .slice A' (n + 1) c') :: (d1, p) :: L) w') :
    WL P N ops Q (⟨some d1, .buildSlice t 1 #[(0, x)], ty1, p1, f1, none⟩ :: ⟨some d2, .call { callee := .builtin .append, args := #[s, .tmp d1], argTypes := #[t, t] }, ty2, p2, f2, none⟩ :: rest) L w := by
  obtain ⟨S, ⟨T1, hT1, hc1, T2, hT2, hc2, _⟩, hS, _, _, hB⟩ := St.lend (H1 := [.rg k e A c els, .ce E cs]) (H2 := H) hs
  have hown : OwR k e w 0 S A c els := hc1.2.mono (Nat.le_refl _) fun b _ h => hT1 b h
  have hbut : ∀ b, b < w.heap.size → T2 b → But A b := fun b _ hb a ha hk => (hT2 b hb).2 (hk ▸ hc1.1 a ha)
  refine wl_pushG (css' := [cs]) (els' := [E]) (ps := [(0, x)]) T hs1 hown hn ⟨rfl, hx, hl, trivial⟩ (Grp.one (El.mono hc2 fun b hb hh => ⟨(hT2 b hh).1, hbut b hb hh⟩) hl) rfl (by simpa using h1) (by simpa using hk) (by decide) hbytes hmax (Nat.zero_le _) hd1 hd2 fun p A' c' w' hO hG hat => h p A' c' w' ?_
  have hA : ∀ a, A = some a → S a.block := fun a ha => hT1 _ (hc1.1 a ha)
  refine hB w' [.rg k e A' c' (els ++ [E])] ⟨Mod.of_gr hG hA, Fr S w, fun b h => h, ⟨fun a ha => at_in hat hA a ha, hO.mono (Nat.le_refl _) fun b _ h => .inl h⟩, trivial⟩
theorem ws_bsG0 {d : Nat} {ty : TypeId} {pos : String} {aft : Array Edge} (hs : St M w0 w H) (hv : OpV P (.buildSlice t 0 #[]) ty L w (.slice (some ⟨w.heap.size, 0, none⟩) 0 0) (w.alloc (.cells #[] e))) (hd : Nat.blt d N = true)
    (h : ∀ A w', St M w0 w' (.rg k e A 0 [] :: H) → WL P N ops Q rest ((d, .slice A 0 0) :: L) w') :
    WL P N ops Q (⟨some d, .buildSlice t 0 #[], ty, pos, aft, none⟩ :: rest) L w := by
  have hb : Below w.heap.size w (w.alloc (.cells #[] e)) := (Below.refl _ _).alloc (Nat.le_refl _) _
  refine wl_val hv hd (h _ _ (hs.newG (S := NoB) (base := w.heap.size) hb (OwR.nilc ?_) (Nat.le_refl _) fun _ _ h => h.elim))
  have := World.ownsRow_lit (e := e) (size := k) (base := w.heap.size) w #[] 0 (Nat.le_refl _) (by simp) (by simp)
  simpa using this
theorem opv_bsG0 {ty : TypeId} (T : RowK P t e k z bytes) : OpV P (.buildSlice t 0 #[]) ty L w (.slice (some ⟨w.heap.size, 0, none⟩) 0 0) (w.alloc (.cells #[] e)) := fun ρ o hρ ho _ => by
  unfold execOp
  simp only [ho, Instr.buildSlice, Sem.run_bind, run_underlying T.sl, Result.andThen_ok, T.size]
  have h0 : Array.range 0 = #[] := Array.eq_empty_of_size_eq_zero (by simp)
  simp [newRow, Instr.fill, h0]
theorem RdR.raw {w : World} {S : BS} {A : Option Addr} {css : List (List Value)} (h : RdR k w S A (css.map rawEl)) : Rd w A (css.length * k) css.flatten ∧ ∀ cs ∈ css, cs.length = k := by
  obtain ⟨css', h1, h2, _⟩ := h
  have he : css' = css := by
    apply List.ext_getElem?
    intro i
    cases hi : css'[i]? with
    | none => rw [List.getElem?_eq_none]; have := h1.1; rw [List.length_map] at this; have := List.getElem?_eq_none_iff.1 hi; omega
    | some cs =>
      obtain ⟨_, E, hE, hp⟩ := h1.2 i cs hi
      rw [List.getElem?_map] at hE
      cases hc : css[i]? with
      | none => rw [hc] at hE; cases hE
      | some x => rw [hc] at hE; cases hE; have hp' : cs = x := hp; rw [hp']
  subst he
  rw [List.length_map] at h2
  exact ⟨h2, h1.ks⟩
theorem RdR.to_raw {w : World} {S : BS} {A : Option Addr} {els : List El} (h : RdR k w S A els) : ∃ css, Grp k w S els css ∧ RdR k w S A (css.map rawEl) := by
  obtain ⟨css, h1, h2, h3⟩ := h
  exact ⟨css, h1, css, ⟨by simp, fun i cs hcs => ⟨h1.ks cs (List.mem_of_getElem? hcs), rawEl cs, by simp [hcs], rfl⟩⟩, by rw [List.length_map, h1.1]; exact h2, by rw [List.length_map, h1.1]; exact h3⟩
theorem grp_raw {w : World} {S : BS} {css : List (List Value)} (hk : ∀ cs ∈ css, cs.length = k) : Grp k w S (css.map rawEl) css := ⟨by simp, fun i cs hcs => ⟨hk cs (List.mem_of_getElem? hcs), rawEl cs, by simp [hcs], rfl⟩⟩
theorem OwR.raw {w : World} {S : BS} {A : Option Addr} {css : List (List Value)} {base c : Nat} (h : OwR k e w base S A c (css.map rawEl)) : w.ownsRow base e k (.slice A css.length c) css.length css.flatten ∧ ∀ cs ∈ css, cs.length = k := by
  obtain ⟨css', h1, h2⟩ := h
  have he : css' = css := by
    apply List.ext_getElem?
    intro i
    cases hi : css'[i]? with
    | none => rw [List.getElem?_eq_none]; have := h1.1; rw [List.length_map] at this; have := List.getElem?_eq_none_iff.1 hi; omega
    | some cs =>
      obtain ⟨_, E, hE, hp⟩ := h1.2 i cs hi
      rw [List.getElem?_map] at hE
      cases hc : css[i]? with
      | none => rw [hc] at hE; cases hE
      | some x => rw [hc] at hE; cases hE; have hp' : cs = x := hp; rw [hp']
  subst he
  rw [List.length_map] at h2
  exact ⟨h2, h1.ks⟩
/-- What was handed on cell by cell is told as elements again. -/
theorem St.rawOut (hs : St NoB w0 w H) (i : Nat) {A : Option Addr} {c : Nat} {css : List (List Value)} {els : List El} {S : BS} (hi : nthC H i = some (.rg k e A c (css.map rawEl))) (hg : Grp k w0 S els css) : OwR k e w w0.heap.size S A c els := by
  obtain ⟨T, hc, hT⟩ := hs.get i hi
  have hA : ∀ a, A = some a → w0.heap.size ≤ a.block := fun a ha => (hT _ (hc.1 a ha)).elim (fun h => h.elim) id
  obtain ⟨ho, hk⟩ := OwR.raw hc.2
  have hl : css.length = els.length := hg.1
  refine ⟨css, hg.move hs.1.size fun b hb h => ⟨⟨h, fun a ha => by have := hA a ha; omega⟩, hs.1.block b hb id⟩, by rw [← hl]; exact ho.1, ?_⟩
  rcases ho.2 with ⟨hv, hn⟩ | ⟨g, cap, cur, hv, _, rest⟩
  · exact .inl ⟨by rw [← hl]; exact hv, by rw [← hl]; exact hn⟩
  · injection hv with hv1 hv2 hv3
    subst hv1 hv3
    exact .inr ⟨g, c, cur, rfl, hA _ rfl, by rw [← hl]; exact rest⟩
/-- append(s, x...): elements that are known by their cells alone. -/
theorem ws_appR {d : Nat} {s x : Operand} {ty : TypeId} {pos : String} {aft : Array Edge} {A : Option Addr} {n c : Nat} {els : List El} {B : Option Addr} {m c' : Nat} {css : List (List Value)} {S' : BS} (hs : St M w0 w H) (i : Nat) (hx0 : look L s = some (.slice A n c)) (hi : nthC H i = some (.rg k e A c els)) (T : RowK P t e k z bytes)
    (hn : els.length = n) (hx : look L x = some (.slice B m c')) (hr : RdR k w S' B (css.map rawEl)) (hm : css.length = m) (h1 : ∀ u ∈ css.flatten, u.oneCell' = true)
    (hbytes : (n + m) * bytes ≤ 140737488355328) (hmax : n + m ≤ maxLen) (hd : Nat.blt d N = true)
    (h : ∀ A' c' w', St M w0 w' (setC H i (.rg k e A' c' (els ++ css.map rawEl))) → WL P N ops Q rest ((d, .slice A' (n + m) c') :: L) w') :
    WL P N ops Q (⟨some d, .call { callee := .builtin .append, args := #[s, x], argTypes := #[t, t] }, ty, pos, aft, none⟩ :: rest) L w := fun a ha => by
  subst hn hm
  obtain ⟨S, hc, hS, hK⟩ := hs.upd i hi
  obtain ⟨css0, hg, ho⟩ := hc.2
  obtain ⟨hr, hk⟩ := RdR.raw hr
  refine wpList_appG T rfl s x rfl (ha.eval hx0) ho (ha.eval hx) hr h1 hbytes hmax (Nat.zero_le _) fun A' c' w' ho' hgr hat => ?_
  refine h A' c' w' (hK w' (.rg k e A' c' (els ++ css.map rawEl)) (fun b => S b ∨ w.heap.size ≤ b) (Mod.of_gr hgr hc.1) ⟨fun a ha => at_in (at_new hat) hc.1 a ha, css0 ++ css, ?_, ?_⟩ fun _ _ h => h) _ (ha.put hd _)
  · have hg' : Grp k w (fun b => S b ∧ But A b) (css.map rawEl) css := grp_raw hk
    refine (hg.append hg').move hgr.size fun b hlt hb => ⟨⟨.inl hb.1, fun a' ha' => ?_⟩, hgr.block b hlt ?_⟩
    · subst ha'
      rcases hat with e | e
      · cases A with
        | none => simp at e
        | some a0 => simp only [Option.map_some, Option.some.injEq] at e; rw [e]; exact hb.2 a0 rfl
      · simp only [Option.map_some, Option.some.injEq] at e; omega
    · intro hk
      cases A with
      | none => simp at hk
      | some a0 => simp only [Option.map_some, Option.some.injEq] at hk; exact hb.2 a0 rfl hk
  · have : (els ++ css.map rawEl).length = els.length + css.length := by simp
    rw [this, List.flatten_append]; exact ho'
/-- append(s, x): an element that is known by its cells alone. -/
theorem ws_pushR {d1 d2 : Nat} {x : Operand} {s : Operand} {ty1 ty2 : TypeId} {p1 p2 : String} {f1 f2 : Array Edge} {A : Option Addr} {n c : Nat} {els : List El} (hs : St M w0 w H) (i : Nat) (hs1 : ∀ p, look ((d1, p) :: L) s = some (.slice A n c)) (hi : nthC H i = some (.rg k e A c els)) (T : RowK P t e k z bytes)
    (hn : els.length = n) (hx : ∃ v, look L x = some v ∧ v.cells = cs.toArray) (hl : cs.length = k) (h1 : cs.all (·.oneCell') = true) (hk : k ≤ 16777216)
    (hbytes : (n + 1) * bytes ≤ 140737488355328) (hmax : n + 1 ≤ maxLen) (hd1 : Nat.blt d1 N = true) (hd2 : Nat.blt d2 N = true)
    (h : ∀ p A' c' w', St M w0 w' (setC H i (.rg k e A' c' (els ++ [rawEl cs]))) → WL P N ops Q rest ((d2, .slice A' (n + 1) c') :: (d1, p) :: L) w') :
    WL P N ops Q (⟨some d1, .buildSlice t 1 #[(0, x)], ty1, p1, f1, none⟩ :: ⟨some d2, .call { callee := .builtin .append, args := #[s, .tmp d1], argTypes := #[t, t] }, ty2, p2, f2, none⟩ :: rest) L w := by
  obtain ⟨S, hc, hS, hK⟩ := hs.upd i hi
  refine wl_pushG (css' := [cs]) (els' := [rawEl cs]) (ps := [(0, x)]) T hs1 hc.2 hn ⟨rfl, hx, hl, trivial⟩ (grp_raw (css := [cs]) (by simpa using hl)) rfl (by simpa using h1) (by simpa using hk) (by decide) hbytes hmax (Nat.zero_le _) hd1 hd2 fun p A' c' w' hO hG hat => h p A' c' w' ?_
  exact hK w' (.rg k e A' c' (els ++ [rawEl cs])) (fun b => S b ∨ w.heap.size ≤ b) (Mod.of_gr hG hc.1) ⟨fun a ha => at_in hat hc.1 a ha, hO.mono (Nat.le_refl _) fun b _ h => .inl h⟩ fun _ _ h => h
/-- A beginning of a row. -/
theorem OwR.pre {w : World} {S : BS} {A : Option Addr} {base c m : Nat} {els : List El} (h : OwR k e w base S A c els) (hm : m ≤ els.length) : OwR k e w base S A c (els.take m) := by
  obtain ⟨css, hg, ho⟩ := h
  have hl : (els.take m).length = m := by simp; omega
  refine ⟨css.take m, hg.take m, ?_⟩
  rw [hl]
  refine ⟨by have := (hg.take m).len; rw [hl] at this; exact this, ?_⟩
  rcases ho.2 with ⟨hv, hn⟩ | ⟨g, cap, cur, hv, hg', h1, h2, h3, h4, h5⟩
  · injection hv with hA _ hc
    have : m = 0 := by omega
    subst this
    exact .inl ⟨by rw [hA, hc], rfl⟩
  · injection hv with hA _ hc
    subst hA hc
    refine .inr ⟨g, c, cur, rfl, hg', h1, by omega, h3, h4, ?_⟩
    rw [← flat_take m hg.ks, ← h5, List.take_take, Nat.min_eq_left (Nat.mul_le_mul_right _ hm)]
theorem St.pre {A : Option Addr} {c m : Nat} {els : List El} (hs : St M w0 w (.rg k e A c els :: H)) (hm : m ≤ els.length) : St M w0 w (.rg k e A c (els.take m) :: H) := by
  obtain ⟨T, hT, hc, hr⟩ := hs.2
  exact ⟨hs.1, T, hT, ⟨hc.1, hc.2.pre hm⟩, hr⟩
/-- append(s, x...): the elements of the one row, with the memory that is their own, go into the other. -/
theorem ws_appG2 {d : Nat} {s x : Operand} {ty : TypeId} {pos : String} {aft : Array Edge} {A : Option Addr} {n c : Nat} {els els' : List El} {B : Option Addr} {m c' : Nat} (hs : St M w0 w (.rg k e A c els :: .rg k e B c' els' :: H)) (hx0 : look L s = some (.slice A n c)) (T : RowK P t e k z bytes)
    (hn : els.length = n) (hx : look L x = some (.slice B m c')) (hm : els'.length = m) (h1 : ∀ css w S, Grp k w S els' css → ∀ u ∈ css.flatten, u.oneCell' = true)
    (hbytes : (n + m) * bytes ≤ 140737488355328) (hmax : n + m ≤ maxLen) (hd : Nat.blt d N = true)
    (h : ∀ A' c' w', St M w0 w' (.rg k e A' c' (els ++ els') :: H) → WL P N ops Q rest ((d, .slice A' (n + m) c') :: L) w') :
    WL P N ops Q (⟨some d, .call { callee := .builtin .append, args := #[s, x], argTypes := #[t, t] }, ty, pos, aft, none⟩ :: rest) L w := by
  obtain ⟨S, ⟨T1, hT1, hc1, T2, hT2, hc2, _⟩, hS, _, _, hB⟩ := St.lend (H1 := [.rg k e A c els, .rg k e B c' els']) (H2 := H) hs
  have hown : OwR k e w 0 S A c els := hc1.2.mono (Nat.le_refl _) fun b _ h => hT1 b h
  have hbut : ∀ b, b < w.heap.size → T2 b → But A b := fun b _ hb a ha hk => (hT2 b hb).2 (hk ▸ hc1.1 a ha)
  have hr : RdR k w (fun b => S b ∧ But A b) B els' := by
    obtain ⟨css, g1, g2⟩ := hc2.2
    exact ⟨css, g1.mono fun b hb h => ⟨(hT2 b h.1).1, hbut b hb h.1⟩, own_rd g2, fun a ha _ => ⟨(hT2 _ (hc2.1 a ha)).1, hbut _ (OwR.lt hc2.2 a ha).2 (hc2.1 a ha)⟩⟩
  have hA : ∀ a, A = some a → S a.block := fun a ha => hT1 _ (hc1.1 a ha)
  refine wl_appG T hx0 hown hn hx hr hm (fun css hg => h1 css _ _ hg) hbytes hmax (Nat.zero_le _) hd fun A' c2 w' hO hG hat => h A' c2 w' ?_
  exact hB w' [.rg k e A' c2 (els ++ els')] ⟨Mod.of_gr hG hA, Fr S w, fun b h => h, ⟨fun a ha => at_in (at_new hat) hA a ha, hO.mono (Nat.le_refl _) fun b _ h => .inl h⟩, trivial⟩
end
end Go.Proofs.Ytpnckagibkdcpaa


/-
  The engine's rules for calls through an interface value, and for elements of rows that are known by their cells and are written in place. Nothing here names the program.
-/
namespace Go.Proofs.Ytpnckagibkdcpaa
open Go.RowKit

theorem bin_quoN {P : Program} {t : TypeId} {a b : Nat} (hb : 0 < b) (ha : a ≤ 9223372036854775807) : BinV P .quo t (.int .i64 (a : Int)) (.int .i64 (b : Int)) (.int .i64 ((a / b : Nat) : Int)) := bin_quo hb (IntWalk.i64_in _ (by have := Nat.div_le_self a b; generalize a / b = q at this ⊢; omega))
theorem bin_addN1 {P : Program} {t : TypeId} {a : Nat} (h : a + 1 ≤ 9223372036854775807) : BinV P .add t (.int .i64 (a : Int)) (.int .i64 1) (.int .i64 ((a + 1 : Nat) : Int)) := bin_addN (b := 1) h
theorem bin_mulN2 {P : Program} {t : TypeId} {a : Nat} (h : 2 * a ≤ 9223372036854775807) : BinV P .mul t (.int .i64 2) (.int .i64 (a : Int)) (.int .i64 ((2 * a : Nat) : Int)) := bin_mulN (a := 2) h
theorem bin_quoN2 {P : Program} {t : TypeId} {a : Nat} (h : a ≤ 9223372036854775807) : BinV P .quo t (.int .i64 (a : Int)) (.int .i64 2) (.int .i64 ((a / 2 : Nat) : Int)) := bin_quoN (b := 2) (by decide) h
/-- In this world an interface value's method is function f, with this receiver. -/
def MethV (P : Program) (w : World) (t : TypeId) (v : Value) (name : String) (f : FuncId) (r : Value) : Prop := (method (P.types.size + Made.depth) t v name).run P w = .ok (f, r) w
section
variable {P : Program} {N : Nat} {ops : Array Oper} {Q : Exit → Act → World → Prop} {rest : List Oper} {L : FL} {w : World}
theorem exec_inv {ρ : Operand → Value} {o : Oper} {x : Operand} {name : String} {xs : List Operand} {vs : List Value} {ats : Array TypeId} {t : TypeId} {v r : Value} {f : FuncId} (ho : o.op = .call { callee := .invoke x name, args := xs.toArray, argTypes := ats })
    (hc : CallOk P f) (hm : MethV P w t v name f r) (hρ : ∀ x u, look L x = some u → ρ x = u) (hr : look L x = some (.iface t v)) (hx : Looks L xs vs) : (execOp ρ o).run P w = .ok (.enter f (r :: vs).toArray) w := by
  have hf : ρ x = .iface t v := hρ _ _ hr
  have hmp := Looks.map hρ hx
  have h0 : (#[Value.iface t v] ++ Array.map ρ xs.toArray)[0]? = some (Value.iface t v) := by simp
  have h1 : (#[Value.iface t v] ++ Array.map ρ xs.toArray).extract 1 (#[Value.iface t v] ++ Array.map ρ xs.toArray).size = vs.toArray := by
    rw [← hmp]; simp; exact List.take_of_length_le (by simp)
  unfold execOp
  simp only [ho, resolve, hf, Sem.run_bind, Sem.run_pure, Result.andThen_ok, invoke, h0, h1, callMethod]
  have hm' : (method (P.types.size + Made.depth) t v name).run P w = .ok (f, r) w := hm
  simp only [show ∀ w, (program).run P w = .ok P w from fun _ => rfl, Result.andThen_ok, hm']
  have h2 : (#[r] ++ vs.toArray : Array Value) = (r :: vs).toArray := by simp
  rw [h2]
  exact hc _ _
theorem wl_inv {d : Nat} {x : Operand} {name : String} {xs : List Operand} {ats : Array TypeId} {ty : TypeId} {pos : String} {aft : Array Edge} {vs : List Value} {t : TypeId} {v r : Value} {f : FuncId} {R : Value → World → Prop}
    (hc : CallOk P f) (hm : MethV P w t v name f r) (hr : CallsV P f (r :: vs).toArray w R) (hx0 : look L x = some (.iface t v)) (hx : Looks L xs vs) (hd : Nat.blt d N = true)
    (h : ∀ v w', R v w' → WL P N ops Q rest ((d, v) :: L) w') :
    WL P N ops Q (⟨some d, .call { callee := .invoke x name, args := xs.toArray, argTypes := ats }, ty, pos, aft, none⟩ :: rest) L w := fun a ha =>
  wpList_plain rfl fun K hK => by
    unfold Oper.wp
    rw [exec_inv rfl hc hm (fun x u hx => ha.eval hx) hx0 hx]
    refine Calls.mono hr ?_
    rintro _ w' ⟨v, rfl, hv⟩
    exact hK _ _ (h v w' hv _ (ha.put hd v))
end

/-! #### Rows that are known by their cells, written in place -/
def setN : List Value → Nat → List Value → List Value
  | xs, _, [] => xs
  | xs, o, v :: r => setN (xs.set o v) (o + 1) r
theorem setN_right (x : List Value) : ∀ (vs r : List Value) (o : Nat), setN (x ++ r) (x.length + o) vs = x ++ setN r o vs
  | [], r, o => rfl
  | v :: vs, r, o => by
    rw [setN, setN, List.set_append_right _ _ (by omega), show x.length + o - x.length = o by omega, Nat.add_assoc, setN_right x vs]
theorem setN_left : ∀ (vs x r : List Value), x.length = vs.length → setN (x ++ r) 0 vs = vs ++ r
  | [], [], r, _ => rfl
  | v :: vs, a :: x, r, h => by
    have := setN_right [v] vs (x ++ r) 0
    rw [setN]
    simp only [List.cons_append, List.set_cons_zero, Nat.zero_add]
    simp only [List.cons_append, List.nil_append, List.length_singleton, Nat.add_zero] at this
    rw [this, setN_left vs x r (by simpa using h)]
theorem flat_setN {k : Nat} {cs' : List Value} (hk' : cs'.length = k) : ∀ {css : List (List Value)} {i : Nat}, (∀ cs ∈ css, cs.length = k) → i < css.length → setN css.flatten (i * k) cs' = (css.set i cs').flatten
  | [], i, _, h => by simp at h
  | x :: css, 0, hk, _ => by
    rw [List.flatten_cons, Nat.zero_mul, setN_left cs' x _ (by rw [hk x List.mem_cons_self, hk'])]; rfl
  | x :: css, i + 1, hk, h => by
    have hx := hk x List.mem_cons_self
    rw [List.flatten_cons, show (i + 1) * k = x.length + i * k by rw [hx, Nat.add_mul]; omega, setN_right, flat_setN hk' (fun cs hc => hk cs (List.mem_cons_of_mem _ hc)) (by simpa using h)]
    rfl
theorem flat_set1 {k : Nat} {cs : List Value} {u : Value} {j : Nat} : ∀ {css : List (List Value)} {i : Nat}, (∀ cs ∈ css, cs.length = k) → css[i]? = some cs → j < k → css.flatten.set (i * k + j) u = (css.set i (cs.set j u)).flatten
  | [], i, _, h, _ => by simp at h
  | x :: css, 0, hk, h, hj => by
    simp at h; subst h
    rw [List.flatten_cons, Nat.zero_mul, Nat.zero_add, List.set_append_left _ _ (by rw [hk x List.mem_cons_self]; exact hj)]; rfl
  | x :: css, i + 1, hk, h, hj => by
    have hx := hk x List.mem_cons_self
    rw [List.flatten_cons, List.set_append_right _ _ (by rw [hx, Nat.add_mul]; omega), show (i + 1) * k + j - x.length = i * k + j by rw [hx, Nat.add_mul]; omega, flat_set1 (fun cs hc => hk cs (List.mem_cons_of_mem _ hc)) (by simpa using h) hj]
    rfl
theorem own_storedN {base : Nat} {e : TypeId} {size g n cap : Nat} : ∀ (vs : List Value) (j : Nat) {w : World} {xs : List Value}, w.ownsRow base e size (.slice (some ⟨g, 0, none⟩) n cap) n xs →
    (w.setCells g j vs).ownsRow base e size (.slice (some ⟨g, 0, none⟩) n cap) n (setN xs j vs) ∧ w.grownBy (w.setCells g j vs) (some g)
  | [], j, w, xs, h => ⟨h, rfl, rfl, rfl, Nat.le_refl _, fun _ _ _ => rfl⟩
  | v :: vs, j, w, xs, h => by
    obtain ⟨h1, h2⟩ := h.stored j v
    obtain ⟨h3, h4⟩ := own_storedN vs (j + 1) h1
    exact ⟨h3, h2.trans h4⟩
section
variable {P : Program} {N : Nat} {ops : Array Oper} {Q : Exit → Act → World → Prop} {rest : List Oper} {L : FL} {w0 w : World} {M : BS} {H : List Cd} {t e : TypeId} {g : Nat} {cs cs' : List Value} {z : Value} {bytes k : Nat}
theorem OwR.raw_mk {S : BS} {A : Option Addr} {base c : Nat} {css : List (List Value)} (hk : ∀ cs ∈ css, cs.length = k) (h : w.ownsRow base e k (.slice A css.length c) css.length css.flatten) : OwR k e w base S A c (css.map rawEl) :=
  ⟨css, grp_raw hk, by rw [List.length_map]; exact h⟩
/-- A row of the call's own that is known by its cells, where it has elements, lies at the start of a block. -/
theorem OwR.form {S : BS} {A : Option Addr} {base c : Nat} {els : List El} (h : OwR k e w base S A c els) (hn : 0 < els.length) : ∃ g, A = some ⟨g, 0, none⟩ := by
  obtain ⟨css, _, h2⟩ := h
  rcases h2.2 with ⟨hv, h0⟩ | ⟨g, cap, cur, hv, _⟩
  · omega
  · injection hv with hA; exact ⟨g, hA⟩
/-- One cell of an element is written. -/
theorem ws_stR {x y : Operand} {ty : TypeId} {pos : String} {aft : Array Edge} {e1 : TypeId} {A : Option Addr} {c p j kk : Nat} {u : Value} {css : List (List Value)} (hs : St M w0 w H) (i : Nat) (hx : look L x = some (.pointer (some ⟨g, kk, none⟩))) (hi : nthC H i = some (.rg k e A c (css.map rawEl))) (hA : A = some ⟨g, 0, none⟩) (E : Cell1 P e1)
    (hkk : kk = p * k + j) (hcs : css[p]? = some cs) (hj : j < k) (hy : look L y = some u) (h1 : u.oneCell' = true)
    (h : ∀ w', St M w0 w' (setC H i (.rg k e A c ((css.set p (cs.set j u)).map rawEl))) → WL P N ops Q rest L w') :
    WL P N ops Q (⟨none, .store e1 x y, ty, pos, aft, none⟩ :: rest) L w := by
  subst hA hkk
  obtain ⟨T, hc, hT, hK⟩ := hs.upd i hi
  obtain ⟨ho, hk⟩ := OwR.raw hc.2
  have hp := (List.getElem?_eq_some_iff.1 hcs).1
  have hl : p * k + j < css.length * k := by
    have : (p + 1) * k ≤ css.length * k := Nat.mul_le_mul_right _ hp
    rw [Nat.add_mul] at this; omega
  have hcell := ho.cellAt (p * k + j) hl
  have hlt : p * k + j < css.flatten.length := by rw [ho.1]; exact hl
  rw [List.getElem?_eq_getElem hlt] at hcell
  have hst := ho.stored (p * k + j) u
  refine wl_unitN (opu_storeC E hx hy h1 hcell (ho.frozenAt _)) (h _ (hK _ _ T (Mod.of_gr (A := some ⟨g, 0, none⟩) hst.2 fun a ha => hc.1 a ha) ⟨hc.1, ?_⟩ fun _ _ h => .inl h))
  have hl2 : (css.set p (cs.set j u)).length = css.length := List.length_set
  refine OwR.raw_mk (fun cs' hcs' => ?_) (by rw [hl2, ← flat_set1 hk hcs hj]; exact hst.1)
  rcases List.mem_or_eq_of_mem_set hcs' with h | rfl
  · exact hk _ h
  · rw [List.length_set]; exact hk _ (List.mem_of_getElem? hcs)
/-- A whole element is written. -/
theorem ws_stRS {x y : Operand} {ty : TypeId} {pos : String} {aft : Array Edge} {A : Option Addr} {c p kk : Nat} {css : List (List Value)} (hs : St M w0 w H) (i : Nat) (hx : look L x = some (.pointer (some ⟨g, kk, none⟩))) (hi : nthC H i = some (.rg k e A c (css.map rawEl))) (hA : A = some ⟨g, 0, none⟩) (S : StT P e k)
    (hkk : kk = p * k) (hp : p < css.length) (hy : look L y = some (.agg cs'.toArray)) (hl : cs'.length = k) (h1 : cs'.all (·.oneCell') = true)
    (h : ∀ w', St M w0 w' (setC H i (.rg k e A c ((css.set p cs').map rawEl))) → WL P N ops Q rest L w') :
    WL P N ops Q (⟨none, .store e x y, ty, pos, aft, none⟩ :: rest) L w := by
  subst hA hkk
  obtain ⟨T, hc, hT, hK⟩ := hs.upd i hi
  obtain ⟨ho, hk⟩ := OwR.raw hc.2
  have hst := own_storedN cs' (p * k) ho
  have hth : w.there g (p * k) cs'.toArray.size := fun j hj => by
    have hj' : j < k := by simpa [hl] using hj
    have hlt : p * k + j < css.length * k := by
      have : (p + 1) * k ≤ css.length * k := Nat.mul_le_mul_right _ hp
      rw [Nat.add_mul] at this; omega
    have hcell := ho.cellAt (p * k + j) hlt
    rw [List.getElem?_eq_getElem (by rw [ho.1]; exact hlt)] at hcell
    exact ⟨by rw [hcell]; rfl, ho.frozenAt _⟩
  refine wl_unitN (w' := w.setCells g (p * k) cs') (fun ρ o hρ ho' _ => ?_) (h _ (hK _ _ T (Mod.of_gr (A := some ⟨g, 0, none⟩) hst.2 fun a ha => hc.1 a ha) ⟨hc.1, ?_⟩ fun _ _ h => .inl h))
  · have := run_storeVar_mid (P := P) w g (p * k) e cs'.toArray hth (by simpa [hl] using S.size) (by simpa [Array.all_eq_true_iff_forall_mem] using h1)
    simp [execOp, ho', Instr.storeAt, Instr.sureAddr, hρ x _ hx, hρ y _ hy, this]
  have hl2 : (css.set p cs').length = css.length := List.length_set
  refine OwR.raw_mk (fun cs2 hcs' => ?_) (by rw [hl2, ← flat_setN hl hk hp]; exact hst.1)
  rcases List.mem_or_eq_of_mem_set hcs' with h | rfl
  · exact hk _ h
  · exact hl
end
/-- What the table of a dynamic type says of a method. -/
def methRow (P : Program) (t : TypeId) (name : String) : Option (Bool × Option (FuncId × Bool)) := (P.info? t).bind fun ti => (ti.methods.find? (·.name == name)).map fun m => (m.path.isEmpty, m.func)
theorem methRow_get {P : Program} {t : TypeId} {name : String} {f : FuncId} {b : Bool} (h : methRow P t name = some (true, some (f, b))) : ∃ ti m, P.info? t = some ti ∧ ti.methods.find? (·.name == name) = some m ∧ m.path = #[] ∧ m.func = some (f, b) := by
  unfold methRow at h
  cases hi : P.info? t with
  | none => rw [hi] at h; cases h
  | some ti =>
    rw [hi] at h
    simp only [Option.bind_some] at h
    cases hm : ti.methods.find? (·.name == name) with
    | none => rw [hm] at h; cases h
    | some m =>
      rw [hm] at h
      simp only [Option.map_some, Option.some.injEq, Prod.mk.injEq] at h
      exact ⟨ti, m, rfl, hm, Array.isEmpty_iff.1 h.1, h.2⟩
/-- A method of the value itself, called by its pointer. -/
theorem methV_val {P : Program} {w : World} {t et : TypeId} {name : String} {f : FuncId} {a : Addr} {u : Value} (h : methRow P t name = some (true, some (f, false))) (ht : P.underlying t = some (.pointer et)) (E : Cell1 P et) (hc : w.cell? a = some u) : MethV P w t (.pointer (some a)) name f u := by
  obtain ⟨ti, m, hi, hm, hp, hf⟩ := methRow_get h
  have hl : (loadVar et a).run P w = .ok u w := by simp [loadVar, E.agg, hc]
  unfold MethV
  obtain ⟨k, hk⟩ : ∃ k, P.types.size + Made.depth = k + 1 := ⟨P.types.size + 99, rfl⟩
  rw [hk, method]
  have hT : (typeInfo t).run P w = .ok ti w := by simp [typeInfo, hi]
  simp only [Sem.run_bind, hT, Result.andThen_ok, hm, hp, hf, follow, Sem.run_pure, receiverAt, run_underlying ht, Place.get]
  have hw : ∀ nm : String, (Builtin.ssaWrapNilChk_ #[t] t #[.pointer (some a), strVal "", strVal nm]).run P w = .ok (.pointer (some a)) w := fun _ => rfl
  simp [asAddr, hl, hw]
theorem methV_ptr {P : Program} {w : World} {t et : TypeId} {name : String} {f : FuncId} {v : Value} (h : methRow P t name = some (true, some (f, true))) (ht : P.underlying t = some (.pointer et)) : MethV P w t v name f v := by
  obtain ⟨ti, m, hi, hm, hp, hf⟩ := methRow_get h
  unfold MethV
  obtain ⟨k, hk⟩ : ∃ k, P.types.size + Made.depth = k + 1 := ⟨P.types.size + 99, rfl⟩
  rw [hk, method]
  have hT : (typeInfo t).run P w = .ok ti w := by simp [typeInfo, hi]
  simp only [Sem.run_bind, hT, Result.andThen_ok, hm, hp, hf, follow, Sem.run_pure, receiverAt, run_underlying ht, Place.get]
end Go.Proofs.Ytpnckagibkdcpaa


/-
  Rows whose elements lie apart from one another; pieces told as one; bytes of one's own whose values are not known. Nothing here names the program.
-/
namespace Go.Proofs.Ytpnckagibkdcpaa
open Go.RowKit

/-- Pieces told as one. -/
def packC (H : List Cd) : Ck := ⟨fun w S => Sat w H S, fun h hz hm => h.move hz hm⟩
/-- Elements and their cells, piece by piece. -/
def zipCe : List El → List (List Value) → List Cd
  | E :: els, cs :: css => .ce E cs :: zipCe els css
  | _, _ => []
/-- A row of the call's own whose elements lie apart. -/
def rsC (k : Nat) (e : TypeId) (A : Option Addr) (c : Nat) (els : List El) : Ck := ⟨fun w S => ∃ css : List (List Value), css.length = els.length ∧ Sat w (.rg k e A c (css.map rawEl) :: zipCe els css) S, fun ⟨css, hl, h⟩ hz hm => ⟨css, hl, h.move hz hm⟩⟩
theorem zipCe_app : ∀ {els els' : List El} {css css' : List (List Value)}, css.length = els.length → zipCe (els ++ els') (css ++ css') = zipCe els css ++ zipCe els' css'
  | [], _, [], _, _ => rfl
  | E :: els, els', cs :: css, css', h => by
    show _ :: zipCe (els ++ els') (css ++ css') = _ :: (zipCe els css ++ zipCe els' css')
    rw [zipCe_app (by simpa using h)]
  | [], _, _ :: _, _, h => by simp at h
  | _ :: _, _, [], _, h => by simp at h
theorem zipCe_grp {k : Nat} {w : World} : ∀ {els : List El} {css : List (List Value)} {S : BS}, Sat w (zipCe els css) S → css.length = els.length → (∀ cs ∈ css, cs.length = k) → Grp k w S els css
  | [], [], S, _, _, _ => Grp.nil _ _ _
  | E :: els, cs :: css, S, ⟨T, hT, hc, hr⟩, h, hk => by
    have h1 := zipCe_grp hr (by simpa using h) fun cs hcs => hk cs (List.mem_cons_of_mem _ hcs)
    exact (Grp.one (El.mono hc fun b _ h => hT b h) (hk cs List.mem_cons_self)).append (h1.mono fun b _ h => h.1)
  | [], _ :: _, _, _, h, _ => by simp at h
  | _ :: _, [], _, _, h, _ => by simp at h
section
variable {w0 w : World} {M : BS} {H H1 H2 : List Cd} {k : Nat} {e : TypeId} {A : Option Addr} {c : Nat} {els : List El}
theorem St.pk (hs : St M w0 w (H1 ++ H)) : St M w0 w (.ck (packC H1) :: H) := hs.pack (.ck (packC H1)) fun _ _ h => h
theorem St.unpk (hs : St M w0 w (.ck (packC H1) :: H)) : St M w0 w (H1 ++ H) := hs.unpack fun _ h => h
theorem Sat.permL {w : World} {H H' : List Cd} (p : H.Perm H') : ∀ {S : BS}, Sat w H S → Sat w H' S := by
  induction p with
  | nil => intro S h; exact h
  | cons c _ ih => rintro S ⟨T, hT, hc, hr⟩; exact ⟨T, hT, hc, ih hr⟩
  | swap a b H => intro S h; exact h.front (i := 1) rfl
  | trans _ _ ih1 ih2 => intro S h; exact ih2 (ih1 h)
theorem Sat.mapC {w : World} {c c' : Cd} {H : List Cd} {S : BS} (h : Sat w (c :: H) S) (hc : ∀ T, c.P w T → c'.P w T) : Sat w (c' :: H) S := by
  obtain ⟨T, hT, h1, h2⟩ := h
  exact ⟨T, hT, hc T h1, h2⟩
theorem Sat.dropC {w : World} {c : Cd} {H : List Cd} {S : BS} (h : Sat w (c :: H) S) : Sat w H S := by
  obtain ⟨T, hT, h1, h2⟩ := h
  exact h2.mono fun _ _ h => h.1
theorem Sat.mem {w : World} {c : Cd} : ∀ {H : List Cd} {S : BS}, Sat w H S → c ∈ H → ∃ T : BS, (∀ b, T b → S b) ∧ c.P w T
  | d :: H, S, ⟨T, hT, hd, hr⟩, h => by
    rw [List.mem_cons] at h
    rcases h with rfl | h
    · exact ⟨T, hT, hd⟩
    · obtain ⟨U, hU, hc⟩ := Sat.mem hr h
      exact ⟨U, fun b k => (hU b k).1, hc⟩
theorem Sat.packR {w : World} {X Y : List Cd} {c : Ck} {S : BS} (h : Sat w (X ++ Y) S) (hc : ∀ T, Sat w Y T → c.P w T) : Sat w (X ++ [.ck c]) S := by
  obtain ⟨T, hT, h1, h2⟩ := h.append
  exact Sat.join hT h1 ⟨_, fun _ h => h, hc _ h2, trivial⟩
/-- Where the elements lie apart, the row is a row of elements too. -/
theorem rs_rg {T : BS} (h : (rsC k e A c els).P w T) : (Cd.rg k e A c els).P w T := by
  obtain ⟨css, hl, T1, hT1, h1, h2⟩ := h
  obtain ⟨ho, hk⟩ := OwR.raw h1.2
  refine ⟨fun a ha => hT1 _ (h1.1 a ha), css, (zipCe_grp h2 hl hk).mono fun b _ h => ⟨h.1, fun a ha hb => h.2 (by rw [hb]; exact h1.1 a ha)⟩, by rw [← hl]; exact ho⟩
theorem St.rs (hs : St M w0 w H) (i : Nat) (hi : nthC H i = some (.ck (rsC k e A c els))) : OwR k e w 0 All A c els := by
  obtain ⟨T, hc, _⟩ := hs.get i hi
  exact (rs_rg hc).2.mono (Nat.le_refl _) fun _ _ _ => trivial
theorem St.weak (hs : St M w0 w (.ck (rsC k e A c els) :: H)) : St M w0 w (.rg k e A c els :: H) := hs.map fun _ h => h.mapC fun _ h => rs_rg h
theorem St.nilS (hs : St M w0 w H) (k : Nat) (e : TypeId) : St M w0 w (.ck (rsC k e none 0 []) :: H) := (hs.nilG k e).pack (H1 := [.rg k e none 0 []]) _ fun _ _ h => ⟨[], rfl, h⟩
theorem St.unrs (hs : St M w0 w (.ck (rsC k e A c els) :: H)) : ∃ css : List (List Value), css.length = els.length ∧ St M w0 w ((.rg k e A c (css.map rawEl) :: zipCe els css) ++ H) := by
  obtain ⟨⟨css, hl⟩, h⟩ := hs.unpackE (α := { css : List (List Value) // css.length = els.length }) (H1 := fun css => .rg k e A c (css.1.map rawEl) :: zipCe els css.1) fun T ⟨css, hl, h⟩ => ⟨⟨css, hl⟩, h⟩
  exact ⟨css, hl, h⟩
/-- A beginning of the row. -/
theorem St.preS {m : Nat} (hs : St M w0 w (.ck (rsC k e A c els) :: H)) (hm : m ≤ els.length) : St M w0 w (.ck (rsC k e A c (els.take m)) :: H) := by
  obtain ⟨css, hl, h⟩ := hs.unrs
  have h2 := St.pre (m := m) h (by simp; omega)
  rw [← List.map_take] at h2
  have e1 : zipCe els css = zipCe (els.take m) (css.take m) ++ zipCe (els.drop m) (css.drop m) := by
    rw [← zipCe_app (by simp; omega), List.take_append_drop, List.take_append_drop]
  rw [e1] at h2
  refine h2.map fun S h => ?_
  have h3 : Sat w ((.rg k e A c ((css.take m).map rawEl) :: zipCe (els.take m) (css.take m)) ++ (zipCe (els.drop m) (css.drop m) ++ H)) S := by simpa using h
  obtain ⟨T, hT, h4, h5⟩ := h3.append
  obtain ⟨U, hU, _, h6⟩ := h5.append
  exact ⟨T, hT, ⟨css.take m, by simp; omega, h4⟩, h6.mono fun b _ h => h.1⟩
end
section
variable {P : Program} {N : Nat} {ops : Array Oper} {Q : Exit → Act → World → Prop} {rest : List Oper} {L : FL} {w0 w : World} {M : BS} {H : List Cd} {t e : TypeId} {cs : List Value} {z : Value} {bytes k : Nat}
/-- An element, with the memory that is its own, goes into such a row. -/
theorem ws_pushS {d1 d2 : Nat} {x : Operand} {E : El} {s : Operand} {ty1 ty2 : TypeId} {p1 p2 : String} {f1 f2 : Array Edge} {A : Option Addr} {n c : Nat} {els : List El} (hs : St M w0 w (.ck (rsC k e A c els) :: .ce E cs :: H)) (T : RowK P t e k z bytes)
    (hs1 : ∀ p, look ((d1, p) :: L) s = some (.slice A n c)) (hn : els.length = n) (hx : ∃ v, look L x = some v ∧ v.cells = cs.toArray) (hl : cs.length = k) (h1 : cs.all (·.oneCell') = true) (hk : k ≤ 16777216)
    (hbytes : (n + 1) * bytes ≤ 140737488355328) (hmax : n + 1 ≤ maxLen) (hd1 : Nat.blt d1 N = true) (hd2 : Nat.blt d2 N = true)
    (h : ∀ p A' c' w', St M w0 w' (.ck (rsC k e A' c' (els ++ [E])) :: H) → WL P N ops Q rest ((d2, .slice A' (n + 1) c') :: (d1, p) :: L) w') :
    WL P N ops Q (⟨some d1, .buildSlice t 1 #[(0, x)], ty1, p1, f1, none⟩ :: ⟨some d2, .call { callee := .builtin .append, args := #[s, .tmp d1], argTypes := #[t, t] }, ty2, p2, f2, none⟩ :: rest) L w := by
  obtain ⟨css, hcl, hs⟩ := hs.unrs
  refine ws_pushR (cs := cs) hs 0 hs1 rfl T (by simpa [hcl] using hn) hx hl h1 hk hbytes hmax hd1 hd2 fun p A' c' w' hs => h p A' c' w' (hs.map fun S h => ?_)
  have h2 : Sat w' ((.rg k e A' c' ((css ++ [cs]).map rawEl) :: (zipCe els css ++ [.ce E cs])) ++ H) S := by simpa [setC] using h
  obtain ⟨T, hT, h3, h4⟩ := h2.append
  exact ⟨T, hT, ⟨css ++ [cs], by simp [hcl], by rw [zipCe_app hcl]; exact h3⟩, h4⟩
/-- append(s, x...) of such rows. -/
theorem ws_appS2 {d : Nat} {s x : Operand} {ty : TypeId} {pos : String} {aft : Array Edge} {A : Option Addr} {n c : Nat} {els els' : List El} {B : Option Addr} {m c' : Nat} (hs : St M w0 w (.ck (rsC k e A c els) :: .ck (rsC k e B c' els') :: H)) (hx0 : look L s = some (.slice A n c)) (T : RowK P t e k z bytes)
    (hn : els.length = n) (hx : look L x = some (.slice B m c')) (hm : els'.length = m) (h1 : ∀ css w S, Sat w (zipCe els' css) S → css.length = els'.length → ∀ u ∈ css.flatten, u.oneCell' = true)
    (hbytes : (n + m) * bytes ≤ 140737488355328) (hmax : n + m ≤ maxLen) (hd : Nat.blt d N = true)
    (h : ∀ A' c' w', St M w0 w' (.ck (rsC k e A' c' (els ++ els')) :: H) → WL P N ops Q rest ((d, .slice A' (n + m) c') :: L) w') :
    WL P N ops Q (⟨some d, .call { callee := .builtin .append, args := #[s, x], argTypes := #[t, t] }, ty, pos, aft, none⟩ :: rest) L w := by
  obtain ⟨css2, hcl2, hs⟩ := (hs.front 1 rfl).unrs
  replace hs : St M w0 w (.ck (rsC k e A c els) :: ((.rg k e B c' (css2.map rawEl) :: zipCe els' css2) ++ H)) := hs.map fun S h => Sat.permL List.perm_middle (by simpa [delC] using h)
  obtain ⟨css, hcl, hs⟩ := hs.unrs
  replace hs : St M w0 w (.rg k e A c (css.map rawEl) :: .rg k e B c' (css2.map rawEl) :: (zipCe els css ++ (zipCe els' css2 ++ H))) := hs.map fun S h => by
    have h : Sat w (.rg k e A c (css.map rawEl) :: (zipCe els css ++ .rg k e B c' (css2.map rawEl) :: (zipCe els' css2 ++ H))) S := by simpa using h
    exact Sat.permL (List.Perm.cons _ List.perm_middle) h
  have hone : ∀ u ∈ css2.flatten, u.oneCell' = true := by
    obtain ⟨_, h0⟩ := hs
    obtain ⟨T, _, h2⟩ := h0.dropC.dropC.append
    obtain ⟨T2, _, h3, _⟩ := h2.2.append
    exact h1 css2 w T2 h3 hcl2
  refine ws_appR (css := css2) hs 0 hx0 rfl T (by simpa [hcl] using hn) hx (OwR.rd (hs.rg 1 rfl)) (by rw [hcl2]; exact hm) hone hbytes hmax hd fun A' c2 w' hs => h A' c2 w' (hs.map fun S h => ?_)
  have h2 : Sat w' (.rg k e A' c2 ((css ++ css2).map rawEl) :: .rg k e B c' (css2.map rawEl) :: (zipCe els css ++ (zipCe els' css2 ++ H))) S := by simpa [setC] using h
  have h3 : Sat w' ((.rg k e A' c2 ((css ++ css2).map rawEl) :: (zipCe els css ++ zipCe els' css2)) ++ H) S := by
    have := (h2.front (i := 1) rfl).dropC
    simpa [delC] using this
  obtain ⟨T, hT, h4, h5⟩ := h3.append
  exact ⟨T, hT, ⟨css ++ css2, by simp [hcl, hcl2], by rw [zipCe_app hcl]; exact h4⟩, h5⟩
end
end Go.Proofs.Ytpnckagibkdcpaa


/-
  Plain functions on lists of bytes, for layer 1 (codec), and what is true of them. Nothing here names the program or the model.
-/
namespace Go.Proofs.Ytpnckagibkdcpaa

/-- A number in groups of seven bits. -/
def putU (n : Nat) : List UInt8 := if n < 128 then [UInt8.ofNat n] else UInt8.ofNat (n % 128 + 128) :: putU (n / 128)

/-- The number at the head of a list: n is what has been read, i how many bytes; value, count, error. -/
def getAux : Nat → Nat → List UInt8 → Nat × Nat × Nat
  | _, _, [] => (0, 0, 5)
  | i, n, x :: r =>
    if (i = 9 ∧ 1 < x.toNat) ∨ (x.toNat = 0 ∧ 0 < i) then (0, 0, 3)
    else if x.toNat < 128 then (n + x.toNat * 128 ^ i, i + 1, 0)
    else getAux (i + 1) (n + (x.toNat - 128) * 128 ^ i) r

/-- The number at a place: value, place behind it, error. -/
def getU (b : List UInt8) (p : Int) : Nat × Int × Nat :=
  if p < 0 ∨ (b.length : Int) < p then (0, 0, 1) else
  match getAux 0 0 (b.drop p.toNat) with
  | (n, k, 0) => (n, p + k, 0)
  | (_, _, e) => (0, 0, e)

theorem or128 (m : Nat) : (m % 256 ||| 128) = m % 128 + 128 := by
  have h : m % 256 < 256 := Nat.mod_lt _ (by decide)
  have e : m % 128 = (m % 256) % 128 := by omega
  rw [e]
  generalize m % 256 = x at h
  revert x
  decide +kernel
theorem andNot128 (x : UInt8) : (x.toNat &&& (18446744073709551615 - 128)) = x.toNat % 128 := by
  have h : x.toNat < 256 := x.toNat_lt
  generalize x.toNat = y at h
  revert y
  decide +kernel
theorem or_shift {n y i : Nat} (h : n < 128 ^ i) : n ||| y * 2 ^ (7 * i) = n + y * 128 ^ i := by
  have e : (128 : Nat) ^ i = 2 ^ (7 * i) := by rw [Nat.pow_mul]
  rw [e] at h ⊢
  rw [Nat.or_comm, ← Nat.shiftLeft_eq, ← Nat.shiftLeft_add_eq_or_of_lt h, Nat.shiftLeft_eq, Nat.add_comm]

theorem drop_get {l : List UInt8} {k : Nat} {b : UInt8} (h : l[k]? = some b) : l.drop k = b :: l.drop (k + 1) := by
  have hk : k < l.length := by
    rcases Nat.lt_or_ge k l.length with h' | h'
    · exact h'
    · rw [List.getElem?_eq_none h'] at h; cases h
  rw [List.getElem?_eq_getElem hk] at h
  cases h
  exact List.drop_eq_getElem_cons hk
theorem take_get {l : List UInt8} {k : Nat} {b : UInt8} (h : l[k]? = some b) : l.take (k + 1) = l.take k ++ [b] := by
  rw [List.take_add_one, h]; rfl

theorem getAux_step {i n : Nat} {x : UInt8} {r : List UInt8} (h1 : ¬ ((i = 9 ∧ 1 < x.toNat) ∨ (x.toNat = 0 ∧ 0 < i))) (h2 : ¬ x.toNat < 128) : getAux i n (x :: r) = getAux (i + 1) (n + x.toNat % 128 * 128 ^ i) r := by
  rw [getAux, if_neg h1, if_neg h2]
  have h3 := x.toNat_lt
  have h4 : x.toNat - 128 = x.toNat % 128 := by omega
  rw [h4]
theorem getAux_form {i n : Nat} {x : UInt8} {r : List UInt8} (h1 : (i = 9 ∧ 1 < x.toNat) ∨ (x.toNat = 0 ∧ 0 < i)) : getAux i n (x :: r) = (0, 0, 3) := by
  rw [getAux, if_pos h1]
theorem getAux_last {i n : Nat} {x : UInt8} {r : List UInt8} (h1 : ¬ ((i = 9 ∧ 1 < x.toNat) ∨ (x.toNat = 0 ∧ 0 < i))) (h2 : x.toNat < 128) : getAux i n (x :: r) = (n + x.toNat % 128 * 128 ^ i, i + 1, 0) := by
  rw [getAux, if_neg h1, if_pos h2, Nat.mod_eq_of_lt h2]
theorem getU_arg {b : List UInt8} {p : Int} (h : ¬ (0 ≤ p ∧ p ≤ b.length)) : getU b p = (0, 0, 1) := by
  rw [getU, if_pos (by omega)]
theorem getU_ok {b : List UInt8} {q n k : Nat} (hq : q ≤ b.length) (h : getAux 0 0 (b.drop q) = (n, k, 0)) : getU b q = (n, (q : Int) + k, 0) := by
  rw [getU, if_neg (by omega)]
  simp [h]
theorem getU_bad {b : List UInt8} {q e : Nat} (hq : q ≤ b.length) (h : getAux 0 0 (b.drop q) = (0, 0, e + 1)) : getU b q = (0, 0, e + 1) := by
  rw [getU, if_neg (by omega)]
  simp [h]
/-- A number of ten groups at most, and what a further group adds. -/
theorem group_lt {i n y : Nat} (hn : n < 128 ^ i) (hy : y < 128) : n + y * 128 ^ i < 128 ^ (i + 1) := by
  have h1 : y * 128 ^ i ≤ 127 * 128 ^ i := Nat.mul_le_mul_right _ (by omega)
  rw [Nat.pow_succ]
  omega
theorem pow128_9 : (128 : Nat) ^ 9 = 9223372036854775808 := by decide

theorem sum_lt {i n x : Nat} (hn : n < 128 ^ i) (hi : i ≤ 9) (hx1 : i = 9 → x ≤ 1) : n + x % 128 * 128 ^ i < 18446744073709551616 := by
  rcases Nat.lt_or_ge i 9 with h9 | h9
  · have h8 := group_lt hn (Nat.mod_lt x (show 0 < 128 by decide))
    have : (128 : Nat) ^ (i + 1) ≤ 128 ^ 9 := Nat.pow_le_pow_right (by decide) (by omega)
    rw [pow128_9] at this; omega
  · obtain rfl : i = 9 := by omega
    have h10 := hx1 rfl
    have : x % 128 ≤ 1 := by omega
    have : x % 128 * 128 ^ 9 ≤ 1 * 128 ^ 9 := Nat.mul_le_mul_right _ this
    rw [pow128_9] at *; omega

/-- What is written is read back. -/
theorem getAux_putU (r : List UInt8) : ∀ (m i n : Nat), n < 128 ^ i → m < 2 ^ (64 - 7 * i) → i ≤ 9 → (i = 0 ∨ 0 < m) → getAux i n (putU m ++ r) = (n + m * 128 ^ i, i + (putU m).length, 0) := by
  intro m
  induction m using Nat.strongRecOn with
  | _ m ih =>
    intro i n hn hm hi h0
    have h9 : i = 9 → m < 2 := by rintro rfl; simpa using hm
    rw [putU]
    by_cases hs : m < 128
    · rw [if_pos hs]
      have e : (UInt8.ofNat m).toNat = m := by simp; omega
      simp only [List.cons_append, List.nil_append]
      rw [getAux_last (by rw [e]; omega) (by rw [e]; exact hs), e, Nat.mod_eq_of_lt hs]; rfl
    · rw [if_neg hs]
      have e : (UInt8.ofNat (m % 128 + 128)).toNat = m % 128 + 128 := by rw [UInt8.toNat_ofNat']; omega
      simp only [List.cons_append]
      have e2 : (m % 128 + 128) % 128 = m % 128 := by omega
      rw [getAux_step (by rw [e]; omega) (by rw [e]; omega), e, e2]
      have hi8 : i ≤ 8 := by omega
      rw [ih (m / 128) (by omega) (i + 1) _ (group_lt hn (Nat.mod_lt _ (by decide))) ?_ (by omega) (by omega)]
      · refine Prod.ext ?_ (Prod.ext ?_ rfl)
        · show n + m % 128 * 128 ^ i + m / 128 * 128 ^ (i + 1) = n + m * 128 ^ i
          have : m * 128 ^ i = (m % 128 + 128 * (m / 128)) * 128 ^ i := by rw [Nat.mod_add_div]
          rw [this, Nat.add_mul, Nat.pow_succ]
          have : m / 128 * (128 ^ i * 128) = 128 * (m / 128) * 128 ^ i := by rw [Nat.mul_comm (128 ^ i) 128, ← Nat.mul_assoc, Nat.mul_comm (m / 128) 128]
          omega
        · simp; omega
      · refine Nat.div_lt_of_lt_mul ?_
        rw [show 128 = 2 ^ 7 from rfl, ← Nat.pow_add, show 7 + (64 - 7 * (i + 1)) = 64 - 7 * i by omega]
        exact hm
theorem getU_putU {n : Nat} (hn : n < 2 ^ 64) : getU (putU n) 0 = (n, ((putU n).length : Int), 0) := by
  have h := getAux_putU [] n 0 0 (by decide) hn (by omega) (.inl rfl)
  rw [List.append_nil] at h
  rw [getU, if_neg (by omega)]
  simp only [Int.toNat_zero, List.drop_zero, h]
  simp
/-- What is read is what is written. -/
theorem getAux_inv : ∀ (l : List UInt8) (i n v k : Nat), n < 128 ^ i → i ≤ 9 → getAux i n l = (v, k, 0) →
    ∃ m j, k = i + j ∧ j ≤ l.length ∧ v = n + m * 128 ^ i ∧ putU m = l.take j ∧ (i = 0 ∨ 0 < m) ∧ v < 18446744073709551616
  | [], i, n, v, k, _, _, h => by simp [getAux] at h
  | x :: r, i, n, v, k, hn, hi, h => by
    have hx := x.toNat_lt
    by_cases h1 : (i = 9 ∧ 1 < x.toNat) ∨ (x.toNat = 0 ∧ 0 < i)
    · rw [getAux_form h1] at h; simp at h
    · by_cases h2 : x.toNat < 128
      · rw [getAux_last h1 h2] at h
        have hs := sum_lt hn hi (x := x.toNat) (by omega)
        injection h with ha hb; injection hb with hb _
        subst ha hb
        rw [Nat.mod_eq_of_lt h2] at hs ⊢
        refine ⟨x.toNat, 1, rfl, by simp, rfl, ?_, by omega, hs⟩
        rw [putU, if_pos h2]; simp
      · rw [getAux_step h1 h2] at h
        have hi8 : i ≤ 8 := by omega
        obtain ⟨m, j, rfl, hj, rfl, hp, h0, hlt⟩ := getAux_inv r (i + 1) _ v k (group_lt hn (Nat.mod_lt _ (by decide))) (by omega) h
        refine ⟨x.toNat % 128 + 128 * m, j + 1, by omega, by simp; omega, ?_, ?_, by omega, hlt⟩
        · rw [Nat.add_mul, Nat.pow_succ]
          have : m * (128 ^ i * 128) = 128 * m * 128 ^ i := by rw [Nat.mul_comm (128 ^ i) 128, ← Nat.mul_assoc, Nat.mul_comm m 128]
          omega
        · rw [putU, if_neg (by omega)]
          have e1 : (x.toNat % 128 + 128 * m) % 128 + 128 = x.toNat := by omega
          have e2 : (x.toNat % 128 + 128 * m) / 128 = m := by omega
          rw [e1, e2, hp]; simp
theorem getU_inv {l : List UInt8} {p : Int} {v : Nat} {x : Int} (h : getU l p = (v, x, 0)) :
    ∃ q k : Nat, p = q ∧ x = k ∧ q ≤ k ∧ k ≤ l.length ∧ putU v = (l.take k).drop q ∧ v < 18446744073709551616 := by
  rw [getU] at h
  split at h
  · simp at h
  · rename_i hp
    obtain ⟨q, rfl⟩ := Int.eq_ofNat_of_zero_le (by omega : 0 ≤ p)
    simp only [Int.toNat_natCast] at h
    cases hg : getAux 0 0 (l.drop q) with
    | mk n ke =>
      obtain ⟨k, e⟩ := ke
      rw [hg] at h
      cases e with
      | succ e => simp at h
      | zero =>
        simp only [Prod.mk.injEq, and_true] at h
        obtain ⟨rfl, rfl⟩ := h
        obtain ⟨m, j, rfl, hj, rfl, hp2, _, hlt⟩ := getAux_inv _ 0 0 n k (by decide) (by omega) hg
        rw [List.length_drop] at hj
        refine ⟨q, q + j, rfl, by omega, by omega, by omega, ?_, hlt⟩
        simp only [Nat.pow_zero, Nat.mul_one, Nat.zero_add]
        rw [hp2, List.drop_take]; congr 1; omega
theorem getU_err {l : List UInt8} {p : Int} (h : (getU l p).2.2 ≠ 0) : (getU l p).1 = 0 ∧ (getU l p).2.1 = 0 := by
  unfold getU at h ⊢
  split
  · simp
  · rename_i hp
    rw [if_neg hp] at h
    split at h
    · simp at h
    · simp
theorem getU_fits (l : List UInt8) (p : Int) : (getU l p).1 < 18446744073709551616 := by
  by_cases h : (getU l p).2.2 = 0
  · obtain ⟨_, _, _, _, _, _, _, h⟩ := getU_inv (l := l) (p := p) (v := (getU l p).1) (x := (getU l p).2.1) (by rw [← h])
    exact h
  · rw [(getU_err h).1]; decide

theorem putU_length : ∀ (f n : Nat), n < 128 ^ (f + 1) → (putU n).length ≤ f + 1
  | 0, n, h => by rw [putU, if_pos (by omega)]; simp
  | f + 1, n, h => by
    rw [putU]
    split
    · simp
    · have := putU_length f (n / 128) (Nat.div_lt_of_lt_mul (by rw [Nat.mul_comm, ← Nat.pow_succ]; exact h))
      simp; omega
theorem putU_le {n : Nat} (h : n < 2 ^ 64) : (putU n).length ≤ 10 := putU_length 9 n (Nat.lt_of_lt_of_le h (by decide))

/-- Bytes with an end, in their order. -/
def esc (l : List UInt8) : List UInt8 := l.flatMap fun x => if x = 0 then [0, 255] else [x]
def ordText (l : List UInt8) : List UInt8 := esc l ++ [0, 1]
theorem esc_take {l : List UInt8} {k : Nat} {b : UInt8} (h : l[k]? = some b) : esc (l.take (k + 1)) = esc (l.take k) ++ if b = 0 then [0, 255] else [b] := by
  rw [take_get h]; simp [esc]
theorem esc_length (l : List UInt8) : (esc l).length ≤ 2 * l.length := by
  induction l with
  | nil => simp [esc]
  | cons x r ih =>
    have : esc (x :: r) = (if x = 0 then [0, 255] else [x]) ++ esc r := by simp [esc]
    rw [this, List.length_append, List.length_cons]
    split <;> simp <;> omega
theorem toNat_zero {b : UInt8} : (b.toNat : Int) = 0 ↔ b = 0 := by
  constructor
  · intro h; exact UInt8.toNat_inj.1 (by simp; omega)
  · rintro rfl; rfl

/-- How two lists compare. -/
def cmpB : List UInt8 → List UInt8 → Int
  | [], [] => 0
  | [], _ :: _ => -1
  | _ :: _, [] => 1
  | x :: xs, y :: ys => if x < y then -1 else if y < x then 1 else cmpB xs ys
theorem cmp_same {x : UInt8} {xs ys : List UInt8} : cmpB (x :: xs) (x :: ys) = cmpB xs ys := by simp [cmpB]
theorem cmp_lt {x y : UInt8} {xs ys : List UInt8} (h : x < y) : cmpB (x :: xs) (y :: ys) = -1 := by simp [cmpB, h]
theorem cmp_gt {x y : UInt8} {xs ys : List UInt8} (h : y < x) : cmpB (x :: xs) (y :: ys) = 1 := by
  have h' : ¬ x < y := fun e => by rw [UInt8.lt_iff_toNat_lt] at *; omega
  simp [cmpB, h, h']
theorem cmp_short {xs ys : List UInt8} (hx : xs = []) (hy : 0 < ys.length) : cmpB xs ys = -1 := by
  subst hx; cases ys with
  | nil => simp at hy
  | cons => simp [cmpB]
theorem cmp_long {xs ys : List UInt8} (hx : 0 < xs.length) (hy : ys = []) : cmpB xs ys = 1 := by
  subst hy; cases xs with
  | nil => simp at hx
  | cons => simp [cmpB]
end Go.Proofs.Ytpnckagibkdcpaa


/-
  Walks over the comparisons of layer 1: Cmp of the reference; bytes.Compare, whose work the model does itself, and codec.Cmp.
-/
namespace Go.Proofs.Ytpnckagibkdcpaa
open Go.RowKit

theorem run_loadBytes {P : Program} {w : World} {b : Nat} : ∀ (xs : List UInt8) (o : Nat) (acc : List UInt8), (∀ j u, (bvs xs)[j]? = some u → w.cell? ⟨b, o + j, none⟩ = some u) →
    (Extern.Bytes.loadBytes ⟨b, o, none⟩ xs.length ⟨acc.toArray⟩).run P w = .ok ⟨(acc ++ xs).toArray⟩ w
  | [], o, acc, _ => by simp [Extern.Bytes.loadBytes]
  | x :: xs, o, acc, h => by
    have h0 := h 0 (bv x) (by simp [bvs])
    simp only [Nat.add_zero] at h0
    have ih := run_loadBytes (P := P) xs (o + 1) (acc ++ [x]) (fun j u hu => by
      have := h (j + 1) u (by simpa [bvs] using hu)
      rw [show o + 1 + j = o + (j + 1) by omega]; exact this)
    have e1 : (ByteArray.mk acc.toArray).push x = ⟨(acc ++ [x]).toArray⟩ := by
      simp [ByteArray.push]
    have e2 : ((x.toNat : Int)).toNat.toUInt8 = x := by simp
    simp only [List.length_cons, Extern.Bytes.loadBytes, Sem.run_bind, run_load, h0, Result.andThen_ok, bv, e2, e1, Addr.add_lit, ih]
    simp
theorem run_bytesOf {P : Program} {w : World} {A : Option Addr} {c : Nat} {xs : List UInt8} (hr : RdB w A xs) : (Extern.Bytes.bytesOf (.slice A xs.length c)).run P w = .ok ⟨xs.toArray⟩ w := by
  cases xs with
  | nil => cases A with
    | none => simp [Extern.Bytes.bytesOf]; rfl
    | some a => simp [Extern.Bytes.bytesOf, Extern.Bytes.loadBytes]; rfl
  | cons x r =>
    obtain ⟨b, o, rfl, _, hc⟩ := hr.2 (by simp)
    have := run_loadBytes (P := P) (x :: r) o [] hc
    simp only [Extern.Bytes.bytesOf]
    exact this
theorem ba_get (l : List UInt8) (i : Nat) : (ByteArray.mk l.toArray)[i]! = l.getD i 0 := by
  by_cases h : i < l.length
  · rw [getElem!_pos _ i (show i < (ByteArray.mk l.toArray).size from h)]
    simp [List.getD, List.getElem?_eq_getElem h]; rfl
  · rw [getElem!_neg _ i (show ¬ i < (ByteArray.mk l.toArray).size from h)]
    simp [List.getD, List.getElem?_eq_none (Nat.le_of_not_lt h)]; rfl
def cmpL (xs ys : List UInt8) : Int :=
  match (List.range (min xs.length ys.length)).find? fun i => xs.getD i 0 != ys.getD i 0 with
  | some i => if xs.getD i 0 < ys.getD i 0 then -1 else 1
  | none => if xs.length < ys.length then -1 else if xs.length > ys.length then 1 else 0
theorem cmp_list (xs ys : List UInt8) : Extern.BytealgCompare.cmp ⟨xs.toArray⟩ ⟨ys.toArray⟩ = cmpL xs ys := by
  unfold Extern.BytealgCompare.cmp cmpL
  simp only [ba_get]
  rfl
theorem cmpL_eq : ∀ (xs ys : List UInt8), cmpL xs ys = cmpB xs ys
  | [], [] => by simp [cmpL, cmpB]
  | [], _ :: _ => by simp [cmpL, cmpB]
  | _ :: _, [] => by simp [cmpL, cmpB]
  | x :: xs, y :: ys => by
    have ih := cmpL_eq xs ys
    unfold cmpL at ih ⊢
    rw [show min (x :: xs).length (y :: ys).length = min xs.length ys.length + 1 by simp, List.range_succ_eq_map, List.find?_cons]
    by_cases h : x = y
    · subst h
      simp only [List.getD_cons_zero, bne_self_eq_false, List.find?_map]
      have e : ((fun i => (x :: xs).getD i 0 != (x :: ys).getD i 0) ∘ Nat.succ) = fun i => xs.getD i 0 != ys.getD i 0 := by
        funext i; simp
      have ec : cmpB (x :: xs) (x :: ys) = cmpB xs ys := by simp [cmpB]
      rw [e, ec, ← ih]
      cases (List.range (min xs.length ys.length)).find? fun i => xs.getD i 0 != ys.getD i 0 with
      | none => simp
      | some i => simp
    · have hne : (x != y) = true := by simpa using h
      simp only [List.getD_cons_zero, cmpB, hne]
      by_cases hlt : x < y
      · simp [hlt]
      · have : y < x := by
          rcases Nat.lt_trichotomy x.toNat y.toNat with h' | h' | h'
          · exact absurd (UInt8.lt_iff_toNat_lt.2 h') hlt
          · exact absurd (UInt8.toNat_inj.1 h') h
          · exact UInt8.lt_iff_toNat_lt.2 h'
        simp [hlt, this]

/-- The model's own work for bytes.Compare. -/
theorem compare_run {A B : Option Addr} {c d : Nat} {xs ys : List UInt8} {w : World} (hx : RdB w A xs) (hy : RdB w B ys) :
    (callFunc 67 #[.slice A xs.length c, .slice B ys.length d]).run Try.prog w = .ok (.value (.int .i64 (cmpB xs ys))) w := by
  rw [run_callFunc_extern Try.func67 (by kernel_rfl) rfl (by kernel_rfl) (e := Extern.BytealgCompare.compare) (by kernel_rfl)]
  have e : ∀ u v : Value, Extern.BytealgCompare.compare #[u, v] = (do pure (goInt (Extern.BytealgCompare.cmp (← Extern.Bytes.bytesOf u) (← Extern.Bytes.bytesOf v)))) := fun _ _ => rfl
  rw [e]
  simp only [Sem.run_bind, run_bytesOf hx, run_bytesOf hy, Result.andThen_ok, cmp_list, cmpL_eq]
  simp [goInt]

/-- A call that the model carries out itself. -/
theorem wl_ext {P : Program} {N : Nat} {ops : Array Oper} {Q : Exit → Act → World → Prop} {rest : List Oper} {L : FL} {w w' : World} {d : Nat} {f : FuncId} {xs : List Operand} {ats : Array TypeId} {ty : TypeId} {pos : String} {aft : Array Edge} {vs : List Value} {v : Value}
    (hr : (callFunc f vs.toArray).run P w = .ok (.value v) w') (hx : Looks L xs vs) (hd : Nat.blt d N = true) (h : WL P N ops Q rest ((d, v) :: L) w') :
    WL P N ops Q (⟨some d, .call { callee := .value (.func f), args := xs.toArray, argTypes := ats }, ty, pos, aft, none⟩ :: rest) L w := by
  refine wl_val (w' := w') (fun ρ o hρ ho _ => ?_) hd h
  have hf : ρ (.func f) = .func (.func f) #[] #[] := hρ _ _ rfl
  have hm := Looks.map hρ hx
  unfold execOp
  simp only [ho, resolve, Deferred.ofValue, hf, Sem.run_bind, Sem.run_pure, Result.andThen_ok, invoke]
  have : (#[] ++ Array.map ρ xs.toArray ++ #[]) = vs.toArray := by simp [hm]
  rw [this]
  exact hr
theorem bytesCompare_any {A B : Option Addr} {n m c d : Nat} {xs ys : List UInt8} {w : World} (hx : RdB w A xs) (hy : RdB w B ys) (hn : xs.length = n) (hm : ys.length = m) :
    CallsV Try.prog 45 #[.slice A n c, .slice B m d] w fun v w' => v = .int .i64 (cmpB xs ys) ∧ w = w' := by
  subst hn hm
  refine calls_in (N := _) Try.func45 rfl Try.ntmps45 rfl ?_; show WC _ _ _ _ _ _
  refine wc_sr ?_; refine wl_as rfl rfl ?_; refine wl_ns ?_; refine wc_sr ?_; refine wl_mv rfl rfl ?_; refine wl_mv rfl rfl ?_
  refine wl_ext (compare_run hx hy) ⟨rfl, rfl, trivial⟩ rfl ?_
  refine wl_as rfl rfl ?_; refine wl_ns ?_; refine wc_ret ?_
  exact we_ret1 rfl rfl ⟨_, rfl, rfl, rfl⟩
theorem cmp_any {A B : Option Addr} {n m c d : Nat} {xs ys : List UInt8} {w : World} (hx : RdB w A xs) (hy : RdB w B ys) (hn : xs.length = n) (hm : ys.length = m) :
    CallsV Try.prog 19 #[.slice A n c, .slice B m d] w fun v w' => v = .int .i64 (cmpB xs ys) ∧ w = w' := by
  refine calls_in (N := _) Try.func19 rfl Try.ntmps19 rfl ?_; show WC _ _ _ _ _ _
  refine wc_sr ?_; refine wl_as rfl rfl ?_; refine wl_ns ?_; refine wc_sr ?_; refine wl_mv rfl rfl ?_; refine wl_mv rfl rfl ?_
  refine wl_call ok_bytes_Compare (bytesCompare_any hx hy hn hm) ⟨rfl, rfl, trivial⟩ rfl ?_
  rintro _ _ ⟨rfl, rfl⟩
  refine wl_as rfl rfl ?_; refine wl_ns ?_; refine wc_ret ?_
  exact we_ret1 rfl rfl ⟨_, rfl, rfl, rfl⟩

theorem refCmp_any {A B : Option Addr} {n m c d : Nat} {xs ys : List UInt8} {w : World} (hx : RdB w A xs) (hy : RdB w B ys) (hn : xs.length = n) (hm : ys.length = m) (hlx : xs.length ≤ maxLen) (hly : ys.length ≤ maxLen) :
    CallsV Try.prog 20 #[.slice A n c, .slice B m d] w fun v w' => v = .int .i64 (cmpB xs ys) ∧ Below w.heap.size w w' := by
  subst hn hm
  simp only [maxLen] at hlx hly
  refine calls_in (N := _) Try.func20 rfl Try.ntmps20 rfl ?_; show WC _ _ _ _ _ _
  refine wc_sr ?_; refine wl_as rfl rfl ?_; refine wl_ns ?_; refine wc_seq ?_; refine wc_sr ?_; refine wl_as rfl rfl ?_; refine wl_ns ?_; refine wc_block ?_
  refine wc_loop (fun L wr m => ∃ k : Nat, L = [(0, .slice A xs.length c), (1, .slice B ys.length d), (5, .int .i64 (k : Int))] ∧ k ≤ xs.length ∧ k ≤ ys.length ∧ cmpB xs ys = cmpB (xs.drop k) (ys.drop k) ∧ Below w.heap.size w wr ∧ m = xs.length - k)
    [(0, .slice A xs.length c), (1, .slice B ys.length d), (5, .int .i64 (0 : Nat))] xs.length ⟨0, rfl, by omega, by omega, rfl, Below.refl _ _, rfl⟩ ⟨rfl, rfl, rfl, trivial⟩ ?_
  rintro _ wr m ⟨k, rfl, hk, hk2, heq, hb, rfl⟩
  have r1 := RdB.below hx hb
  have r2 := RdB.below hy hb
  refine wc_seq ?_; refine wc_sr ?_; refine wl_mv rfl rfl ?_; refine wl_mv rfl rfl ?_; apply wl_val; apply opv_len; exact rfl; exact tyB.sl; exact rfl; refine wl_bin rfl rfl bin_lss rfl ?_; refine wl_mv rfl rfl ?_
  refine wl_cutV 5 15 (.bool (decide (((k : Int) < (xs.length : Int)) ∧ ((k : Int) < (ys.length : Int))))) ?c6 ?_; (case c6 => (dsimp only [List.take]; by_cases hc0 : ((k : Int) < (xs.length : Int)); (focus (apply wl_take; exact rfl; exact rfl; exact rfl; refine bT ?_; (with_reducible assumption); refine wl_mv rfl rfl ?_; apply wl_take; exact rfl; exact rfl; exact rfl; refine bT ?_; (with_reducible assumption); refine wl_mv rfl rfl ?_; apply wl_take; exact rfl; exact rfl; exact rfl; refine bT ?_; (with_reducible assumption); apply wl_val; apply opv_len; exact rfl; exact tyB.sl; exact rfl; apply wl_take; exact rfl; exact rfl; exact rfl; refine bT ?_; (with_reducible assumption); refine wl_bin rfl rfl bin_lss rfl ?_; apply wl_val; apply opv_pickT; exact rfl; refine bT ?_; (with_reducible assumption); exact rfl; exact rfl; refine wl_nil ?_; refine we_cut _ ⟨rfl, rfl⟩ ⟨congrArg (fun b => some (Value.bool b)) ?e6_0, ?s6_0⟩; (case e6_0 => ((simp [hc0]; done))); (case s6_0 => (refine And.intro rfl ?_; refine And.intro rfl ?_; refine And.intro rfl ?_; refine And.intro rfl ?_; refine And.intro rfl ?_; refine And.intro rfl ?_; refine And.intro rfl ?_; refine And.intro rfl ?_; exact True.intro)))); (focus (apply wl_skip; exact rfl; exact rfl; exact rfl; refine bFn ?_; (with_reducible assumption); exact rfl; apply wl_skip; exact rfl; exact rfl; exact rfl; refine bFn ?_; (with_reducible assumption); exact rfl; apply wl_skip; exact rfl; exact rfl; exact rfl; refine bFn ?_; (with_reducible assumption); exact rfl; apply wl_skip; exact rfl; exact rfl; exact rfl; refine bFn ?_; (with_reducible assumption); exact rfl; apply wl_val; apply opv_pickF; exact rfl; refine bF ?_; (with_reducible assumption); exact rfl; exact rfl; refine wl_nil ?_; refine we_cut _ ⟨rfl, rfl⟩ ⟨congrArg (fun b => some (Value.bool b)) ?e6_1, ?s6_1⟩; (case e6_1 => ((simp [hc0]; done))); (case s6_1 => (refine And.intro rfl ?_; refine And.intro rfl ?_; refine And.intro rfl ?_; refine And.intro rfl ?_; refine And.intro rfl ?_; refine And.intro rfl ?_; refine And.intro rfl ?_; refine And.intro rfl ?_; exact True.intro)))))); dsimp only [List.drop]
  refine wl_ns ?_
  refine wc_cond rfl (fun h1 => ?_) (fun h1 => ?_)
  · obtain ⟨x, hxk⟩ : ∃ x, xs[k]? = some x := ⟨_, List.getElem?_eq_getElem (by omega)⟩
    obtain ⟨y, hyk⟩ : ∃ y, ys[k]? = some y := ⟨_, List.getElem?_eq_getElem (by omega)⟩
    rw [drop_get hxk, drop_get hyk] at heq
    refine wc_skip ?_; refine we_seq ?_; refine wc_seq ?_; refine wc_block ?_; refine wc_seq ?_; refine wc_seq ?_
    refine wc_drawB mixed (by kernel_rfl) ?_
    apply wq_val; intro _ hw_; apply opv_move; exact rfl; exact rfl; apply wq_val; intro _ hw_; apply opv_move; exact rfl; exact rfl; apply wq_byK (T := tyB) (hr := r1) (hb := hxk); exact rfl; exact rfl; exact rfl; exact rfl; exact rfl; intro _; apply wq_val; intro _ hw_; apply opv_move; exact rfl; exact rfl; apply wq_val; intro _ hw_; apply opv_move; exact rfl; exact rfl; apply wq_byK (T := tyB) (hr := r2) (hb := hyk); exact rfl; exact rfl; exact rfl; exact rfl; exact rfl; intro _; apply wq_val; intro _ hw_; apply opv_bin; exact rfl; exact rfl; exact bin_lss; exact rfl; refine wq_nil fun w1 hw1 => ?_
    replace hb := hb.trans (hw1.mono hb.size)
    replace r1 := RdB.below r1 hw1
    replace r2 := RdB.below r2 hw1
    clear hw1
    refine we_seq ?_
    refine wc_cond rfl (fun h2 => ?_) (fun h2 => ?_)
    · refine wc_sr ?_; refine wl_as rfl rfl ?_; refine wl_ns ?_; refine wc_ret ?_; refine we_seq_ret ?_; refine we_block_ret ?_; refine we_seq_ret ?_; refine we_loop_ret ?_; refine we_block_ret ?_; refine we_seq_ret ?_
      exact we_ret1 rfl rfl ⟨_, rfl, by rw [heq, cmp_lt (UInt8.lt_iff_toNat_lt.2 (by omega))], hb⟩
    · refine wc_skip ?_; refine we_seq ?_; refine wc_seq ?_
      refine wc_drawB mixed (by kernel_rfl) ?_
      apply wq_val; intro _ hw_; apply opv_move; exact rfl; exact rfl; apply wq_val; intro _ hw_; apply opv_move; exact rfl; exact rfl; apply wq_byK (T := tyB) (hr := r1) (hb := hxk); exact rfl; exact rfl; exact rfl; exact rfl; exact rfl; intro _; apply wq_val; intro _ hw_; apply opv_move; exact rfl; exact rfl; apply wq_val; intro _ hw_; apply opv_move; exact rfl; exact rfl; apply wq_byK (T := tyB) (hr := r2) (hb := hyk); exact rfl; exact rfl; exact rfl; exact rfl; exact rfl; intro _; apply wq_val; intro _ hw_; apply opv_bin; exact rfl; exact rfl; exact bin_gtr; exact rfl; refine wq_nil fun w1 hw1 => ?_
      replace hb := hb.trans (hw1.mono hb.size)
      clear hw1
      refine we_seq ?_
      refine wc_cond rfl (fun h3 => ?_) (fun h3 => ?_)
      · refine wc_sr ?_; refine wl_as rfl rfl ?_; refine wl_ns ?_; refine wc_ret ?_; refine we_block_ret ?_; refine we_seq_ret ?_; refine we_loop_ret ?_; refine we_block_ret ?_; refine we_seq_ret ?_
        exact we_ret1 rfl rfl ⟨_, rfl, by rw [heq, cmp_gt (UInt8.lt_iff_toNat_lt.2 (by omega))], hb⟩
      · obtain rfl : x = y := UInt8.toNat_inj.1 (by omega)
        refine wc_skip ?_; refine we_block_norm ?_; refine we_seq ?_; refine wc_region ?_; refine wl_mv rfl rfl ?_; apply wl_val; apply opv_bin; exact rfl; exact rfl; exact bin_add64 (by omega); exact rfl; refine wl_as rfl rfl ?_; refine wl_nil ?_
        refine we_loop [(0, .slice A xs.length c), (1, .slice B ys.length d), (5, .int .i64 ((k + 1 : Nat) : Int))] (xs.length - (k + 1)) ⟨k + 1, rfl, by omega, by omega, by rw [heq, cmp_same], hb, rfl⟩ (by omega) ⟨rfl, rfl, by simp [lookT], trivial⟩
  · refine wc_exit ?_; refine we_seq_exit ?_; refine we_loop_exit ?_; refine we_block_exit ?_; refine we_seq ?_; refine wc_seq ?_; refine wc_sr ?_; refine wl_mv rfl rfl ?_; apply wl_val; apply opv_len; exact rfl; exact tyB.sl; exact rfl; refine wl_mv rfl rfl ?_; apply wl_val; apply opv_len; exact rfl; exact tyB.sl; exact rfl; refine wl_bin rfl rfl bin_lss rfl ?_; refine wl_ns ?_
    refine wc_cond rfl (fun h2 => ?_) (fun h2 => ?_)
    · refine wc_sr ?_; refine wl_as rfl rfl ?_; refine wl_ns ?_; refine wc_ret ?_; refine we_seq_ret ?_
      exact we_ret1 rfl rfl ⟨_, rfl, by rw [heq, cmp_short (List.drop_of_length_le (by omega)) (by simp; omega)], hb⟩
    · refine wc_skip ?_; refine we_seq ?_; refine wc_seq ?_; refine wc_sr ?_; refine wl_mv rfl rfl ?_; apply wl_val; apply opv_len; exact rfl; exact tyB.sl; exact rfl; refine wl_mv rfl rfl ?_; apply wl_val; apply opv_len; exact rfl; exact tyB.sl; exact rfl; refine wl_bin rfl rfl bin_gtr rfl ?_; refine wl_ns ?_
      refine wc_cond rfl (fun h3 => ?_) (fun h3 => ?_)
      · refine wc_sr ?_; refine wl_as rfl rfl ?_; refine wl_ns ?_; refine wc_ret ?_; refine we_seq_ret ?_
        exact we_ret1 rfl rfl ⟨_, rfl, by rw [heq, cmp_long (by simp; omega) (List.drop_of_length_le (by omega))], hb⟩
      · refine wc_skip ?_; refine we_seq ?_; refine wc_sr ?_; refine wl_as rfl rfl ?_; refine wl_ns ?_; refine wc_ret ?_
        exact we_ret1 rfl rfl ⟨_, rfl, by rw [heq, List.drop_of_length_le (show xs.length ≤ k by omega), List.drop_of_length_le (show ys.length ≤ k by omega)]; rfl, hb⟩
end Go.Proofs.Ytpnckagibkdcpaa


/-
  Walks over the smallest functions of layer 1: Copy, Equal, Cmp of the references, PutU of both.
-/
namespace Go.Proofs.Ytpnckagibkdcpaa
open Go.RowKit

theorem copy_any {A : Option Addr} {n c : Nat} {xs : List UInt8} {w : World} (hr : RdB w A xs) (hn : xs.length = n) (hl : xs.length ≤ 140737488355328) : CallsV Try.prog 38 #[.slice A n c] w (RetB w xs) := by
  subst hn
  refine calls_in (N := _) Try.func38 rfl Try.ntmps38 rfl ?_; show WC _ _ _ _ _ _
  refine wc_sr ?_; refine wl_as rfl rfl ?_; refine wl_ns ?_; refine wc_sr ?_
  refine wl_bs (vs := []) tyB trivial rfl (by decide) rfl fun A1 w1 ho hb _ => ?_
  refine wl_mv rfl rfl ?_
  refine wl_app tyB rfl ho rfl (RdB.below hr hb) (bvs_one _) (by omega) (by simp only [maxLen]; omega) hb.size rfl fun A' c' w' ho' hg _ => ?_
  refine wl_as rfl rfl ?_; refine wl_ns ?_; refine wc_ret ?_
  refine we_ret1 rfl rfl ⟨_, rfl, A', c', by simp, ?_, ?_⟩
  · have := ho'; simp only [Nat.zero_add, List.nil_append] at this; exact this
  · exact hg.below hb ho (Nat.le_refl _) hb.size

theorem equal_any {A B : Option Addr} {n m c d : Nat} {xs ys : List UInt8} {w : World} (hx : RdB w A xs) (hy : RdB w B ys) (hn : xs.length = n) (hm : ys.length = m) (hlx : xs.length ≤ maxLen) :
    CallsV Try.prog 10 #[.slice A n c, .slice B m d] w fun v w' => v = .bool (decide (xs = ys)) ∧ Below w.heap.size w w' := by
  subst hn hm
  simp only [maxLen] at hlx
  refine calls_in (N := _) Try.func10 rfl Try.ntmps10 rfl ?_; show WC _ _ _ _ _ _
  refine wc_sr ?_; refine wl_as rfl rfl ?_; refine wl_ns ?_; refine wc_seq ?_; refine wc_sr ?_; refine wl_mv rfl rfl ?_; apply wl_val; apply opv_len; exact rfl; exact tyB.sl; exact rfl; refine wl_mv rfl rfl ?_; apply wl_val; apply opv_len; exact rfl; exact tyB.sl; exact rfl; refine wl_bin rfl rfl bin_neq rfl ?_; refine wl_ns ?_
  refine wc_cond rfl (fun h => ?_) (fun h => ?_)
  · refine wc_sr ?_; refine wl_as rfl rfl ?_; refine wl_ns ?_; refine wc_ret ?_; refine we_seq_ret ?_
    refine we_ret1 rfl rfl ⟨_, rfl, ?_, Below.refl _ _⟩
    have hne : ¬ xs = ys := fun e => h (by rw [e])
    simp [hne]
  · have hlen : xs.length = ys.length := by omega
    refine wc_skip ?_; refine we_seq ?_; refine wc_seq ?_; refine wc_sr ?_; refine wl_as rfl rfl ?_; refine wl_ns ?_; refine wc_block ?_
    refine wc_loop (fun L wr m => ∃ k : Nat, L = [(0, .slice A xs.length c), (1, .slice B ys.length d), (5, .int .i64 k)] ∧ k ≤ xs.length ∧ xs.take k = ys.take k ∧ Below w.heap.size w wr ∧ m = xs.length - k)
      [(0, .slice A xs.length c), (1, .slice B ys.length d), (5, .int .i64 (0 : Nat))] xs.length ⟨0, rfl, by omega, rfl, Below.refl _ _, rfl⟩ ⟨rfl, rfl, rfl, trivial⟩ ?_
    rintro _ wr m ⟨k, rfl, hk, heq, hbel, rfl⟩
    have hrx := RdB.below hx hbel
    have hry := RdB.below hy hbel
    refine wc_seq ?_; refine wc_sr ?_; refine wl_mv rfl rfl ?_; refine wl_mv rfl rfl ?_; apply wl_val; apply opv_len; exact rfl; exact tyB.sl; exact rfl; refine wl_bin rfl rfl bin_lss rfl ?_; refine wl_ns ?_
    refine wc_cond rfl (fun h1 => ?_) (fun h1 => ?_)
    · refine wc_skip ?_; refine we_seq ?_; refine wc_seq ?_; refine wc_block ?_; refine wc_seq ?_
      refine wc_drawB mixed (by kernel_rfl) ?_
      apply wq_val; intro _ hw_; apply opv_move; exact rfl; exact rfl; apply wq_val; intro _ hw_; apply opv_move; exact rfl; exact rfl
      refine wq_by tyB rfl rfl hrx rfl (by omega) rfl rfl fun p1 x hxk => ?_
      apply wq_val; intro _ hw_; apply opv_move; exact rfl; exact rfl; apply wq_val; intro _ hw_; apply opv_move; exact rfl; exact rfl
      refine wq_by tyB rfl rfl hry rfl (by omega) rfl rfl fun p2 y hyk => ?_
      apply wq_val; intro _ hw_; apply opv_bin; exact rfl; exact rfl; exact bin_neq; exact rfl; refine wq_nil fun w1 hw1 => ?_
      have hb1 := hbel.trans (hw1.mono hbel.size)
      refine we_seq ?_
      refine wc_cond rfl (fun h2 => ?_) (fun h2 => ?_)
      · refine wc_sr ?_; refine wl_as rfl rfl ?_; refine wl_ns ?_; refine wc_ret ?_; refine we_block_ret ?_; refine we_seq_ret ?_; refine we_loop_ret ?_; refine we_block_ret ?_; refine we_seq_ret ?_
        refine we_ret1 rfl rfl ⟨_, rfl, ?_, hb1⟩
        have hne : ¬ xs = ys := fun e => by subst e; rw [hxk] at hyk; cases hyk; exact h2 rfl
        simp [hne]
      · refine wc_skip ?_; refine we_block_norm ?_; refine we_seq ?_; refine wc_region ?_; refine wl_mv rfl rfl ?_; apply wl_val; apply opv_bin; exact rfl; exact rfl; exact bin_add64 (by omega); exact rfl; refine wl_as rfl rfl ?_; refine wl_nil ?_
        refine we_loop [(0, .slice A xs.length c), (1, .slice B ys.length d), (5, .int .i64 (k + 1 : Nat))] (xs.length - (k + 1)) ⟨k + 1, rfl, by omega, ?_, hb1, rfl⟩ (by omega) ⟨rfl, rfl, by simp [lookT], trivial⟩
        have : x = y := UInt8.toNat_inj.1 (by omega)
        rw [take_get hxk, take_get hyk, heq, this]
    · refine wc_exit ?_; refine we_seq_exit ?_; refine we_loop_exit ?_; refine we_block_exit ?_; refine we_seq ?_; refine wc_sr ?_; refine wl_as rfl rfl ?_; refine wl_ns ?_; refine wc_ret ?_
      refine we_ret1 rfl rfl ⟨_, rfl, ?_, hbel⟩
      have hkl : k = xs.length := by omega
      rw [hkl, List.take_length, hlen, List.take_length] at heq
      simp [heq]
theorem equal_yes {A B : Option Addr} {n m c d : Nat} {xs ys : List UInt8} {w : World} (he : xs = ys) (hx : RdB w A xs) (hy : RdB w B ys) (hn : xs.length = n) (hm : ys.length = m) (hlx : xs.length ≤ maxLen) :
    CallsV Try.prog 10 #[.slice A n c, .slice B m d] w fun v w' => v = .bool true ∧ Below w.heap.size w w' :=
  (equal_any hx hy hn hm hlx).mono fun v w' ⟨h, hb⟩ => ⟨by rw [h]; simp [he], hb⟩
end Go.Proofs.Ytpnckagibkdcpaa


/-
  Plain functions on lists of bytes, for layer 1 (codec): bytes with an end are read back; numbers of eight bytes; frames; what stands next. Nothing here names the program or the model.
-/
namespace Go.Proofs.Ytpnckagibkdcpaa

/-- The bytes at the head of a list: acc is what has been read, n how many bytes that took; bytes, count, error. -/
def gotAux : List UInt8 → Nat → List UInt8 → List UInt8 × Nat × Nat
  | _, _, [] => ([], 0, 5)
  | _, _, [_] => ([], 0, 5)
  | acc, n, x :: y :: r =>
    if x = 0 then (if y = 1 then (acc, n + 2, 0) else if y = 255 then gotAux (acc ++ [0]) (n + 2) r else ([], 0, 3))
    else gotAux (acc ++ [x]) (n + 1) (y :: r)
def getOrd (b : List UInt8) (p : Int) : List UInt8 × Int × Nat :=
  if p < 0 ∨ (b.length : Int) < p then ([], 0, 1) else
  match gotAux [] 0 (b.drop p.toNat) with
  | (xs, k, 0) => (xs, p + k, 0)
  | (_, _, e) => ([], 0, e)

theorem got_nil {acc : List UInt8} {n : Nat} : gotAux acc n [] = ([], 0, 5) := by simp [gotAux]
theorem got_plain {acc : List UInt8} {n : Nat} {x : UInt8} {r : List UInt8} (h : ¬ x = 0) : gotAux acc n (x :: r) = gotAux (acc ++ [x]) (n + 1) r := by
  cases r with
  | nil => simp [gotAux]
  | cons y r => rw [gotAux, if_neg h]
theorem got_end {acc : List UInt8} {n : Nat} {x : UInt8} : gotAux acc n [x] = ([], 0, 5) := by simp [gotAux]
theorem got_fin {acc : List UInt8} {n : Nat} {r : List UInt8} : gotAux acc n (0 :: 1 :: r) = (acc, n + 2, 0) := by simp [gotAux]
theorem got_esc {acc : List UInt8} {n : Nat} {r : List UInt8} : gotAux acc n (0 :: 255 :: r) = gotAux (acc ++ [0]) (n + 2) r := by simp [gotAux]
theorem got_bad {acc : List UInt8} {n : Nat} {y : UInt8} {r : List UInt8} (h1 : ¬ y = 1) (h2 : ¬ y = 255) : gotAux acc n (0 :: y :: r) = ([], 0, 3) := by simp [gotAux, h1, h2]
theorem getOrd_arg {b : List UInt8} {p : Int} (h : ¬ (0 ≤ p ∧ p ≤ b.length)) : getOrd b p = ([], 0, 1) := by
  rw [getOrd, if_pos (by omega)]
theorem getOrd_ok {b xs : List UInt8} {q k : Nat} (hq : q ≤ b.length) (h : gotAux [] 0 (b.drop q) = (xs, k, 0)) : getOrd b q = (xs, (q : Int) + k, 0) := by
  rw [getOrd, if_neg (by omega)]
  simp [h]
theorem getOrd_bad {b : List UInt8} {q e : Nat} (hq : q ≤ b.length) (h : gotAux [] 0 (b.drop q) = ([], 0, e + 1)) : getOrd b q = ([], 0, e + 1) := by
  rw [getOrd, if_neg (by omega)]
  simp [h]
theorem esc_cons (x : UInt8) (r : List UInt8) : esc (x :: r) = (if x = 0 then [0, 255] else [x]) ++ esc r := by simp [esc]
theorem got_ord (t : List UInt8) : ∀ (xs acc : List UInt8) (n : Nat), gotAux acc n (esc xs ++ (0 :: 1 :: t)) = (acc ++ xs, n + (esc xs).length + 2, 0)
  | [], acc, n => by simp [esc, gotAux]
  | x :: xs, acc, n => by
    rw [esc_cons]
    by_cases h : x = 0
    · subst h
      simp only [if_true, List.cons_append, List.nil_append]
      rw [got_esc, got_ord t xs]
      simp; omega
    · simp only [if_neg h, List.cons_append, List.nil_append]
      rw [got_plain h, got_ord t xs]
      simp; omega
theorem getOrd_ordText (xs : List UInt8) : getOrd (ordText xs) 0 = (xs, ((ordText xs).length : Int), 0) := by
  have h := got_ord [] xs [] 0
  have e : gotAux [] 0 ((ordText xs).drop 0) = (xs, (ordText xs).length, 0) := by
    rw [List.drop_zero]; unfold ordText; rw [h]; simp
  have := getOrd_ok (b := ordText xs) (q := 0) (by omega) e
  simpa using this
theorem got_length : ∀ (f : Nat) (l acc : List UInt8) (n : Nat) (xs : List UInt8) (k e : Nat), l.length ≤ f → gotAux acc n l = (xs, k, e) → xs.length ≤ acc.length + l.length
  | f, [], acc, n, xs, k, e, _, h => by rw [got_nil] at h; injection h with h _; subst h; simp
  | 0, _ :: _, _, _, _, _, _, hf, _ => by simp at hf
  | f + 1, [x], acc, n, xs, k, e, _, h => by rw [got_end] at h; injection h with h _; subst h; simp
  | f + 1, x :: y :: r, acc, n, xs, k, e, hf, h => by
    simp only [List.length_cons] at hf
    by_cases h0 : x = 0
    · subst h0
      by_cases h1 : y = 1
      · subst h1; rw [got_fin] at h; injection h with h _; subst h; simp
      · by_cases h2 : y = 255
        · subst h2; rw [got_esc] at h
          have := got_length f r _ _ _ _ _ (by omega) h
          simp at this ⊢; omega
        · rw [got_bad h1 h2] at h; injection h with h _; subst h; simp
    · rw [got_plain h0] at h
      have := got_length f (y :: r) _ _ _ _ _ (by simp; omega) h
      simp at this ⊢; omega
theorem getOrd_length {b xs : List UInt8} {p x : Int} {e : Nat} (h : getOrd b p = (xs, x, e)) : xs.length ≤ b.length := by
  rw [getOrd] at h
  split at h
  · injection h with h _; subst h; simp
  · cases hg : gotAux [] 0 (b.drop p.toNat) with
    | mk ys ke =>
      obtain ⟨k, e'⟩ := ke
      rw [hg] at h
      have := got_length _ _ _ _ _ _ _ (Nat.le_refl _) hg
      rw [List.length_drop] at this
      cases e' with
      | zero => simp only [Prod.mk.injEq] at h; obtain ⟨rfl, _⟩ := h; simp at this; omega
      | succ _ => simp only [Prod.mk.injEq] at h; obtain ⟨rfl, _⟩ := h; simp

/-! ### What stands next -/
def nextB (p : List UInt8) : List UInt8 :=
  match p.reverse.dropWhile (· == 255) with
  | [] => []
  | x :: r => r.reverse ++ [x + 1]
theorem dropWhile_all : ∀ (l r : List UInt8), (∀ y ∈ l, y = 255) → (l ++ r).dropWhile (· == 255) = r.dropWhile (· == 255)
  | [], r, _ => rfl
  | x :: l, r, h => by
    have hx := h x (List.mem_cons_self ..)
    subst hx
    rw [List.cons_append, List.dropWhile_cons_of_pos (by rfl)]
    exact dropWhile_all l r fun y hy => h y (List.mem_cons_of_mem _ hy)
theorem next_none {p : List UInt8} (h : ∀ y ∈ p, y = 255) : nextB p = [] := by
  have := dropWhile_all p.reverse [] (fun y hy => h y (List.mem_reverse.1 hy))
  rw [List.append_nil] at this
  unfold nextB; rw [this]; rfl
theorem next_some {p : List UInt8} {k : Nat} {x : UInt8} (hx : p[k]? = some x) (hne : ¬ x = 255) (h : ∀ y ∈ p.drop (k + 1), y = 255) : nextB p = p.take k ++ [x + 1] := by
  have e : p = p.take k ++ x :: p.drop (k + 1) := by rw [← drop_get hx, List.take_append_drop]
  have e2 : p.reverse = (p.drop (k + 1)).reverse ++ (x :: (p.take k).reverse) := by
    rw [show p.reverse = (p.take k ++ x :: p.drop (k + 1)).reverse by rw [← e]]; simp
  have e3 := dropWhile_all (p.drop (k + 1)).reverse (x :: (p.take k).reverse) (fun y hy => h y (List.mem_reverse.1 hy))
  rw [List.dropWhile_cons_of_neg (by simpa using hne)] at e3
  unfold nextB; rw [e2, e3]; simp
/-- Its form: what stands ahead of the last byte that isn't 255, and that byte raised. -/
theorem next_form (p : List UInt8) : (∀ y ∈ p, y = 255) ∧ nextB p = [] ∨ ∃ t x r, p = t ++ x :: r ∧ ¬ x = 255 ∧ (∀ y ∈ r, y = 255) ∧ nextB p = t ++ [x + 1] := by
  induction p with
  | nil => exact .inl ⟨by simp, rfl⟩
  | cons a p ih =>
    rcases ih with ⟨h, _⟩ | ⟨t, x, r, rfl, hx, hr, _⟩
    · by_cases ha : a = 255
      · have hall : ∀ y ∈ a :: p, y = 255 := by
          intro y hy
          rcases List.mem_cons.1 hy with rfl | hy
          · exact ha
          · exact h y hy
        exact .inl ⟨hall, next_none hall⟩
      · exact .inr ⟨[], a, p, rfl, ha, h, next_some (k := 0) rfl ha (by simpa using h)⟩
    · refine .inr ⟨a :: t, x, r, rfl, hx, hr, ?_⟩
      have := next_some (p := a :: (t ++ x :: r)) (k := t.length + 1) (x := x) (by simp) hx (by simpa using hr)
      rw [this]; simp
theorem lt_succ {x : UInt8} (h : ¬ x = 255) : x < x + 1 := by
  have h1 : x.toNat ≠ 255 := fun e => h (UInt8.toNat_inj.1 e)
  have h2 := x.toNat_lt
  rw [UInt8.lt_iff_toNat_lt, UInt8.toNat_add]
  simp; omega
theorem cmp_pre : ∀ (t a b : List UInt8), cmpB (t ++ a) (t ++ b) = cmpB a b
  | [], _, _ => rfl
  | x :: t, a, b => by rw [List.cons_append, List.cons_append, cmp_same, cmp_pre t]
theorem cmp_next {p tail : List UInt8} (h : nextB p ≠ []) : cmpB (p ++ tail) (nextB p) = -1 := by
  rcases next_form p with ⟨_, h'⟩ | ⟨t, x, r, rfl, hx, hr, hn⟩
  · exact absurd h' h
  · rw [hn, List.append_assoc, cmp_pre, List.cons_append, cmp_lt (lt_succ hx)]
theorem begins_of : ∀ (r o : List UInt8), (∀ y ∈ r, y = 255) → 0 ≤ cmpB o r → o.take r.length = r ∧ r.length ≤ o.length
  | [], o, _, _ => by simp
  | x :: r, [], _, h => by simp [cmpB] at h
  | x :: r, z :: o, hr, h => by
    have hx := hr x (List.mem_cons_self ..)
    subst hx
    by_cases hz : z = 255
    · subst hz
      rw [cmp_same] at h
      have := begins_of r o (fun y hy => hr y (List.mem_cons_of_mem _ hy)) h
      simp [this.1, this.2]
    · have : z < 255 := by
        have h1 : z.toNat ≠ 255 := fun e => hz (UInt8.toNat_inj.1 e)
        have h2 := z.toNat_lt
        rw [UInt8.lt_iff_toNat_lt]; simp; omega
      rw [cmp_lt this] at h; omega
theorem cmp_between : ∀ (t o r : List UInt8) (x : UInt8), ¬ x = 255 → (∀ y ∈ r, y = 255) → 0 ≤ cmpB o (t ++ x :: r) → ¬ (o.take (t ++ x :: r).length = t ++ x :: r ∧ (t ++ x :: r).length ≤ o.length) → 0 ≤ cmpB o (t ++ [x + 1])
  | t, [], r, x, _, _, h, _ => by cases t <;> simp [cmpB] at h
  | [], z :: o, r, x, hx, hr, h, hb => by
    simp only [List.nil_append] at h hb ⊢
    by_cases h1 : z < x
    · rw [cmp_lt h1] at h; omega
    · by_cases h2 : x < z
      · by_cases h3 : x + 1 < z
        · rw [cmp_gt h3]; omega
        · have : z = x + 1 := by
            have h4 : x.toNat ≠ 255 := fun e => hx (UInt8.toNat_inj.1 e)
            have h5 := x.toNat_lt
            have e : (x + 1).toNat = x.toNat + 1 := by rw [UInt8.toNat_add]; simp; omega
            rw [UInt8.lt_iff_toNat_lt] at h2 h3
            exact UInt8.toNat_inj.1 (by omega)
          subst this
          rw [cmp_same]
          cases o <;> simp [cmpB]
      · obtain rfl : z = x := by
          rw [UInt8.lt_iff_toNat_lt] at h1 h2
          exact UInt8.toNat_inj.1 (by omega)
        rw [cmp_same] at h
        have := begins_of r o hr h
        exact absurd (by simp [this.1, this.2]) hb
  | c :: t, z :: o, r, x, hx, hr, h, hb => by
    simp only [List.cons_append] at h hb ⊢
    by_cases h1 : z < c
    · rw [cmp_lt h1] at h; omega
    · by_cases h2 : c < z
      · rw [cmp_gt h2]; omega
      · obtain rfl : z = c := by
          rw [UInt8.lt_iff_toNat_lt] at h1 h2
          exact UInt8.toNat_inj.1 (by omega)
        rw [cmp_same] at h ⊢
        exact cmp_between t o r x hx hr h (fun hh => hb (by simpa using hh))
end Go.Proofs.Ytpnckagibkdcpaa


/-
  Walks over bytes.Clone and over Next of the program and of the reference.
-/
namespace Go.Proofs.Ytpnckagibkdcpaa
open Go.RowKit

theorem rd_none {w : World} {xs : List UInt8} (h : RdB w none xs) : xs = [] := by
  cases xs with
  | nil => rfl
  | cons x r => obtain ⟨_, _, h, _⟩ := h.2 (by simp); cases h

theorem clone_any {A : Option Addr} {n c : Nat} {xs : List UInt8} {w : World} (hr : RdB w A xs) (hn : xs.length = n) (hl : xs.length ≤ 140737488355328) : CallsV Try.prog 60 #[.slice A n c] w (RetB w xs) := by
  subst hn
  refine calls_in (N := _) Try.func60 rfl Try.ntmps60 rfl ?_; show WC _ _ _ _ _ _
  refine wc_sr ?_; refine wl_as rfl rfl ?_; refine wl_ns ?_; refine wc_seq ?_; refine wc_sr ?_; refine wl_mv rfl rfl ?_
  refine wl_val (opv_bin rfl rfl (bin_eqlSliceNil Try.underlying24)) rfl ?_
  refine wl_ns ?_
  refine wc_condB rfl (fun h => ?_) (fun h => ?_)
  · obtain rfl : A = none := by cases A <;> simp at h ⊢
    obtain rfl := rd_none hr
    refine wc_sr ?_; refine wl_as rfl rfl ?_; refine wl_ns ?_; refine wc_ret ?_; refine we_seq_ret ?_
    exact we_ret1 rfl rfl ⟨_, rfl, none, 0, rfl, Ow.nil _ _ _, Below.refl _ _⟩
  · refine wc_skip ?_; refine we_seq ?_; refine wc_sr ?_
    refine wl_bs (vs := []) tyB trivial rfl (by decide) rfl fun A1 w1 ho hb _ => ?_
    refine wl_mv rfl rfl ?_
    refine wl_app tyB rfl ho rfl (RdB.below hr hb) (bvs_one _) (by omega) (by simp only [maxLen]; omega) hb.size rfl fun A' c' w' ho' hg _ => ?_
    refine wl_as rfl rfl ?_; refine wl_ns ?_; refine wc_ret ?_
    refine we_ret1 rfl rfl ⟨_, rfl, A', c', by simp, ?_, ?_⟩
    · have := ho'; simp only [Nat.zero_add, List.nil_append] at this; exact this
    · exact hg.below hb ho (Nat.le_refl _) hb.size

theorem rd_pre {w : World} {A : Option Addr} {xs : List UInt8} {c h : Nat} (hr : RdB w A xs) (hh : h ≤ xs.length) (hc : xs.length ≤ c) : RdB w (cutA A c 0) (xs.take h) := by
  have := Rd.cut (l := 0) (h := h) hr (by omega) hh hc
  rw [bvs_cut] at this
  simp only [Nat.sub_zero, List.drop_zero] at this
  have e : (xs.take h).length = h := by simp; omega
  unfold RdB; rw [e]; exact this

theorem add1_val (x : UInt8) : Value.int .u8 (((x.toNat + 1) % 2 ^ IntKind.u8.bits : Nat) : Int) = bv (x + 1) := by
  rw [bv, UInt8.toNat_add]; rfl

end Go.Proofs.Ytpnckagibkdcpaa


/-
  Lists of lists of bytes: read, or rows of the call's own that lie apart; and the rules to read one and to append one.
-/
namespace Go.Proofs.Ytpnckagibkdcpaa
open Go.RowKit

section
variable {P : Program} {N : Nat} {ops : Array Oper} {Q : Exit → Act → World → Prop} {rest : List Oper} {L : FL} {w : World} {t e : TypeId} {z : Value} {bytes : Nat}
theorem Rd.in_len {A : Option Addr} {n k : Nat} {xs : List Value} {u : Value} (hr : Rd w A n xs) (h : xs[k]? = some u) : k < n := by
  have := (List.getElem?_eq_some_iff.1 h).1; have := hr.1; omega
theorem wl_elK {d1 d2 : Nat} {x i : Operand} {ty1 ty2 : TypeId} {p1 p2 : String} {f1 f2 : Array Edge} {A : Option Addr} {n c kk : Nat} {ik : IntKind} {q : Int} {xs : List Value} {u : Value} (T : Row1 P t e z bytes)
    (hx : look L x = some (Value.slice A n c)) (hi : look L i = some (.int ik q)) (hr : Rd w A n xs) (hq : q = (kk : Int)) (hb : xs[kk]? = some u) (hd1 : Nat.blt d1 N = true) (hd2 : Nat.blt d2 N = true)
    (h : ∀ p, WL P N ops Q rest ((d2, u) :: (d1, p) :: L) w) :
    WL P N ops Q (⟨some d1, .indexAddr t x i, ty1, p1, f1, none⟩ :: ⟨some d2, .load e (.tmp d1), ty2, p2, f2, none⟩ :: rest) L w :=
  wl_el T hx hi hr hq (hr.in_len hb) hd1 hd2 fun p u' hu => by rw [hb] at hu; cases hu; exact h p
theorem wl_elTK {d1 d2 j1 g1 j2 g2 : Nat} {b1 w1 b2 w2 : Bool} {x i : Operand} {ty1 ty2 : TypeId} {p1 p2 : String} {f1 f2 : Array Edge} {A : Option Addr} {n c kk : Nat} {ik : IntKind} {q : Int} {xs : List Value} {u : Value} (T : Row1 P t e z bytes)
    (hj1 : (ops[j1]?).bind (·.dst) = some g1) (hb1 : lookT L g1 = some (.bool b1)) (hg1 : Nat.blt g1 N = true) (he1 : b1 = w1)
    (hj2 : (ops[j2]?).bind (·.dst) = some g2) (hb2 : lookT L g2 = some (.bool b2)) (hg2 : Nat.blt g2 N = true) (hne : Nat.beq d1 g2 = false) (he2 : b2 = w2)
    (hx : look L x = some (Value.slice A n c)) (hi : look L i = some (.int ik q)) (hr : Rd w A n xs) (hq : q = (kk : Int)) (hb : xs[kk]? = some u) (hd1 : Nat.blt d1 N = true) (hd2 : Nat.blt d2 N = true)
    (h : ∀ p, WL P N ops Q rest ((d2, u) :: (d1, p) :: L) w) :
    WL P N ops Q (⟨some d1, .indexAddr t x i, ty1, p1, f1, some (j1, w1)⟩ :: ⟨some d2, .load e (.tmp d1), ty2, p2, f2, some (j2, w2)⟩ :: rest) L w :=
  wl_elT T hj1 hb1 hg1 he1 hj2 hb2 hg2 hne he2 hx hi hr hq (hr.in_len hb) hd1 hd2 fun p u' hu => by rw [hb] at hu; cases hu; exact h p
theorem wq_elK {w0 : World} {Qa : Act → Prop} {d1 d2 : Nat} {x i : Operand} {ty1 ty2 : TypeId} {p1 p2 : String} {f1 f2 : Array Edge} {A : Option Addr} {n c kk : Nat} {ik : IntKind} {q : Int} {xs : List Value} {u : Value} (T : Row1 P t e z bytes)
    (hx : look L x = some (Value.slice A n c)) (hi : look L i = some (.int ik q)) (hr : Rd w0 A n xs) (hq : q = (kk : Int)) (hb : xs[kk]? = some u) (hd1 : Nat.blt d1 N = true) (hd2 : Nat.blt d2 N = true)
    (h : ∀ p, WQ P N ops (Below w0.heap.size w0) Qa rest ((d2, u) :: (d1, p) :: L)) :
    WQ P N ops (Below w0.heap.size w0) Qa (⟨some d1, .indexAddr t x i, ty1, p1, f1, none⟩ :: ⟨some d2, .load e (.tmp d1), ty2, p2, f2, none⟩ :: rest) L :=
  wq_el T hx hi hr hq (hr.in_len hb) hd1 hd2 fun p u' hu => by rw [hb] at hu; cases hu; exact h p
theorem wq_elTK {w0 : World} {Qa : Act → Prop} {d1 d2 j1 g1 j2 g2 : Nat} {b1 w1 b2 w2 : Bool} {x i : Operand} {ty1 ty2 : TypeId} {p1 p2 : String} {f1 f2 : Array Edge} {A : Option Addr} {n c kk : Nat} {ik : IntKind} {q : Int} {xs : List Value} {u : Value} (T : Row1 P t e z bytes)
    (hj1 : (ops[j1]?).bind (·.dst) = some g1) (hb1 : lookT L g1 = some (.bool b1)) (hg1 : Nat.blt g1 N = true) (he1 : b1 = w1)
    (hj2 : (ops[j2]?).bind (·.dst) = some g2) (hb2 : lookT L g2 = some (.bool b2)) (hg2 : Nat.blt g2 N = true) (hne : Nat.beq d1 g2 = false) (he2 : b2 = w2)
    (hx : look L x = some (Value.slice A n c)) (hi : look L i = some (.int ik q)) (hr : Rd w0 A n xs) (hq : q = (kk : Int)) (hb : xs[kk]? = some u) (hd1 : Nat.blt d1 N = true) (hd2 : Nat.blt d2 N = true)
    (h : ∀ p, WQ P N ops (Below w0.heap.size w0) Qa rest ((d2, u) :: (d1, p) :: L)) :
    WQ P N ops (Below w0.heap.size w0) Qa (⟨some d1, .indexAddr t x i, ty1, p1, f1, some (j1, w1)⟩ :: ⟨some d2, .load e (.tmp d1), ty2, p2, f2, some (j2, w2)⟩ :: rest) L := by
  obtain ⟨bb, o, rfl, hlt, hc⟩ := hr.2 (Nat.lt_of_le_of_lt (Nat.zero_le _) (hr.in_len hb))
  refine wq_take hj1 hb1 hg1 he1 (wq_val (fun w hw => opv_idx T hx hi hq (hr.in_len hb)) hd1 ?_)
  refine wq_take hj2 (b := b2) ?_ hg2 he2 (wq_val (v := u) (fun w hw => opv_load T (by simp [look, lookT]; rfl) ?_) hd2 (h _))
  · simpa [lookT, hne] using hb2
  · rw [hw.cell (p := ⟨bb, o + kk, none⟩) hlt]
    exact hc kk _ hb
end

/-- The slice reads as a list of lists of bytes. -/
def RdBB (w : World) (A : Option Addr) (rows : List (List UInt8)) : Prop :=
  ∃ vs : List Value, Rd w A rows.length vs ∧ ∀ (i : Nat) (r : List UInt8), rows[i]? = some r → ∃ (A' : Option Addr) (c' : Nat), vs[i]? = some (Value.slice A' r.length c') ∧ RdB w A' r ∧ r.length ≤ c'
/-- It is a row of the call's own, of rows of its own that all lie apart. -/
def OwBB (w : World) (base : Nat) (A : Option Addr) (c : Nat) (rows : List (List UInt8)) : Prop :=
  ∃ vs : List Value, Ow w base 24 A rows.length c vs ∧ (∀ (i : Nat) (r : List UInt8), rows[i]? = some r → ∃ (A' : Option Addr) (c' : Nat), vs[i]? = some (Value.slice A' r.length c') ∧ OwB w base A' c' r ∧ (∀ a a', A = some a → A' = some a' → a'.block ≠ a.block)) ∧
    vs.Pairwise fun v v' => ∀ g, v.ownBlock = some g → v'.ownBlock ≠ some g
def RetBB (w : World) (rows : List (List UInt8)) (v : Value) (w' : World) : Prop :=
  ∃ (A : Option Addr) (c : Nat), v = .slice A rows.length c ∧ OwBB w' w.heap.size A c rows ∧ Below w.heap.size w w'

section
variable {w w' : World} {A : Option Addr} {base c : Nat} {rows : List (List UInt8)}
theorem RdBB.below (h : RdBB w A rows) (hb : Below w.heap.size w w') : RdBB w' A rows := by
  obtain ⟨vs, hv, hr⟩ := h
  refine ⟨vs, hv.below hb, fun i r hi => ?_⟩
  obtain ⟨A', c', h1, h2, h3⟩ := hr i r hi
  exact ⟨A', c', h1, h2.below hb, h3⟩
theorem RdBB.at (h : RdBB w A rows) {k : Nat} {r : List UInt8} (hk : rows[k]? = some r) : ∃ (vs : List Value) (A' : Option Addr) (c' : Nat), Rd w A rows.length vs ∧ vs[k]? = some (Value.slice A' r.length c') ∧ RdB w A' r ∧ r.length ≤ c' := by
  obtain ⟨vs, hv, hr⟩ := h
  obtain ⟨A', c', h1, h2, h3⟩ := hr k r hk
  exact ⟨vs, A', c', hv, h1, h2, h3⟩
theorem OwBB.rd (h : OwBB w base A c rows) : RdBB w A rows := by
  obtain ⟨vs, ho, hr, _⟩ := h
  refine ⟨vs, ho.rd, fun i r hi => ?_⟩
  obtain ⟨A', c', h1, h2, _⟩ := hr i r hi
  exact ⟨A', c', h1, OwB.rd h2, h2.cap⟩
theorem OwBB.below (h : OwBB w base A c rows) (hb : Below w.heap.size w w') : OwBB w' base A c rows := by
  obtain ⟨vs, ho, hr, hs⟩ := h
  refine ⟨vs, Ow.below ho hb (Nat.le_refl _), fun i r hi => ?_, hs⟩
  obtain ⟨A', c', h1, h2, h3⟩ := hr i r hi
  exact ⟨A', c', h1, h2.below hb, h3⟩
theorem OwBB.nil (w : World) (base : Nat) : OwBB w base none 0 [] := ⟨[], Ow.nil _ _ _, by simp, List.Pairwise.nil⟩
theorem OwBB.empty (h : Ow w base 24 A 0 c []) : OwBB w base A c [] := ⟨[], h, by simp, List.Pairwise.nil⟩
theorem OwBB.mono {base' : Nat} (h : OwBB w base A c rows) (hb : base' ≤ base) : OwBB w base' A c rows := by
  obtain ⟨vs, ho, hr, hs⟩ := h
  refine ⟨vs, ho.mono hb, fun i r hi => ?_, hs⟩
  obtain ⟨A', c', h1, h2, h3⟩ := hr i r hi
  exact ⟨A', c', h1, Ow.mono h2 hb, h3⟩
theorem OwBB.cap (h : OwBB w base A c rows) : rows.length ≤ c := by
  obtain ⟨vs, h, _⟩ := h
  rcases h.2 with ⟨hv, hn⟩ | ⟨g, cap, cur, hv, _, _, hnc, _⟩
  · omega
  · injection hv with _ _ hc; omega
theorem OwBB.blocks {vs : List Value} (ho : Ow w base 24 A rows.length c vs) (hr : ∀ (i : Nat) (r : List UInt8), rows[i]? = some r → ∃ (A' : Option Addr) (c' : Nat), vs[i]? = some (Value.slice A' r.length c') ∧ OwB w base A' c' r ∧ (∀ a a', A = some a → A' = some a' → a'.block ≠ a.block)) :
    ∀ v ∈ vs, ∀ g, v.ownBlock = some g → g < w.heap.size := by
  intro v hv g hg
  obtain ⟨i, hi, rfl⟩ := List.getElem_of_mem hv
  have hl : i < rows.length := by have := ho.len; omega
  obtain ⟨A', c', h1, h2, _⟩ := hr i _ (List.getElem?_eq_getElem hl)
  rw [List.getElem?_eq_getElem hi] at h1
  simp only [Option.some.injEq] at h1
  rw [h1, ownBlock_slice] at hg
  cases A' with
  | none => simp at hg
  | some a' => have := (Ow.lt h2 a' rfl).2; simp at hg; omega
end

/-- append(rows, row): the row has been made behind the rows. -/
theorem wl_pushR {N : Nat} {ops : Array Oper} {Q : Exit → Act → World → Prop} {rest : List Oper} {L : FL} {w0 w wf : World} {d1 d2 : Nat} {s x : Operand} {ty1 ty2 : TypeId} {p1 p2 : String} {f1 f2 : Array Edge}
    {base n c c1 : Nat} {A A1 : Option Addr} {rows : List (List UInt8)} {r : List UInt8} (hown : OwBB w0 base A c rows) (hb : Below w0.heap.size w0 w) (hbase : base ≤ w0.heap.size) (hnew : OwB w w0.heap.size A1 c1 r) (hbel : Below base wf w)
    (hn : rows.length = n) (hbytes : (n + 1) * 24 ≤ 140737488355328) (hs : look L s = some (Value.slice A n c)) (hx : look L x = some (Value.slice A1 r.length c1))
    (hs1 : look ((d1, .slice (some ⟨w.heap.size, 0, none⟩) 1 1) :: L) s = some (Value.slice A n c)) (hd1 : Nat.blt d1 N = true) (hd2 : Nat.blt d2 N = true)
    (h : ∀ p A' c' w', OwBB w' base A' c' (rows ++ [r]) → Below base wf w' → WL Try.prog N ops Q rest ((d2, .slice A' (n + 1) c') :: (d1, p) :: L) w') :
    WL Try.prog N ops Q (⟨some d1, .buildSlice 77 1 #[(0, x)], ty1, p1, f1, none⟩ :: ⟨some d2, .call { callee := .builtin .append, args := #[s, .tmp d1], argTypes := #[77, 77] }, ty2, p2, f2, none⟩ :: rest) L w := by
  subst hn
  obtain ⟨vs, ho, hr, hsep⟩ := hown
  have hlt := OwBB.blocks ho hr
  have ho1 := Ow.below ho hb (Nat.le_refl _)
  have hsz := hb.size
  refine wl_push (vs := [.slice A1 r.length c1]) tyBB hs ho1 ⟨rfl, hx, rfl, trivial⟩ rfl (by decide) hs1 hbytes (by simp only [maxLen]; omega) (by omega) hd1 hd2 fun p A' c' w' ho' hg hat => ?_
  refine h p A' c' w' ⟨vs ++ [.slice A1 r.length c1], by rw [List.length_append]; exact ho', ?_, ?_⟩ ?_
  · intro i q hi
    have hlen := ho.len
    rw [List.getElem?_append] at hi
    by_cases hil : i < rows.length
    · rw [if_pos hil] at hi
      obtain ⟨A2, c2, h1, h2, h3⟩ := hr i q hi
      refine ⟨A2, c2, by rw [List.getElem?_append_left (by omega)]; exact h1, Ow.gr (base' := 0) (e' := 0) (Ow.below h2 hb (Nat.le_refl _)) hg (fun a b ha hb' => h3 _ _ hb' ha), ?_⟩
      rintro a a' rfl rfl
      have hl2 := (Ow.lt h2 a' rfl).2
      rcases hat with hat | hat
      · cases A with
        | none => simp at hat
        | some aa => simp only [Option.map_some, Option.some.injEq] at hat; rw [hat]; exact h3 aa a' rfl rfl
      · have := hat a rfl; omega
    · rw [if_neg hil] at hi
      have hi0 : i = rows.length := by
        have := (List.getElem?_eq_some_iff.1 hi).1
        simp at this; omega
      subst hi0
      simp at hi
      subst hi
      have hne : ∀ a b, A1 = some a → A = some b → a.block ≠ b.block := by
        rintro a b rfl rfl
        have := (Ow.lt hnew a rfl).1
        have := (Ow.lt ho b rfl).2
        omega
      refine ⟨A1, c1, by rw [← hlen]; simp, Ow.mono (Ow.gr (base' := 0) (e' := 0) hnew hg hne) hbase, ?_⟩
      rintro a a' rfl rfl
      have hl2 := (Ow.lt hnew a' rfl).2
      rcases hat with hat | hat
      · cases A with
        | none => simp at hat
        | some aa => simp only [Option.map_some, Option.some.injEq] at hat; rw [hat]; exact hne a' aa rfl rfl
      · have := hat a rfl; omega
  · rw [List.pairwise_append]
    refine ⟨hsep, List.pairwise_singleton _ _, fun v hv v' hv' g hg1 hg2 => ?_⟩
    simp only [List.mem_singleton] at hv'
    subst hv'
    have h1 := hlt v hv g hg1
    rw [ownBlock_slice] at hg2
    cases A1 with
    | none => simp at hg2
    | some a1 => have := (Ow.lt hnew a1 rfl).1; simp at hg2; omega
  · exact hg.below hbel ho1 (Nat.le_refl _) (by omega)
end Go.Proofs.Ytpnckagibkdcpaa


/-
  Plain laws of lists: tuples of written lists, frames, numbers of eight bytes. No program in sight.
-/
namespace Go.Proofs.Ytpnckagibkdcpaa

/-! ### Tuples -/
/-- Lists of lists are compared list by list, then by how many they are. -/
def cmpT : List (List UInt8) → List (List UInt8) → Int
  | [], [] => 0
  | [], _ :: _ => -1
  | _ :: _, [] => 1
  | x :: a, y :: b => if cmpB x y = 0 then cmpT a b else cmpB x y
def ords (l : List (List UInt8)) : List UInt8 := l.flatMap ordText

theorem cmp_refl : ∀ (a : List UInt8), cmpB a a = 0
  | [] => by simp [cmpB]
  | x :: r => by rw [cmp_same]; exact cmp_refl r
theorem cmp_zero : ∀ {a b : List UInt8}, cmpB a b = 0 → a = b
  | [], [], _ => rfl
  | [], _ :: _, h => by simp [cmpB] at h
  | _ :: _, [], h => by simp [cmpB] at h
  | x :: a, y :: b, h => by
    by_cases h1 : x < y
    · rw [cmp_lt h1] at h; omega
    · by_cases h2 : y < x
      · rw [cmp_gt h2] at h; omega
      · have e : x = y := UInt8.le_antisymm (UInt8.not_lt.1 h2) (UInt8.not_lt.1 h1)
        subst e
        rw [cmp_same] at h
        rw [cmp_zero h]
theorem cmp_neg : ∀ (a b : List UInt8), cmpB b a = - cmpB a b
  | [], [] => by simp [cmpB]
  | [], _ :: _ => by simp [cmpB]
  | _ :: _, [] => by simp [cmpB]
  | x :: a, y :: b => by
    by_cases h1 : x < y
    · rw [cmp_lt h1, cmp_gt h1]; rfl
    · by_cases h2 : y < x
      · rw [cmp_gt h2, cmp_lt h2]
      · have e : x = y := UInt8.le_antisymm (UInt8.not_lt.1 h2) (UInt8.not_lt.1 h1)
        subst e
        rw [cmp_same, cmp_same]; exact cmp_neg a b
theorem cmp_range (a b : List UInt8) : cmpB a b = -1 ∨ cmpB a b = 0 ∨ cmpB a b = 1 := by
  induction a generalizing b with
  | nil => cases b <;> simp [cmpB]
  | cons x a ih =>
    cases b with
    | nil => simp [cmpB]
    | cons y b =>
      by_cases h1 : x < y
      · rw [cmp_lt h1]; simp
      · by_cases h2 : y < x
        · rw [cmp_gt h2]; simp
        · have e : x = y := UInt8.le_antisymm (UInt8.not_lt.1 h2) (UInt8.not_lt.1 h1)
          subst e
          rw [cmp_same]; exact ih b
theorem ne_zero_pos {x : UInt8} (h : ¬ x = 0) : (0 : UInt8) < x := by
  rw [UInt8.lt_iff_toNat_lt]
  have : x.toNat ≠ 0 := fun e => h (UInt8.toNat_inj.1 (by simpa using e))
  simp; omega
theorem ordText_cons (x : UInt8) (r : List UInt8) : ordText (x :: r) = (if x = 0 then [0, 255] else [x]) ++ ordText r := by simp [ordText, esc_cons]
/-- Written lists, and whatever stands behind them, stand in the lists' order. -/
theorem cmp_ord (s t : List UInt8) : ∀ (a b : List UInt8), ¬ cmpB a b = 0 → cmpB (ordText a ++ s) (ordText b ++ t) = cmpB a b
  | [], [], h => absurd (by simp [cmpB]) h
  | [], y :: b, _ => by
    by_cases h : y = 0
    · subst h
      simp only [ordText_cons, if_true]
      have e : cmpB ([] : List UInt8) (0 :: b) = -1 := by simp [cmpB]
      rw [e]
      simp only [ordText, esc, List.flatMap_nil, List.nil_append, List.cons_append]
      rw [cmp_same, cmp_lt (by decide)]
    · have e : cmpB ([] : List UInt8) (y :: b) = -1 := by simp [cmpB]
      rw [e]
      simp only [ordText_cons, if_neg h]
      simp only [ordText, esc, List.flatMap_nil, List.nil_append, List.cons_append]
      rw [cmp_lt (ne_zero_pos h)]
  | x :: a, [], _ => by
    by_cases h : x = 0
    · subst h
      simp only [ordText_cons, if_true]
      have e : cmpB (0 :: a) ([] : List UInt8) = 1 := by simp [cmpB]
      rw [e]
      simp only [ordText, esc, List.flatMap_nil, List.nil_append, List.cons_append]
      rw [cmp_same, cmp_gt (by decide)]
    · have e : cmpB (x :: a) ([] : List UInt8) = 1 := by simp [cmpB]
      rw [e]
      simp only [ordText_cons, if_neg h]
      simp only [ordText, esc, List.flatMap_nil, List.nil_append, List.cons_append]
      rw [cmp_gt (ne_zero_pos h)]
  | x :: a, y :: b, h => by
    by_cases hxy : x = y
    · subst hxy
      rw [cmp_same] at h ⊢
      have ih := cmp_ord s t a b h
      by_cases h0 : x = 0
      · simp only [ordText_cons, if_pos h0, List.cons_append, List.nil_append]
        rw [cmp_same, cmp_same, ih]
      · simp only [ordText_cons, if_neg h0, List.cons_append, List.nil_append]
        rw [cmp_same, ih]
    · by_cases h1 : x < y
      · rw [cmp_lt h1]
        by_cases h0 : x = 0
        · have hy : ¬ y = 0 := fun e => hxy (by rw [h0, e])
          simp only [ordText_cons, if_pos h0, if_neg hy, List.cons_append, List.nil_append]
          rw [cmp_lt (ne_zero_pos hy)]
        · have hy : ¬ y = 0 := by
            rintro rfl
            rw [UInt8.lt_iff_toNat_lt] at h1; simp at h1
          simp only [ordText_cons, if_neg h0, if_neg hy, List.cons_append, List.nil_append]
          rw [cmp_lt h1]
      · have h2 : y < x := by
          rcases UInt8.lt_or_lt_of_ne hxy with h | h
          · exact absurd h h1
          · exact h
        rw [cmp_gt h2]
        by_cases h0 : y = 0
        · have hx : ¬ x = 0 := fun e => hxy (by rw [h0, e])
          simp only [ordText_cons, if_pos h0, if_neg hx, List.cons_append, List.nil_append]
          rw [cmp_gt (ne_zero_pos hx)]
        · have hx : ¬ x = 0 := by
            rintro rfl
            rw [UInt8.lt_iff_toNat_lt] at h2; simp at h2
          simp only [ordText_cons, if_neg h0, if_neg hx, List.cons_append, List.nil_append]
          rw [cmp_gt h2]
theorem ordText_pos (x : List UInt8) : 0 < (ordText x).length := by simp [ordText]
theorem cmp_ords : ∀ (a b : List (List UInt8)), cmpB (ords a) (ords b) = cmpT a b
  | [], [] => by simp [ords, cmpB, cmpT]
  | [], y :: b => by
    have := ordText_pos y
    simp only [cmpT]
    exact cmp_short (by simp [ords]) (by simp [ords]; omega)
  | x :: a, [] => by
    have := ordText_pos x
    simp only [cmpT]
    exact cmp_long (by simp [ords]; omega) (by simp [ords])
  | x :: a, y :: b => by
    simp only [cmpT, ords, List.flatMap_cons]
    by_cases h : cmpB x y = 0
    · rw [if_pos h, cmp_zero h, cmp_pre]; exact cmp_ords a b
    · rw [if_neg h, cmp_ord _ _ x y h]
/-- What a loop over both has found so far. -/
theorem cmpT_drop {a b : List (List UInt8)} {k : Nat} {x y : List UInt8} (hx : a[k]? = some x) (hy : b[k]? = some y) : cmpT (a.drop k) (b.drop k) = if cmpB x y = 0 then cmpT (a.drop (k + 1)) (b.drop (k + 1)) else cmpB x y := by
  obtain ⟨h1, e1⟩ := List.getElem?_eq_some_iff.1 hx
  obtain ⟨h2, e2⟩ := List.getElem?_eq_some_iff.1 hy
  rw [List.drop_eq_getElem_cons h1, List.drop_eq_getElem_cons h2, e1, e2]
  rfl
theorem cmpT_end {a b : List (List UInt8)} {k : Nat} (h : ¬ (k < a.length ∧ k < b.length)) : k ≤ a.length → k ≤ b.length → cmpT (a.drop k) (b.drop k) = if a.length < b.length then -1 else if b.length < a.length then 1 else 0 := by
  intro h1 h2
  rcases Nat.lt_trichotomy a.length b.length with hl | hl | hl
  · rw [if_pos hl]
    have : k = a.length := by omega
    subst this
    rw [List.drop_length, List.drop_eq_getElem_cons hl]; rfl
  · have : k = a.length := by omega
    subst this
    rw [List.drop_length, hl, List.drop_length]; simp [cmpT]
  · rw [if_neg (by omega), if_pos hl]
    have : k = b.length := by omega
    subst this
    rw [List.drop_length, List.drop_eq_getElem_cons hl]; rfl
theorem take_getR {α : Type} {l : List α} {k : Nat} {b : α} (h : l[k]? = some b) : l.take (k + 1) = l.take k ++ [b] := by
  rw [List.take_add_one, h]; rfl
theorem ords_take {l : List (List UInt8)} {k : Nat} {x : List UInt8} (h : l[k]? = some x) : ords (l.take (k + 1)) = ords (l.take k) ++ ordText x := by
  rw [take_getR h]; simp [ords]
theorem ords_length : ∀ (l : List (List UInt8)), (ords l).length ≤ 2 * l.flatten.length + 2 * l.length
  | [] => by simp [ords]
  | x :: l => by
    have h1 := ords_length l
    have h2 := esc_length x
    simp only [ords, List.flatMap_cons, List.length_append, List.flatten_cons, List.length_cons, ordText, List.length_nil] at h1 ⊢
    omega
theorem ords_take_le (l : List (List UInt8)) (k : Nat) : (ords (l.take k)).length ≤ (ords l).length := by
  have : ords l = ords (l.take k) ++ ords (l.drop k) := by
    rw [ords, ords, ords, ← List.flatMap_append, List.take_append_drop]
  rw [this, List.length_append]; omega
theorem flat_mem : ∀ {l : List (List UInt8)} {k : Nat} {x : List UInt8}, l[k]? = some x → x.length ≤ l.flatten.length
  | [], _, _, h => by simp at h
  | y :: l, 0, x, h => by
    simp only [List.getElem?_cons_zero, Option.some.injEq] at h
    subst h
    rw [List.flatten_cons, List.length_append]; omega
  | y :: l, k + 1, x, h => by
    simp only [List.getElem?_cons_succ] at h
    have := flat_mem h
    rw [List.flatten_cons, List.length_append]; omega
end Go.Proofs.Ytpnckagibkdcpaa


/-
  Walks over Copies and Equals of the references.
-/
namespace Go.Proofs.Ytpnckagibkdcpaa
open Go.RowKit

end Go.Proofs.Ytpnckagibkdcpaa


/-
  Entries: their struct type's facts, what the document says of lists of entries, and walks over the functions that look into one entry or two.
-/
namespace Go.Proofs.Ytpnckagibkdcpaa
open Go.RowKit

theorem sE : StT Try.prog 56 4 := ⟨by kernel_rfl, by kernel_rfl⟩
theorem fa_sE {k : Nat} (h : k < 4) : FieldAt Try.prog 56 k k := by
  match k, h with
  | 0, _ => exact fieldAt_mk Try.underlying56 rfl rfl (by kernel_rfl)
  | 1, _ => exact fieldAt_mk Try.underlying56 rfl rfl (by kernel_rfl)
  | 2, _ => exact fieldAt_mk Try.underlying56 rfl rfl (by kernel_rfl)
  | 3, _ => exact fieldAt_mk Try.underlying56 rfl rfl (by kernel_rfl)
theorem e1_u64 : Cell1 Try.prog 26 := ⟨by kernel_rfl, by rw [Try.underlying26]⟩
theorem e1_u8 : Cell1 Try.prog 5 := ⟨by kernel_rfl, by rw [Try.underlying5]⟩
theorem e1_by : Cell1 Try.prog 24 := ⟨by kernel_rfl, by rw [Try.underlying24]⟩
theorem e1_row : Cell1 Try.prog 40 := ⟨by kernel_rfl, by rw [Try.underlying40]⟩
theorem e0_u64 : (Try.prog.info? 26).map (·.zero) = some (some (.int .u64 (0 : Nat))) := by kernel_rfl
def zE : List Value := [.slice none 0 0, .int .u64 0, .int .u8 0, .slice none 0 0]
theorem zeroE : (Try.prog.info? 56).map (·.zero) = some (some (.agg zE.toArray)) := by kernel_rfl
theorem tkE : RowK Try.prog 40 56 4 (.agg zE.toArray) 64 := ⟨Try.underlying40, by kernel_rfl, by simp [zE, Value.cells], by decide⟩
theorem tkEE : RowK Try.prog 48 40 1 (.slice none 0 0) 24 := ⟨Try.underlying48, by kernel_rfl, rfl, by decide⟩

/-- An entry. -/
structure En where
  key : List UInt8
  seq : Nat
  kind : UInt8
  val : List UInt8
deriving DecidableEq
def enV (x : En) (A : Option Addr) (c : Nat) (B : Option Addr) (d : Nat) : List Value := [.slice A x.key.length c, .int .u64 (x.seq : Int), .int .u8 (x.kind.toNat : Int), .slice B x.val.length d]
def enEl (x : En) : El where
  P w S cs := ∃ (A : Option Addr) (c : Nat) (B : Option Addr) (d : Nat), cs = enV x A c B d ∧ (byEl x.key).P w S [.slice A x.key.length c] ∧ (byEl x.val).P w S [.slice B x.val.length d]
  move := by rintro w w' S S' cs ⟨A, c, B, d, h, h1, h2⟩ hz hm; exact ⟨A, c, B, d, h, El.move _ h1 hz hm, El.move _ h2 hz hm⟩
theorem byE.rd {w : World} {S : Nat → Prop} {xs : List UInt8} {A : Option Addr} {c : Nat} (h : (byEl xs).P w S [.slice A xs.length c]) : RdB w A xs ∧ xs.length ≤ c := by
  obtain ⟨A', c', h1, h2, h3, _⟩ := h
  simp only [List.cons.injEq, Value.slice.injEq, and_true] at h1
  obtain ⟨rfl, _, rfl⟩ := h1
  exact ⟨h3, h2⟩
theorem byE.own {w : World} {base : Nat} {S : Nat → Prop} {xs : List UInt8} {A : Option Addr} {c : Nat} (h : OwB w base A c xs) (hs : ∀ a, A = some a → base ≤ a.block → a.block < w.heap.size → S a.block) : (byEl xs).P w S [.slice A xs.length c] :=
  byEl.mk h.rd h.cap fun a ha _ => by have := Ow.lt h a ha; exact hs a ha this.1 this.2
theorem enEl.rd {w : World} {S : Nat → Prop} {x : En} {cs : List Value} (h : (enEl x).P w S cs) : ∃ A c B d, cs = enV x A c B d ∧ RdB w A x.key ∧ x.key.length ≤ c ∧ RdB w B x.val ∧ x.val.length ≤ d := by
  obtain ⟨A, c, B, d, h0, h1, h2⟩ := h
  exact ⟨A, c, B, d, h0, (byE.rd h1).1, (byE.rd h1).2, (byE.rd h2).1, (byE.rd h2).2⟩
theorem enEl.mk {w : World} {S : Nat → Prop} {x : En} {A B : Option Addr} {c d : Nat} (h1 : (byEl x.key).P w S [.slice A x.key.length c]) (h2 : (byEl x.val).P w S [.slice B x.val.length d]) : (enEl x).P w S (enV x A c B d) := ⟨A, c, B, d, rfl, h1, h2⟩
theorem enV_all (x : En) (A : Option Addr) (c : Nat) (B : Option Addr) (d : Nat) : ∀ u ∈ [enV x A c B d].flatten, u.oneCell' = true := by simp [enV, Value.oneCell']
/-- What an entry must be to be a value of the type, its lists of at most so many bytes. -/
structure EnOk (m : Nat) (x : En) : Prop where
  seq : x.seq < 2 ^ 64
  key : x.key.length ≤ m
  val : x.val.length ≤ m
def lessE (a b : En) : Bool := decide (cmpB a.key b.key < 0 ∨ (cmpB a.key b.key = 0 ∧ b.seq < a.seq))
def bigE (x : En) : Bool := decide (1024 < x.key.length ∨ 65536 < x.val.length)
def badE (x : En) : Bool := decide (¬ (x.kind = 1 ∨ (x.kind = 2 ∧ x.val = [])))
def checkE (l : List En) : Nat := if l.any bigE then 2 else if l.any badE then 3 else 0
theorem any_take {α : Type} {p : α → Bool} {l : List α} {k : Nat} {x : α} (h : l[k]? = some x) : (l.take (k + 1)).any p = ((l.take k).any p || p x) := by rw [take_getR h]; simp
theorem any_at {α : Type} {p : α → Bool} {l : List α} {k : Nat} {x : α} (h : l[k]? = some x) (hp : p x = true) : l.any p = true := List.any_eq_true.2 ⟨x, List.mem_of_getElem? h, hp⟩
theorem kind_iff {x : UInt8} {n : Nat} (hn : n < 256) : ((x.toNat : Int) = (n : Nat)) ↔ x = UInt8.ofNat n := by
  constructor
  · intro h; apply UInt8.toNat_inj.1; rw [UInt8.toNat_ofNat', Nat.mod_eq_of_lt hn]; omega
  · rintro rfl; rw [UInt8.toNat_ofNat', Nat.mod_eq_of_lt hn]
theorem check_any {A : Option Addr} {n c : Nat} {l : List En} {w : World} (hr : RdR 4 w All A (l.map enEl)) (hn : l.length = n) (hl : l.length ≤ maxLen) :
    CallsV Try.prog 68 #[.slice A n c] w fun v w' => v = .int .i64 (checkE l : Nat) ∧ Below w.heap.size w w' := by
  subst hn
  have hmax : maxLen = 9223372036854775807 := rfl
  refine calls_in (N := _) Try.func68 rfl Try.ntmps68 rfl ?_; show WC _ _ _ _ _ _
  refine wc_sr ?_; refine wl_as rfl rfl ?_; refine wl_ns ?_; refine wc_sr ?_; refine wl_as rfl rfl ?_; refine wl_ns ?_; refine wc_seq ?_; refine wc_sr ?_; refine wl_mv rfl rfl ?_; apply wl_val; apply opv_len; exact rfl; exact tkE.sl; exact rfl; refine wl_mv rfl rfl ?_; refine wl_ns ?_; refine wc_block ?_
  refine wc_loop (fun L wr m => ∃ (k : Nat) (f : Int), L = [(3, .int .i64 f), (6, .slice A l.length c), (7, .int .i64 (l.length : Int)), (8, .int .i64 (k : Int))] ∧ k ≤ l.length ∧ (l.take k).any bigE = false ∧ f = (if (l.take k).any badE then 3 else 0) ∧ Below w.heap.size w wr ∧ m = l.length - k)
    [(3, .int .i64 (0 : Nat)), (6, .slice A l.length c), (7, .int .i64 (l.length : Int)), (8, .int .i64 (0 : Nat))] l.length ⟨0, 0, rfl, by omega, by simp, by simp, Below.refl _ _, rfl⟩ ⟨rfl, rfl, rfl, rfl, trivial⟩ ?_
  rintro _ w1 m ⟨k, f, rfl, hk, hbig, hf, hb, rfl⟩
  refine wc_sr ?_; refine wl_bin rfl rfl bin_lss rfl ?_; refine wl_ns ?_; refine wc_seq ?_
  refine wc_cond rfl (fun h1 => ?_) (fun h1 => ?_)
  · obtain ⟨x, hx⟩ : ∃ x, l[k]? = some x := ⟨_, List.getElem?_eq_getElem (by omega)⟩
    obtain ⟨b, o, cs, rfl, _, _, hp, i1⟩ := RdR.at (k := 4) (by decide) hr (E := enEl x) (i := k) (by rw [List.getElem?_map, hx]; rfl)
    obtain ⟨X, cx, Y, cy, rfl, rx, _, ry, _⟩ := enEl.rd hp
    replace i1 := i1.below hb
    have hbt := any_take (p := bigE) hx
    have hft := any_take (p := badE) hx
    rw [hbig, Bool.false_or] at hbt
    have e1 : (x.kind.toNat : Int) = 1 ↔ x.kind = 1 := kind_iff (n := 1) (by decide)
    have e2 : (x.kind.toNat : Int) = 2 ↔ x.kind = 2 := kind_iff (n := 2) (by decide)
    refine wc_skip ?_; refine we_seq ?_; refine wc_seq ?_; refine wc_block ?_; refine wc_sr ?_; apply wl_val; apply opv_idxG tkE; exact rfl; exact rfl; exact rfl; omega; exact rfl; apply wl_val; apply opv_ldG; exact rfl; assumption; exact sE; exact rfl
    refine wl_var (cs := enV x X cx Y cy) zeroE sE rfl (fun _ => rfl) (by first | rfl | simp [Value.oneCell'] | simp [ceV, Value.oneCell']) rfl fun g5 _ hg5 a5 hbx => ?_; replace hb := hb.trans (hbx.mono hb.size); clear hbx
    unfold enV at a5
    refine wl_ns ?_; refine wc_seq ?_; refine wc_sr ?_; apply wl_val; apply opv_fa; exact fa_sE (by decide); exact rfl; exact rfl; apply wl_val; apply opv_ldX; exact rfl; assumption; exact e1_by; exact rfl; exact rfl; apply wl_val; apply opv_len; exact rfl; exact tyB.sl; exact rfl; refine wl_bin rfl rfl bin_gtr rfl ?_; refine wl_mv rfl rfl ?_
    refine wl_cutV 9 21 (.bool (decide (((1024 : Int) < (x.key.length : Int)) ∨ ((65536 : Int) < (x.val.length : Int))))) ?c4 ?_; (case c4 => (dsimp only [List.take]; by_cases hc0 : ((1024 : Int) < (x.key.length : Int)); (focus (apply wl_skip; exact rfl; exact rfl; exact rfl; refine bTn ?_; (with_reducible assumption); exact rfl; apply wl_skip; exact rfl; exact rfl; exact rfl; refine bTn ?_; (with_reducible assumption); exact rfl; apply wl_skip; exact rfl; exact rfl; exact rfl; refine bTn ?_; (with_reducible assumption); exact rfl; apply wl_skip; exact rfl; exact rfl; exact rfl; refine bTn ?_; (with_reducible assumption); exact rfl; apply wl_val; apply opv_pickT; exact rfl; refine bT ?_; (with_reducible assumption); exact rfl; exact rfl; refine wl_nil ?_; refine we_cut _ ⟨rfl, rfl⟩ ⟨congrArg (fun b => some (Value.bool b)) ?e4_0, ?s4_0⟩; (case e4_0 => ((simp [hc0]; done))); (case s4_0 => (refine And.intro rfl ?_; refine And.intro rfl ?_; refine And.intro rfl ?_; refine And.intro rfl ?_; refine And.intro rfl ?_; refine And.intro rfl ?_; refine And.intro rfl ?_; refine And.intro rfl ?_; refine And.intro rfl ?_; refine And.intro rfl ?_; refine And.intro rfl ?_; refine And.intro rfl ?_; refine And.intro rfl ?_; exact True.intro)))); (focus (apply wl_take; exact rfl; exact rfl; exact rfl; refine bF ?_; (with_reducible assumption); apply wl_val; apply opv_fa; exact fa_sE (by decide); exact rfl; exact rfl; apply wl_take; exact rfl; exact rfl; exact rfl; refine bF ?_; (with_reducible assumption); apply wl_val; apply opv_ldX; exact rfl; assumption; exact e1_by; exact rfl; exact rfl; apply wl_take; exact rfl; exact rfl; exact rfl; refine bF ?_; (with_reducible assumption); apply wl_val; apply opv_len; exact rfl; exact tyB.sl; exact rfl; apply wl_take; exact rfl; exact rfl; exact rfl; refine bF ?_; (with_reducible assumption); refine wl_bin rfl rfl bin_gtr rfl ?_; apply wl_val; apply opv_pickF; exact rfl; refine bF ?_; (with_reducible assumption); exact rfl; exact rfl; refine wl_nil ?_; refine we_cut _ ⟨rfl, rfl⟩ ⟨congrArg (fun b => some (Value.bool b)) ?e4_1, ?s4_1⟩; (case e4_1 => ((simp [hc0]; done))); (case s4_1 => (refine And.intro rfl ?_; refine And.intro rfl ?_; refine And.intro rfl ?_; refine And.intro rfl ?_; refine And.intro rfl ?_; refine And.intro rfl ?_; refine And.intro rfl ?_; refine And.intro rfl ?_; refine And.intro rfl ?_; refine And.intro rfl ?_; refine And.intro rfl ?_; refine And.intro rfl ?_; refine And.intro rfl ?_; exact True.intro)))))); dsimp only [List.drop]
    refine wl_ns ?_
    refine wc_cond rfl (fun h2 => ?_) (fun h2 => ?_)
    · refine wc_sr ?_; refine wl_as rfl rfl ?_; refine wl_ns ?_; refine wc_ret ?_; refine we_seq_ret ?_; refine we_block_ret ?_; refine we_seq_ret ?_; refine we_loop_ret ?_; refine we_block_ret ?_; refine we_seq_ret ?_
      refine we_ret1 rfl rfl ⟨_, rfl, ?_, hb⟩
      rw [checkE, any_at hx (by rw [bigE]; exact decide_eq_true (by omega))]; rfl
    have hnb : bigE x = false := decide_eq_false (by omega)
    rw [hnb] at hbt
    refine wc_skip ?_; refine we_seq ?_; refine wc_sr ?_; apply wl_val; apply opv_fa; exact fa_sE (by decide); exact rfl; exact rfl; apply wl_val; apply opv_ldX; exact rfl; assumption; exact e1_u8; exact rfl; exact rfl; refine wl_bin rfl rfl bin_neq rfl ?_; refine wl_mv rfl rfl ?_
    by_cases k1 : x.kind = 1
    · have k1' : (x.kind.toNat : Int) = 1 := e1.2 k1
      have k2' : ¬ (x.kind.toNat : Int) = 2 := by omega
      have hnd : badE x = false := decide_eq_false (by simp [k1])
      rw [hnd, Bool.or_false] at hft
      apply wl_skip; exact rfl; exact rfl; exact rfl; refine bFn ?_; omega; exact rfl; apply wl_skip; exact rfl; exact rfl; exact rfl; refine bFn ?_; omega; exact rfl; apply wl_skip; exact rfl; exact rfl; exact rfl; refine bFn ?_; omega; exact rfl; apply wl_val; apply opv_pickF; exact rfl; refine bF ?_; omega; exact rfl; exact rfl; refine wl_mv rfl rfl ?_; apply wl_take; exact rfl; exact rfl; exact rfl; exact rfl; apply wl_val; apply opv_fa; exact fa_sE (by decide); exact rfl; exact rfl; apply wl_take; exact rfl; exact rfl; exact rfl; exact rfl; apply wl_val; apply opv_ldX; exact rfl; assumption; exact e1_u8; exact rfl; exact rfl; apply wl_take; exact rfl; exact rfl; exact rfl; exact rfl; refine wl_bin rfl rfl bin_eql rfl ?_; apply wl_take; exact rfl; exact rfl; exact rfl; exact rfl; refine wl_mv rfl rfl ?_; apply wl_skip; exact rfl; exact rfl; exact rfl; refine bFn ?_; (with_reducible assumption); exact rfl; apply wl_skip; exact rfl; exact rfl; exact rfl; refine bFn ?_; (with_reducible assumption); exact rfl; apply wl_skip; exact rfl; exact rfl; exact rfl; refine bFn ?_; (with_reducible assumption); exact rfl; apply wl_skip; exact rfl; exact rfl; exact rfl; refine bFn ?_; (with_reducible assumption); exact rfl; apply wl_take; exact rfl; exact rfl; exact rfl; exact rfl; apply wl_val; apply opv_pickF; exact rfl; refine bF ?_; (with_reducible assumption); exact rfl; exact rfl; apply wl_val; apply opv_pickF; exact rfl; exact rfl; exact rfl; exact rfl; refine wl_ns ?_; apply wc_condFb; exact rfl; exact rfl; refine wc_skip ?_; refine we_block_norm ?_; refine we_seq ?_; refine wc_region ?_; apply wl_val; apply opv_bin; exact rfl; exact rfl; exact bin_add64 (by omega); exact rfl; refine wl_mv rfl rfl ?_; refine wl_nil ?_
      refine we_loop _ (l.length - (k + 1)) ⟨k + 1, f, rfl, by omega, hbt, by rw [hft]; exact hf, hb, rfl⟩ (by omega) ⟨rfl, rfl, rfl, by simp [lookT], trivial⟩
    have k1' : ¬ (x.kind.toNat : Int) = 1 := fun h => k1 (e1.1 h)
    by_cases k2 : x.kind = 2
    · have k2' : (x.kind.toNat : Int) = 2 := e2.2 k2
      by_cases hv : x.val = []
      · have hv' : ¬ (0 : Int) < (x.val.length : Int) := by rw [hv]; decide
        have hnd : badE x = false := decide_eq_false (by simp [k2, hv])
        rw [hnd, Bool.or_false] at hft
        apply wl_take; exact rfl; exact rfl; exact rfl; refine bT ?_; (with_reducible assumption); apply wl_val; apply opv_fa; exact fa_sE (by decide); exact rfl; exact rfl; apply wl_take; exact rfl; exact rfl; exact rfl; refine bT ?_; (with_reducible assumption); apply wl_val; apply opv_ldX; exact rfl; assumption; exact e1_u8; exact rfl; exact rfl; apply wl_take; exact rfl; exact rfl; exact rfl; refine bT ?_; (with_reducible assumption); refine wl_bin rfl rfl bin_neq rfl ?_; apply wl_val; apply opv_pickT; exact rfl; refine bT ?_; (with_reducible assumption); exact rfl; exact rfl; refine wl_mv rfl rfl ?_; apply wl_take; exact rfl; exact rfl; exact rfl; refine bF ?_; omega; apply wl_val; apply opv_fa; exact fa_sE (by decide); exact rfl; exact rfl; apply wl_take; exact rfl; exact rfl; exact rfl; refine bF ?_; omega; apply wl_val; apply opv_ldX; exact rfl; assumption; exact e1_u8; exact rfl; exact rfl; apply wl_take; exact rfl; exact rfl; exact rfl; refine bF ?_; omega; refine wl_bin rfl rfl bin_eql rfl ?_; apply wl_take; exact rfl; exact rfl; exact rfl; refine bF ?_; omega; refine wl_mv rfl rfl ?_; apply wl_take; exact rfl; exact rfl; exact rfl; refine bT ?_; (with_reducible assumption); apply wl_val; apply opv_fa; exact fa_sE (by decide); exact rfl; exact rfl; apply wl_take; exact rfl; exact rfl; exact rfl; refine bT ?_; (with_reducible assumption); apply wl_val; apply opv_ldX; exact rfl; assumption; exact e1_by; exact rfl; exact rfl; apply wl_take; exact rfl; exact rfl; exact rfl; refine bT ?_; (with_reducible assumption); apply wl_val; apply opv_len; exact rfl; exact tyB.sl; exact rfl; apply wl_take; exact rfl; exact rfl; exact rfl; refine bT ?_; (with_reducible assumption); refine wl_bin rfl rfl bin_gtr rfl ?_; apply wl_take; exact rfl; exact rfl; exact rfl; refine bF ?_; omega; apply wl_val; apply opv_pickT; exact rfl; refine bT ?_; (with_reducible assumption); exact rfl; exact rfl; apply wl_val; apply opv_pickF; exact rfl; refine bF ?_; omega; exact rfl; exact rfl; refine wl_ns ?_; apply wc_decF; exact rfl; (with_reducible assumption); refine wc_skip ?_; refine we_block_norm ?_; refine we_seq ?_; refine wc_region ?_; apply wl_val; apply opv_bin; exact rfl; exact rfl; exact bin_add64 (by omega); exact rfl; refine wl_mv rfl rfl ?_; refine wl_nil ?_
        refine we_loop _ (l.length - (k + 1)) ⟨k + 1, f, rfl, by omega, hbt, by rw [hft]; exact hf, hb, rfl⟩ (by omega) ⟨rfl, rfl, rfl, by simp [lookT], trivial⟩
      · have hv' : (0 : Int) < (x.val.length : Int) := by have := List.length_pos_iff.2 hv; omega
        have hnd : badE x = true := decide_eq_true (by simp [k2, hv])
        rw [hnd, Bool.or_true] at hft
        apply wl_take; exact rfl; exact rfl; exact rfl; refine bT ?_; (with_reducible assumption); apply wl_val; apply opv_fa; exact fa_sE (by decide); exact rfl; exact rfl; apply wl_take; exact rfl; exact rfl; exact rfl; refine bT ?_; (with_reducible assumption); apply wl_val; apply opv_ldX; exact rfl; assumption; exact e1_u8; exact rfl; exact rfl; apply wl_take; exact rfl; exact rfl; exact rfl; refine bT ?_; (with_reducible assumption); refine wl_bin rfl rfl bin_neq rfl ?_; apply wl_val; apply opv_pickT; exact rfl; refine bT ?_; (with_reducible assumption); exact rfl; exact rfl; refine wl_mv rfl rfl ?_; apply wl_take; exact rfl; exact rfl; exact rfl; refine bF ?_; omega; apply wl_val; apply opv_fa; exact fa_sE (by decide); exact rfl; exact rfl; apply wl_take; exact rfl; exact rfl; exact rfl; refine bF ?_; omega; apply wl_val; apply opv_ldX; exact rfl; assumption; exact e1_u8; exact rfl; exact rfl; apply wl_take; exact rfl; exact rfl; exact rfl; refine bF ?_; omega; refine wl_bin rfl rfl bin_eql rfl ?_; apply wl_take; exact rfl; exact rfl; exact rfl; refine bF ?_; omega; refine wl_mv rfl rfl ?_; apply wl_take; exact rfl; exact rfl; exact rfl; refine bT ?_; (with_reducible assumption); apply wl_val; apply opv_fa; exact fa_sE (by decide); exact rfl; exact rfl; apply wl_take; exact rfl; exact rfl; exact rfl; refine bT ?_; (with_reducible assumption); apply wl_val; apply opv_ldX; exact rfl; assumption; exact e1_by; exact rfl; exact rfl; apply wl_take; exact rfl; exact rfl; exact rfl; refine bT ?_; (with_reducible assumption); apply wl_val; apply opv_len; exact rfl; exact tyB.sl; exact rfl; apply wl_take; exact rfl; exact rfl; exact rfl; refine bT ?_; (with_reducible assumption); refine wl_bin rfl rfl bin_gtr rfl ?_; apply wl_take; exact rfl; exact rfl; exact rfl; refine bF ?_; omega; apply wl_val; apply opv_pickT; exact rfl; refine bT ?_; (with_reducible assumption); exact rfl; exact rfl; apply wl_val; apply opv_pickF; exact rfl; refine bF ?_; omega; exact rfl; exact rfl; refine wl_ns ?_; apply wc_decT; exact rfl; (with_reducible assumption); refine wc_region ?_; refine wl_as rfl rfl ?_; refine wl_nil ?_; refine we_block_norm ?_; refine we_seq ?_; refine wc_region ?_; apply wl_val; apply opv_bin; exact rfl; exact rfl; exact bin_add64 (by omega); exact rfl; refine wl_mv rfl rfl ?_; refine wl_nil ?_
        refine we_loop _ (l.length - (k + 1)) ⟨k + 1, 3, rfl, by omega, hbt, by rw [hft]; rfl, hb, rfl⟩ (by omega) ⟨rfl, rfl, rfl, by simp [lookT], trivial⟩
    · have k2' : ¬ (x.kind.toNat : Int) = 2 := fun h => k2 (e2.1 h)
      have hnd : badE x = true := decide_eq_true (by simp [k1, k2])
      rw [hnd, Bool.or_true] at hft
      apply wl_take; exact rfl; exact rfl; exact rfl; refine bT ?_; (with_reducible assumption); apply wl_val; apply opv_fa; exact fa_sE (by decide); exact rfl; exact rfl; apply wl_take; exact rfl; exact rfl; exact rfl; refine bT ?_; (with_reducible assumption); apply wl_val; apply opv_ldX; exact rfl; assumption; exact e1_u8; exact rfl; exact rfl; apply wl_take; exact rfl; exact rfl; exact rfl; refine bT ?_; (with_reducible assumption); refine wl_bin rfl rfl bin_neq rfl ?_; apply wl_val; apply opv_pickT; exact rfl; refine bT ?_; (with_reducible assumption); exact rfl; exact rfl; refine wl_mv rfl rfl ?_; apply wl_skip; exact rfl; exact rfl; exact rfl; refine bTn ?_; (with_reducible assumption); exact rfl; apply wl_skip; exact rfl; exact rfl; exact rfl; refine bTn ?_; (with_reducible assumption); exact rfl; apply wl_skip; exact rfl; exact rfl; exact rfl; refine bTn ?_; (with_reducible assumption); exact rfl; apply wl_skip; exact rfl; exact rfl; exact rfl; refine bTn ?_; (with_reducible assumption); exact rfl; apply wl_skipU; exact rfl; exact rfl; exact rfl; exact rfl; apply wl_skipU; exact rfl; exact rfl; exact rfl; exact rfl; apply wl_skipU; exact rfl; exact rfl; exact rfl; exact rfl; apply wl_skipU; exact rfl; exact rfl; exact rfl; exact rfl; apply wl_skip; exact rfl; exact rfl; exact rfl; refine bTn ?_; (with_reducible assumption); exact rfl; apply wl_val; apply opv_pickT; exact rfl; refine bT ?_; (with_reducible assumption); exact rfl; exact rfl; refine wl_ns ?_; apply wc_condTb; exact rfl; exact rfl; refine wc_region ?_; refine wl_as rfl rfl ?_; refine wl_nil ?_; refine we_block_norm ?_; refine we_seq ?_; refine wc_region ?_; apply wl_val; apply opv_bin; exact rfl; exact rfl; exact bin_add64 (by omega); exact rfl; refine wl_mv rfl rfl ?_; refine wl_nil ?_
      refine we_loop _ (l.length - (k + 1)) ⟨k + 1, 3, rfl, by omega, hbt, by rw [hft]; rfl, hb, rfl⟩ (by omega) ⟨rfl, rfl, rfl, by simp [lookT], trivial⟩
  · obtain rfl : k = l.length := by omega
    rw [List.take_length] at hbig hf
    refine wc_exit ?_; refine we_seq_exit ?_; refine we_loop_exit ?_; refine we_block_exit ?_; refine we_seq ?_; refine wc_sr ?_; refine wl_mv rfl rfl ?_; refine wl_as rfl rfl ?_; refine wl_ns ?_; refine wc_ret ?_
    exact we_ret1 rfl rfl ⟨_, rfl, by rw [checkE, hbig, hf]; split <;> rfl, hb⟩
end Go.Proofs.Ytpnckagibkdcpaa


/-
  The engine's rules for a region whose order Go leaves open and which makes memory: operations that yield one value in every world of a class are taken first; where one operation alone may come up, it is carried out. Nothing here names the program.
-/
namespace Go.Proofs.Ytpnckagibkdcpaa
open Go.RowKit

def WH (P : Program) (N : Nat) (ops : Array Oper) (Q : Exit → Act → World → Prop) (S : World → Prop) (fuel : Nat) (listed : Array Bool) (L : FL) (w : World) : Prop :=
  ∀ a, Has N a L → wpAnyH P .any ops (NoPanic Q) S fuel listed a w
/-- What must hold behind the one operation that could come up. -/
def HeldQ (P : Program) (ops : Array Oper) (Q : Exit → Act → World → Prop) (S : World → Prop) (fuel : Nat) (listed : Array Bool) : Exit → Act → World → Prop :=
  Exit.then (fun a w => S w ∧ wpAnyH P .any ops (NoPanic Q) S fuel listed a w) (NoPanic Q)

section
variable {P : Program} {N : Nat} {ops : Array Oper} {Q : Exit → Act → World → Prop} {S : World → Prop} {fuel : Nat} {listed : Array Bool} {L : FL} {w : World}

theorem wc_held {id : Nat} {l : List Oper} (S : World → Prop) (hm : P.follows .mixedOrders = true) (h : WH P N l.toArray Q S l.length (Array.replicate l.length false) L w.drew) : WC P N (.region id l.toArray true) Q L w := fun a ha =>
  wp_region_noPanic (wp_region_held (S := S) hm (by simpa using h a ha))
/-- The class of the worlds that extend the one ahead of the region. -/
theorem wc_heldB {id : Nat} {l : List Oper} (hm : P.follows .mixedOrders = true) (h : ∀ w1, Below w.heap.size w w1 → WH P N l.toArray Q (Below w.heap.size w) l.length (Array.replicate l.length false) L w1) : WC P N (.region id l.toArray true) Q L w :=
  wc_held (Below w.heap.size w) hm (h _ ((Below.refl _ _).drew))
theorem np {Q : Exit → Act → World → Prop} {a a' : Act} {c : List PanicEntry} {w : World} (h : NoPanic Q (.panic c) a' w) : NoPanic Q (.panic c) a w := by simp [NoPanic] at h
theorem wh_done (hr : Region.ready .any ops listed = []) (h : WE N Q .normal L w) : WH P N ops Q S fuel listed L w := fun a ha => wpAnyH_done (Q := NoPanic Q) hr (NoPanic.normal (h a ha)) fuel
theorem wh_take (i : Nat) {d : Nat} {op : Op} {ty : TypeId} {pos : String} {aft : Array Edge} {v : Value} (hi : ops[i]? = some ⟨some d, op, ty, pos, aft, none⟩) (hs : Region.noSelect ops = true)
    (hf : Region.free .any ops listed i = true) (hr : (Region.ready .any ops listed).contains i = true) (hS : S w) (hv : ∀ w, S w → OpV P op ty L w v w) (hd : Nat.blt d N = true)
    (h : WH P N ops Q S fuel (listed.setIfInBounds i true) ((d, v) :: L) w) : WH P N ops Q S (fuel + 1) listed L w := fun a ha =>
  wpAnyH_take hi hs hf hr (fun _ _ _ h => np h) (.inl ⟨by simp [Region.wanted], fun w hw => hv w hw a.eval _ (fun x u hx => ha.eval hx) rfl rfl⟩) hS (h _ (ha.put hd v))
theorem wh_takeG (i : Nat) {d j g : Nat} {b want : Bool} {op : Op} {ty : TypeId} {pos : String} {aft : Array Edge} {v : Value} (hi : ops[i]? = some ⟨some d, op, ty, pos, aft, some (j, want)⟩) (hs : Region.noSelect ops = true)
    (hf : Region.free .any ops listed i = true) (hr : (Region.ready .any ops listed).contains i = true) (hS : S w)
    (hj : (ops[j]?).bind (·.dst) = some g) (hb : lookT L g = some (.bool b)) (hg : Nat.blt g N = true) (he : b = want) (hv : ∀ w, S w → OpV P op ty L w v w) (hd : Nat.blt d N = true)
    (h : WH P N ops Q S fuel (listed.setIfInBounds i true) ((d, v) :: L) w) : WH P N ops Q S (fuel + 1) listed L w := fun a ha => by
  have hy := yielded_of ha hj hb hg
  exact wpAnyH_take hi hs hf hr (fun _ _ _ h => np h) (.inl ⟨by simp [Region.wanted, hy, he], fun w hw => hv w hw a.eval _ (fun x u hx => ha.eval hx) rfl rfl⟩) hS (h _ (ha.put hd v))
theorem wh_skipG (i : Nat) {d j g : Nat} {b want : Bool} {op : Op} {ty : TypeId} {pos : String} {aft : Array Edge} (hi : ops[i]? = some ⟨some d, op, ty, pos, aft, some (j, want)⟩) (hs : Region.noSelect ops = true)
    (hf : Region.free .any ops listed i = true) (hr : (Region.ready .any ops listed).contains i = true) (hS : S w)
    (hj : (ops[j]?).bind (·.dst) = some g) (hb : lookT L g = some (.bool b)) (hg : Nat.blt g N = true) (he : b = !want) (hd : Nat.blt d N = true)
    (h : WH P N ops Q S fuel (listed.setIfInBounds i true) ((d, undef) :: L) w) : WH P N ops Q S (fuel + 1) listed L w := fun a ha => by
  have hy := yielded_of ha hj hb hg
  exact wpAnyH_take hi hs hf hr (fun _ _ _ h => np h) (.inr ⟨by simp [Region.wanted, hy, he], rfl⟩) hS (h _ (ha.put hd undef))
theorem wh_skipU (i : Nat) {d j g : Nat} {want : Bool} {op : Op} {ty : TypeId} {pos : String} {aft : Array Edge} (hi : ops[i]? = some ⟨some d, op, ty, pos, aft, some (j, want)⟩) (hs : Region.noSelect ops = true)
    (hf : Region.free .any ops listed i = true) (hr : (Region.ready .any ops listed).contains i = true) (hS : S w)
    (hj : (ops[j]?).bind (·.dst) = some g) (hb : lookT L g = some undef) (hg : Nat.blt g N = true) (hd : Nat.blt d N = true)
    (h : WH P N ops Q S fuel (listed.setIfInBounds i true) ((d, undef) :: L) w) : WH P N ops Q S (fuel + 1) listed L w := fun a ha => by
  have hy := yielded_undef ha hj hb hg
  exact wpAnyH_take hi hs hf hr (fun _ _ _ h => np h) (.inr ⟨by simp [Region.wanted, hy], rfl⟩) hS (h _ (ha.put hd undef))
/-- The same with what must be computed in one piece, behind the guard. -/
def okAt (ops : Array Oper) (listed : Array Bool) (i : Nat) : Bool := Region.noSelect ops && (Region.free .any ops listed i && (Region.ready .any ops listed).contains i)
theorem okAt_of {i : Nat} (h : okAt ops listed i = true) : Region.noSelect ops = true ∧ Region.free .any ops listed i = true ∧ (Region.ready .any ops listed).contains i = true := by
  simpa only [okAt, Bool.and_eq_true] using h
theorem wh_takeH (i : Nat) {d : Nat} {op : Op} {ty : TypeId} {pos : String} {aft : Array Edge} {v : Value} (hi : ops[i]? = some ⟨some d, op, ty, pos, aft, none⟩) (hv : ∀ w, S w → OpV P op ty L w v w) (hd : Nat.blt d N = true) (hk : okAt ops listed i = true) (hS : S w)
    (h : WH P N ops Q S fuel (listed.setIfInBounds i true) ((d, v) :: L) w) : WH P N ops Q S (fuel + 1) listed L w :=
  wh_take i hi (okAt_of hk).1 (okAt_of hk).2.1 (okAt_of hk).2.2 hS hv hd h
theorem wh_takeGH (i : Nat) {d j g : Nat} {b want : Bool} {op : Op} {ty : TypeId} {pos : String} {aft : Array Edge} {v : Value} (hi : ops[i]? = some ⟨some d, op, ty, pos, aft, some (j, want)⟩)
    (hj : (ops[j]?).bind (·.dst) = some g) (hb : lookT L g = some (.bool b)) (hg : Nat.blt g N = true) (he : b = want) (hv : ∀ w, S w → OpV P op ty L w v w) (hd : Nat.blt d N = true) (hk : okAt ops listed i = true) (hS : S w)
    (h : WH P N ops Q S fuel (listed.setIfInBounds i true) ((d, v) :: L) w) : WH P N ops Q S (fuel + 1) listed L w :=
  wh_takeG i hi (okAt_of hk).1 (okAt_of hk).2.1 (okAt_of hk).2.2 hS hj hb hg he hv hd h
theorem wh_skipGH (i : Nat) {d j g : Nat} {b want : Bool} {op : Op} {ty : TypeId} {pos : String} {aft : Array Edge} (hi : ops[i]? = some ⟨some d, op, ty, pos, aft, some (j, want)⟩)
    (hj : (ops[j]?).bind (·.dst) = some g) (hb : lookT L g = some (.bool b)) (hg : Nat.blt g N = true) (he : b = !want) (hd : Nat.blt d N = true) (hk : okAt ops listed i = true) (hS : S w)
    (h : WH P N ops Q S fuel (listed.setIfInBounds i true) ((d, undef) :: L) w) : WH P N ops Q S (fuel + 1) listed L w :=
  wh_skipG i hi (okAt_of hk).1 (okAt_of hk).2.1 (okAt_of hk).2.2 hS hj hb hg he hd h
theorem wh_skipUH (i : Nat) {d j g : Nat} {want : Bool} {op : Op} {ty : TypeId} {pos : String} {aft : Array Edge} (hi : ops[i]? = some ⟨some d, op, ty, pos, aft, some (j, want)⟩)
    (hj : (ops[j]?).bind (·.dst) = some g) (hb : lookT L g = some undef) (hg : Nat.blt g N = true) (hd : Nat.blt d N = true) (hk : okAt ops listed i = true) (hS : S w)
    (h : WH P N ops Q S fuel (listed.setIfInBounds i true) ((d, undef) :: L) w) : WH P N ops Q S (fuel + 1) listed L w :=
  wh_skipU i hi (okAt_of hk).1 (okAt_of hk).2.1 (okAt_of hk).2.2 hS hj hb hg hd h
/-- One operation alone may come up. -/
theorem wh_one (i : Nat) {o : Oper} (hr : Region.ready .any ops listed = [i]) (hi : ops[i]? = some o)
    (h : WL P N ops (HeldQ P ops Q S fuel (listed.setIfInBounds i true)) [o] L w) : WH P N ops Q S (fuel + 1) listed L w := fun a ha => by
  refine wpAnyH_all hr (by simp) fun i' hi' => ?_
  obtain rfl : i' = i := by simpa using hi'
  have h' := h a ha
  unfold wpOp
  simp only [hi]
  unfold wpList at h'
  split
  · rename_i hw
    rw [if_pos hw] at h'
    rcases h' with h' | ⟨ha, a0, w0, h'⟩
    · exact .inl (upon_mono (fun a w h => h) (fun e a w he h => by cases e <;> first | exact absurd rfl he | exact h) h')
    · exact .inr ⟨ha, a0, w0, h'⟩
  · rename_i hw
    rw [if_neg hw] at h'
    exact h'
theorem we_held (hS : S w) (h : WH P N ops Q S fuel listed L w) : WE N (HeldQ P ops Q S fuel listed) .normal L w := fun a ha => ⟨hS, h a ha⟩
end
end Go.Proofs.Ytpnckagibkdcpaa


/-
  Walks over the comparison of entries, of the program and of the reference, over Same, SameList, Twin and Twins.
-/
namespace Go.Proofs.Ytpnckagibkdcpaa
open Go.RowKit

/-- How an entry stands to a key and a number. -/
def cmpE (x : En) (key : List UInt8) (seq : Nat) : Int := if cmpB x.key key = 0 then (if seq < x.seq then -1 else if x.seq < seq then 1 else 0) else cmpB x.key key
theorem cmpE_less (x y : En) : decide (cmpE x y.key y.seq < 0) = lessE x y := by
  have h := cmp_range x.key y.key
  rw [lessE, decide_eq_decide]
  unfold cmpE
  by_cases h0 : cmpB x.key y.key = 0
  · rw [if_pos h0]
    by_cases h1 : y.seq < x.seq
    · rw [if_pos h1]; simp [h0, h1]
    · rw [if_neg h1]
      by_cases h2 : x.seq < y.seq
      · rw [if_pos h2]; simp [h0, h1]
      · rw [if_neg h2]; simp [h0, h1]
  · rw [if_neg h0]; constructor
    · intro h; exact .inl h
    · rintro (h | h)
      · exact h
      · exact absurd h.1 h0
theorem compare_any {x : En} {A B K : Option Addr} {c d n e : Nat} {key : List UInt8} {seq : Nat} {w : World} (rx : RdB w A x.key) (rk : RdB w K key) (hn : key.length = n) :
    CallsV Try.prog 73 #[.agg (enV x A c B d).toArray, .slice K n e, .int .u64 (seq : Int)] w fun v w' => v = .int .i64 (cmpE x key seq) ∧ Below w.heap.size w w' := by
  subst hn
  have hb := Below.refl w.heap.size w
  refine calls_in (N := _) Try.func73 rfl Try.ntmps73 rfl ?_; show WC _ _ _ _ _ _
  refine wc_sr ?_
  refine wl_box (cs := enV x A c B d) rfl rfl fun g2 w2 hg2 a2 hbx => ?_
  replace hb := hb.trans (hbx.mono hb.size)
  clear hbx
  unfold enV at a2
  refine wl_as rfl rfl ?_; refine wl_ns ?_; refine wc_seq ?_; refine wc_sr ?_; apply wl_val; apply opv_fa; exact fa_sE (by decide); exact rfl; exact rfl; apply wl_val; apply opv_ldX; exact rfl; assumption; exact e1_by; exact rfl; exact rfl; refine wl_mv rfl rfl ?_
  refine wl_call ok_codec_Cmp (cmp_any (rx.below hb) (rk.below hb) rfl rfl) ⟨rfl, rfl, trivial⟩ rfl ?_
  rintro _ _ ⟨rfl, rfl⟩
  by_cases h0 : cmpB x.key key = 0
  · have hc : cmpE x key seq = (if seq < x.seq then -1 else if x.seq < seq then 1 else 0) := by rw [cmpE, if_pos h0]
    refine wl_as rfl rfl ?_; refine wl_ns ?_; refine wc_sr ?_; refine wl_mv rfl rfl ?_; refine wl_bin rfl rfl bin_neq rfl ?_; refine wl_ns ?_; apply wc_decF; exact rfl; omega; refine wc_skip ?_; refine we_seq ?_; refine wc_seq ?_; refine wc_block ?_; refine wc_sr ?_; apply wl_val; apply opv_fa; exact fa_sE (by decide); exact rfl; exact rfl; apply wl_val; apply opv_ldX; exact rfl; assumption; exact e1_u64; exact rfl; exact rfl; refine wl_mv rfl rfl ?_; refine wl_bin rfl rfl bin_gtr rfl ?_; refine wl_as rfl rfl ?_; refine wl_ns ?_
    by_cases h1 : seq < x.seq
    · rw [if_pos h1] at hc
      have h1' : (seq : Int) < (x.seq : Int) := by omega
      apply wc_decT; exact rfl; (with_reducible assumption); refine wc_sr ?_; refine wl_as rfl rfl ?_; refine wl_ns ?_; refine wc_ret ?_; refine we_block_ret ?_; refine we_seq_ret ?_
      exact we_ret1 rfl rfl ⟨_, rfl, by rw [hc], hb⟩
    · rw [if_neg h1] at hc
      have h1' : ¬ (seq : Int) < (x.seq : Int) := by omega
      apply wc_decF; exact rfl; (with_reducible assumption); refine wc_sr ?_; apply wl_val; apply opv_fa; exact fa_sE (by decide); exact rfl; exact rfl; apply wl_val; apply opv_ldX; exact rfl; assumption; exact e1_u64; exact rfl; exact rfl; refine wl_mv rfl rfl ?_; refine wl_bin rfl rfl bin_lss rfl ?_; refine wl_as rfl rfl ?_; refine wl_ns ?_
      by_cases h2 : x.seq < seq
      · rw [if_pos h2] at hc
        have h2' : (x.seq : Int) < (seq : Int) := by omega
        apply wc_decT; exact rfl; (with_reducible assumption); refine wc_sr ?_; refine wl_as rfl rfl ?_; refine wl_ns ?_; refine wc_ret ?_; refine we_block_ret ?_; refine we_seq_ret ?_
        exact we_ret1 rfl rfl ⟨_, rfl, by rw [hc], hb⟩
      · rw [if_neg h2] at hc
        have h2' : ¬ (x.seq : Int) < (seq : Int) := by omega
        apply wc_decF; exact rfl; (with_reducible assumption); refine wc_skip ?_; refine we_block_norm ?_; refine we_seq ?_; refine wc_sr ?_; refine wl_as rfl rfl ?_; refine wl_ns ?_; refine wc_ret ?_
        exact we_ret1 rfl rfl ⟨_, rfl, by rw [hc], hb⟩
  · refine wl_as rfl rfl ?_; refine wl_ns ?_; refine wc_sr ?_; refine wl_mv rfl rfl ?_; refine wl_bin rfl rfl bin_neq rfl ?_; refine wl_ns ?_; apply wc_decT; exact rfl; (with_reducible assumption); refine wc_sr ?_; refine wl_mv rfl rfl ?_; refine wl_as rfl rfl ?_; refine wl_ns ?_; refine wc_ret ?_; refine we_seq_ret ?_
    exact we_ret1 rfl rfl ⟨_, rfl, by rw [cmpE, if_neg h0], hb⟩
theorem less_any {x y : En} {A B C D : Option Addr} {a b c d : Nat} {w : World} (rx : RdB w A x.key) (ry : RdB w C y.key) :
    CallsV Try.prog 59 #[.agg (enV x A a B b).toArray, .agg (enV y C c D d).toArray] w fun v w' => v = .bool (lessE x y) ∧ Below w.heap.size w w' := by
  have hb := Below.refl w.heap.size w
  refine calls_in (N := _) Try.func59 rfl Try.ntmps59 rfl ?_; show WC _ _ _ _ _ _
  refine wc_sr ?_
  refine wl_box (cs := enV x A a B b) rfl rfl fun g2 w2 hg2 a2 hbx => ?_
  replace hb := hb.trans (hbx.mono hb.size)
  clear hbx
  refine wl_box (cs := enV y C c D d) rfl rfl fun g3 w3 hg3 a3 hbx => ?_
  replace a2 := Ar.bel a2 hbx
  replace hb := hb.trans (hbx.mono hb.size)
  clear hbx
  have ha2 := a2
  unfold enV at a3
  refine wl_as rfl rfl ?_; refine wl_ns ?_; refine wc_sr ?_; apply wl_val; apply opv_loadX; exact rfl; assumption; exact sE; exact rfl; apply wl_val; apply opv_fa; exact fa_sE (by decide); exact rfl; exact rfl; apply wl_val; apply opv_ldX; exact rfl; assumption; exact e1_by; exact rfl; exact rfl; apply wl_val; apply opv_fa; exact fa_sE (by decide); exact rfl; exact rfl; apply wl_val; apply opv_ldX; exact rfl; assumption; exact e1_u64; exact rfl; exact rfl
  refine wl_call ok_mem_compare (compare_any (x := x) (seq := y.seq) (rx.below hb) (ry.below hb) rfl) ⟨rfl, rfl, rfl, trivial⟩ rfl ?_; rintro _ _ ⟨rfl, hbx⟩; replace hb := hb.trans (hbx.mono hb.size); clear hbx
  refine wl_bin rfl rfl bin_lss rfl ?_; refine wl_as rfl rfl ?_; refine wl_ns ?_; refine wc_ret ?_
  exact we_ret1 rfl rfl ⟨_, rfl, by rw [cmpE_less], hb⟩
theorem refLess_any {x y : En} {A B C D : Option Addr} {a b c d : Nat} {w : World} (rx : RdB w A x.key) (ry : RdB w C y.key) (hlx : x.key.length ≤ maxLen) (hly : y.key.length ≤ maxLen) :
    CallsV Try.prog 70 #[.agg (enV x A a B b).toArray, .agg (enV y C c D d).toArray] w fun v w' => v = .bool (lessE x y) ∧ Below w.heap.size w w' := by
  have hb := Below.refl w.heap.size w
  refine calls_in (N := _) Try.func70 rfl Try.ntmps70 rfl ?_; show WC _ _ _ _ _ _
  refine wc_sr ?_
  refine wl_box (cs := enV x A a B b) rfl rfl fun g2 w2 hg2 a2 hbx => ?_
  replace hb := hb.trans (hbx.mono hb.size)
  clear hbx
  refine wl_box (cs := enV y C c D d) rfl rfl fun g3 w3 hg3 a3 hbx => ?_
  replace a2 := Ar.bel a2 hbx
  replace hb := hb.trans (hbx.mono hb.size)
  clear hbx
  unfold enV at a2 a3
  refine wl_as rfl rfl ?_; refine wl_ns ?_; refine wc_sr ?_; apply wl_val; apply opv_fa; exact fa_sE (by decide); exact rfl; exact rfl; apply wl_val; apply opv_ldX; exact rfl; assumption; exact e1_by; exact rfl; exact rfl; apply wl_val; apply opv_fa; exact fa_sE (by decide); exact rfl; exact rfl; apply wl_val; apply opv_ldX; exact rfl; assumption; exact e1_by; exact rfl; exact rfl
  refine wl_call ok_caissonref01_Cmp (refCmp_any (rx.below hb) (ry.below hb) rfl rfl hlx hly) ⟨rfl, rfl, trivial⟩ rfl ?_; rintro _ _ ⟨rfl, hbx⟩; replace a2 := Ar.bel a2 hbx; replace a3 := Ar.bel a3 hbx; replace hb := hb.trans (hbx.mono hb.size); clear hbx
  have hc := cmp_range x.key y.key
  by_cases h1 : cmpB x.key y.key < 0
  · refine wl_as rfl rfl ?_; refine wl_ns ?_; refine wc_sr ?_; refine wl_mv rfl rfl ?_; refine wl_bin rfl rfl bin_lss rfl ?_; refine wl_mv rfl rfl ?_; apply wl_skip; exact rfl; exact rfl; exact rfl; refine bTn ?_; (with_reducible assumption); exact rfl; apply wl_skip; exact rfl; exact rfl; exact rfl; refine bTn ?_; (with_reducible assumption); exact rfl; apply wl_skip; exact rfl; exact rfl; exact rfl; refine bTn ?_; (with_reducible assumption); exact rfl; apply wl_skipU; exact rfl; exact rfl; exact rfl; exact rfl; apply wl_skipU; exact rfl; exact rfl; exact rfl; exact rfl; apply wl_skipU; exact rfl; exact rfl; exact rfl; exact rfl; apply wl_skipU; exact rfl; exact rfl; exact rfl; exact rfl; apply wl_skipU; exact rfl; exact rfl; exact rfl; exact rfl; apply wl_skip; exact rfl; exact rfl; exact rfl; refine bTn ?_; (with_reducible assumption); exact rfl; apply wl_val; apply opv_pickT; exact rfl; refine bT ?_; (with_reducible assumption); exact rfl; exact rfl; refine wl_as rfl rfl ?_; refine wl_ns ?_; refine wc_ret ?_
    exact we_ret1 rfl rfl ⟨_, rfl, by rw [lessE]; simp [h1], hb⟩
  · by_cases h0 : cmpB x.key y.key = 0
    · refine wl_as rfl rfl ?_; refine wl_ns ?_; refine wc_sr ?_; refine wl_mv rfl rfl ?_; refine wl_bin rfl rfl bin_lss rfl ?_; refine wl_mv rfl rfl ?_; apply wl_take; exact rfl; exact rfl; exact rfl; refine bF ?_; (with_reducible assumption); refine wl_mv rfl rfl ?_; apply wl_take; exact rfl; exact rfl; exact rfl; refine bF ?_; (with_reducible assumption); refine wl_bin rfl rfl bin_eql rfl ?_; apply wl_take; exact rfl; exact rfl; exact rfl; refine bF ?_; (with_reducible assumption); refine wl_mv rfl rfl ?_; apply wl_take; exact rfl; exact rfl; exact rfl; refine bT ?_; (with_reducible assumption); apply wl_val; apply opv_fa; exact fa_sE (by decide); exact rfl; exact rfl; apply wl_take; exact rfl; exact rfl; exact rfl; refine bT ?_; (with_reducible assumption); apply wl_val; apply opv_ldX; exact rfl; assumption; exact e1_u64; exact rfl; exact rfl; apply wl_take; exact rfl; exact rfl; exact rfl; refine bT ?_; (with_reducible assumption); apply wl_val; apply opv_fa; exact fa_sE (by decide); exact rfl; exact rfl; apply wl_take; exact rfl; exact rfl; exact rfl; refine bT ?_; (with_reducible assumption); apply wl_val; apply opv_ldX; exact rfl; assumption; exact e1_u64; exact rfl; exact rfl; apply wl_take; exact rfl; exact rfl; exact rfl; refine bT ?_; (with_reducible assumption); refine wl_bin rfl rfl bin_gtr rfl ?_; apply wl_take; exact rfl; exact rfl; exact rfl; refine bF ?_; (with_reducible assumption); apply wl_val; apply opv_pickT; exact rfl; refine bT ?_; (with_reducible assumption); exact rfl; exact rfl; apply wl_val; apply opv_pickF; exact rfl; refine bF ?_; (with_reducible assumption); exact rfl; exact rfl; refine wl_as rfl rfl ?_; refine wl_ns ?_; refine wc_ret ?_
      exact we_ret1 rfl rfl ⟨_, rfl, by rw [lessE]; simp [h0], hb⟩
    · refine wl_as rfl rfl ?_; refine wl_ns ?_; refine wc_sr ?_; refine wl_mv rfl rfl ?_; refine wl_bin rfl rfl bin_lss rfl ?_; refine wl_mv rfl rfl ?_; apply wl_take; exact rfl; exact rfl; exact rfl; refine bF ?_; (with_reducible assumption); refine wl_mv rfl rfl ?_; apply wl_take; exact rfl; exact rfl; exact rfl; refine bF ?_; (with_reducible assumption); refine wl_bin rfl rfl bin_eql rfl ?_; apply wl_take; exact rfl; exact rfl; exact rfl; refine bF ?_; (with_reducible assumption); refine wl_mv rfl rfl ?_; apply wl_skip; exact rfl; exact rfl; exact rfl; refine bFn ?_; (with_reducible assumption); exact rfl; apply wl_skip; exact rfl; exact rfl; exact rfl; refine bFn ?_; (with_reducible assumption); exact rfl; apply wl_skip; exact rfl; exact rfl; exact rfl; refine bFn ?_; (with_reducible assumption); exact rfl; apply wl_skip; exact rfl; exact rfl; exact rfl; refine bFn ?_; (with_reducible assumption); exact rfl; apply wl_skip; exact rfl; exact rfl; exact rfl; refine bFn ?_; (with_reducible assumption); exact rfl; apply wl_take; exact rfl; exact rfl; exact rfl; refine bF ?_; (with_reducible assumption); apply wl_val; apply opv_pickF; exact rfl; refine bF ?_; (with_reducible assumption); exact rfl; exact rfl; apply wl_val; apply opv_pickF; exact rfl; refine bF ?_; (with_reducible assumption); exact rfl; exact rfl; refine wl_as rfl rfl ?_; refine wl_ns ?_; refine wc_ret ?_
      exact we_ret1 rfl rfl ⟨_, rfl, by rw [lessE]; simp [h0, h1], hb⟩
theorem sameE_any {x y : En} {A B C D : Option Addr} {a b c d : Nat} {w : World} (rx : RdB w A x.key) (rx2 : RdB w B x.val) (ry : RdB w C y.key) (ry2 : RdB w D y.val) (hlx : x.key.length ≤ maxLen) (hlx2 : x.val.length ≤ maxLen) :
    CallsV Try.prog 39 #[.agg (enV x A a B b).toArray, .agg (enV y C c D d).toArray] w fun v w' => (∃ q, v = .bool q ∧ (q = true ↔ x = y)) ∧ Below w.heap.size w w' := by
  have hb := Below.refl w.heap.size w
  refine calls_in (N := _) Try.func39 rfl Try.ntmps39 rfl ?_; show WC _ _ _ _ _ _
  refine wc_sr ?_
  refine wl_box (cs := enV x A a B b) rfl rfl fun g2 w2 hg2 a2 hbx => ?_
  replace hb := hb.trans (hbx.mono hb.size)
  clear hbx
  refine wl_box (cs := enV y C c D d) rfl rfl fun g3 w3 hg3 a3 hbx => ?_
  replace a2 := Ar.bel a2 hbx
  replace hb := hb.trans (hbx.mono hb.size)
  clear hbx
  unfold enV at a2 a3
  refine wl_as rfl rfl ?_; refine wl_ns ?_; refine wc_sr ?_; apply wl_val; apply opv_fa; exact fa_sE (by decide); exact rfl; exact rfl; apply wl_val; apply opv_ldX; exact rfl; assumption; exact e1_by; exact rfl; exact rfl; apply wl_val; apply opv_fa; exact fa_sE (by decide); exact rfl; exact rfl; apply wl_val; apply opv_ldX; exact rfl; assumption; exact e1_by; exact rfl; exact rfl
  refine wl_call ok_caissonref01_Equal (equal_any (rx.below hb) (ry.below hb) rfl rfl hlx) ⟨rfl, rfl, trivial⟩ rfl ?_; rintro _ _ ⟨rfl, hbx⟩; replace a2 := Ar.bel a2 hbx; replace a3 := Ar.bel a3 hbx; replace hb := hb.trans (hbx.mono hb.size); clear hbx
  by_cases h1 : x.key = y.key
  case neg =>
    refine wl_mv rfl rfl ?_; apply wl_skip; exact rfl; exact rfl; exact rfl; refine bFn ?_; (with_reducible assumption); exact rfl; apply wl_skip; exact rfl; exact rfl; exact rfl; refine bFn ?_; (with_reducible assumption); exact rfl; apply wl_skip; exact rfl; exact rfl; exact rfl; refine bFn ?_; (with_reducible assumption); exact rfl; apply wl_skip; exact rfl; exact rfl; exact rfl; refine bFn ?_; (with_reducible assumption); exact rfl; apply wl_skip; exact rfl; exact rfl; exact rfl; refine bFn ?_; (with_reducible assumption); exact rfl; apply wl_val; apply opv_pickF; exact rfl; refine bF ?_; (with_reducible assumption); exact rfl; exact rfl; refine wl_mv rfl rfl ?_; apply wl_skip; exact rfl; exact rfl; exact rfl; exact bR2; exact rfl; apply wl_skip; exact rfl; exact rfl; exact rfl; exact bR2; exact rfl; apply wl_skip; exact rfl; exact rfl; exact rfl; exact bR2; exact rfl; apply wl_skip; exact rfl; exact rfl; exact rfl; exact bR2; exact rfl; apply wl_skip; exact rfl; exact rfl; exact rfl; exact bR2; exact rfl; apply wl_val; apply opv_pickF; exact rfl; exact rfl; exact rfl; exact rfl; refine wl_mv rfl rfl ?_; apply wl_skip; exact rfl; exact rfl; exact rfl; exact bR2; exact rfl; apply wl_skip; exact rfl; exact rfl; exact rfl; exact bR2; exact rfl; apply wl_skip; exact rfl; exact rfl; exact rfl; exact bR2; exact rfl; apply wl_skip; exact rfl; exact rfl; exact rfl; exact bR2; exact rfl; apply wl_skip; exact rfl; exact rfl; exact rfl; exact bR2; exact rfl; apply wl_val; apply opv_pickF; exact rfl; exact rfl; exact rfl; exact rfl; refine wl_as rfl rfl ?_; refine wl_ns ?_; refine wc_ret ?_
    exact we_ret1 rfl rfl ⟨_, rfl, ⟨false, rfl, by simp; rintro rfl; exact h1 rfl⟩, hb⟩
  by_cases h2 : x.seq = y.seq
  case neg =>
    have h2' : ¬ (x.seq : Int) = (y.seq : Int) := by omega
    refine wl_mv rfl rfl ?_; apply wl_take; exact rfl; exact rfl; exact rfl; refine bT ?_; (with_reducible assumption); apply wl_val; apply opv_fa; exact fa_sE (by decide); exact rfl; exact rfl; apply wl_take; exact rfl; exact rfl; exact rfl; refine bT ?_; (with_reducible assumption); apply wl_val; apply opv_ldX; exact rfl; assumption; exact e1_u64; exact rfl; exact rfl; apply wl_take; exact rfl; exact rfl; exact rfl; refine bT ?_; (with_reducible assumption); apply wl_val; apply opv_fa; exact fa_sE (by decide); exact rfl; exact rfl; apply wl_take; exact rfl; exact rfl; exact rfl; refine bT ?_; (with_reducible assumption); apply wl_val; apply opv_ldX; exact rfl; assumption; exact e1_u64; exact rfl; exact rfl; apply wl_take; exact rfl; exact rfl; exact rfl; refine bT ?_; (with_reducible assumption); refine wl_bin rfl rfl bin_eql rfl ?_; apply wl_val; apply opv_pickT; exact rfl; refine bT ?_; (with_reducible assumption); exact rfl; exact rfl; refine wl_mv rfl rfl ?_; apply wl_skip; exact rfl; exact rfl; exact rfl; refine bFn ?_; (with_reducible assumption); exact rfl; apply wl_skip; exact rfl; exact rfl; exact rfl; refine bFn ?_; (with_reducible assumption); exact rfl; apply wl_skip; exact rfl; exact rfl; exact rfl; refine bFn ?_; (with_reducible assumption); exact rfl; apply wl_skip; exact rfl; exact rfl; exact rfl; refine bFn ?_; (with_reducible assumption); exact rfl; apply wl_skip; exact rfl; exact rfl; exact rfl; refine bFn ?_; (with_reducible assumption); exact rfl; apply wl_val; apply opv_pickF; exact rfl; refine bF ?_; (with_reducible assumption); exact rfl; exact rfl; refine wl_mv rfl rfl ?_; apply wl_skip; exact rfl; exact rfl; exact rfl; exact bR2; exact rfl; apply wl_skip; exact rfl; exact rfl; exact rfl; exact bR2; exact rfl; apply wl_skip; exact rfl; exact rfl; exact rfl; exact bR2; exact rfl; apply wl_skip; exact rfl; exact rfl; exact rfl; exact bR2; exact rfl; apply wl_skip; exact rfl; exact rfl; exact rfl; exact bR2; exact rfl; apply wl_val; apply opv_pickF; exact rfl; exact rfl; exact rfl; exact rfl; refine wl_as rfl rfl ?_; refine wl_ns ?_; refine wc_ret ?_
    exact we_ret1 rfl rfl ⟨_, rfl, ⟨false, rfl, by simp; rintro rfl; exact h2 rfl⟩, hb⟩
  have h2' : (x.seq : Int) = (y.seq : Int) := by omega
  by_cases h3 : x.kind = y.kind
  case neg =>
    have h3' : ¬ (x.kind.toNat : Int) = (y.kind.toNat : Int) := fun h => h3 (UInt8.toNat_inj.1 (by omega))
    refine wl_mv rfl rfl ?_; apply wl_take; exact rfl; exact rfl; exact rfl; refine bT ?_; (with_reducible assumption); apply wl_val; apply opv_fa; exact fa_sE (by decide); exact rfl; exact rfl; apply wl_take; exact rfl; exact rfl; exact rfl; refine bT ?_; (with_reducible assumption); apply wl_val; apply opv_ldX; exact rfl; assumption; exact e1_u64; exact rfl; exact rfl; apply wl_take; exact rfl; exact rfl; exact rfl; refine bT ?_; (with_reducible assumption); apply wl_val; apply opv_fa; exact fa_sE (by decide); exact rfl; exact rfl; apply wl_take; exact rfl; exact rfl; exact rfl; refine bT ?_; (with_reducible assumption); apply wl_val; apply opv_ldX; exact rfl; assumption; exact e1_u64; exact rfl; exact rfl; apply wl_take; exact rfl; exact rfl; exact rfl; refine bT ?_; (with_reducible assumption); refine wl_bin rfl rfl bin_eql rfl ?_; apply wl_val; apply opv_pickT; exact rfl; refine bT ?_; (with_reducible assumption); exact rfl; exact rfl; refine wl_mv rfl rfl ?_; apply wl_take; exact rfl; exact rfl; exact rfl; refine bT ?_; (with_reducible assumption); apply wl_val; apply opv_fa; exact fa_sE (by decide); exact rfl; exact rfl; apply wl_take; exact rfl; exact rfl; exact rfl; refine bT ?_; (with_reducible assumption); apply wl_val; apply opv_ldX; exact rfl; assumption; exact e1_u8; exact rfl; exact rfl; apply wl_take; exact rfl; exact rfl; exact rfl; refine bT ?_; (with_reducible assumption); apply wl_val; apply opv_fa; exact fa_sE (by decide); exact rfl; exact rfl; apply wl_take; exact rfl; exact rfl; exact rfl; refine bT ?_; (with_reducible assumption); apply wl_val; apply opv_ldX; exact rfl; assumption; exact e1_u8; exact rfl; exact rfl; apply wl_take; exact rfl; exact rfl; exact rfl; refine bT ?_; (with_reducible assumption); refine wl_bin rfl rfl bin_eql rfl ?_; apply wl_val; apply opv_pickT; exact rfl; refine bT ?_; (with_reducible assumption); exact rfl; exact rfl; refine wl_mv rfl rfl ?_; apply wl_skip; exact rfl; exact rfl; exact rfl; refine bFn ?_; (with_reducible assumption); exact rfl; apply wl_skip; exact rfl; exact rfl; exact rfl; refine bFn ?_; (with_reducible assumption); exact rfl; apply wl_skip; exact rfl; exact rfl; exact rfl; refine bFn ?_; (with_reducible assumption); exact rfl; apply wl_skip; exact rfl; exact rfl; exact rfl; refine bFn ?_; (with_reducible assumption); exact rfl; apply wl_skip; exact rfl; exact rfl; exact rfl; refine bFn ?_; (with_reducible assumption); exact rfl; apply wl_val; apply opv_pickF; exact rfl; refine bF ?_; (with_reducible assumption); exact rfl; exact rfl; refine wl_as rfl rfl ?_; refine wl_ns ?_; refine wc_ret ?_
    exact we_ret1 rfl rfl ⟨_, rfl, ⟨false, rfl, by simp; rintro rfl; exact h3 rfl⟩, hb⟩
  have h3' : (x.kind.toNat : Int) = (y.kind.toNat : Int) := by rw [h3]
  refine wl_mv rfl rfl ?_; apply wl_take; exact rfl; exact rfl; exact rfl; refine bT ?_; (with_reducible assumption); apply wl_val; apply opv_fa; exact fa_sE (by decide); exact rfl; exact rfl; apply wl_take; exact rfl; exact rfl; exact rfl; refine bT ?_; (with_reducible assumption); apply wl_val; apply opv_ldX; exact rfl; assumption; exact e1_u64; exact rfl; exact rfl; apply wl_take; exact rfl; exact rfl; exact rfl; refine bT ?_; (with_reducible assumption); apply wl_val; apply opv_fa; exact fa_sE (by decide); exact rfl; exact rfl; apply wl_take; exact rfl; exact rfl; exact rfl; refine bT ?_; (with_reducible assumption); apply wl_val; apply opv_ldX; exact rfl; assumption; exact e1_u64; exact rfl; exact rfl; apply wl_take; exact rfl; exact rfl; exact rfl; refine bT ?_; (with_reducible assumption); refine wl_bin rfl rfl bin_eql rfl ?_; apply wl_val; apply opv_pickT; exact rfl; refine bT ?_; (with_reducible assumption); exact rfl; exact rfl; refine wl_mv rfl rfl ?_; apply wl_take; exact rfl; exact rfl; exact rfl; refine bT ?_; (with_reducible assumption); apply wl_val; apply opv_fa; exact fa_sE (by decide); exact rfl; exact rfl; apply wl_take; exact rfl; exact rfl; exact rfl; refine bT ?_; (with_reducible assumption); apply wl_val; apply opv_ldX; exact rfl; assumption; exact e1_u8; exact rfl; exact rfl; apply wl_take; exact rfl; exact rfl; exact rfl; refine bT ?_; (with_reducible assumption); apply wl_val; apply opv_fa; exact fa_sE (by decide); exact rfl; exact rfl; apply wl_take; exact rfl; exact rfl; exact rfl; refine bT ?_; (with_reducible assumption); apply wl_val; apply opv_ldX; exact rfl; assumption; exact e1_u8; exact rfl; exact rfl; apply wl_take; exact rfl; exact rfl; exact rfl; refine bT ?_; (with_reducible assumption); refine wl_bin rfl rfl bin_eql rfl ?_; apply wl_val; apply opv_pickT; exact rfl; refine bT ?_; (with_reducible assumption); exact rfl; exact rfl; refine wl_mv rfl rfl ?_; apply wl_take; exact rfl; exact rfl; exact rfl; refine bT ?_; (with_reducible assumption); apply wl_val; apply opv_fa; exact fa_sE (by decide); exact rfl; exact rfl; apply wl_take; exact rfl; exact rfl; exact rfl; refine bT ?_; (with_reducible assumption); apply wl_val; apply opv_ldX; exact rfl; assumption; exact e1_by; exact rfl; exact rfl; apply wl_take; exact rfl; exact rfl; exact rfl; refine bT ?_; (with_reducible assumption); apply wl_val; apply opv_fa; exact fa_sE (by decide); exact rfl; exact rfl; apply wl_take; exact rfl; exact rfl; exact rfl; refine bT ?_; (with_reducible assumption); apply wl_val; apply opv_ldX; exact rfl; assumption; exact e1_by; exact rfl; exact rfl; apply wl_take; exact rfl; exact rfl; exact rfl; refine bT ?_; (with_reducible assumption)
  refine wl_call ok_caissonref01_Equal (equal_any (rx2.below hb) (ry2.below hb) rfl rfl hlx2) ⟨rfl, rfl, trivial⟩ rfl ?_; rintro _ _ ⟨rfl, hbx⟩; replace hb := hb.trans (hbx.mono hb.size); clear hbx
  apply wl_val; apply opv_pickT; exact rfl; refine bT ?_; (with_reducible assumption); exact rfl; exact rfl; refine wl_as rfl rfl ?_; refine wl_ns ?_; refine wc_ret ?_
  refine we_ret1 rfl rfl ⟨_, rfl, ⟨decide (x.val = y.val), rfl, ?_⟩, hb⟩
  obtain ⟨k, s, t, v⟩ := x
  obtain ⟨k', s', t', v'⟩ := y
  simp only at h1 h2 h3
  simp [h1, h2, h3]
theorem sameListE_any {A B : Option Addr} {n m c d : Nat} {xs ys : List En} {w : World} (hx : RdR 4 w All A (xs.map enEl)) (hy : RdR 4 w All B (ys.map enEl)) (hn : xs.length = n) (hm : ys.length = m) (hok : ∀ x ∈ xs, x.key.length ≤ maxLen ∧ x.val.length ≤ maxLen) (hl : xs.length ≤ 4294967296) (hl2 : ys.length ≤ 4294967296) :
    CallsV Try.prog 26 #[.slice A n c, .slice B m d] w fun v w' => (∃ b, v = .bool b ∧ (b = true ↔ xs = ys)) ∧ Below w.heap.size w w' := by
  subst hn hm
  have hb := Below.refl w.heap.size w
  refine calls_in (N := _) Try.func26 rfl Try.ntmps26 rfl ?_; show WC _ _ _ _ _ _
  refine wc_sr ?_; refine wl_as rfl rfl ?_; refine wl_ns ?_; refine wc_seq ?_; refine wc_sr ?_; refine wl_mv rfl rfl ?_; apply wl_val; apply opv_len; exact rfl; exact tkE.sl; exact rfl; refine wl_mv rfl rfl ?_; apply wl_val; apply opv_len; exact rfl; exact tkE.sl; exact rfl; refine wl_bin rfl rfl bin_neq rfl ?_; refine wl_ns ?_
  refine wc_cond rfl (fun h1 => ?_) (fun h1 => ?_)
  · refine wc_sr ?_; refine wl_as rfl rfl ?_; refine wl_ns ?_; refine wc_ret ?_; refine we_seq_ret ?_
    exact we_ret1 rfl rfl ⟨_, rfl, ⟨false, rfl, by simp; rintro rfl; exact h1 rfl⟩, hb⟩
  have hlen : xs.length = ys.length := by omega
  refine wc_skip ?_; refine we_seq ?_; refine wc_seq ?_; refine wc_sr ?_; refine wl_as rfl rfl ?_; refine wl_ns ?_; refine wc_block ?_
  refine wc_loop (fun L wr m => ∃ k : Nat, L = [(0, .slice A xs.length c), (1, .slice B ys.length d), (5, .int .i64 (k : Int))] ∧ k ≤ xs.length ∧ xs.take k = ys.take k ∧ Below w.heap.size w wr ∧ m = xs.length - k)
    [(0, .slice A xs.length c), (1, .slice B ys.length d), (5, .int .i64 (0 : Nat))] xs.length ⟨0, rfl, by omega, by simp, hb, rfl⟩ ⟨rfl, rfl, rfl, trivial⟩ ?_
  clear hb
  rintro _ w1 m ⟨k, rfl, hk, he, hb, rfl⟩
  refine wc_seq ?_; refine wc_sr ?_; refine wl_mv rfl rfl ?_; refine wl_mv rfl rfl ?_; apply wl_val; apply opv_len; exact rfl; exact tkE.sl; exact rfl; refine wl_bin rfl rfl bin_lss rfl ?_; refine wl_ns ?_
  refine wc_cond rfl (fun h1 => ?_) (fun h1 => ?_)
  · obtain ⟨x, hxk⟩ : ∃ x, xs[k]? = some x := ⟨_, List.getElem?_eq_getElem (by omega)⟩
    obtain ⟨y, hyk⟩ : ∃ y, ys[k]? = some y := ⟨_, List.getElem?_eq_getElem (by omega)⟩
    obtain ⟨b, o, cs, rfl, _, _, hp, i1⟩ := RdR.at (k := 4) (by decide) hx (E := enEl x) (i := k) (by rw [List.getElem?_map, hxk]; rfl)
    obtain ⟨X, cx, X2, cx2, rfl, rx, _, rx2, _⟩ := enEl.rd hp
    obtain ⟨b2, o2, cs2, rfl, _, _, hp2, i2⟩ := RdR.at (k := 4) (by decide) hy (E := enEl y) (i := k) (by rw [List.getElem?_map, hyk]; rfl)
    obtain ⟨Y, cy, Y2, cy2, rfl, ry, _, ry2, _⟩ := enEl.rd hp2
    replace i1 := i1.below hb
    replace i2 := i2.below hb
    replace rx := rx.below hb
    replace ry := ry.below hb
    replace rx2 := rx2.below hb
    replace ry2 := ry2.below hb
    have hox := hok x (List.mem_of_getElem? hxk)
    have hq : ∃ q, ∀ w', Below w1.heap.size w1 w' → CallsV Try.prog 39 #[.agg (enV x X cx X2 cx2).toArray, .agg (enV y Y cy Y2 cy2).toArray] w' fun v w2 => v = .bool q ∧ Below w'.heap.size w' w2 := ⟨decide (x = y), fun w' hw => (sameE_any (rx.below hw) (rx2.below hw) (ry.below hw) (ry2.below hw) hox.1 hox.2).mono fun v w2 ⟨⟨q, hv, hi⟩, h2⟩ => ⟨by rw [hv]; congr 1; rw [Bool.eq_iff_iff, hi, decide_eq_true_eq], h2⟩⟩
    by_cases hxy : x = y
    · subst hxy
      refine wc_skip ?_; refine we_seq ?_; refine wc_seq ?_; refine wc_block ?_; refine wc_seq ?_
      refine wc_drawB mixed (by kernel_rfl) ?_
      apply wq_val; intro _ hw_; apply opv_move; exact rfl; exact rfl; apply wq_val; intro _ hw_; apply opv_move; exact rfl; exact rfl; apply wq_val; intro _ hw_; apply opv_idxG tkE; exact rfl; exact rfl; exact rfl; omega; exact rfl; apply wq_val; intro _ hw_; apply opv_ldG; exact rfl; exact Wi.below (by assumption) hw_; exact sE; exact rfl; apply wq_val; intro _ hw_; apply opv_move; exact rfl; exact rfl; apply wq_val; intro _ hw_; apply opv_move; exact rfl; exact rfl; apply wq_val; intro _ hw_; apply opv_idxG tkE; exact rfl; exact rfl; exact rfl; omega; exact rfl; apply wq_val; intro _ hw_; apply opv_ldG; exact rfl; exact Wi.below (by assumption) hw_; exact sE; exact rfl
      refine wq_call (v := .bool true) ok_caissonref07_Same (fun w' hw => (sameE_any (rx.below hw) (rx2.below hw) (ry.below hw) (ry2.below hw) hox.1 hox.2).mono (fun v w2 ⟨⟨q, hv, hi⟩, h2⟩ => ⟨by rw [hv, hi.2 rfl], hw.trans (h2.mono hw.size)⟩)) ⟨rfl, rfl, trivial⟩ rfl ?_
      apply wq_val; intro _ hw_; apply opv_not; exact rfl; exact rfl; refine wq_nil fun w1 hw1 => ?_
      replace hb := hb.trans (hw1.mono hb.size)
      refine we_seq ?_; apply wc_condFb; exact rfl; exact Bool.not_true; refine wc_skip ?_; refine we_block_norm ?_; refine we_seq ?_; refine wc_region ?_; refine wl_mv rfl rfl ?_; apply wl_val; apply opv_bin; exact rfl; exact rfl; exact bin_add64 (by omega); exact rfl; refine wl_as rfl rfl ?_; refine wl_nil ?_
      refine we_loop _ (xs.length - (k + 1)) ⟨k + 1, rfl, by omega, by rw [take_getR hxk, take_getR hyk, he], hb, rfl⟩ (by omega) ⟨rfl, rfl, by simp [lookT], trivial⟩
    · refine wc_skip ?_; refine we_seq ?_; refine wc_seq ?_; refine wc_block ?_; refine wc_seq ?_
      refine wc_drawB mixed (by kernel_rfl) ?_
      apply wq_val; intro _ hw_; apply opv_move; exact rfl; exact rfl; apply wq_val; intro _ hw_; apply opv_move; exact rfl; exact rfl; apply wq_val; intro _ hw_; apply opv_idxG tkE; exact rfl; exact rfl; exact rfl; omega; exact rfl; apply wq_val; intro _ hw_; apply opv_ldG; exact rfl; exact Wi.below (by assumption) hw_; exact sE; exact rfl; apply wq_val; intro _ hw_; apply opv_move; exact rfl; exact rfl; apply wq_val; intro _ hw_; apply opv_move; exact rfl; exact rfl; apply wq_val; intro _ hw_; apply opv_idxG tkE; exact rfl; exact rfl; exact rfl; omega; exact rfl; apply wq_val; intro _ hw_; apply opv_ldG; exact rfl; exact Wi.below (by assumption) hw_; exact sE; exact rfl
      refine wq_call (v := .bool false) ok_caissonref07_Same (fun w' hw => (sameE_any (rx.below hw) (rx2.below hw) (ry.below hw) (ry2.below hw) hox.1 hox.2).mono (fun v w2 ⟨⟨q, hv, hi⟩, h2⟩ => ⟨by rw [hv]; cases q with | false => rfl | true => exact absurd (hi.1 rfl) hxy, hw.trans (h2.mono hw.size)⟩)) ⟨rfl, rfl, trivial⟩ rfl ?_
      apply wq_val; intro _ hw_; apply opv_not; exact rfl; exact rfl; refine wq_nil fun w1 hw1 => ?_
      replace hb := hb.trans (hw1.mono hb.size)
      refine we_seq ?_; apply wc_condTb; exact rfl; exact Bool.not_false; refine wc_sr ?_; refine wl_as rfl rfl ?_; refine wl_ns ?_; refine wc_ret ?_; refine we_block_ret ?_; refine we_seq_ret ?_; refine we_loop_ret ?_; refine we_block_ret ?_; refine we_seq_ret ?_
      exact we_ret1 rfl rfl ⟨_, rfl, ⟨false, rfl, by
        simp only [Bool.false_eq_true, false_iff]
        rintro rfl
        rw [hxk] at hyk; cases hyk
        exact hxy rfl⟩, hb⟩
  · obtain rfl : k = xs.length := by omega
    refine wc_exit ?_; refine we_seq_exit ?_; refine we_loop_exit ?_; refine we_block_exit ?_; refine we_seq ?_; refine wc_sr ?_; refine wl_as rfl rfl ?_; refine wl_ns ?_; refine wc_ret ?_
    exact we_ret1 rfl rfl ⟨_, rfl, ⟨true, rfl, by rw [List.take_length, hlen, List.take_length] at he; simp [he]⟩, hb⟩
/-- An entry in new memory. -/
def RetE (w : World) (x : En) (v : Value) (w' : World) : Prop :=
  ∃ (A : Option Addr) (c : Nat) (B : Option Addr) (d : Nat), v = .agg (enV x A c B d).toArray ∧ OwB w' w.heap.size A c x.key ∧ OwB w' w.heap.size B d x.val ∧ (∀ a b, A = some a → B = some b → a.block ≠ b.block) ∧ Below w.heap.size w w'
theorem twinE_any {x : En} {A B : Option Addr} {c d : Nat} {w : World} (rx : RdB w A x.key) (rx2 : RdB w B x.val) (hl : x.key.length ≤ 140737488355328) (hl2 : x.val.length ≤ 140737488355328) :
    CallsV Try.prog 49 #[.agg (enV x A c B d).toArray] w (RetE w x) := by
  have hb := Below.refl w.heap.size w
  refine calls_in (N := _) Try.func49 rfl Try.ntmps49 rfl ?_; show WC _ _ _ _ _ _
  refine wc_sr ?_
  refine wl_box (cs := enV x A c B d) rfl rfl fun g1 w1 hg1 a1 hbx => ?_
  replace hb := hb.trans (hbx.mono hb.size)
  clear hbx
  refine wl_new (cs := zE) zeroE rfl fun g2 w2 hg2 a2 hbx => ?_
  have hlt1 := a1.lt
  replace a1 := Ar.bel a1 hbx
  replace hb := hb.trans (hbx.mono hb.size)
  clear hbx
  have hg12 : g1 < g2 := by omega
  have hlt2 := a2.lt
  unfold enV at a1
  refine wl_ns ?_; refine wc_sr ?_; apply wl_val; apply opv_fa; exact fa_sE (by decide); exact rfl; exact rfl; apply wl_val; apply opv_ldX; exact rfl; assumption; exact e1_by; exact rfl; exact rfl
  have hz2 := hb.size
  have hg4 : ∀ {w' : World}, w2.heap.size ≤ w'.heap.size → g2 < w'.heap.size := fun h => by omega
  refine wl_call ok_caissonref01_Copy (copy_any (rx.below hb) rfl hl) ⟨rfl, trivial⟩ rfl ?_
  rintro _ w3 ⟨C, e, rfl, o3, hbx⟩
  have hbs := hbx.size
  replace a1 := Ar.bel a1 hbx
  replace a2 := Ar.bel a2 hbx
  replace hb := hb.trans (hbx.mono hb.size)
  clear hbx
  apply wl_val; apply opv_fa; exact fa_sE (by decide); exact rfl; exact rfl
  refine wl_stA e1_by a1 rfl (show 0 + 0 < 4 by decide) rfl rfl fun w4 a1 hG _ => ?_
  replace a2 := a2.grA hG (fun a ha => by cases ha; exact (show g1 ≠ g2 by omega))
  replace o3 := Ow.gr2 o3 hG (fun b hb => by cases hb; exact (show g1 < w2.heap.size by omega))
  have hs24 : w2.heap.size ≤ w4.heap.size := by have := hbs; have := hG.size; omega
  replace hb := hG.belowI hb hg1 hb.size
  clear hG
  have hC := fun a ha => (Ow.lt o3 a ha)
  have hz4 := hb.size
  refine wl_ns ?_; refine wc_sr ?_; apply wl_val; apply opv_fa; exact fa_sE (by decide); exact rfl; exact rfl; apply wl_val; apply opv_ldX; exact rfl; assumption; exact e1_by; exact rfl; exact rfl
  refine wl_call ok_caissonref01_Copy (copy_any (rx2.below hb) rfl hl2) ⟨rfl, trivial⟩ rfl ?_; rintro _ _ ⟨D, f, rfl, o4, hbx⟩; replace a1 := Ar.bel a1 hbx; replace a2 := Ar.bel a2 hbx; replace o3 := OwB.below o3 hbx; replace hb := hb.trans (hbx.mono hb.size); clear hbx
  apply wl_val; apply opv_fa; exact fa_sE (by decide); exact rfl; exact rfl
  have hD := fun a ha => (Ow.lt o4 a ha).1
  refine wl_stA e1_by a1 rfl (show 0 + 3 < 4 by decide) rfl rfl fun w5 a1 hG _ => ?_
  replace a2 := a2.grA hG (fun a ha => by cases ha; exact (show g1 ≠ g2 by omega))
  replace o3 := Ow.gr2 o3 hG (fun b hb => by cases hb; exact (show g1 < w2.heap.size by omega))
  replace o4 := Ow.gr2 o4 hG (fun b hb => by cases hb; exact (show g1 < w4.heap.size by omega))
  replace hb := hG.belowI hb hg1 hb.size
  clear hG
  have a1' : Ar w5 g1 56 (enV x C e D f) := a1
  clear a1
  refine wl_ns ?_; refine wc_sr ?_; apply wl_val; apply opv_loadX; exact rfl; assumption; exact sE; exact rfl
  refine wl_storeS (cs' := enV x C e D f) sE a2 rfl rfl rfl rfl fun w6 a2 hG _ => ?_
  replace o3 := Ow.gr2 o3 hG (fun b hb => by cases hb; exact (show g2 < w2.heap.size by omega))
  replace o4 := Ow.gr2 o4 hG (fun b hb => by cases hb; exact (show g2 < w4.heap.size by omega))
  replace hb := hG.belowI hb (by omega) hb.size
  refine wl_ns ?_; refine wc_ret ?_
  exact we_retC rfl rfl a2 sE ⟨_, rfl, C, e, D, f, rfl, Ow.mono o3 hz2, Ow.mono o4 hz4, fun a b ha hb' => by have := (hC a ha).2; have := hD b hb'; omega, hb⟩
/-- The cells of the same entries. -/
def RetEs (w : World) (l : List En) (v : Value) (w' : World) : Prop :=
  ∃ (A : Option Addr) (c : Nat), v = .slice A l.length c ∧ OwR 4 56 w' w.heap.size (fun b => w.heap.size ≤ b) A c (l.map enEl) ∧ Below w.heap.size w w'
theorem take_mapE {l : List En} {k : Nat} {x : En} (h : l[k]? = some x) : (l.take (k + 1)).map enEl = (l.take k).map enEl ++ [enEl x] := by rw [take_getR h]; simp
theorem enEl.own {w : World} {S : Nat → Prop} {base : Nat} {x : En} {A B : Option Addr} {c d : Nat} (h1 : OwB w base A c x.key) (h2 : OwB w base B d x.val) (hs : ∀ b, base ≤ b → b < w.heap.size → S b) : (enEl x).P w S (enV x A c B d) :=
  enEl.mk (byE.own h1 fun a _ h h' => hs _ h h') (byE.own h2 fun a _ h h' => hs _ h h')
theorem twinsE_any {A : Option Addr} {n c : Nat} {l : List En} {w : World} (hr : RdR 4 w All A (l.map enEl)) (hn : l.length = n) (hok : ∀ x ∈ l, x.key.length ≤ 140737488355328 ∧ x.val.length ≤ 140737488355328) (hl : l.length ≤ 1099511627776) :
    CallsV Try.prog 24 #[.slice A n c] w (RetEs w l) := by
  subst hn
  refine calls_in (N := _) Try.func24 rfl Try.ntmps24 rfl ?_; show WC _ _ _ _ _ _
  refine wc_sr ?_; refine wl_as rfl rfl ?_; refine wl_ns ?_; refine wc_sr ?_; refine wl_as rfl rfl ?_; refine wl_ns ?_; refine wc_seq ?_; refine wc_sr ?_; refine wl_as rfl rfl ?_; refine wl_ns ?_; refine wc_block ?_
  refine wc_loop (fun L wr m => ∃ (k : Nat) (P : Option Addr) (cp : Nat), L = [(0, .slice A l.length c), (3, .slice P k cp), (4, .int .i64 (k : Int))] ∧ k ≤ l.length ∧ OwR 4 56 wr w.heap.size (fun b => w.heap.size ≤ b) P cp ((l.take k).map enEl) ∧ Below w.heap.size w wr ∧ m = l.length - k)
    [(0, .slice A l.length c), (3, .slice none 0 0), (4, .int .i64 (0 : Nat))] l.length ⟨0, none, 0, rfl, by omega, OwR.nil _ _ _, Below.refl _ _, rfl⟩ ⟨rfl, rfl, rfl, trivial⟩ ?_
  rintro _ w1 m ⟨k, P, cp, rfl, hk, g1, hb, rfl⟩
  refine wc_seq ?_; refine wc_sr ?_; refine wl_mv rfl rfl ?_; refine wl_mv rfl rfl ?_; apply wl_val; apply opv_len; exact rfl; exact tkE.sl; exact rfl; refine wl_bin rfl rfl bin_lss rfl ?_; refine wl_ns ?_
  refine wc_cond rfl (fun h1 => ?_) (fun h1 => ?_)
  · obtain ⟨x, hx⟩ : ∃ x, l[k]? = some x := ⟨_, List.getElem?_eq_getElem (by omega)⟩
    have hox := hok x (List.mem_of_getElem? hx)
    obtain ⟨b, o, cs, rfl, _, _, hp, i1⟩ := RdR.at (k := 4) (by decide) hr (E := enEl x) (i := k) (by rw [List.getElem?_map, hx]; rfl)
    obtain ⟨X, cx, Y, cy, rfl, rx, _, ry, _⟩ := enEl.rd hp
    replace i1 := i1.below hb
    replace rx := rx.below hb
    replace ry := ry.below hb
    have hP := fun a ha => (OwR.lt g1 a ha).2
    have hs1 := hb.size
    refine wc_skip ?_; refine we_seq ?_; refine wc_seq ?_; refine wc_block ?_; refine wc_region ?_; refine wl_mv rfl rfl ?_; refine wl_mv rfl rfl ?_; refine wl_mv rfl rfl ?_; apply wl_val; apply opv_idxG tkE; exact rfl; exact rfl; exact rfl; omega; exact rfl; apply wl_val; apply opv_ldG; exact rfl; assumption; exact sE; exact rfl
    refine wl_call ok_caissonref07_Twin (twinE_any (x := x) rx ry hox.1 hox.2) ⟨rfl, trivial⟩ rfl ?_; rintro _ _ ⟨C, e, D, f, rfl, o2, o3, _, hbx⟩; replace g1 := OwR.below g1 hbx; replace hb := hb.trans (hbx.mono hb.size); clear hbx
    refine wl_pushG (css' := [enV x C e D f]) (els' := [enEl x]) tkE (fun _ => rfl) g1 ((by simp; omega)) ⟨rfl, ⟨_, rfl, rfl⟩, rfl, trivial⟩ (Grp.one (enEl.own o2 o3 fun b h1 h2 => ⟨by omega, fun p hp => by have := hP p hp; omega⟩) rfl) rfl (by first | exact enV_all _ _ _ _ _ | (simp [Value.oneCell'])) (by decide) (by decide) (by omega) (by simp only [maxLen]; omega) hb.size rfl rfl fun _ _ _ _ hO hG hA => ?_; replace hb := hG.belowR hb g1 (Nat.le_refl _) hb.size; replace g1 := hO; clear hO hG
    refine wl_as rfl rfl ?_; refine wl_nil ?_; refine we_block_norm ?_; refine we_seq ?_; refine wc_region ?_; refine wl_mv rfl rfl ?_; apply wl_val; apply opv_bin; exact rfl; exact rfl; exact bin_add64 (by omega); exact rfl; refine wl_as rfl rfl ?_; refine wl_nil ?_
    refine we_loop _ (l.length - (k + 1)) ⟨k + 1, _, _, rfl, by omega, by rw [take_mapE hx]; exact g1, hb, rfl⟩ (by omega) ⟨rfl, rfl, by simp [lookT], trivial⟩
  · obtain rfl : k = l.length := by omega
    rw [List.take_length] at g1
    refine wc_exit ?_; refine we_seq_exit ?_; refine we_loop_exit ?_; refine we_block_exit ?_; refine we_seq ?_; refine wc_sr ?_; refine wl_mv rfl rfl ?_; refine wl_as rfl rfl ?_; refine wl_ns ?_; refine wc_ret ?_
    exact we_ret1 rfl rfl ⟨_, rfl, P, cp, rfl, g1, hb⟩
end Go.Proofs.Ytpnckagibkdcpaa


/-
  Walks over the document's Check, Ordered, In and Get of lists of entries.
-/
namespace Go.Proofs.Ytpnckagibkdcpaa
open Go.RowKit

theorem natc_pred {k : Nat} : ((k + 1 : Nat) : Int) - 1 = (k : Int) := by omega
theorem refCheck_any {A : Option Addr} {n c : Nat} {l : List En} {w : World} (hr : RdR 4 w All A (l.map enEl)) (hn : l.length = n) (hl : l.length ≤ maxLen) :
    CallsV Try.prog 50 #[.slice A n c] w fun v w' => v = .int .i64 (checkE l : Nat) ∧ Below w.heap.size w w' := by
  subst hn
  have hmax : maxLen = 9223372036854775807 := rfl
  refine calls_in (N := _) Try.func50 rfl Try.ntmps50 rfl ?_; show WC _ _ _ _ _ _
  refine wc_sr ?_; refine wl_as rfl rfl ?_; refine wl_ns ?_; refine wc_seq ?_; refine wc_sr ?_; refine wl_as rfl rfl ?_; refine wl_ns ?_; refine wc_block ?_
  refine wc_loop (fun L wr m => ∃ (k : Nat), L = [(0, .slice A l.length c), (3, .int .i64 (k : Int))] ∧ k ≤ l.length ∧ (l.take k).any bigE = false ∧ Below w.heap.size w wr ∧ m = l.length - k)
    [(0, .slice A l.length c), (3, .int .i64 (0 : Nat))] l.length ⟨0, rfl, by omega, by simp, Below.refl _ _, rfl⟩ ⟨rfl, rfl, trivial⟩ ?_
  rintro _ w1 m ⟨k, rfl, hk, hbig, hb, rfl⟩
  refine wc_seq ?_; refine wc_sr ?_; refine wl_mv rfl rfl ?_; refine wl_mv rfl rfl ?_; apply wl_val; apply opv_len; exact rfl; exact tkE.sl; exact rfl; refine wl_bin rfl rfl bin_lss rfl ?_; refine wl_ns ?_
  refine wc_cond rfl (fun h1 => ?_) (fun h1 => ?_)
  · obtain ⟨x, hx⟩ : ∃ x, l[k]? = some x := ⟨_, List.getElem?_eq_getElem (by omega)⟩
    obtain ⟨b, o, cs, rfl, _, _, hp, i1⟩ := RdR.at (k := 4) (by decide) hr (E := enEl x) (i := k) (by rw [List.getElem?_map, hx]; rfl)
    obtain ⟨X, cx, Y, cy, rfl, rx, _, ry, _⟩ := enEl.rd hp
    replace i1 := i1.below hb
    have hbt := any_take (p := bigE) hx
    rw [hbig, Bool.false_or] at hbt
    unfold enV at i1
    refine wc_skip ?_; refine we_seq ?_; refine wc_seq ?_; refine wc_block ?_; refine wc_sr ?_; refine wl_mv rfl rfl ?_; refine wl_mv rfl rfl ?_; apply wl_val; apply opv_idxG tkE; exact rfl; exact rfl; exact rfl; omega; exact rfl; apply wl_val; apply opv_fa; exact fa_sE (by decide); exact rfl; exact rfl; apply wl_val; apply opv_ldW; exact rfl; assumption; exact e1_by; exact rfl; exact rfl; apply wl_val; apply opv_len; exact rfl; exact tyB.sl; exact rfl; refine wl_bin rfl rfl bin_gtr rfl ?_; refine wl_mv rfl rfl ?_
    refine wl_cutV 18 26 (.bool (decide (((1024 : Int) < (x.key.length : Int)) ∨ ((65536 : Int) < (x.val.length : Int))))) ?c3 ?_; (case c3 => (dsimp only [List.take]; by_cases hc0 : ((1024 : Int) < (x.key.length : Int)); (focus (apply wl_skip; exact rfl; exact rfl; exact rfl; refine bTn ?_; (with_reducible assumption); exact rfl; apply wl_skip; exact rfl; exact rfl; exact rfl; refine bTn ?_; (with_reducible assumption); exact rfl; apply wl_skip; exact rfl; exact rfl; exact rfl; refine bTn ?_; (with_reducible assumption); exact rfl; apply wl_skip; exact rfl; exact rfl; exact rfl; refine bTn ?_; (with_reducible assumption); exact rfl; apply wl_skip; exact rfl; exact rfl; exact rfl; refine bTn ?_; (with_reducible assumption); exact rfl; apply wl_skip; exact rfl; exact rfl; exact rfl; refine bTn ?_; (with_reducible assumption); exact rfl; apply wl_skip; exact rfl; exact rfl; exact rfl; refine bTn ?_; (with_reducible assumption); exact rfl; apply wl_val; apply opv_pickT; exact rfl; refine bT ?_; (with_reducible assumption); exact rfl; exact rfl; refine wl_nil ?_; refine we_cut _ ⟨rfl, rfl⟩ ⟨congrArg (fun b => some (Value.bool b)) ?e3_0, ?s3_0⟩; (case e3_0 => ((simp [hc0]; done))); (case s3_0 => (refine And.intro rfl ?_; refine And.intro rfl ?_; refine And.intro rfl ?_; refine And.intro rfl ?_; refine And.intro rfl ?_; refine And.intro rfl ?_; refine And.intro rfl ?_; refine And.intro rfl ?_; refine And.intro rfl ?_; refine And.intro rfl ?_; refine And.intro rfl ?_; refine And.intro rfl ?_; refine And.intro rfl ?_; refine And.intro rfl ?_; exact True.intro)))); (focus (apply wl_take; exact rfl; exact rfl; exact rfl; refine bF ?_; (with_reducible assumption); refine wl_mv rfl rfl ?_; apply wl_take; exact rfl; exact rfl; exact rfl; refine bF ?_; (with_reducible assumption); refine wl_mv rfl rfl ?_; apply wl_take; exact rfl; exact rfl; exact rfl; refine bF ?_; (with_reducible assumption); apply wl_val; apply opv_idxG tkE; exact rfl; exact rfl; exact rfl; omega; exact rfl; apply wl_take; exact rfl; exact rfl; exact rfl; refine bF ?_; (with_reducible assumption); apply wl_val; apply opv_fa; exact fa_sE (by decide); exact rfl; exact rfl; apply wl_take; exact rfl; exact rfl; exact rfl; refine bF ?_; (with_reducible assumption); apply wl_val; apply opv_ldW; exact rfl; assumption; exact e1_by; exact rfl; exact rfl; apply wl_take; exact rfl; exact rfl; exact rfl; refine bF ?_; (with_reducible assumption); apply wl_val; apply opv_len; exact rfl; exact tyB.sl; exact rfl; apply wl_take; exact rfl; exact rfl; exact rfl; refine bF ?_; (with_reducible assumption); refine wl_bin rfl rfl bin_gtr rfl ?_; apply wl_val; apply opv_pickF; exact rfl; refine bF ?_; (with_reducible assumption); exact rfl; exact rfl; refine wl_nil ?_; refine we_cut _ ⟨rfl, rfl⟩ ⟨congrArg (fun b => some (Value.bool b)) ?e3_1, ?s3_1⟩; (case e3_1 => ((simp [hc0]; done))); (case s3_1 => (refine And.intro rfl ?_; refine And.intro rfl ?_; refine And.intro rfl ?_; refine And.intro rfl ?_; refine And.intro rfl ?_; refine And.intro rfl ?_; refine And.intro rfl ?_; refine And.intro rfl ?_; refine And.intro rfl ?_; refine And.intro rfl ?_; refine And.intro rfl ?_; refine And.intro rfl ?_; refine And.intro rfl ?_; refine And.intro rfl ?_; exact True.intro)))))); dsimp only [List.drop]
    refine wl_ns ?_
    refine wc_cond rfl (fun h2 => ?_) (fun h2 => ?_)
    · refine wc_sr ?_; refine wl_as rfl rfl ?_; refine wl_ns ?_; refine wc_ret ?_; refine we_block_ret ?_; refine we_seq_ret ?_; refine we_loop_ret ?_; refine we_block_ret ?_; refine we_seq_ret ?_
      refine we_ret1 rfl rfl ⟨_, rfl, ?_, hb⟩
      rw [checkE, any_at hx (by rw [bigE]; exact decide_eq_true (by omega))]; rfl
    have hnb : bigE x = false := decide_eq_false (by omega)
    rw [hnb] at hbt
    refine wc_skip ?_; refine we_block_norm ?_; refine we_seq ?_; refine wc_region ?_; refine wl_mv rfl rfl ?_; apply wl_val; apply opv_bin; exact rfl; exact rfl; exact bin_add64 (by omega); exact rfl; refine wl_as rfl rfl ?_; refine wl_nil ?_
    refine we_loop _ (l.length - (k + 1)) ⟨k + 1, rfl, by omega, hbt, hb, rfl⟩ (by omega) ⟨rfl, by simp [lookT], trivial⟩
  obtain rfl : k = l.length := by omega
  rw [List.take_length] at hbig
  refine wc_exit ?_; refine we_seq_exit ?_; refine we_loop_exit ?_; refine we_block_exit ?_; refine we_seq ?_; refine wc_seq ?_; refine wc_sr ?_; refine wl_as rfl rfl ?_; refine wl_ns ?_; refine wc_block ?_
  refine wc_loop (fun L wr m => ∃ (k : Nat), L = [(0, .slice A l.length c), (4, .int .i64 (k : Int))] ∧ k ≤ l.length ∧ (l.take k).any badE = false ∧ Below w.heap.size w wr ∧ m = l.length - k)
    [(0, .slice A l.length c), (4, .int .i64 (0 : Nat))] l.length ⟨0, rfl, by omega, by simp, hb, rfl⟩ ⟨rfl, rfl, trivial⟩ ?_
  clear hb
  rintro _ w2 m ⟨k, rfl, hk, hbad, hb, rfl⟩
  refine wc_seq ?_; refine wc_sr ?_; refine wl_mv rfl rfl ?_; refine wl_mv rfl rfl ?_; apply wl_val; apply opv_len; exact rfl; exact tkE.sl; exact rfl; refine wl_bin rfl rfl bin_lss rfl ?_; refine wl_ns ?_
  refine wc_cond rfl (fun h1 => ?_) (fun h1 => ?_)
  · obtain ⟨x, hx⟩ : ∃ x, l[k]? = some x := ⟨_, List.getElem?_eq_getElem (by omega)⟩
    obtain ⟨b, o, cs, rfl, _, _, hp, i1⟩ := RdR.at (k := 4) (by decide) hr (E := enEl x) (i := k) (by rw [List.getElem?_map, hx]; rfl)
    obtain ⟨X, cx, Y, cy, rfl, rx, _, ry, _⟩ := enEl.rd hp
    replace i1 := i1.below hb
    have hft := any_take (p := badE) hx
    rw [hbad, Bool.false_or] at hft
    have e1 : (x.kind.toNat : Int) = 1 ↔ x.kind = 1 := kind_iff (n := 1) (by decide)
    have e2 : (x.kind.toNat : Int) = 2 ↔ x.kind = 2 := kind_iff (n := 2) (by decide)
    unfold enV at i1
    by_cases k1 : x.kind = 1
    · have k1' : (x.kind.toNat : Int) = 1 := e1.2 k1
      have hnd : badE x = false := decide_eq_false (by simp [k1])
      rw [hnd] at hft
      refine wc_skip ?_; refine we_seq ?_; refine wc_seq ?_; refine wc_block ?_; refine wc_sr ?_; refine wl_mv rfl rfl ?_; refine wl_mv rfl rfl ?_; apply wl_val; apply opv_idxG tkE; exact rfl; exact rfl; exact rfl; omega; exact rfl; apply wl_val; apply opv_fa; exact fa_sE (by decide); exact rfl; exact rfl; apply wl_val; apply opv_ldW; exact rfl; assumption; exact e1_u8; exact rfl; exact rfl; refine wl_bin rfl rfl bin_neq rfl ?_; refine wl_mv rfl rfl ?_; apply wl_skip; exact rfl; exact rfl; exact rfl; refine bFn ?_; omega; exact rfl; apply wl_skip; exact rfl; exact rfl; exact rfl; refine bFn ?_; omega; exact rfl; apply wl_skip; exact rfl; exact rfl; exact rfl; refine bFn ?_; omega; exact rfl; apply wl_skip; exact rfl; exact rfl; exact rfl; refine bFn ?_; omega; exact rfl; apply wl_skip; exact rfl; exact rfl; exact rfl; refine bFn ?_; omega; exact rfl; apply wl_skip; exact rfl; exact rfl; exact rfl; refine bFn ?_; omega; exact rfl; apply wl_skip; exact rfl; exact rfl; exact rfl; refine bFn ?_; omega; exact rfl; apply wl_skipU; exact rfl; exact rfl; exact rfl; exact rfl; apply wl_skipU; exact rfl; exact rfl; exact rfl; exact rfl; apply wl_skipU; exact rfl; exact rfl; exact rfl; exact rfl; apply wl_skipU; exact rfl; exact rfl; exact rfl; exact rfl; apply wl_skipU; exact rfl; exact rfl; exact rfl; exact rfl; apply wl_skipU; exact rfl; exact rfl; exact rfl; exact rfl; apply wl_skipU; exact rfl; exact rfl; exact rfl; exact rfl; apply wl_skip; exact rfl; exact rfl; exact rfl; refine bFn ?_; omega; exact rfl; apply wl_val; apply opv_pickF; exact rfl; refine bF ?_; omega; exact rfl; exact rfl; refine wl_ns ?_; apply wc_condFb; exact rfl; exact rfl; refine wc_skip ?_; refine we_block_norm ?_; refine we_seq ?_; refine wc_region ?_; refine wl_mv rfl rfl ?_; apply wl_val; apply opv_bin; exact rfl; exact rfl; exact bin_add64 (by omega); exact rfl; refine wl_as rfl rfl ?_; refine wl_nil ?_
      refine we_loop _ (l.length - (k + 1)) ⟨k + 1, rfl, by omega, hft, hb, rfl⟩ (by omega) ⟨rfl, by simp [lookT], trivial⟩
    have k1' : ¬ (x.kind.toNat : Int) = 1 := fun h => k1 (e1.1 h)
    by_cases k2 : x.kind = 2
    · have k2' : (x.kind.toNat : Int) = 2 := e2.2 k2
      by_cases hv : x.val = []
      · have hv' : ¬ (0 : Int) < (x.val.length : Int) := by rw [hv]; decide
        have hnd : badE x = false := decide_eq_false (by simp [k2, hv])
        rw [hnd] at hft
        refine wc_skip ?_; refine we_seq ?_; refine wc_seq ?_; refine wc_block ?_; refine wc_sr ?_; refine wl_mv rfl rfl ?_; refine wl_mv rfl rfl ?_; apply wl_val; apply opv_idxG tkE; exact rfl; exact rfl; exact rfl; omega; exact rfl; apply wl_val; apply opv_fa; exact fa_sE (by decide); exact rfl; exact rfl; apply wl_val; apply opv_ldW; exact rfl; assumption; exact e1_u8; exact rfl; exact rfl; refine wl_bin rfl rfl bin_neq rfl ?_; refine wl_mv rfl rfl ?_; apply wl_take; exact rfl; exact rfl; exact rfl; refine bT ?_; (with_reducible assumption); refine wl_mv rfl rfl ?_; apply wl_take; exact rfl; exact rfl; exact rfl; refine bT ?_; (with_reducible assumption); refine wl_mv rfl rfl ?_; apply wl_take; exact rfl; exact rfl; exact rfl; refine bT ?_; (with_reducible assumption); apply wl_val; apply opv_idxG tkE; exact rfl; exact rfl; exact rfl; omega; exact rfl; apply wl_take; exact rfl; exact rfl; exact rfl; refine bT ?_; (with_reducible assumption); apply wl_val; apply opv_fa; exact fa_sE (by decide); exact rfl; exact rfl; apply wl_take; exact rfl; exact rfl; exact rfl; refine bT ?_; (with_reducible assumption); apply wl_val; apply opv_ldW; exact rfl; assumption; exact e1_u8; exact rfl; exact rfl; apply wl_take; exact rfl; exact rfl; exact rfl; refine bT ?_; (with_reducible assumption); refine wl_bin rfl rfl bin_neq rfl ?_; apply wl_take; exact rfl; exact rfl; exact rfl; refine bT ?_; (with_reducible assumption); refine wl_mv rfl rfl ?_; apply wl_take; exact rfl; exact rfl; exact rfl; refine bF ?_; omega; refine wl_mv rfl rfl ?_; apply wl_take; exact rfl; exact rfl; exact rfl; refine bF ?_; omega; refine wl_mv rfl rfl ?_; apply wl_take; exact rfl; exact rfl; exact rfl; refine bF ?_; omega; apply wl_val; apply opv_idxG tkE; exact rfl; exact rfl; exact rfl; omega; exact rfl; apply wl_take; exact rfl; exact rfl; exact rfl; refine bF ?_; omega; apply wl_val; apply opv_fa; exact fa_sE (by decide); exact rfl; exact rfl; apply wl_take; exact rfl; exact rfl; exact rfl; refine bF ?_; omega; apply wl_val; apply opv_ldW; exact rfl; assumption; exact e1_by; exact rfl; exact rfl; apply wl_take; exact rfl; exact rfl; exact rfl; refine bF ?_; omega; apply wl_val; apply opv_len; exact rfl; exact tyB.sl; exact rfl; apply wl_take; exact rfl; exact rfl; exact rfl; refine bF ?_; omega; refine wl_bin rfl rfl bin_gtr rfl ?_; apply wl_take; exact rfl; exact rfl; exact rfl; refine bT ?_; (with_reducible assumption); apply wl_val; apply opv_pickF; exact rfl; refine bF ?_; omega; exact rfl; exact rfl; apply wl_val; apply opv_pickT; exact rfl; refine bT ?_; (with_reducible assumption); exact rfl; exact rfl; refine wl_ns ?_; apply wc_decF; exact rfl; (with_reducible assumption); refine wc_skip ?_; refine we_block_norm ?_; refine we_seq ?_; refine wc_region ?_; refine wl_mv rfl rfl ?_; apply wl_val; apply opv_bin; exact rfl; exact rfl; exact bin_add64 (by omega); exact rfl; refine wl_as rfl rfl ?_; refine wl_nil ?_
        refine we_loop _ (l.length - (k + 1)) ⟨k + 1, rfl, by omega, hft, hb, rfl⟩ (by omega) ⟨rfl, by simp [lookT], trivial⟩
      · have hv' : (0 : Int) < (x.val.length : Int) := by have := List.length_pos_iff.2 hv; omega
        have hnd : badE x = true := decide_eq_true (by simp [k2, hv])
        refine wc_skip ?_; refine we_seq ?_; refine wc_seq ?_; refine wc_block ?_; refine wc_sr ?_; refine wl_mv rfl rfl ?_; refine wl_mv rfl rfl ?_; apply wl_val; apply opv_idxG tkE; exact rfl; exact rfl; exact rfl; omega; exact rfl; apply wl_val; apply opv_fa; exact fa_sE (by decide); exact rfl; exact rfl; apply wl_val; apply opv_ldW; exact rfl; assumption; exact e1_u8; exact rfl; exact rfl; refine wl_bin rfl rfl bin_neq rfl ?_; refine wl_mv rfl rfl ?_; apply wl_take; exact rfl; exact rfl; exact rfl; refine bT ?_; (with_reducible assumption); refine wl_mv rfl rfl ?_; apply wl_take; exact rfl; exact rfl; exact rfl; refine bT ?_; (with_reducible assumption); refine wl_mv rfl rfl ?_; apply wl_take; exact rfl; exact rfl; exact rfl; refine bT ?_; (with_reducible assumption); apply wl_val; apply opv_idxG tkE; exact rfl; exact rfl; exact rfl; omega; exact rfl; apply wl_take; exact rfl; exact rfl; exact rfl; refine bT ?_; (with_reducible assumption); apply wl_val; apply opv_fa; exact fa_sE (by decide); exact rfl; exact rfl; apply wl_take; exact rfl; exact rfl; exact rfl; refine bT ?_; (with_reducible assumption); apply wl_val; apply opv_ldW; exact rfl; assumption; exact e1_u8; exact rfl; exact rfl; apply wl_take; exact rfl; exact rfl; exact rfl; refine bT ?_; (with_reducible assumption); refine wl_bin rfl rfl bin_neq rfl ?_; apply wl_take; exact rfl; exact rfl; exact rfl; refine bT ?_; (with_reducible assumption); refine wl_mv rfl rfl ?_; apply wl_take; exact rfl; exact rfl; exact rfl; refine bF ?_; omega; refine wl_mv rfl rfl ?_; apply wl_take; exact rfl; exact rfl; exact rfl; refine bF ?_; omega; refine wl_mv rfl rfl ?_; apply wl_take; exact rfl; exact rfl; exact rfl; refine bF ?_; omega; apply wl_val; apply opv_idxG tkE; exact rfl; exact rfl; exact rfl; omega; exact rfl; apply wl_take; exact rfl; exact rfl; exact rfl; refine bF ?_; omega; apply wl_val; apply opv_fa; exact fa_sE (by decide); exact rfl; exact rfl; apply wl_take; exact rfl; exact rfl; exact rfl; refine bF ?_; omega; apply wl_val; apply opv_ldW; exact rfl; assumption; exact e1_by; exact rfl; exact rfl; apply wl_take; exact rfl; exact rfl; exact rfl; refine bF ?_; omega; apply wl_val; apply opv_len; exact rfl; exact tyB.sl; exact rfl; apply wl_take; exact rfl; exact rfl; exact rfl; refine bF ?_; omega; refine wl_bin rfl rfl bin_gtr rfl ?_; apply wl_take; exact rfl; exact rfl; exact rfl; refine bT ?_; (with_reducible assumption); apply wl_val; apply opv_pickF; exact rfl; refine bF ?_; omega; exact rfl; exact rfl; apply wl_val; apply opv_pickT; exact rfl; refine bT ?_; (with_reducible assumption); exact rfl; exact rfl; refine wl_ns ?_; apply wc_decT; exact rfl; (with_reducible assumption); refine wc_sr ?_; refine wl_as rfl rfl ?_; refine wl_ns ?_; refine wc_ret ?_; refine we_block_ret ?_; refine we_seq_ret ?_; refine we_loop_ret ?_; refine we_block_ret ?_; refine we_seq_ret ?_
        exact we_ret1 rfl rfl ⟨_, rfl, by rw [checkE, hbig, any_at hx hnd]; rfl, hb⟩
    · have k2' : ¬ (x.kind.toNat : Int) = 2 := fun h => k2 (e2.1 h)
      have hnd : badE x = true := decide_eq_true (by simp [k1, k2])
      refine wc_skip ?_; refine we_seq ?_; refine wc_seq ?_; refine wc_block ?_; refine wc_sr ?_; refine wl_mv rfl rfl ?_; refine wl_mv rfl rfl ?_; apply wl_val; apply opv_idxG tkE; exact rfl; exact rfl; exact rfl; omega; exact rfl; apply wl_val; apply opv_fa; exact fa_sE (by decide); exact rfl; exact rfl; apply wl_val; apply opv_ldW; exact rfl; assumption; exact e1_u8; exact rfl; exact rfl; refine wl_bin rfl rfl bin_neq rfl ?_; refine wl_mv rfl rfl ?_; apply wl_take; exact rfl; exact rfl; exact rfl; refine bT ?_; (with_reducible assumption); refine wl_mv rfl rfl ?_; apply wl_take; exact rfl; exact rfl; exact rfl; refine bT ?_; (with_reducible assumption); refine wl_mv rfl rfl ?_; apply wl_take; exact rfl; exact rfl; exact rfl; refine bT ?_; (with_reducible assumption); apply wl_val; apply opv_idxG tkE; exact rfl; exact rfl; exact rfl; omega; exact rfl; apply wl_take; exact rfl; exact rfl; exact rfl; refine bT ?_; (with_reducible assumption); apply wl_val; apply opv_fa; exact fa_sE (by decide); exact rfl; exact rfl; apply wl_take; exact rfl; exact rfl; exact rfl; refine bT ?_; (with_reducible assumption); apply wl_val; apply opv_ldW; exact rfl; assumption; exact e1_u8; exact rfl; exact rfl; apply wl_take; exact rfl; exact rfl; exact rfl; refine bT ?_; (with_reducible assumption); refine wl_bin rfl rfl bin_neq rfl ?_; apply wl_take; exact rfl; exact rfl; exact rfl; refine bT ?_; (with_reducible assumption); refine wl_mv rfl rfl ?_; apply wl_skip; exact rfl; exact rfl; exact rfl; refine bTn ?_; (with_reducible assumption); exact rfl; apply wl_skip; exact rfl; exact rfl; exact rfl; refine bTn ?_; (with_reducible assumption); exact rfl; apply wl_skip; exact rfl; exact rfl; exact rfl; refine bTn ?_; (with_reducible assumption); exact rfl; apply wl_skip; exact rfl; exact rfl; exact rfl; refine bTn ?_; (with_reducible assumption); exact rfl; apply wl_skip; exact rfl; exact rfl; exact rfl; refine bTn ?_; (with_reducible assumption); exact rfl; apply wl_skip; exact rfl; exact rfl; exact rfl; refine bTn ?_; (with_reducible assumption); exact rfl; apply wl_skip; exact rfl; exact rfl; exact rfl; refine bTn ?_; (with_reducible assumption); exact rfl; apply wl_take; exact rfl; exact rfl; exact rfl; refine bT ?_; (with_reducible assumption); apply wl_val; apply opv_pickT; exact rfl; refine bT ?_; (with_reducible assumption); exact rfl; exact rfl; apply wl_val; apply opv_pickT; exact rfl; refine bT ?_; (with_reducible assumption); exact rfl; exact rfl; refine wl_ns ?_; apply wc_condTb; exact rfl; exact rfl; refine wc_sr ?_; refine wl_as rfl rfl ?_; refine wl_ns ?_; refine wc_ret ?_; refine we_block_ret ?_; refine we_seq_ret ?_; refine we_loop_ret ?_; refine we_block_ret ?_; refine we_seq_ret ?_
      exact we_ret1 rfl rfl ⟨_, rfl, by rw [checkE, hbig, any_at hx hnd]; rfl, hb⟩
  · obtain rfl : k = l.length := by omega
    rw [List.take_length] at hbad
    refine wc_exit ?_; refine we_seq_exit ?_; refine we_loop_exit ?_; refine we_block_exit ?_; refine we_seq ?_; refine wc_sr ?_; refine wl_as rfl rfl ?_; refine wl_ns ?_; refine wc_ret ?_
    exact we_ret1 rfl rfl ⟨_, rfl, by rw [checkE, hbig, hbad]; rfl, hb⟩
/-- Each entry stands ahead of the next one. -/
def ordE : List En → Bool
  | a :: b :: l => lessE a b && ordE (b :: l)
  | _ => true
theorem ordE_iff : ∀ {l : List En}, ordE l = true ↔ ∀ i x y, l[i]? = some x → l[i + 1]? = some y → lessE x y = true
  | [] => by simp [ordE]
  | [a] => by simp [ordE]
  | a :: b :: l => by
    rw [ordE, Bool.and_eq_true, ordE_iff]
    constructor
    · rintro ⟨h1, h2⟩ i x y hx hy
      cases i with
      | zero => simp at hx hy; subst hx hy; exact h1
      | succ i => exact h2 i x y (by simpa using hx) (by simpa using hy)
    · intro h
      exact ⟨h 0 a b rfl rfl, fun i x y hx hy => h (i + 1) x y (by simpa using hx) (by simpa using hy)⟩
theorem ordered_any {A : Option Addr} {n c : Nat} {l : List En} {w : World} (hr : RdR 4 w All A (l.map enEl)) (hn : l.length = n) (hl : l.length ≤ 4294967296) (hok : ∀ x ∈ l, x.key.length ≤ maxLen) :
    CallsV Try.prog 51 #[.slice A n c] w fun v w' => v = .bool (ordE l) ∧ Below w.heap.size w w' := by
  subst hn
  have hmax : maxLen = 9223372036854775807 := rfl
  refine calls_in (N := _) Try.func51 rfl Try.ntmps51 rfl ?_; show WC _ _ _ _ _ _
  refine wc_sr ?_; refine wl_as rfl rfl ?_; refine wl_ns ?_; refine wc_seq ?_; refine wc_sr ?_; refine wl_as rfl rfl ?_; refine wl_ns ?_; refine wc_block ?_
  refine wc_loop (fun L wr m => ∃ (k : Nat), L = [(0, .slice A l.length c), (3, .int .i64 ((k + 1 : Nat) : Int))] ∧ (k = 0 ∨ k + 1 ≤ l.length) ∧ (∀ i x y, i < k → l[i]? = some x → l[i + 1]? = some y → lessE x y = true) ∧ Below w.heap.size w wr ∧ m = l.length - k)
    [(0, .slice A l.length c), (3, .int .i64 ((0 + 1 : Nat) : Int))] l.length ⟨0, rfl, .inl rfl, by omega, Below.refl _ _, rfl⟩ ⟨rfl, rfl, trivial⟩ ?_
  rintro _ w1 m ⟨k, rfl, hk, ho, hb, rfl⟩
  refine wc_seq ?_; refine wc_sr ?_; refine wl_mv rfl rfl ?_; refine wl_mv rfl rfl ?_; apply wl_val; apply opv_len; exact rfl; exact tkE.sl; exact rfl; refine wl_bin rfl rfl bin_lss rfl ?_; refine wl_ns ?_
  refine wc_cond rfl (fun h1 => ?_) (fun h1 => ?_)
  · obtain ⟨x, hx⟩ : ∃ x, l[k]? = some x := ⟨_, List.getElem?_eq_getElem (by omega)⟩
    obtain ⟨y, hy⟩ : ∃ y, l[k + 1]? = some y := ⟨_, List.getElem?_eq_getElem (by omega)⟩
    obtain ⟨b, o, cs, hA, _, _, hp, i1⟩ := RdR.at (k := 4) (by decide) hr (E := enEl x) (i := k) (by rw [List.getElem?_map, hx]; rfl)
    obtain ⟨b', o', cs2, hA', _, _, hp2, i2⟩ := RdR.at (k := 4) (by decide) hr (E := enEl y) (i := k + 1) (by rw [List.getElem?_map, hy]; rfl)
    obtain ⟨X, cx, X2, cx2, rfl, rx, _, rx2, _⟩ := enEl.rd hp
    obtain ⟨Y, cy, Y2, cy2, rfl, ry, _, ry2, _⟩ := enEl.rd hp2
    subst hA
    simp only [Option.some.injEq, Addr.mk.injEq, and_true] at hA'
    obtain ⟨rfl, rfl⟩ := hA'
    replace i1 := i1.below hb
    replace i2 := i2.below hb
    replace rx := rx.below hb
    replace ry := ry.below hb
    have hq : ∀ w', Below w1.heap.size w1 w' → CallsV Try.prog 70 #[.agg (enV x X cx X2 cx2).toArray, .agg (enV y Y cy Y2 cy2).toArray] w' fun v w2 => v = .bool (lessE x y) ∧ Below w1.heap.size w1 w2 := fun w' hw => (refLess_any (rx.below hw) (ry.below hw) (hok x (List.mem_of_getElem? hx)) (hok y (List.mem_of_getElem? hy))).mono fun v w2 ⟨hv, h2⟩ => ⟨hv, hw.trans (h2.mono hw.size)⟩
    obtain ⟨q, hqd⟩ : ∃ q, q = lessE x y := ⟨_, rfl⟩
    rw [← hqd] at hq
    cases q with
    | true =>
      refine wc_skip ?_; refine we_seq ?_; refine wc_seq ?_; refine wc_block ?_; refine wc_seq ?_
      refine wc_drawB mixed (by kernel_rfl) ?_
      apply wq_val; intro _ hw_; apply opv_move; exact rfl; exact rfl; apply wq_val; intro _ hw_; apply opv_move; exact rfl; exact rfl; apply wq_val; intro _ hw_; apply opv_bin; exact rfl; exact rfl; exact bin_sub64 (by omega); exact rfl; apply wq_val; intro _ hw_; apply opv_idxG tkE; exact rfl; exact rfl; exact natc_pred; omega; exact rfl; apply wq_val; intro _ hw_; apply opv_ldG; exact rfl; exact Wi.below (by assumption) hw_; exact sE; exact rfl; apply wq_val; intro _ hw_; apply opv_move; exact rfl; exact rfl; apply wq_val; intro _ hw_; apply opv_move; exact rfl; exact rfl; apply wq_val; intro _ hw_; apply opv_idxG tkE; exact rfl; exact rfl; exact rfl; omega; exact rfl; apply wq_val; intro _ hw_; apply opv_ldG; exact rfl; exact Wi.below (by assumption) hw_; exact sE; exact rfl
      refine wq_call (v := .bool true) ok_caissonref07_Less hq ⟨rfl, rfl, trivial⟩ rfl ?_
      apply wq_val; intro _ hw_; apply opv_not; exact rfl; exact rfl; refine wq_nil fun w1 hw1 => ?_
      replace hb := hb.trans (hw1.mono hb.size)
      refine we_seq ?_; apply wc_condFb; exact rfl; exact Bool.not_true; refine wc_skip ?_; refine we_block_norm ?_; refine we_seq ?_; refine wc_region ?_; refine wl_mv rfl rfl ?_; apply wl_val; apply opv_bin; exact rfl; exact rfl; exact bin_add64 (by omega); exact rfl; refine wl_as rfl rfl ?_; refine wl_nil ?_
      refine we_loop _ (l.length - (k + 1)) ⟨k + 1, rfl, .inr (by omega), fun i u v hi hu hv => ?_, hb, rfl⟩ (by omega) ⟨rfl, by simp [lookT], trivial⟩
      rcases Nat.lt_or_ge i k with h | h
      · exact ho i u v h hu hv
      · obtain rfl : i = k := by omega
        rw [hx] at hu; rw [hy] at hv; cases hu; cases hv; exact hqd.symm
    | false =>
      refine wc_skip ?_; refine we_seq ?_; refine wc_seq ?_; refine wc_block ?_; refine wc_seq ?_
      refine wc_drawB mixed (by kernel_rfl) ?_
      apply wq_val; intro _ hw_; apply opv_move; exact rfl; exact rfl; apply wq_val; intro _ hw_; apply opv_move; exact rfl; exact rfl; apply wq_val; intro _ hw_; apply opv_bin; exact rfl; exact rfl; exact bin_sub64 (by omega); exact rfl; apply wq_val; intro _ hw_; apply opv_idxG tkE; exact rfl; exact rfl; exact natc_pred; omega; exact rfl; apply wq_val; intro _ hw_; apply opv_ldG; exact rfl; exact Wi.below (by assumption) hw_; exact sE; exact rfl; apply wq_val; intro _ hw_; apply opv_move; exact rfl; exact rfl; apply wq_val; intro _ hw_; apply opv_move; exact rfl; exact rfl; apply wq_val; intro _ hw_; apply opv_idxG tkE; exact rfl; exact rfl; exact rfl; omega; exact rfl; apply wq_val; intro _ hw_; apply opv_ldG; exact rfl; exact Wi.below (by assumption) hw_; exact sE; exact rfl
      refine wq_call (v := .bool false) ok_caissonref07_Less hq ⟨rfl, rfl, trivial⟩ rfl ?_
      apply wq_val; intro _ hw_; apply opv_not; exact rfl; exact rfl; refine wq_nil fun w1 hw1 => ?_
      replace hb := hb.trans (hw1.mono hb.size)
      refine we_seq ?_; apply wc_condTb; exact rfl; exact Bool.not_false; refine wc_sr ?_; refine wl_as rfl rfl ?_; refine wl_ns ?_; refine wc_ret ?_; refine we_block_ret ?_; refine we_seq_ret ?_; refine we_loop_ret ?_; refine we_block_ret ?_; refine we_seq_ret ?_
      refine we_ret1 rfl rfl ⟨_, rfl, ?_, hb⟩
      congr 1
      cases h : ordE l with
      | false => rfl
      | true => rw [ordE_iff.1 h k x y hx hy] at hqd; cases hqd
  · refine wc_exit ?_; refine we_seq_exit ?_; refine we_loop_exit ?_; refine we_block_exit ?_; refine we_seq ?_; refine wc_sr ?_; refine wl_as rfl rfl ?_; refine wl_ns ?_; refine wc_ret ?_
    refine we_ret1 rfl rfl ⟨_, rfl, ?_, hb⟩
    rw [ordE_iff.2 fun i x y hx hy => ho i x y (by have := (List.getElem?_eq_some_iff.1 hy).1; omega) hx hy]
def inE (l : List En) (e : En) : Bool := l.any fun x => decide (x.key = e.key ∧ x.seq = e.seq)
theorem in_any {A B D : Option Addr} {n c b d : Nat} {l : List En} {e : En} {w : World} (hr : RdR 4 w All A (l.map enEl)) (hn : l.length = n) (re : RdB w B e.key) (hok : ∀ x ∈ l, x.key.length ≤ maxLen) (hl : l.length ≤ 4294967296) :
    CallsV Try.prog 56 #[.slice A n c, .agg (enV e B b D d).toArray] w fun v w' => v = .bool (inE l e) ∧ Below w.heap.size w w' := by
  subst hn
  have hb := Below.refl w.heap.size w
  have hmax : maxLen = 9223372036854775807 := rfl
  refine calls_in (N := _) Try.func56 rfl Try.ntmps56 rfl ?_; show WC _ _ _ _ _ _
  refine wc_sr ?_
  refine wl_box (cs := enV e B b D d) rfl rfl fun g2 w2 hg2 a2 hbx => ?_
  replace hb := hb.trans (hbx.mono hb.size)
  clear hbx
  unfold enV at a2
  have ha2 := a2
  clear a2
  refine wl_as rfl rfl ?_; refine wl_ns ?_; refine wc_seq ?_; refine wc_sr ?_; refine wl_as rfl rfl ?_; refine wl_ns ?_; refine wc_block ?_
  refine wc_loop (fun L wr m => ∃ k : Nat, L = [(0, .slice A l.length c), (3, .pointer (some ⟨g2, 0, none⟩)), (5, .int .i64 (k : Int))] ∧ k ≤ l.length ∧ inE (l.take k) e = false ∧ Below w2.heap.size w2 wr ∧ m = l.length - k)
    [(0, .slice A l.length c), (3, .pointer (some ⟨g2, 0, none⟩)), (5, .int .i64 (0 : Nat))] l.length ⟨0, rfl, by omega, by simp [inE], Below.refl _ _, rfl⟩ ⟨rfl, rfl, rfl, trivial⟩ ?_
  rintro _ w1 m ⟨k, rfl, hk, he, hb3, rfl⟩
  have a2 := Ar.bel ha2 hb3
  have hbw := hb.trans (hb3.mono hb.size)
  refine wc_seq ?_; refine wc_sr ?_; refine wl_mv rfl rfl ?_; refine wl_mv rfl rfl ?_; apply wl_val; apply opv_len; exact rfl; exact tkE.sl; exact rfl; refine wl_bin rfl rfl bin_lss rfl ?_; refine wl_ns ?_
  refine wc_cond rfl (fun h1 => ?_) (fun h1 => ?_)
  · obtain ⟨x, hx⟩ : ∃ x, l[k]? = some x := ⟨_, List.getElem?_eq_getElem (by omega)⟩
    obtain ⟨b1, o1, cs, rfl, _, _, hp, i1⟩ := RdR.at (k := 4) (by decide) hr (E := enEl x) (i := k) (by rw [List.getElem?_map, hx]; rfl)
    obtain ⟨X, cx, Y, cy, rfl, rx, _, _, _⟩ := enEl.rd hp
    replace i1 := i1.below hbw
    replace rx := rx.below hbw
    replace re := re.below hbw
    unfold enV at i1
    have het := any_take (p := fun x => decide (x.key = e.key ∧ x.seq = e.seq)) hx
    have hq : ∀ w', Below w1.heap.size w1 w' → CallsV Try.prog 10 #[.slice X x.key.length cx, .slice B e.key.length b] w' fun v w2 => v = .bool (decide (x.key = e.key)) ∧ Below w1.heap.size w1 w2 := fun w' hw => (equal_any (rx.below hw) (re.below hw) rfl rfl (hok x (List.mem_of_getElem? hx))).mono fun v w2 ⟨hv, h2⟩ => ⟨hv, hw.trans (h2.mono hw.size)⟩
    obtain ⟨q, hqd⟩ : ∃ q, q = decide (x.key = e.key) := ⟨_, rfl⟩
    rw [← hqd] at hq
    cases q with
    | false =>
      have hne : ¬ x.key = e.key := of_decide_eq_false hqd.symm
      refine wc_skip ?_; refine we_seq ?_; refine wc_seq ?_; refine wc_block ?_; refine wc_seq ?_
      refine wc_drawB mixed (by kernel_rfl) ?_
      apply wq_val; intro _ hw_; apply opv_move; exact rfl; exact rfl; apply wq_val; intro _ hw_; apply opv_move; exact rfl; exact rfl; apply wq_val; intro _ hw_; apply opv_idxG tkE; exact rfl; exact rfl; exact rfl; omega; exact rfl; apply wq_val; intro _ hw_; apply opv_fa; exact fa_sE (by decide); exact rfl; exact rfl; apply wq_val; intro _ hw_; apply opv_ldW; exact rfl; exact Wi.below (by assumption) hw_; exact e1_by; exact rfl; exact rfl; apply wq_val; intro _ hw_; apply opv_fa; exact fa_sE (by decide); exact rfl; exact rfl; apply wq_val; intro _ hw_; apply opv_ldX; exact rfl; exact Ar.bel (by assumption) hw_; exact e1_by; exact rfl; exact rfl
      refine wq_call (v := .bool false) ok_caissonref01_Equal hq ⟨rfl, rfl, trivial⟩ rfl ?_
      apply wq_val; intro _ hw_; apply opv_move; exact rfl; exact rfl; apply wq_skip; exact rfl; exact rfl; exact rfl; exact bR2; exact rfl; apply wq_skip; exact rfl; exact rfl; exact rfl; exact bR2; exact rfl; apply wq_skip; exact rfl; exact rfl; exact rfl; exact bR2; exact rfl; apply wq_skip; exact rfl; exact rfl; exact rfl; exact bR2; exact rfl; apply wq_skip; exact rfl; exact rfl; exact rfl; exact bR2; exact rfl; apply wq_skip; exact rfl; exact rfl; exact rfl; exact bR2; exact rfl; apply wq_skip; exact rfl; exact rfl; exact rfl; exact bR2; exact rfl; apply wq_skip; exact rfl; exact rfl; exact rfl; exact bR2; exact rfl; apply wq_val; intro _ hw_; apply opv_pickF; exact rfl; exact rfl; exact rfl; exact rfl; refine wq_nil fun w1 hw1 => ?_
      replace hb3 := hb3.trans (hw1.mono hb3.size)
      refine we_seq ?_; apply wc_condFb; exact rfl; exact rfl; refine wc_skip ?_; refine we_block_norm ?_; refine we_seq ?_; refine wc_region ?_; refine wl_mv rfl rfl ?_; apply wl_val; apply opv_bin; exact rfl; exact rfl; exact bin_add64 (by omega); exact rfl; refine wl_as rfl rfl ?_; refine wl_nil ?_
      refine we_loop _ (l.length - (k + 1)) ⟨k + 1, rfl, by omega, by unfold inE at he ⊢; rw [het, he, decide_eq_false (fun h => hne h.1)]; rfl, hb3, rfl⟩ (by omega) ⟨rfl, rfl, by simp [lookT], trivial⟩
    | true =>
      have hye : x.key = e.key := of_decide_eq_true hqd.symm
      by_cases h2 : x.seq = e.seq
      · have h2' : (x.seq : Int) = (e.seq : Int) := by omega
        refine wc_skip ?_; refine we_seq ?_; refine wc_seq ?_; refine wc_block ?_; refine wc_seq ?_
        refine wc_drawB mixed (by kernel_rfl) ?_
        apply wq_val; intro _ hw_; apply opv_move; exact rfl; exact rfl; apply wq_val; intro _ hw_; apply opv_move; exact rfl; exact rfl; apply wq_val; intro _ hw_; apply opv_idxG tkE; exact rfl; exact rfl; exact rfl; omega; exact rfl; apply wq_val; intro _ hw_; apply opv_fa; exact fa_sE (by decide); exact rfl; exact rfl; apply wq_val; intro _ hw_; apply opv_ldW; exact rfl; exact Wi.below (by assumption) hw_; exact e1_by; exact rfl; exact rfl; apply wq_val; intro _ hw_; apply opv_fa; exact fa_sE (by decide); exact rfl; exact rfl; apply wq_val; intro _ hw_; apply opv_ldX; exact rfl; exact Ar.bel (by assumption) hw_; exact e1_by; exact rfl; exact rfl
        refine wq_call (v := .bool true) ok_caissonref01_Equal hq ⟨rfl, rfl, trivial⟩ rfl ?_
        apply wq_val; intro _ hw_; apply opv_move; exact rfl; exact rfl; apply wq_take; exact rfl; exact rfl; exact rfl; exact rfl; apply wq_val; intro _ hw_; apply opv_move; exact rfl; exact rfl; apply wq_take; exact rfl; exact rfl; exact rfl; exact rfl; apply wq_val; intro _ hw_; apply opv_move; exact rfl; exact rfl; apply wq_take; exact rfl; exact rfl; exact rfl; exact rfl; apply wq_val; intro _ hw_; apply opv_idxG tkE; exact rfl; exact rfl; exact rfl; omega; exact rfl; apply wq_take; exact rfl; exact rfl; exact rfl; exact rfl; apply wq_val; intro _ hw_; apply opv_fa; exact fa_sE (by decide); exact rfl; exact rfl; apply wq_take; exact rfl; exact rfl; exact rfl; exact rfl; apply wq_val; intro _ hw_; apply opv_ldW; exact rfl; exact Wi.below (by assumption) hw_; exact e1_u64; exact rfl; exact rfl; apply wq_take; exact rfl; exact rfl; exact rfl; exact rfl; apply wq_val; intro _ hw_; apply opv_fa; exact fa_sE (by decide); exact rfl; exact rfl; apply wq_take; exact rfl; exact rfl; exact rfl; exact rfl; apply wq_val; intro _ hw_; apply opv_ldX; exact rfl; exact Ar.bel (by assumption) hw_; exact e1_u64; exact rfl; exact rfl; apply wq_take; exact rfl; exact rfl; exact rfl; exact rfl; apply wq_val; intro _ hw_; apply opv_bin; exact rfl; exact rfl; exact bin_eql; exact rfl; apply wq_val; intro _ hw_; apply opv_pickT; exact rfl; exact rfl; exact rfl; exact rfl; refine wq_nil fun w1 hw1 => ?_
        replace hb3 := hb3.trans (hw1.mono hb3.size)
        refine we_seq ?_; apply wc_decT; exact rfl; (with_reducible assumption); refine wc_sr ?_; refine wl_as rfl rfl ?_; refine wl_ns ?_; refine wc_ret ?_; refine we_block_ret ?_; refine we_seq_ret ?_; refine we_loop_ret ?_; refine we_block_ret ?_; refine we_seq_ret ?_
        exact we_ret1 rfl rfl ⟨_, rfl, by rw [inE, any_at hx (decide_eq_true ⟨hye, h2⟩)], hb.trans (hb3.mono hb.size)⟩
      · have h2' : ¬ (x.seq : Int) = (e.seq : Int) := by omega
        refine wc_skip ?_; refine we_seq ?_; refine wc_seq ?_; refine wc_block ?_; refine wc_seq ?_
        refine wc_drawB mixed (by kernel_rfl) ?_
        apply wq_val; intro _ hw_; apply opv_move; exact rfl; exact rfl; apply wq_val; intro _ hw_; apply opv_move; exact rfl; exact rfl; apply wq_val; intro _ hw_; apply opv_idxG tkE; exact rfl; exact rfl; exact rfl; omega; exact rfl; apply wq_val; intro _ hw_; apply opv_fa; exact fa_sE (by decide); exact rfl; exact rfl; apply wq_val; intro _ hw_; apply opv_ldW; exact rfl; exact Wi.below (by assumption) hw_; exact e1_by; exact rfl; exact rfl; apply wq_val; intro _ hw_; apply opv_fa; exact fa_sE (by decide); exact rfl; exact rfl; apply wq_val; intro _ hw_; apply opv_ldX; exact rfl; exact Ar.bel (by assumption) hw_; exact e1_by; exact rfl; exact rfl
        refine wq_call (v := .bool true) ok_caissonref01_Equal hq ⟨rfl, rfl, trivial⟩ rfl ?_
        apply wq_val; intro _ hw_; apply opv_move; exact rfl; exact rfl; apply wq_take; exact rfl; exact rfl; exact rfl; exact rfl; apply wq_val; intro _ hw_; apply opv_move; exact rfl; exact rfl; apply wq_take; exact rfl; exact rfl; exact rfl; exact rfl; apply wq_val; intro _ hw_; apply opv_move; exact rfl; exact rfl; apply wq_take; exact rfl; exact rfl; exact rfl; exact rfl; apply wq_val; intro _ hw_; apply opv_idxG tkE; exact rfl; exact rfl; exact rfl; omega; exact rfl; apply wq_take; exact rfl; exact rfl; exact rfl; exact rfl; apply wq_val; intro _ hw_; apply opv_fa; exact fa_sE (by decide); exact rfl; exact rfl; apply wq_take; exact rfl; exact rfl; exact rfl; exact rfl; apply wq_val; intro _ hw_; apply opv_ldW; exact rfl; exact Wi.below (by assumption) hw_; exact e1_u64; exact rfl; exact rfl; apply wq_take; exact rfl; exact rfl; exact rfl; exact rfl; apply wq_val; intro _ hw_; apply opv_fa; exact fa_sE (by decide); exact rfl; exact rfl; apply wq_take; exact rfl; exact rfl; exact rfl; exact rfl; apply wq_val; intro _ hw_; apply opv_ldX; exact rfl; exact Ar.bel (by assumption) hw_; exact e1_u64; exact rfl; exact rfl; apply wq_take; exact rfl; exact rfl; exact rfl; exact rfl; apply wq_val; intro _ hw_; apply opv_bin; exact rfl; exact rfl; exact bin_eql; exact rfl; apply wq_val; intro _ hw_; apply opv_pickT; exact rfl; exact rfl; exact rfl; exact rfl; refine wq_nil fun w1 hw1 => ?_
        replace hb3 := hb3.trans (hw1.mono hb3.size)
        refine we_seq ?_; apply wc_decF; exact rfl; (with_reducible assumption); refine wc_skip ?_; refine we_block_norm ?_; refine we_seq ?_; refine wc_region ?_; refine wl_mv rfl rfl ?_; apply wl_val; apply opv_bin; exact rfl; exact rfl; exact bin_add64 (by omega); exact rfl; refine wl_as rfl rfl ?_; refine wl_nil ?_
        refine we_loop _ (l.length - (k + 1)) ⟨k + 1, rfl, by omega, by unfold inE at he ⊢; rw [het, he, decide_eq_false (fun h => h2 h.2)]; rfl, hb3, rfl⟩ (by omega) ⟨rfl, rfl, by simp [lookT], trivial⟩
  · obtain rfl : k = l.length := by omega
    rw [List.take_length] at he
    refine wc_exit ?_; refine we_seq_exit ?_; refine we_loop_exit ?_; refine we_block_exit ?_; refine we_seq ?_; refine wc_sr ?_; refine wl_as rfl rfl ?_; refine wl_ns ?_; refine wc_ret ?_
    exact we_ret1 rfl rfl ⟨_, rfl, by rw [he], hbw⟩
/-- The first of the key that isn't above. -/
def getE (l : List En) (key : List UInt8) (m : Nat) : Option En := l.find? fun x => decide (x.key = key ∧ x.seq ≤ m)
def getV (o : Option En) (v : Value) : Prop := match o with
  | some x => ∃ (X : Option Addr) (cx : Nat) (Y : Option Addr) (cy : Nat), v = .tuple #[.agg (enV x X cx Y cy).toArray, .bool true]
  | none => v = .tuple #[.agg zE.toArray, .bool false]
theorem find_take {α : Type} {p : α → Bool} {l : List α} {k : Nat} {x : α} (h : l[k]? = some x) (hn : (l.take k).find? p = none) : (l.take (k + 1)).find? p = if p x then some x else none := by
  rw [take_getR h, List.find?_append, hn]; simp [List.find?_cons]; split <;> simp_all
theorem find_pre {α : Type} {p : α → Bool} {l : List α} {k : Nat} {x : α} (h : (l.take k).find? p = some x) : l.find? p = some x := by
  rw [← List.take_append_drop k l, List.find?_append, h]; rfl
theorem get_any {A K : Option Addr} {n c kc kn at' : Nat} {l : List En} {key : List UInt8} {w : World} (hr : RdR 4 w All A (l.map enEl)) (hn : l.length = n) (rk : RdB w K key) (hkn : key.length = kn) (hok : ∀ x ∈ l, x.key.length ≤ maxLen) (hl : l.length ≤ 4294967296) :
    CallsV Try.prog 55 #[.slice A n c, .slice K kn kc, .int .u64 (at' : Int)] w fun v w' => getV (getE l key at') v ∧ Below w.heap.size w w' := by
  subst hn hkn
  have hb := Below.refl w.heap.size w
  have hmax : maxLen = 9223372036854775807 := rfl
  refine calls_in (N := _) Try.func55 rfl Try.ntmps55 rfl ?_; show WC _ _ _ _ _ _
  refine wc_sr ?_
  refine wl_new (cs := zE) zeroE rfl fun g2 w2 hg2 a2 hbx => ?_
  have h0 := hb.trans (hbx.mono hb.size)
  clear hbx hb
  have ha2 := a2
  clear a2
  refine wl_as rfl rfl ?_; refine wl_ns ?_; refine wc_seq ?_; refine wc_sr ?_; refine wl_as rfl rfl ?_; refine wl_ns ?_; refine wc_block ?_
  refine wc_loop (fun L wr m => ∃ k : Nat, L = [(0, .slice A l.length c), (1, .slice K key.length kc), (2, .int .u64 (at' : Int)), (6, .pointer (some ⟨g2, 0, none⟩)), (8, .int .i64 (k : Int))] ∧ k ≤ l.length ∧ getE (l.take k) key at' = none ∧ Below w2.heap.size w2 wr ∧ m = l.length - k)
    [(0, .slice A l.length c), (1, .slice K key.length kc), (2, .int .u64 (at' : Int)), (6, .pointer (some ⟨g2, 0, none⟩)), (8, .int .i64 (0 : Nat))] l.length ⟨0, rfl, by omega, by simp [getE], Below.refl _ _, rfl⟩ ⟨rfl, rfl, rfl, rfl, rfl, trivial⟩ ?_
  rintro _ w1 m ⟨k, rfl, hk, he, hb, rfl⟩
  have a2 := Ar.bel ha2 hb
  have hbw := h0.trans (hb.mono h0.size)
  refine wc_seq ?_; refine wc_sr ?_; refine wl_mv rfl rfl ?_; refine wl_mv rfl rfl ?_; apply wl_val; apply opv_len; exact rfl; exact tkE.sl; exact rfl; refine wl_bin rfl rfl bin_lss rfl ?_; refine wl_ns ?_
  refine wc_cond rfl (fun h1 => ?_) (fun h1 => ?_)
  · obtain ⟨x, hx⟩ : ∃ x, l[k]? = some x := ⟨_, List.getElem?_eq_getElem (by omega)⟩
    obtain ⟨b1, o1, cs, rfl, _, _, hp, i1⟩ := RdR.at (k := 4) (by decide) hr (E := enEl x) (i := k) (by rw [List.getElem?_map, hx]; rfl)
    obtain ⟨X, cx, Y, cy, rfl, rx, _, _, _⟩ := enEl.rd hp
    replace i1 := i1.below hbw
    have i2 := i1
    unfold enV at i2
    have het : (l.take (k + 1)).find? (fun x => decide (x.key = key ∧ x.seq ≤ at')) = if x.key = key ∧ x.seq ≤ at' then some x else none := by rw [find_take hx (show List.find? _ _ = none from he)]; simp only [decide_eq_true_eq]
    refine wc_skip ?_; refine we_seq ?_; refine wc_seq ?_; refine wc_block ?_; refine wc_sr ?_; refine wl_mv rfl rfl ?_; refine wl_mv rfl rfl ?_; apply wl_val; apply opv_idxG tkE; exact rfl; exact rfl; exact rfl; omega; exact rfl; apply wl_val; apply opv_fa; exact fa_sE (by decide); exact rfl; exact rfl; apply wl_val; apply opv_ldW; exact rfl; assumption; exact e1_by; exact rfl; exact rfl; refine wl_mv rfl rfl ?_
    refine wl_call ok_caissonref01_Equal (equal_any (rx.below hbw) (rk.below hbw) rfl rfl (hok x (List.mem_of_getElem? hx))) ⟨rfl, rfl, trivial⟩ rfl ?_; rintro _ _ ⟨rfl, hbx⟩; replace i1 := Wi.below i1 hbx; replace i2 := Wi.below i2 hbx; replace a2 := Ar.bel a2 hbx; replace hb := hb.trans (hbx.mono hb.size); clear hbx
    replace hbw := h0.trans (hb.mono h0.size)
    by_cases h1 : x.key = key
    · by_cases h2 : x.seq ≤ at'
      · have h2' : (x.seq : Int) ≤ (at' : Int) := by omega
        rw [if_pos ⟨h1, h2⟩] at het
        refine wl_mv rfl rfl ?_; apply wl_take; exact rfl; exact rfl; exact rfl; refine bT ?_; (with_reducible assumption); refine wl_mv rfl rfl ?_; apply wl_take; exact rfl; exact rfl; exact rfl; refine bT ?_; (with_reducible assumption); refine wl_mv rfl rfl ?_; apply wl_take; exact rfl; exact rfl; exact rfl; refine bT ?_; (with_reducible assumption); apply wl_val; apply opv_idxG tkE; exact rfl; exact rfl; exact rfl; omega; exact rfl; apply wl_take; exact rfl; exact rfl; exact rfl; refine bT ?_; (with_reducible assumption); apply wl_val; apply opv_fa; exact fa_sE (by decide); exact rfl; exact rfl; apply wl_take; exact rfl; exact rfl; exact rfl; refine bT ?_; (with_reducible assumption); apply wl_val; apply opv_ldW; exact rfl; assumption; exact e1_u64; exact rfl; exact rfl; apply wl_take; exact rfl; exact rfl; exact rfl; refine bT ?_; (with_reducible assumption); refine wl_mv rfl rfl ?_; apply wl_take; exact rfl; exact rfl; exact rfl; refine bT ?_; (with_reducible assumption); refine wl_bin rfl rfl bin_leq rfl ?_; apply wl_val; apply opv_pickT; exact rfl; refine bT ?_; (with_reducible assumption); exact rfl; exact rfl; refine wl_ns ?_; apply wc_decT; exact rfl; (with_reducible assumption); refine wc_sr ?_; refine wl_mv rfl rfl ?_; refine wl_mv rfl rfl ?_; apply wl_val; apply opv_idxG tkE; exact rfl; exact rfl; exact rfl; omega; exact rfl; apply wl_val; apply opv_ldG; exact rfl; assumption; exact sE; exact rfl
        refine wl_storeS (cs' := enV x X cx Y cy) sE a2 rfl rfl rfl rfl fun w5 a2 hG _ => ?_
        replace hb := hG.belowI hbw (by omega) hbw.size
        refine wl_as rfl rfl ?_; refine wl_ns ?_; refine wc_ret ?_; refine we_block_ret ?_; refine we_seq_ret ?_; refine we_loop_ret ?_; refine we_block_ret ?_; refine we_seq_ret ?_
        refine we_retC1 rfl rfl rfl a2 sE ⟨_, rfl, ?_, hb⟩
        rw [getE, find_pre het]; exact ⟨_, _, _, _, rfl⟩
      · have h2' : ¬ (x.seq : Int) ≤ (at' : Int) := by omega
        rw [if_neg (fun h => h2 h.2)] at het
        refine wl_mv rfl rfl ?_; apply wl_take; exact rfl; exact rfl; exact rfl; refine bT ?_; (with_reducible assumption); refine wl_mv rfl rfl ?_; apply wl_take; exact rfl; exact rfl; exact rfl; refine bT ?_; (with_reducible assumption); refine wl_mv rfl rfl ?_; apply wl_take; exact rfl; exact rfl; exact rfl; refine bT ?_; (with_reducible assumption); apply wl_val; apply opv_idxG tkE; exact rfl; exact rfl; exact rfl; omega; exact rfl; apply wl_take; exact rfl; exact rfl; exact rfl; refine bT ?_; (with_reducible assumption); apply wl_val; apply opv_fa; exact fa_sE (by decide); exact rfl; exact rfl; apply wl_take; exact rfl; exact rfl; exact rfl; refine bT ?_; (with_reducible assumption); apply wl_val; apply opv_ldW; exact rfl; assumption; exact e1_u64; exact rfl; exact rfl; apply wl_take; exact rfl; exact rfl; exact rfl; refine bT ?_; (with_reducible assumption); refine wl_mv rfl rfl ?_; apply wl_take; exact rfl; exact rfl; exact rfl; refine bT ?_; (with_reducible assumption); refine wl_bin rfl rfl bin_leq rfl ?_; apply wl_val; apply opv_pickT; exact rfl; refine bT ?_; (with_reducible assumption); exact rfl; exact rfl; refine wl_ns ?_; apply wc_decF; exact rfl; (with_reducible assumption); refine wc_skip ?_; refine we_block_norm ?_; refine we_seq ?_; refine wc_region ?_; refine wl_mv rfl rfl ?_; apply wl_val; apply opv_bin; exact rfl; exact rfl; exact bin_add64 (by omega); exact rfl; refine wl_as rfl rfl ?_; refine wl_nil ?_
        refine we_loop _ (l.length - (k + 1)) ⟨k + 1, rfl, by omega, het, hb, rfl⟩ (by omega) ⟨rfl, rfl, rfl, rfl, by simp [lookT], trivial⟩
    · rw [if_neg (fun h => h1 h.1)] at het
      refine wl_mv rfl rfl ?_; apply wl_skip; exact rfl; exact rfl; exact rfl; refine bFn ?_; (with_reducible assumption); exact rfl; apply wl_skip; exact rfl; exact rfl; exact rfl; refine bFn ?_; (with_reducible assumption); exact rfl; apply wl_skip; exact rfl; exact rfl; exact rfl; refine bFn ?_; (with_reducible assumption); exact rfl; apply wl_skip; exact rfl; exact rfl; exact rfl; refine bFn ?_; (with_reducible assumption); exact rfl; apply wl_skip; exact rfl; exact rfl; exact rfl; refine bFn ?_; (with_reducible assumption); exact rfl; apply wl_skip; exact rfl; exact rfl; exact rfl; refine bFn ?_; (with_reducible assumption); exact rfl; apply wl_skip; exact rfl; exact rfl; exact rfl; refine bFn ?_; (with_reducible assumption); exact rfl; apply wl_val; apply opv_pickF; exact rfl; refine bF ?_; (with_reducible assumption); exact rfl; exact rfl; refine wl_ns ?_; apply wc_condFb; exact rfl; exact rfl; refine wc_skip ?_; refine we_block_norm ?_; refine we_seq ?_; refine wc_region ?_; refine wl_mv rfl rfl ?_; apply wl_val; apply opv_bin; exact rfl; exact rfl; exact bin_add64 (by omega); exact rfl; refine wl_as rfl rfl ?_; refine wl_nil ?_
      refine we_loop _ (l.length - (k + 1)) ⟨k + 1, rfl, by omega, het, hb, rfl⟩ (by omega) ⟨rfl, rfl, rfl, rfl, by simp [lookT], trivial⟩
  · obtain rfl : k = l.length := by omega
    rw [List.take_length] at he
    refine wc_exit ?_; refine we_seq_exit ?_; refine we_loop_exit ?_; refine we_block_exit ?_; refine we_seq ?_; refine wc_sr ?_
    refine wl_val (opv_build (vs := []) (cs := zE) trivial (by kernel_rfl)) rfl ?_
    refine wl_storeS (cs' := zE) sE a2 rfl rfl rfl rfl fun w5 a2 hG _ => ?_
    replace hb := hG.belowI hbw (by omega) hbw.size
    refine wl_as rfl rfl ?_; refine wl_ns ?_; refine wc_ret ?_
    refine we_retC1 rfl rfl rfl a2 sE ⟨_, rfl, ?_, hb⟩
    rw [he]; rfl
end Go.Proofs.Ytpnckagibkdcpaa
