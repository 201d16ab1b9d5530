/-
  The texts of this proof, joined: Zb, Zd, Iv, Ya, Xe, Va, Wc, Wd, Vb, Vc, Wj, Wk, Vd, Ve, Vf, Vg, Xf, Xg.
-/
import Derived.Test.YtaacnknniaipmaaPakM2
import Derived.Test.YtaacnknniaipmaaPakM1
import Derived.Deep.MidRow
import Derived.Laws.CopyOwn
import Derived.Lib.MakeNoZero
import Derived.Laws.Externs

/-
  The engine's rules over what a call holds: blocks are made, read and written, rows are made, appended to and set, and the list of pieces keeps count. Nothing here names the program.
-/
namespace Go.Proofs.Ytaacnknniaipmaa
open Go.RowKit

section
variable {P : Program} {N : Nat} {ops : Array Oper} {Q : Exit → Act → World → Prop} {rest : List Oper} {L : FL} {w0 w : World} {M : BS} {H : List Cd} {t e : TypeId} {g : Nat} {cs cs' : List Value} {z : Value} {bytes k : Nat}
/-! #### Blocks -/
theorem ws_st {x y : Operand} {ty : TypeId} {pos : String} {aft : Array Edge} {kk : Nat} {T : TypeId} {u : Value} (hs : St M w0 w H) (i : Nat) (hx : look L x = some (.pointer (some ⟨g, kk, none⟩))) (hi : nthC H i = some (.blk g T cs)) (E : Cell1 P e) (hk : Nat.blt kk cs.length = true)
    (hy : look L y = some u) (h1 : u.oneCell' = true)
    (h : ∀ w', St M w0 w' (setC H i (.blk g T (cs.set kk u))) → WL P N ops Q rest L w') :
    WL P N ops Q (⟨none, .store e x y, ty, pos, aft, none⟩ :: rest) L w :=
  wl_stA E (hs.ar i hi) hx (by simpa [Nat.blt_eq] using hk) hy h1 fun _ a2 g2 _ => h _ (hs.updA i hi a2 g2)
theorem ws_stS {x y : Operand} {ty T : TypeId} {pos : String} {aft : Array Edge} (hs : St M w0 w H) (i : Nat) (hx : look L x = some (.pointer (some ⟨g, 0, none⟩))) (hi : nthC H i = some (.blk g T cs)) (hy : look L y = some (.agg cs'.toArray)) (S : StT P t cs'.length) (hl : cs.length = cs'.length) (h1 : cs'.all (·.oneCell') = true)
    (h : ∀ w', St M w0 w' (setC H i (.blk g T cs')) → WL P N ops Q rest L w') :
    WL P N ops Q (⟨none, .store t x y, ty, pos, aft, none⟩ :: rest) L w :=
  wl_storeS S (hs.ar i hi) hx hy hl h1 fun _ a2 g2 _ => h _ (hs.updA i hi a2 g2)
theorem ws_box {d : Nat} {x : Operand} {ty : TypeId} {pos : String} {aft : Array Edge} (hs : St M w0 w H) (hx : look L x = some (.agg cs.toArray)) (hd : Nat.blt d N = true)
    (h : ∀ g w', St M w0 w' (.blk g t cs :: H) → WL P N ops Q rest ((d, .pointer (some ⟨g, 0, none⟩)) :: L) w') :
    WL P N ops Q (⟨some d, .box t x, ty, pos, aft, none⟩ :: rest) L w :=
  wl_box hx hd fun g _ hg a hb => h g _ (hs.newA hb hg a)
theorem ws_new {d : Nat} {ty : TypeId} {pos : String} {aft : Array Edge} (hs : St M w0 w H) (hz : (P.info? t).map (·.zero) = some (some (.agg cs.toArray))) (hd : Nat.blt d N = true)
    (h : ∀ g w', St M w0 w' (.blk g t cs :: H) → WL P N ops Q rest ((d, .pointer (some ⟨g, 0, none⟩)) :: L) w') :
    WL P N ops Q (⟨some d, .alloc t, ty, pos, aft, none⟩ :: rest) L w :=
  wl_new hz hd fun g _ hg a hb => h g _ (hs.newA hb hg a)
theorem ws_var {d : Nat} {x : Operand} {ty1 ty2 : TypeId} {p1 p2 : String} {f1 f2 : Array Edge} {zs : List Value} (hs : St M w0 w H) (hz : (P.info? t).map (·.zero) = some (some (.agg zs.toArray))) (S : StT P t cs.length) (hl : zs.length = cs.length)
    (hx : ∀ p, look ((d, p) :: L) x = some (.agg cs.toArray)) (h1 : cs.all (·.oneCell') = true) (hd : Nat.blt d N = true)
    (h : ∀ g w', St M w0 w' (.blk g t cs :: H) → WL P N ops Q rest ((d, .pointer (some ⟨g, 0, none⟩)) :: L) w') :
    WL P N ops Q (⟨some d, .alloc t, ty1, p1, f1, none⟩ :: ⟨none, .store t (.tmp d) x, ty2, p2, f2, none⟩ :: rest) L w :=
  wl_var hz S hl hx h1 hd fun g _ hg a hb => h g _ (hs.newA hb hg a)
/-! #### Rows of one cell an element -/
theorem ws_bs {d len : Nat} {ps : List (Nat × Operand)} {vs : List Value} {ty : TypeId} {pos : String} {aft : Array Edge} (hs : St M w0 w H) (T : Row1 P t e z bytes) (hp : PLooks L 0 ps vs) (hl : vs.length = len) (hle : len ≤ 16777216) (hd : Nat.blt d N = true)
    (h : ∀ A w', St M w0 w' (.ow e A len len vs :: H) → WL P N ops Q rest ((d, .slice A len len) :: L) w') :
    WL P N ops Q (⟨some d, .buildSlice t len ps.toArray, ty, pos, aft, none⟩ :: rest) L w :=
  wl_bs T hp hl hle hd fun A w' ho hb _ => h A w' (hs.newO hb ho (Nat.le_refl _))
theorem ws_mk {d : Nat} {x y : Operand} {ty : TypeId} {pos : String} {aft : Array Edge} {n c : Nat} {p q : Int} {k1 k2 : IntKind} (hs : St M w0 w H) (T : Row1 P t e z bytes) (hx : look L x = some (.int k1 p)) (hy : look L y = some (.int k2 q)) (hp : p = (n : Int)) (hq : q = (c : Int)) (hnc : n ≤ c)
    (hb : bytes * c ≤ 281474976710656) (hm : c ≤ maxLen) (hd : Nat.blt d N = true)
    (h : ∀ A w', St M w0 w' (.ow e A n c (List.replicate n z) :: H) → WL P N ops Q rest ((d, .slice A n c) :: L) w') :
    WL P N ops Q (⟨some d, .makeSlice t x y, ty, pos, aft, none⟩ :: rest) L w :=
  wl_mk T hx hy hp hq hnc hb hm hd fun A w' ho hb _ => h A w' (hs.newO hb ho (Nat.le_refl _))
theorem ws_app {d : Nat} {s x : Operand} {ty : TypeId} {pos : String} {aft : Array Edge} {A : Option Addr} {n c : Nat} {xs : List Value} {B : Option Addr} {m c' : Nat} {ys : List Value} (hs : St M w0 w H) (i : Nat) (hx0 : look L s = some (.slice A n c)) (hi : nthC H i = some (.ow e A n c xs)) (T : Row1 P t e z bytes)
    (hx : look L x = some (.slice B m c')) (hr : Rd w B m ys) (h1 : ∀ u ∈ ys, u.oneCell' = true)
    (hbytes : (n + m) * bytes ≤ 140737488355328) (hmax : n + m ≤ maxLen) (hd : Nat.blt d N = true)
    (h : ∀ A' c' w', St M w0 w' (setC H i (.ow e A' (n + m) c' (xs ++ ys))) → WL P N ops Q rest ((d, .slice A' (n + m) c') :: L) w') :
    WL P N ops Q (⟨some d, .call { callee := .builtin .append, args := #[s, x], argTypes := #[t, t] }, ty, pos, aft, none⟩ :: rest) L w :=
  wl_app T hx0 (hs.ow i hi) hx hr h1 hbytes hmax (Nat.zero_le _) hd fun A' c' w' ho hg hat => h A' c' w' (hs.updO i hi ho hg (at_new hat))
theorem ws_push {d1 d2 len : Nat} {ps : List (Nat × Operand)} {vs : List Value} {s : Operand} {ty1 ty2 : TypeId} {p1 p2 : String} {f1 f2 : Array Edge} {A : Option Addr} {n c : Nat} {xs : List Value} (hs : St M w0 w H) (i : Nat) (hx0 : look L s = some (.slice A n c)) (hi : nthC H i = some (.ow e A n c xs)) (T : Row1 P t e z bytes)
    (hp : PLooks L 0 ps vs) (hl : vs.length = len) (hle : len ≤ 16777216) (hs1 : look ((d1, .slice (some ⟨w.heap.size, 0, none⟩) len len) :: L) s = some (.slice A n c))
    (hbytes : (n + len) * bytes ≤ 140737488355328) (hmax : n + len ≤ maxLen) (hd1 : Nat.blt d1 N = true) (hd2 : Nat.blt d2 N = true)
    (h : ∀ p A' c' w', St M w0 w' (setC H i (.ow e A' (n + len) c' (xs ++ vs))) → WL P N ops Q rest ((d2, .slice A' (n + len) c') :: (d1, p) :: L) w') :
    WL P N ops Q (⟨some d1, .buildSlice t len ps.toArray, ty1, p1, f1, none⟩ :: ⟨some d2, .call { callee := .builtin .append, args := #[s, .tmp d1], argTypes := #[t, t] }, ty2, p2, f2, none⟩ :: rest) L w :=
  wl_push T hx0 (hs.ow i hi) hp hl hle hs1 hbytes hmax (Nat.zero_le _) hd1 hd2 fun p A' c' w' ho hg hat => h p A' c' w' (hs.updO i hi ho hg hat)
theorem ws_set {d1 : Nat} {x i y : Operand} {ty1 ty2 : TypeId} {p1 p2 : String} {f1 f2 : Array Edge} {A : Option Addr} {n c kk : Nat} {ik : IntKind} {q : Int} {u : Value} {xs : List Value} (hs : St M w0 w H) (j : Nat) (hx : look L x = some (.slice A n c)) (hj : nthC H j = some (.ow e A n c xs)) (T : Row1 P t e z bytes)
    (hi : look L i = some (.int ik q)) (hq : q = (kk : Int)) (hk : kk < n)
    (hy : ∀ p, look ((d1, p) :: L) y = some u) (h1 : u.oneCell' = true) (hd1 : Nat.blt d1 N = true)
    (h : ∀ p w', St M w0 w' (setC H j (.ow e A n c (xs.set kk u))) → WL P N ops Q rest ((d1, p) :: L) w') :
    WL P N ops Q (⟨some d1, .indexAddr t x i, ty1, p1, f1, none⟩ :: ⟨none, .store e (.tmp d1) y, ty2, p2, f2, none⟩ :: rest) L w :=
  wl_set T hx hi (hs.ow j hj) hq hk hy h1 hd1 fun p w' ho hg _ => h p w' (hs.updO j hj ho hg (.inl rfl))
/-! #### Rows of elements -/
/-- What is known by its cells alone. -/
def rawEl (cs : List Value) : El := ⟨fun _ _ cs' => cs' = cs, fun h _ _ => h⟩
theorem St.raw (hs : St M w0 w H) (cs : List Value) : St M w0 w (.ce (rawEl cs) cs :: H) := ⟨hs.1, NoB, fun _ h => h.elim, rfl, hs.2.mono fun _ _ h => ⟨h, id⟩⟩
theorem St.nilO (hs : St M w0 w H) (e : TypeId) : St M w0 w (.ow e none 0 0 [] :: H) := ⟨hs.1, NoB, fun _ h => h.elim, ⟨by simp, Ow.nil _ _ _⟩, hs.2.mono fun _ _ h => ⟨h, id⟩⟩
theorem St.nilG (hs : St M w0 w H) (k : Nat) (e : TypeId) : St M w0 w (.rg k e none 0 [] :: H) := ⟨hs.1, NoB, fun _ h => h.elim, ⟨by simp, OwR.nil _ _ _⟩, hs.2.mono fun _ _ h => ⟨h, id⟩⟩
/-- Pieces in front are told as one. -/
theorem St.pack {H1 : List Cd} (hs : St M w0 w (H1 ++ H)) (c : Cd) (h : ∀ w S, Sat w H1 S → c.P w S) : St M w0 w (c :: H) := by
  obtain ⟨T, hT, h1, h2⟩ := hs.2.append
  exact ⟨hs.1, T, hT, h _ _ h1, h2⟩
theorem Sat.split {c : Cd} {S : BS} (h : Sat w (c :: H) S) {H1 : List Cd} (hc : ∀ T, c.P w T → Sat w H1 T) : Sat w (H1 ++ H) S := by
  obtain ⟨T, hT, h1, h2⟩ := h
  exact Sat.join hT (hc _ h1) h2
theorem RdR.raw {w : World} {S : BS} {A : Option Addr} {css : List (List Value)} (h : RdR k w S A (css.map rawEl)) : Rd w A (css.length * k) css.flatten ∧ ∀ cs ∈ css, cs.length = k := by
  obtain ⟨css', h1, h2, _⟩ := h
  have he : css' = css := by
    apply List.ext_getElem?
    intro i
    cases hi : css'[i]? with
    | none => rw [List.getElem?_eq_none]; have := h1.1; rw [List.length_map] at this; have := List.getElem?_eq_none_iff.1 hi; omega
    | some cs =>
      obtain ⟨_, E, hE, hp⟩ := h1.2 i cs hi
      rw [List.getElem?_map] at hE
      cases hc : css[i]? with
      | none => rw [hc] at hE; cases hE
      | some x => rw [hc] at hE; cases hE; have hp' : cs = x := hp; rw [hp']
  subst he
  rw [List.length_map] at h2
  exact ⟨h2, h1.ks⟩
theorem grp_raw {w : World} {S : BS} {css : List (List Value)} (hk : ∀ cs ∈ css, cs.length = k) : Grp k w S (css.map rawEl) css := ⟨by simp, fun i cs hcs => ⟨hk cs (List.mem_of_getElem? hcs), rawEl cs, by simp [hcs], rfl⟩⟩
theorem OwR.raw {w : World} {S : BS} {A : Option Addr} {css : List (List Value)} {base c : Nat} (h : OwR k e w base S A c (css.map rawEl)) : w.ownsRow base e k (.slice A css.length c) css.length css.flatten ∧ ∀ cs ∈ css, cs.length = k := by
  obtain ⟨css', h1, h2⟩ := h
  have he : css' = css := by
    apply List.ext_getElem?
    intro i
    cases hi : css'[i]? with
    | none => rw [List.getElem?_eq_none]; have := h1.1; rw [List.length_map] at this; have := List.getElem?_eq_none_iff.1 hi; omega
    | some cs =>
      obtain ⟨_, E, hE, hp⟩ := h1.2 i cs hi
      rw [List.getElem?_map] at hE
      cases hc : css[i]? with
      | none => rw [hc] at hE; cases hE
      | some x => rw [hc] at hE; cases hE; have hp' : cs = x := hp; rw [hp']
  subst he
  rw [List.length_map] at h2
  exact ⟨h2, h1.ks⟩
/-- append(s, x...): elements that are known by their cells alone. -/
theorem ws_appR {d : Nat} {s x : Operand} {ty : TypeId} {pos : String} {aft : Array Edge} {A : Option Addr} {n c : Nat} {els : List El} {B : Option Addr} {m c' : Nat} {css : List (List Value)} {S' : BS} (hs : St M w0 w H) (i : Nat) (hx0 : look L s = some (.slice A n c)) (hi : nthC H i = some (.rg k e A c els)) (T : RowK P t e k z bytes)
    (hn : els.length = n) (hx : look L x = some (.slice B m c')) (hr : RdR k w S' B (css.map rawEl)) (hm : css.length = m) (h1 : ∀ u ∈ css.flatten, u.oneCell' = true)
    (hbytes : (n + m) * bytes ≤ 140737488355328) (hmax : n + m ≤ maxLen) (hd : Nat.blt d N = true)
    (h : ∀ A' c' w', St M w0 w' (setC H i (.rg k e A' c' (els ++ css.map rawEl))) → WL P N ops Q rest ((d, .slice A' (n + m) c') :: L) w') :
    WL P N ops Q (⟨some d, .call { callee := .builtin .append, args := #[s, x], argTypes := #[t, t] }, ty, pos, aft, none⟩ :: rest) L w := fun a ha => by
  subst hn hm
  obtain ⟨S, hc, hS, hK⟩ := hs.upd i hi
  obtain ⟨css0, hg, ho⟩ := hc.2
  obtain ⟨hr, hk⟩ := RdR.raw hr
  refine wpList_appG T rfl s x rfl (ha.eval hx0) ho (ha.eval hx) hr h1 hbytes hmax (Nat.zero_le _) fun A' c' w' ho' hgr hat => ?_
  refine h A' c' w' (hK w' (.rg k e A' c' (els ++ css.map rawEl)) (fun b => S b ∨ w.heap.size ≤ b) (Mod.of_gr hgr hc.1) ⟨fun a ha => at_in (at_new hat) hc.1 a ha, css0 ++ css, ?_, ?_⟩ fun _ _ h => h) _ (ha.put hd _)
  · have hg' : Grp k w (fun b => S b ∧ But A b) (css.map rawEl) css := grp_raw hk
    refine (hg.append hg').move hgr.size fun b hlt hb => ⟨⟨.inl hb.1, fun a' ha' => ?_⟩, hgr.block b hlt ?_⟩
    · subst ha'
      rcases hat with e | e
      · cases A with
        | none => simp at e
        | some a0 => simp only [Option.map_some, Option.some.injEq] at e; rw [e]; exact hb.2 a0 rfl
      · simp only [Option.map_some, Option.some.injEq] at e; omega
    · intro hk
      cases A with
      | none => simp at hk
      | some a0 => simp only [Option.map_some, Option.some.injEq] at hk; exact hb.2 a0 rfl hk
  · have : (els ++ css.map rawEl).length = els.length + css.length := by simp
    rw [this, List.flatten_append]; exact ho'
/-- append(s, x): an element that is known by its cells alone. -/
theorem ws_pushR {d1 d2 : Nat} {x : Operand} {s : Operand} {ty1 ty2 : TypeId} {p1 p2 : String} {f1 f2 : Array Edge} {A : Option Addr} {n c : Nat} {els : List El} (hs : St M w0 w H) (i : Nat) (hs1 : ∀ p, look ((d1, p) :: L) s = some (.slice A n c)) (hi : nthC H i = some (.rg k e A c els)) (T : RowK P t e k z bytes)
    (hn : els.length = n) (hx : ∃ v, look L x = some v ∧ v.cells = cs.toArray) (hl : cs.length = k) (h1 : cs.all (·.oneCell') = true) (hk : k ≤ 16777216)
    (hbytes : (n + 1) * bytes ≤ 140737488355328) (hmax : n + 1 ≤ maxLen) (hd1 : Nat.blt d1 N = true) (hd2 : Nat.blt d2 N = true)
    (h : ∀ p A' c' w', St M w0 w' (setC H i (.rg k e A' c' (els ++ [rawEl cs]))) → WL P N ops Q rest ((d2, .slice A' (n + 1) c') :: (d1, p) :: L) w') :
    WL P N ops Q (⟨some d1, .buildSlice t 1 #[(0, x)], ty1, p1, f1, none⟩ :: ⟨some d2, .call { callee := .builtin .append, args := #[s, .tmp d1], argTypes := #[t, t] }, ty2, p2, f2, none⟩ :: rest) L w := by
  obtain ⟨S, hc, hS, hK⟩ := hs.upd i hi
  refine wl_pushG (css' := [cs]) (els' := [rawEl cs]) (ps := [(0, x)]) T hs1 hc.2 hn ⟨rfl, hx, hl, trivial⟩ (grp_raw (css := [cs]) (by simpa using hl)) rfl (by simpa using h1) (by simpa using hk) (by decide) hbytes hmax (Nat.zero_le _) hd1 hd2 fun p A' c' w' hO hG hat => h p A' c' w' ?_
  exact hK w' (.rg k e A' c' (els ++ [rawEl cs])) (fun b => S b ∨ w.heap.size ≤ b) (Mod.of_gr hG hc.1) ⟨fun a ha => at_in hat hc.1 a ha, hO.mono (Nat.le_refl _) fun b _ h => .inl h⟩ fun _ _ h => h
/-- A beginning of a row. -/
theorem OwR.pre {w : World} {S : BS} {A : Option Addr} {base c m : Nat} {els : List El} (h : OwR k e w base S A c els) (hm : m ≤ els.length) : OwR k e w base S A c (els.take m) := by
  obtain ⟨css, hg, ho⟩ := h
  have hl : (els.take m).length = m := by simp; omega
  refine ⟨css.take m, hg.take m, ?_⟩
  rw [hl]
  refine ⟨by have := (hg.take m).len; rw [hl] at this; exact this, ?_⟩
  rcases ho.2 with ⟨hv, hn⟩ | ⟨g, cap, cur, hv, hg', h1, h2, h3, h4, h5⟩
  · injection hv with hA _ hc
    have : m = 0 := by omega
    subst this
    exact .inl ⟨by rw [hA, hc], rfl⟩
  · injection hv with hA _ hc
    subst hA hc
    refine .inr ⟨g, c, cur, rfl, hg', h1, by omega, h3, h4, ?_⟩
    rw [← flat_take m hg.ks, ← h5, List.take_take, Nat.min_eq_left (Nat.mul_le_mul_right _ hm)]
theorem St.pre {A : Option Addr} {c m : Nat} {els : List El} (hs : St M w0 w (.rg k e A c els :: H)) (hm : m ≤ els.length) : St M w0 w (.rg k e A c (els.take m) :: H) := by
  obtain ⟨T, hT, hc, hr⟩ := hs.2
  exact ⟨hs.1, T, hT, ⟨hc.1, hc.2.pre hm⟩, hr⟩
end
end Go.Proofs.Ytaacnknniaipmaa

/-
  The bytes of a constant string, over pieces: made, marked, and read from then on. Nothing here names the program.
-/
namespace Go.Proofs.Ytaacnknniaipmaa
open Go.RowKit

section
variable {P : Program} {N : Nat} {ops : Array Oper} {Q : Exit → Act → World → Prop} {rest : List Oper} {L : FL} {w0 w : World} {M : BS} {H : List Cd} {t e : TypeId} {bytes : Nat}
end
end Go.Proofs.Ytaacnknniaipmaa

/-
  The engine's rules for calls through an interface value, and for elements of rows that are known by their cells and are written in place. Nothing here names the program.
-/
namespace Go.Proofs.Ytaacnknniaipmaa
open Go.RowKit

section
variable {P : Program} {N : Nat} {ops : Array Oper} {Q : Exit → Act → World → Prop} {rest : List Oper} {L : FL} {w : World}
end

/-! #### Rows that are known by their cells, written in place -/
section
variable {P : Program} {N : Nat} {ops : Array Oper} {Q : Exit → Act → World → Prop} {rest : List Oper} {L : FL} {w0 w : World} {M : BS} {H : List Cd} {t e : TypeId} {g : Nat} {cs cs' : List Value} {z : Value} {bytes k : Nat}
/-- A row of the call's own that is known by its cells, where it has elements, lies at the start of a block. -/
theorem OwR.form {S : BS} {A : Option Addr} {base c : Nat} {els : List El} (h : OwR k e w base S A c els) (hn : 0 < els.length) : ∃ g, A = some ⟨g, 0, none⟩ := by
  obtain ⟨css, _, h2⟩ := h
  rcases h2.2 with ⟨hv, h0⟩ | ⟨g, cap, cur, hv, _⟩
  · omega
  · injection hv with hA; exact ⟨g, hA⟩
end
end Go.Proofs.Ytaacnknniaipmaa

/-
  Rows whose elements lie apart from one another; pieces told as one; bytes of one's own whose values are not known. Nothing here names the program.
-/
namespace Go.Proofs.Ytaacnknniaipmaa
open Go.RowKit

/-- Elements and their cells, piece by piece. -/
def zipCe : List El → List (List Value) → List Cd
  | E :: els, cs :: css => .ce E cs :: zipCe els css
  | _, _ => []
/-- A row of the call's own whose elements lie apart. -/
def rsC (k : Nat) (e : TypeId) (A : Option Addr) (c : Nat) (els : List El) : Ck := ⟨fun w S => ∃ css : List (List Value), css.length = els.length ∧ Sat w (.rg k e A c (css.map rawEl) :: zipCe els css) S, fun ⟨css, hl, h⟩ hz hm => ⟨css, hl, h.move hz hm⟩⟩
theorem zipCe_grp {k : Nat} {w : World} : ∀ {els : List El} {css : List (List Value)} {S : BS}, Sat w (zipCe els css) S → css.length = els.length → (∀ cs ∈ css, cs.length = k) → Grp k w S els css
  | [], [], S, _, _, _ => Grp.nil _ _ _
  | E :: els, cs :: css, S, ⟨T, hT, hc, hr⟩, h, hk => by
    have h1 := zipCe_grp hr (by simpa using h) fun cs hcs => hk cs (List.mem_cons_of_mem _ hcs)
    exact (Grp.one (El.mono hc fun b _ h => hT b h) (hk cs List.mem_cons_self)).append (h1.mono fun b _ h => h.1)
  | [], _ :: _, _, _, h, _ => by simp at h
  | _ :: _, [], _, _, h, _ => by simp at h
section
variable {w0 w : World} {M : BS} {H H1 H2 : List Cd} {k : Nat} {e : TypeId} {A : Option Addr} {c : Nat} {els : List El}
theorem Sat.mapC {w : World} {c c' : Cd} {H : List Cd} {S : BS} (h : Sat w (c :: H) S) (hc : ∀ T, c.P w T → c'.P w T) : Sat w (c' :: H) S := by
  obtain ⟨T, hT, h1, h2⟩ := h
  exact ⟨T, hT, hc T h1, h2⟩
/-- Where the elements lie apart, the row is a row of elements too. -/
theorem rs_rg {T : BS} (h : (rsC k e A c els).P w T) : (Cd.rg k e A c els).P w T := by
  obtain ⟨css, hl, T1, hT1, h1, h2⟩ := h
  obtain ⟨ho, hk⟩ := OwR.raw h1.2
  refine ⟨fun a ha => hT1 _ (h1.1 a ha), css, (zipCe_grp h2 hl hk).mono fun b _ h => ⟨h.1, fun a ha hb => h.2 (by rw [hb]; exact h1.1 a ha)⟩, by rw [← hl]; exact ho⟩
theorem St.weak (hs : St M w0 w (.ck (rsC k e A c els) :: H)) : St M w0 w (.rg k e A c els :: H) := hs.map fun _ h => h.mapC fun _ h => rs_rg h
end
section
variable {P : Program} {N : Nat} {ops : Array Oper} {Q : Exit → Act → World → Prop} {rest : List Oper} {L : FL} {w0 w : World} {M : BS} {H : List Cd} {t e : TypeId} {cs : List Value} {z : Value} {bytes k : Nat}
end
end Go.Proofs.Ytaacnknniaipmaa

/-
  Types of packets; walks over ints, words and truth of session.
-/
namespace Go.Proofs.Ytaacnknniaipmaa
open Go.RowKit

theorem tyIs : Row1 Try.prog 104 3 (.int .i64 0) 8 := ⟨Try.underlying104, by kernel_rfl, rfl, by rw [Try.underlying3]⟩
theorem tyWs : Row1 Try.prog 71 22 (.int .u64 0) 8 := ⟨Try.underlying71, by kernel_rfl, rfl, by rw [Try.underlying22]⟩
def iVs (l : List Int) : List Value := l.map fun n => .int .i64 n
def wVs (l : List Nat) : List Value := l.map fun n : Nat => .int .u64 (n : Int)
theorem wordsB_snoc (l : List Nat) (n : Nat) : wordsB (l ++ [n]) = wordsB l ++ putU n := by simp [wordsB]
theorem putU10 (n : Nat) (h : n < 2 ^ 64) : (putU n).length ≤ 10 := putU_le h
theorem wordsB_len : ∀ (l : List Nat), (∀ n ∈ l, n < 2 ^ 64) → (wordsB l).length ≤ 10 * l.length
  | [], _ => by simp [wordsB]
  | n :: l, h => by
    have := wordsB_len l fun m hm => h m (List.mem_cons_of_mem _ hm)
    have := putU10 n (h n List.mem_cons_self)
    rw [show wordsB (n :: l) = putU n ++ wordsB l by simp [wordsB], List.length_append, List.length_cons]; omega
/-- New bytes are handed back, as a piece. -/
def RetW (w : World) (xs : List UInt8) (v : Value) (w' : World) : Prop := ∃ (A : Option Addr) (c : Nat), v = .slice A xs.length c ∧ St NoB w w' [.ow 5 A xs.length c (bvs xs)]
def WrdI (w : World) (ns : List Nat) (A : Option Addr) (c : Nat) : FL → World → Nat → Prop := fun L wr m =>
  ∃ (k : Nat) (P : Option Addr) (cp : Nat), L = [(3, .slice P (wordsB (ns.take k)).length cp), (6, .slice A ns.length c), (7, .int .i64 (ns.length : Int)), (8, .int .i64 (k : Int))] ∧ k ≤ ns.length ∧
    St NoB w wr [.ow 5 P (wordsB (ns.take k)).length cp (bvs (wordsB (ns.take k)))] ∧ m = ns.length - k
theorem words_any {A : Option Addr} {n c : Nat} {ns : List Nat} {w : World} (hr : Rd w A ns.length (wVs ns)) (hn : ns.length = n) (hk : ∀ m ∈ ns, m < 2 ^ 64) (hl : ns.length ≤ 1048576) :
    CallsV Try.prog 46 #[.slice A n c] w (RetW w (wordsB ns)) := by
  subst hn
  have hs := (St.init w).nilO 5
  have hmax : maxLen = 9223372036854775807 := rfl
  refine calls_in (N := _) Try.func46 rfl Try.ntmps46 rfl ?_; show WC _ _ _ _ _ _
  refine wc_sr ?_; refine wl_as rfl rfl ?_; refine wl_ns ?_; refine wc_sr ?_; refine wl_as rfl rfl ?_; refine wl_ns ?_; refine wc_seq ?_; refine wc_sr ?_; refine wl_mv rfl rfl ?_; apply wl_val; apply opv_len; exact rfl; exact tyWs.sl; exact rfl; refine wl_mv rfl rfl ?_; refine wl_ns ?_; refine wc_block ?_
  refine wc_loop (WrdI w ns A c) [(3, .slice none 0 0), (6, .slice A ns.length c), (7, .int .i64 (ns.length : Int)), (8, .int .i64 (0 : Nat))] ns.length ⟨0, none, 0, rfl, Nat.zero_le _, hs, rfl⟩ ⟨rfl, rfl, rfl, rfl, trivial⟩ ?_
  clear hs
  rintro _ w1 m ⟨k, P, cp, rfl, hk', hs, rfl⟩
  refine wc_sr ?_; refine wl_bin rfl rfl bin_lss rfl ?_; refine wl_ns ?_; refine wc_seq ?_
  refine wc_cond rfl (fun h1 => ?_) (fun h1 => ?_)
  · obtain ⟨x, hx⟩ : ∃ x, ns[k]? = some x := ⟨_, List.getElem?_eq_getElem (by omega)⟩
    have hxl := hk x (List.mem_of_getElem? hx)
    have hpl := putU10 x hxl
    have htl := wordsB_len (ns.take k) fun m hm => hk m (List.mem_of_mem_take hm)
    have htk := take_getR hx
    have hlk := List.length_take_le k ns
    have hv : (wVs ns)[k]? = some (.int .u64 (x : Int)) := by simp [wVs, hx]
    refine wc_skip ?_; refine we_seq ?_; refine wc_seq ?_; refine wc_block ?_; refine wc_sr ?_
    refine wl_val (opv_idxR (kk := k) (u := .int .u64 (x : Int)) tyWs rfl rfl (hr.below hs.bel) rfl hv) rfl ?_
    refine wl_val (opv_loadR (kk := k) (u := .int .u64 (x : Int)) tyWs rfl (hr.below hs.bel) hv) rfl ?_
    refine wl_as rfl rfl ?_; refine wl_ns ?_; refine wc_region ?_; refine wl_mv rfl rfl ?_; refine wl_mv rfl rfl ?_
    refine wl_call ok_codec_PutU (putU_any x hxl _) ⟨rfl, trivial⟩ rfl ?_
    rintro _ _ ⟨X, cx, rfl, o_, hbx⟩
    replace hs := hs.newO hbx o_ (Nat.le_refl _)
    clear hbx o_
    refine ws_app hs 1 rfl rfl tyB rfl (hs.ow 0 rfl).rd (by simp [bvs, bv, Value.oneCell']) (by omega) (by simp only [maxLen]; omega) rfl ?_
    clear hs; intro Y cy _ hs; dsimp only [setC] at hs
    replace hs := hs.drop 0 rfl
    dsimp only [delC] at hs
    rw [← List.length_append, ← bvs_append, ← wordsB_snoc, ← htk] at hs
    rw [← List.length_append, ← wordsB_snoc, ← htk]
    refine wl_as rfl rfl ?_; refine wl_nil ?_; refine we_block_norm ?_; refine we_seq ?_; refine wc_region ?_; apply wl_val; apply opv_bin; exact rfl; exact rfl; exact bin_add64 (by omega); exact rfl; refine wl_mv rfl rfl ?_; refine wl_nil ?_
    exact we_loop _ (ns.length - (k + 1)) ⟨k + 1, Y, cy, rfl, by omega, hs, rfl⟩ (by omega) ⟨rfl, rfl, rfl, by rw [show ((k + 1 : Nat) : Int) = (k : Int) + 1 by omega]; rfl, trivial⟩
  · obtain rfl : k = ns.length := by omega
    rw [List.take_length] at hs ⊢
    refine wc_exit ?_; refine we_seq_exit ?_; refine we_loop_exit ?_; refine we_block_exit ?_; refine we_seq ?_; refine wc_sr ?_; refine wl_mv rfl rfl ?_; refine wl_as rfl rfl ?_; refine wl_ns ?_; refine wc_ret ?_
    exact we_ret1 rfl rfl ⟨_, rfl, P, cp, rfl, hs⟩
theorem wrap_uI (n : Int) : IntKind.u64.wrap n = (uI n : Int) := by
  unfold uI
  rw [Int.toNat_of_nonneg (Int.emod_nonneg _ (by decide))]
  rfl
theorem wrap_iU {n : Nat} (h : n < 2 ^ 64) : IntKind.i64.wrap (n : Int) = iU n := by
  have h' : (n : Int) < 18446744073709551616 := by omega
  unfold iU
  split
  · exact IntWalk.i64_in _ (by omega)
  · rename_i hn
    have e : (n : Int) % (2 ^ IntKind.i64.bits : Int) = n := Int.emod_eq_of_lt (by omega) (by show (n : Int) < 18446744073709551616; exact h')
    have hg : (n : Int) ≥ (2 ^ (IntKind.i64.bits - 1) : Int) := by show (9223372036854775808 : Int) ≤ n; omega
    unfold IntKind.wrap
    simp only [e]
    rw [if_pos (by simp only [Bool.and_eq_true, decide_eq_true_eq]; exact ⟨rfl, hg⟩)]
    rfl
theorem intsB_snoc (l : List Int) (n : Int) : intsB (l ++ [n]) = intsB l ++ putU (uI n) := by rw [intsB, List.map_append, List.map_singleton, wordsB_snoc]; rfl
theorem intsB_len (l : List Int) : (intsB l).length ≤ 10 * l.length := by
  have := wordsB_len (l.map uI) (by intro n hn; obtain ⟨m, _, rfl⟩ := List.mem_map.1 hn; exact uI_lt m)
  rw [List.length_map] at this; exact this
def IntI (w : World) (ns : List Int) (A : Option Addr) (c : Nat) : FL → World → Nat → Prop := fun L wr m =>
  ∃ (k : Nat) (P : Option Addr) (cp : Nat), L = [(3, .slice P (intsB (ns.take k)).length cp), (6, .slice A ns.length c), (7, .int .i64 (ns.length : Int)), (8, .int .i64 (k : Int))] ∧ k ≤ ns.length ∧
    St NoB w wr [.ow 5 P (intsB (ns.take k)).length cp (bvs (intsB (ns.take k)))] ∧ m = ns.length - k
theorem sints_any {A : Option Addr} {n c : Nat} {ns : List Int} {w : World} (hr : Rd w A ns.length (iVs ns)) (hn : ns.length = n) (hl : ns.length ≤ 1048576) :
    CallsV Try.prog 45 #[.slice A n c] w (RetW w (intsB ns)) := by
  subst hn
  have hs := (St.init w).nilO 5
  have hmax : maxLen = 9223372036854775807 := rfl
  refine calls_in (N := _) Try.func45 rfl Try.ntmps45 rfl ?_; show WC _ _ _ _ _ _
  refine wc_sr ?_; refine wl_as rfl rfl ?_; refine wl_ns ?_; refine wc_sr ?_; refine wl_as rfl rfl ?_; refine wl_ns ?_; refine wc_seq ?_; refine wc_sr ?_; refine wl_mv rfl rfl ?_; apply wl_val; apply opv_len; exact rfl; exact tyIs.sl; exact rfl; refine wl_mv rfl rfl ?_; refine wl_ns ?_; refine wc_block ?_
  refine wc_loop (IntI w ns A c) [(3, .slice none 0 0), (6, .slice A ns.length c), (7, .int .i64 (ns.length : Int)), (8, .int .i64 (0 : Nat))] ns.length ⟨0, none, 0, rfl, Nat.zero_le _, hs, rfl⟩ ⟨rfl, rfl, rfl, rfl, trivial⟩ ?_
  clear hs
  rintro _ w1 m ⟨k, P, cp, rfl, hk', hs, rfl⟩
  refine wc_sr ?_; refine wl_bin rfl rfl bin_lss rfl ?_; refine wl_ns ?_; refine wc_seq ?_
  refine wc_cond rfl (fun h1 => ?_) (fun h1 => ?_)
  · obtain ⟨x, hx⟩ : ∃ x, ns[k]? = some x := ⟨_, List.getElem?_eq_getElem (by omega)⟩
    have hxl := uI_lt x
    have hpl := putU10 (uI x) hxl
    have htl := intsB_len (ns.take k)
    have htk := take_getR hx
    have hlk := List.length_take_le k ns
    have hv : (iVs ns)[k]? = some (.int .i64 x) := by simp [iVs, hx]
    refine wc_skip ?_; refine we_seq ?_; refine wc_seq ?_; refine wc_block ?_; refine wc_sr ?_
    refine wl_val (opv_idxR (kk := k) (u := .int .i64 x) tyIs rfl rfl (hr.below hs.bel) rfl hv) rfl ?_
    refine wl_val (opv_loadR (kk := k) (u := .int .i64 x) tyIs rfl (hr.below hs.bel) hv) rfl ?_
    refine wl_as rfl rfl ?_; refine wl_ns ?_; refine wc_region ?_; refine wl_mv rfl rfl ?_; refine wl_mv rfl rfl ?_
    refine wl_val (opv_convR rfl Try.underlying3 Try.underlying22 (wrap_uI x)) rfl ?_
    refine wl_call ok_codec_PutU (putU_any (uI x) hxl _) ⟨rfl, trivial⟩ rfl ?_
    rintro _ _ ⟨X, cx, rfl, o_, hbx⟩
    replace hs := hs.newO hbx o_ (Nat.le_refl _)
    clear hbx o_
    refine ws_app hs 1 rfl rfl tyB rfl (hs.ow 0 rfl).rd (by simp [bvs, bv, Value.oneCell']) (by omega) (by simp only [maxLen]; omega) rfl ?_
    clear hs; intro Y cy _ hs; dsimp only [setC] at hs
    replace hs := hs.drop 0 rfl
    dsimp only [delC] at hs
    rw [← List.length_append, ← bvs_append, ← intsB_snoc, ← htk] at hs
    rw [← List.length_append, ← intsB_snoc, ← htk]
    refine wl_as rfl rfl ?_; refine wl_nil ?_; refine we_block_norm ?_; refine we_seq ?_; refine wc_region ?_; apply wl_val; apply opv_bin; exact rfl; exact rfl; exact bin_add64 (by omega); exact rfl; refine wl_mv rfl rfl ?_; refine wl_nil ?_
    exact we_loop _ (ns.length - (k + 1)) ⟨k + 1, Y, cy, rfl, by omega, hs, rfl⟩ (by omega) ⟨rfl, rfl, rfl, by rw [show ((k + 1 : Nat) : Int) = (k : Int) + 1 by omega]; rfl, trivial⟩
  · obtain rfl : k = ns.length := by omega
    rw [List.take_length] at hs ⊢
    refine wc_exit ?_; refine we_seq_exit ?_; refine we_loop_exit ?_; refine we_block_exit ?_; refine we_seq ?_; refine wc_sr ?_; refine wl_mv rfl rfl ?_; refine wl_as rfl rfl ?_; refine wl_ns ?_; refine wc_ret ?_
    exact we_ret1 rfl rfl ⟨_, rfl, P, cp, rfl, hs⟩
theorem struth_any {b : Bool} {w : World} : CallsV Try.prog 71 #[.bool b] w fun v w' => v = .int .i64 (tI b) ∧ w = w' := by
  refine calls_in (N := _) Try.func71 rfl Try.ntmps71 rfl ?_; show WC _ _ _ _ _ _
  cases b with
  | true => (refine wc_sr ?_; refine wl_as rfl rfl ?_; refine wl_ns ?_; refine wc_seq ?_; refine wc_sr ?_; refine wl_mv rfl rfl ?_; refine wl_ns ?_; apply wc_condTb; exact rfl; exact rfl; refine wc_sr ?_; refine wl_as rfl rfl ?_; refine wl_ns ?_; refine wc_ret ?_; refine we_seq_ret ?_; exact we_ret1 rfl rfl ⟨_, rfl, rfl, rfl⟩)
  | false => (refine wc_sr ?_; refine wl_as rfl rfl ?_; refine wl_ns ?_; refine wc_seq ?_; refine wc_sr ?_; refine wl_mv rfl rfl ?_; refine wl_ns ?_; apply wc_condFb; exact rfl; exact rfl; refine wc_skip ?_; refine we_seq ?_; refine wc_sr ?_; refine wl_as rfl rfl ?_; refine wl_ns ?_; refine wc_ret ?_; exact we_ret1 rfl rfl ⟨_, rfl, rfl, rfl⟩)
end Go.Proofs.Ytaacnknniaipmaa

/-
  Walks over the sum's steps, its table and its bitwise answer.
-/
namespace Go.Proofs.Ytaacnknniaipmaa
open Go.RowKit

theorem fill_upV {α : Type} {l : List α} {z x : α} {k m : Nat} (h : l[k]? = some x) : (l.take k ++ List.replicate (m + 1) z).set k x = l.take (k + 1) ++ List.replicate m z := by
  have hk := (List.getElem?_eq_some_iff.1 h).1
  have e : (l.take k).length = k := by simp; omega
  rw [List.set_append_right _ _ (by omega), e, Nat.sub_self, List.replicate_succ, List.set_cons_zero, List.take_add_one, h]
  simp

theorem step_any (x : Nat) (hx : x < 4294967296) (w : World) : CallsV Try.prog 100 #[.int .u32 x] w fun v w' => v = .int .u32 (stepC x : Nat) ∧ w = w' := by
  refine calls_in (N := _) Try.func100 rfl Try.ntmps100 rfl ?_; show WC _ _ _ _ _ _
  refine wc_sr ?_; refine wl_as rfl rfl ?_; refine wl_ns ?_; refine wc_seq ?_; refine wc_sr ?_; refine wl_mv rfl rfl ?_
  refine wl_val (opv_bin (b := .int .u32 (1 : Nat)) rfl rfl (bin_and rfl hx (by decide))) rfl ?_
  refine wl_bin rfl rfl bin_eql rfl ?_; refine wl_ns ?_
  refine wc_cond rfl (fun h => ?_) (fun h => ?_)
  · have h1 : x % 2 = 1 := by rw [← Nat.and_one_is_mod]; omega
    refine wc_sr ?_; refine wl_mv rfl rfl ?_
    refine wl_val (opv_bin (b := .int .u64 (1 : Nat)) rfl rfl (bin_shr hx)) rfl ?_
    refine wl_val (opv_bin (b := .int .u32 (3988292384 : Nat)) rfl rfl (bin_xor rfl (by simp only [IntKind.bits]; omega) (by decide))) rfl ?_
    refine wl_as rfl rfl ?_; refine wl_ns ?_; refine wc_ret ?_; refine we_seq_ret ?_
    exact we_ret1 rfl rfl ⟨_, rfl, by rw [stepC_odd h1], rfl⟩
  · have h1 : ¬ x % 2 = 1 := by rw [← Nat.and_one_is_mod]; omega
    refine wc_skip ?_; refine we_seq ?_; refine wc_sr ?_; refine wl_mv rfl rfl ?_
    refine wl_val (opv_bin (b := .int .u64 (1 : Nat)) rfl rfl (bin_shr hx)) rfl ?_
    refine wl_as rfl rfl ?_; refine wl_ns ?_; refine wc_ret ?_
    exact we_ret1 rfl rfl ⟨_, rfl, by rw [stepC_even h1], rfl⟩
theorem eight_any (x : Nat) (hx : x < 4294967296) (w : World) : CallsV Try.prog 99 #[.int .u32 x] w fun v w' => v = .int .u32 (eightC x : Nat) ∧ w = w' := by
  refine calls_in (N := _) Try.func99 rfl Try.ntmps99 rfl ?_; show WC _ _ _ _ _ _
  refine wc_sr ?_; refine wl_as rfl rfl ?_; refine wl_ns ?_; refine wc_seq ?_; refine wc_sr ?_; refine wl_mv rfl rfl ?_; refine wl_ns ?_; refine wc_block ?_
  refine wc_loop (fun L wr m => ∃ (k y : Nat), L = [(0, .int .u32 (y : Int)), (3, .int .i64 (k : Int))] ∧ k ≤ 8 ∧ y < 4294967296 ∧ stepsC (8 - k) y = eightC x ∧ w = wr ∧ m = 8 - k)
    [(0, .int .u32 (x : Int)), (3, .int .i64 (0 : Nat))] 8 ⟨0, x, rfl, by omega, hx, rfl, rfl, rfl⟩ ⟨rfl, rfl, trivial⟩ ?_
  rintro _ _ m ⟨k, y, rfl, hk, hy, he, rfl, rfl⟩
  refine wc_sr ?_; refine wl_bin rfl rfl bin_lss rfl ?_; refine wl_ns ?_; refine wc_seq ?_
  refine wc_cond rfl (fun h1 => ?_) (fun h1 => ?_)
  · refine wc_skip ?_; refine we_seq ?_; refine wc_seq ?_; refine wc_block ?_; refine wc_region ?_; refine wl_mv rfl rfl ?_
    refine wl_call ok_crc_step (step_any y hy w) ⟨rfl, trivial⟩ rfl ?_
    rintro _ _ ⟨rfl, rfl⟩
    refine wl_as rfl rfl ?_; refine wl_nil ?_; refine we_block_norm ?_; refine we_seq ?_; refine wc_region ?_; apply wl_val; apply opv_bin; exact rfl; exact rfl; exact bin_add64 (by omega); exact rfl; refine wl_mv rfl rfl ?_; refine wl_nil ?_
    refine we_loop [(0, .int .u32 (stepC y : Nat)), (3, .int .i64 ((k + 1 : Nat) : Int))] (8 - (k + 1)) ⟨k + 1, stepC y, rfl, by omega, step_lt hy, ?_, rfl, rfl⟩ (by omega) ⟨rfl, rfl, trivial⟩
    rw [← he, show 8 - k = (8 - (k + 1)) + 1 by omega]; rfl
  · obtain rfl : k = 8 := by omega
    have e : y = eightC x := he
    refine wc_exit ?_; refine we_seq_exit ?_; refine we_loop_exit ?_; refine we_block_exit ?_; refine we_seq ?_; refine wc_sr ?_; refine wl_mv rfl rfl ?_; refine wl_as rfl rfl ?_; refine wl_ns ?_; refine wc_ret ?_
    exact we_ret1 rfl rfl ⟨_, rfl, by rw [e], rfl⟩

/-- The table's cells. -/
def tabC : List Value := (List.range 256).map fun i => .int .u32 (eightC i : Nat)
theorem tabC_length : tabC.length = 256 := by simp [tabC]
theorem tabC_get {k : Nat} (h : k < 256) : tabC[k]? = some (.int .u32 (eightC k : Nat)) := by
  rw [tabC, List.getElem?_map, List.getElem?_range h]; rfl
theorem tabC_one : ∀ v ∈ tabC, v.oneCell' = true := by
  intro v hv
  simp only [tabC, List.mem_map] at hv
  obtain ⟨_, _, rfl⟩ := hv; rfl
theorem tyU : Cell1 Try.prog 90 := ⟨by kernel_rfl, by rw [Try.underlying90]⟩
theorem tyA_zero : (Try.prog.info? 182).map (·.zero) = some (some (.agg (List.replicate 256 (Value.int .u32 0)).toArray)) := by kernel_rfl
theorem tyA_size : (Try.prog.info? 182).map (·.size) = some 256 := by kernel_rfl

theorem table_any (w : World) : CallsV Try.prog 90 #[] w fun v w' => v = .agg tabC.toArray ∧ Below w.heap.size w w' := by
  have hb0 := Below.refl w.heap.size w
  refine calls_in (N := _) Try.func90 rfl Try.ntmps90 rfl ?_; show WC _ _ _ _ _ _
  refine wc_sr ?_
  refine wl_alloc tyA_zero rfl fun w1 a0 hb1 hs1 => ?_
  refine wl_ns ?_; refine wc_sr ?_
  refine wl_alloc tyA_zero rfl fun w2 a1 hb2 hs2 => ?_
  replace a0 := a0.bel hb2
  have hb3 := hb1.trans (hb2.mono hb1.size)
  clear hb0 hb1 hb2
  obtain ⟨g1, hg1⟩ : ∃ g, w1.heap.size = g := ⟨_, rfl⟩
  rw [hg1] at a1 ⊢
  have hne : g1 ≠ w.heap.size := by omega
  refine wl_ns ?_; refine wc_seq ?_; refine wc_sr ?_; refine wl_mv rfl rfl ?_; refine wl_ns ?_; refine wc_block ?_
  refine wc_loop (fun L wr m => ∃ k : Nat, L = [(0, .pointer (some ⟨w.heap.size, 0, none⟩)), (1, .pointer (some ⟨g1, 0, none⟩)), (3, .int .i64 (k : Int))] ∧ k ≤ 256 ∧ Ar wr g1 182 (tabC.take k ++ List.replicate (256 - k) (Value.int .u32 0)) ∧ Ar wr w.heap.size 182 (List.replicate 256 (Value.int .u32 0)) ∧ Below w.heap.size w wr ∧ m = 256 - k)
    [(0, .pointer (some ⟨w.heap.size, 0, none⟩)), (1, .pointer (some ⟨g1, 0, none⟩)), (3, .int .i64 (0 : Nat))] 256 ⟨0, rfl, by omega, a1, a0, hb3, rfl⟩ ⟨rfl, rfl, rfl, trivial⟩ ?_
  rintro _ w4 m ⟨k, rfl, hk, b1, b0, hb4, rfl⟩
  refine wc_sr ?_; refine wl_bin rfl rfl bin_lss rfl ?_; refine wl_ns ?_; refine wc_seq ?_
  refine wc_cond rfl (fun h1 => ?_) (fun h1 => ?_)
  · refine wc_skip ?_; refine we_seq ?_; refine wc_seq ?_; refine wc_block ?_; refine wc_sr ?_; refine wl_mv rfl rfl ?_; refine wl_as rfl rfl ?_; refine wl_ns ?_; refine wc_region ?_; refine wl_mv rfl rfl ?_; refine wl_mv rfl rfl ?_; apply wl_val; apply opv_convR; exact rfl; exact Try.underlying3; exact Try.underlying90; exact IntWalk.u32_in _ (by omega); exact rfl
    refine wl_call ok_crc_eight (eight_any k (by omega) w4) ⟨rfl, trivial⟩ rfl ?_
    rintro _ _ ⟨rfl, rfl⟩
    refine wl_setA (kk := k) Try.underlying182 tyU rfl rfl b1 (by simp [tabC_length]; omega) rfl (by omega) (fun _ => rfl) rfl rfl fun p => ?_
    have c1 := b1.setCell k (.int .u32 (eightC k : Nat))
    have c0 := b0.ne k (.int .u32 (eightC k : Nat)) hne
    have hb5 := below_setCell (k := k) (v := .int .u32 (eightC k : Nat)) hb4 (show w.heap.size ≤ g1 by omega)
    have e : (tabC.take k ++ List.replicate (256 - k) (Value.int .u32 0)).set k (.int .u32 (eightC k : Nat)) = tabC.take (k + 1) ++ List.replicate (256 - (k + 1)) (Value.int .u32 0) := by
      rw [show 256 - k = (256 - (k + 1)) + 1 by omega]; exact fill_upV (tabC_get (by omega))
    rw [e] at c1
    refine wl_nil ?_; refine we_block_norm ?_; refine we_seq ?_; refine wc_region ?_; apply wl_val; apply opv_bin; exact rfl; exact rfl; exact bin_add64 (by omega); exact rfl; refine wl_mv rfl rfl ?_; refine wl_nil ?_
    refine we_loop [(0, .pointer (some ⟨w.heap.size, 0, none⟩)), (1, .pointer (some ⟨g1, 0, none⟩)), (3, .int .i64 ((k + 1 : Nat) : Int))] (256 - (k + 1)) ⟨k + 1, rfl, by omega, c1, c0, hb5, rfl⟩ (by omega) ⟨rfl, rfl, rfl, trivial⟩
  · obtain rfl : k = 256 := by omega
    have e : tabC.take 256 ++ List.replicate (256 - 256) (Value.int .u32 0) = tabC := by rw [List.take_of_length_le (by rw [tabC_length]; omega)]; simp
    rw [e] at b1
    refine wc_exit ?_; refine we_seq_exit ?_; refine we_loop_exit ?_; refine we_block_exit ?_; refine we_seq ?_; refine wc_sr ?_
    refine wl_val (opv_loadW Try.underlying182 (by rw [tabC_length]; exact tyA_size) rfl b1) rfl ?_
    refine wl_unitN (opu_storeW (by rw [List.length_replicate]; exact tyA_size) (by rw [tabC_length, List.length_replicate]) rfl rfl b0 tabC_one) ?_
    have d0 := b0.setRow (cs' := tabC)
    have hb6 := below_setRow (cs' := tabC.toArray) hb4 (Nat.le_refl _)
    refine wl_ns ?_; refine wc_ret ?_
    exact we_retA rfl rfl Try.underlying182 (by rw [tabC_length]; exact tyA_size) d0 ⟨_, rfl, rfl, hb6⟩
end Go.Proofs.Ytaacnknniaipmaa

/-
  Walks over OrdText of the program and of the reference.
-/
namespace Go.Proofs.Ytaacnknniaipmaa
open Go.RowKit

end Go.Proofs.Ytaacnknniaipmaa

/-
  Walks over the fixed fact of layer 1's statements, and over the law CodecNumbers.
-/
namespace Go.Proofs.Ytaacnknniaipmaa
open Go.RowKit

/-- A call that answers true and changes nothing that was there. -/
def RetTrue (w : World) (v : Value) (w' : World) : Prop := v = .bool true ∧ Below w.heap.size w w'

end Go.Proofs.Ytaacnknniaipmaa

/-
  Walks over the sum of the program and of the reference, and over what the statements use.
-/
namespace Go.Proofs.Ytaacnknniaipmaa
open Go.RowKit

theorem xor_ones {n x : Nat} (hx : x < 2 ^ n) : (2 ^ n - 1) ^^^ x = 2 ^ n - 1 - x := by
  apply Nat.eq_of_testBit_eq
  intro i
  rw [Nat.testBit_xor, Nat.testBit_two_pow_sub_one, show 2 ^ n - 1 - x = 2 ^ n - (x + 1) by omega, Nat.testBit_two_pow_sub_succ hx]
  by_cases h : i < n
  · simp [h]
  · have : x.testBit i = false := Nat.testBit_lt_two_pow (Nat.lt_of_lt_of_le hx (Nat.pow_le_pow_right (by decide) (by omega)))
    simp [h, this]
theorem opv_com {P : Program} {L : FL} {w : World} {x : Operand} {t ty : TypeId} {n : Nat} (hx : look L x = some (.int .u32 (n : Int))) (hn : n < 4294967296) : OpV P (.unOp .xor t x) ty L w (.int .u32 ((4294967295 - n : Nat) : Int)) w := fun ρ o hρ ho _ => by
  have h := (bin_xor (P := P) (t := t) (k := .u32) (a := 4294967295) (b := n) rfl (by decide) hn).run x x w
  have e := xor_ones (n := 32) hn
  simp only [eqGuard, binOp] at h
  rw [show (4294967295 ^^^ n) = 4294967295 - n from e] at h
  have hm : (if IntKind.u32.signed = true then (-1 : Int) else IntKind.u32.max) = (4294967295 : Int) := rfl
  unfold execOp
  simp only [ho, hρ x _ hx, Op.unary, hm, Sem.run_bind]
  simp at h
  rw [h]; simp

theorem sum_any {A : Option Addr} {n c : Nat} {rows : List (List UInt8)} {w : World} (hr : RdBB w A rows) (hn : rows.length = n) (hl : rows.flatten.length ≤ maxLen) (hl2 : rows.length ≤ maxLen) :
    CallsV Try.prog 74 #[.slice A n c] w fun v w' => v = .int .u32 (crcOf rows.flatten : Nat) ∧ Below w.heap.size w w' := by
  subst hn
  simp only [maxLen] at hl hl2
  refine calls_in (N := _) Try.func74 rfl Try.ntmps74 rfl ?_; show WC _ _ _ _ _ _
  refine wc_sr ?_; refine wl_as rfl rfl ?_; refine wl_ns ?_; refine wc_sr ?_
  refine wl_call ok_crc_Table (table_any w) trivial rfl ?_
  rintro _ w1 ⟨rfl, hb1⟩
  refine wl_alloc tyA_zero rfl fun w2 a2 hb2 hs2 => ?_
  obtain ⟨g, hg⟩ : ∃ g, w1.heap.size = g := ⟨_, rfl⟩
  have hge : w.heap.size ≤ g := by have := hb1.size; omega
  have hb12 := hb1.trans (hb2.mono hb1.size)
  rw [hg] at a2 ⊢
  replace a2 : Ar w2 g 182 (List.replicate 256 (Value.int .u32 0)) := a2
  refine wl_unitN (opu_storeW (by rw [List.length_replicate]; exact tyA_size) (by rw [tabC_length, List.length_replicate]) rfl rfl a2 tabC_one) ?_
  have a3 := a2.setRow (cs' := tabC)
  have hb3 := below_setRow (cs' := tabC.toArray) hb12 hge
  obtain ⟨w3, hw3⟩ : ∃ w3, w2.setRow g tabC.toArray = w3 := ⟨_, rfl⟩
  rw [hw3] at a3 hb3 ⊢
  have S3 := RdBB.below hr hb3
  clear hb1 hb2 a2 hs2
  refine wl_ns ?_; refine wc_sr ?_; refine wl_as rfl rfl ?_; refine wl_ns ?_; refine wc_seq ?_; refine wc_sr ?_; refine wl_mv rfl rfl ?_; apply wl_val; apply opv_len; exact rfl; exact tyBB.sl; exact rfl; refine wl_mv rfl rfl ?_; refine wl_ns ?_; refine wc_block ?_
  refine wc_loop (fun L wr m => ∃ k : Nat, L = [(3, .pointer (some ⟨g, 0, none⟩)), (4, .int .u32 (crcRaw 4294967295 (rows.take k).flatten : Nat)), (10, .slice A rows.length c), (11, .int .i64 (rows.length : Int)), (12, .int .i64 (k : Int))] ∧ k ≤ rows.length ∧ w3 = wr ∧ m = rows.length - k)
    [(3, .pointer (some ⟨g, 0, none⟩)), (4, .int .u32 (4294967295 : Nat)), (10, .slice A rows.length c), (11, .int .i64 (rows.length : Int)), (12, .int .i64 (0 : Nat))] rows.length ⟨0, rfl, by omega, rfl, rfl⟩ ⟨rfl, rfl, rfl, rfl, rfl, trivial⟩ ?_
  rintro _ _ m ⟨k, rfl, hk, rfl, rfl⟩
  have hlt := raw_lt (rows.take k).flatten (x := 4294967295) (by decide)
  refine wc_sr ?_; refine wl_bin rfl rfl bin_lss rfl ?_; refine wl_ns ?_; refine wc_seq ?_
  refine wc_cond rfl (fun h1 => ?_) (fun h1 => ?_)
  · obtain ⟨r, hx⟩ : ∃ x, rows[k]? = some x := ⟨_, List.getElem?_eq_getElem (by omega)⟩
    obtain ⟨vs, X, cx, hv, hvk, rx, hcx⟩ := S3.at hx
    have hxm : r.length ≤ rows.flatten.length := flat_mem hx
    refine wc_skip ?_; refine we_seq ?_; refine wc_seq ?_; refine wc_block ?_; refine wc_sr ?_; apply wl_elK (T := tyBB) (hr := hv) (hb := hvk); exact rfl; exact rfl; exact rfl; exact rfl; exact rfl; intro _; refine wl_as rfl rfl ?_; refine wl_ns ?_; refine wc_sr ?_; refine wl_mv rfl rfl ?_; apply wl_val; apply opv_len; exact rfl; exact tyB.sl; exact rfl; refine wl_mv rfl rfl ?_; refine wl_ns ?_; refine wc_block ?_
    refine wc_loop (fun L wr m => ∃ j : Nat, L = [(3, .pointer (some ⟨g, 0, none⟩)), (4, .int .u32 (crcRaw 4294967295 ((rows.take k).flatten ++ r.take j) : Nat)), (10, .slice A rows.length c), (11, .int .i64 (rows.length : Int)), (12, .int .i64 (k : Int)), (16, .slice X r.length cx), (17, .int .i64 (r.length : Int)), (18, .int .i64 (j : Int))] ∧ j ≤ r.length ∧ w3 = wr ∧ m = r.length - j)
      [(3, .pointer (some ⟨g, 0, none⟩)), (4, .int .u32 (crcRaw 4294967295 (rows.take k).flatten : Nat)), (10, .slice A rows.length c), (11, .int .i64 (rows.length : Int)), (12, .int .i64 (k : Int)), (16, .slice X r.length cx), (17, .int .i64 (r.length : Int)), (18, .int .i64 (0 : Nat))] r.length ⟨0, by simp, by omega, rfl, rfl⟩ ⟨rfl, rfl, rfl, rfl, rfl, rfl, rfl, rfl, trivial⟩ ?_
    rintro _ _ m ⟨j, rfl, hj, rfl, rfl⟩
    have hlt2 := raw_lt ((rows.take k).flatten ++ r.take j) (x := 4294967295) (by decide)
    refine wc_sr ?_; refine wl_bin rfl rfl bin_lss rfl ?_; refine wl_ns ?_; refine wc_seq ?_
    refine wc_cond rfl (fun h2 => ?_) (fun h2 => ?_)
    · obtain ⟨b, hbx⟩ : ∃ x, r[j]? = some x := ⟨_, List.getElem?_eq_getElem (by omega)⟩
      have hbl := b.toNat_lt
      obtain ⟨y, hy⟩ : ∃ y, crcRaw 4294967295 ((rows.take k).flatten ++ r.take j) = y := ⟨_, rfl⟩
      have hsn : crcRaw 4294967295 ((rows.take k).flatten ++ r.take (j + 1)) = y / 256 ^^^ eightC (y % 256 ^^^ b.toNat) := by
        rw [← eight_split, ← hy, List.take_add_one, hbx, ← List.append_assoc, Option.toList_some, raw_snoc]
      rw [hy] at hlt2 ⊢
      have hix : y % 256 ^^^ b.toNat < 256 := Nat.xor_lt_two_pow (n := 8) (Nat.mod_lt _ (by decide)) hbl
      have hel := eight_lt (x := y % 256 ^^^ b.toNat) (by omega)
      refine wc_skip ?_; refine we_seq ?_; refine wc_seq ?_; refine wc_block ?_; refine wc_sr ?_; apply wl_byK (T := tyB) (hr := rx) (hb := hbx); exact rfl; exact rfl; exact rfl; exact rfl; exact rfl; intro _; refine wl_as rfl rfl ?_; refine wl_ns ?_; refine wc_region ?_; refine wl_mv rfl rfl ?_
      refine wl_val (opv_bin (b := .int .u64 (8 : Nat)) rfl rfl (bin_shr hlt2)) rfl ?_
      refine wl_mv rfl rfl ?_; apply wl_val; apply opv_convR; exact rfl; exact Try.underlying90; exact Try.underlying5; exact wrap_nat rfl _; exact rfl; refine wl_mv rfl rfl ?_
      refine wl_val (opv_bin rfl rfl (bin_xor rfl (Nat.mod_lt _ (by decide)) hbl)) rfl ?_
      refine wl_elA (kk := y % 256 ^^^ b.toNat) Try.underlying182 tyU rfl rfl a3 tabC_length rfl (tabC_get hix) rfl rfl fun p => ?_
      refine wl_val (opv_bin rfl rfl (bin_xor rfl (by simp only [IntKind.bits]; omega) hel)) rfl ?_
      refine wl_as rfl rfl ?_; refine wl_nil ?_; refine we_block_norm ?_; refine we_seq ?_; refine wc_region ?_; apply wl_val; apply opv_bin; exact rfl; exact rfl; exact bin_add64 (by omega); exact rfl; refine wl_mv rfl rfl ?_; refine wl_nil ?_
      refine we_loop [(3, .pointer (some ⟨g, 0, none⟩)), (4, .int .u32 (crcRaw 4294967295 ((rows.take k).flatten ++ r.take (j + 1)) : Nat)), (10, .slice A rows.length c), (11, .int .i64 (rows.length : Int)), (12, .int .i64 (k : Int)), (16, .slice X r.length cx), (17, .int .i64 (r.length : Int)), (18, .int .i64 ((j + 1 : Nat) : Int))] (r.length - (j + 1)) ⟨j + 1, rfl, by omega, rfl, rfl⟩ (by omega) ⟨rfl, by rw [hsn]; rfl, rfl, rfl, rfl, rfl, rfl, by simp [lookT], trivial⟩
    · obtain rfl : j = r.length := by omega
      rw [List.take_length]
      refine wc_exit ?_; refine we_seq_exit ?_; refine we_loop_exit ?_; refine we_block_exit ?_; refine we_block_norm ?_; refine we_seq ?_; refine wc_region ?_; apply wl_val; apply opv_bin; exact rfl; exact rfl; exact bin_add64 (by omega); exact rfl; refine wl_mv rfl rfl ?_; refine wl_nil ?_
      refine we_loop [(3, .pointer (some ⟨g, 0, none⟩)), (4, .int .u32 (crcRaw 4294967295 (rows.take (k + 1)).flatten : Nat)), (10, .slice A rows.length c), (11, .int .i64 (rows.length : Int)), (12, .int .i64 ((k + 1 : Nat) : Int))] (rows.length - (k + 1)) ⟨k + 1, rfl, by omega, rfl, rfl⟩ (by omega) ⟨rfl, ?_, rfl, rfl, by simp [lookT], trivial⟩
      rw [show (rows.take (k + 1)).flatten = (rows.take k).flatten ++ r by rw [List.take_add_one, hx]; simp]; rfl
  · obtain rfl : k = rows.length := by omega
    rw [List.take_length] at hlt ⊢
    refine wc_exit ?_; refine we_seq_exit ?_; refine we_loop_exit ?_; refine we_block_exit ?_; refine we_seq ?_; refine wc_sr ?_; refine wl_mv rfl rfl ?_
    refine wl_val (opv_com rfl hlt) rfl ?_
    refine wl_as rfl rfl ?_; refine wl_ns ?_; refine wc_ret ?_
    exact we_ret1 rfl rfl ⟨_, rfl, rfl, hb3⟩

theorem refSum_any {A : Option Addr} {n c : Nat} {xs : List UInt8} {w : World} (hr : RdB w A xs) (hn : xs.length = n) (hl : xs.length ≤ maxLen) :
    CallsV Try.prog 83 #[.slice A n c] w fun v w' => v = .int .u32 (crcOf xs : Nat) ∧ w = w' := by
  subst hn
  simp only [maxLen] at hl
  refine calls_in (N := _) Try.func83 rfl Try.ntmps83 rfl ?_; show WC _ _ _ _ _ _
  refine wc_sr ?_; refine wl_as rfl rfl ?_; refine wl_ns ?_; refine wc_sr ?_; refine wl_as rfl rfl ?_; refine wl_ns ?_; refine wc_seq ?_; refine wc_sr ?_; refine wl_as rfl rfl ?_; refine wl_ns ?_; refine wc_block ?_
  refine wc_loop (fun L wr m => ∃ k : Nat, L = [(0, .slice A xs.length c), (3, .int .u32 (crcRaw 4294967295 (xs.take k) : Nat)), (4, .int .i64 (k : Int))] ∧ k ≤ xs.length ∧ w = wr ∧ m = xs.length - k)
    [(0, .slice A xs.length c), (3, .int .u32 (4294967295 : Nat)), (4, .int .i64 (0 : Nat))] xs.length ⟨0, rfl, by omega, rfl, rfl⟩ ⟨rfl, rfl, rfl, trivial⟩ ?_
  rintro _ _ m ⟨k, rfl, hk, rfl, rfl⟩
  have hlt := raw_lt (xs.take k) (x := 4294967295) (by decide)
  refine wc_seq ?_; refine wc_sr ?_; refine wl_mv rfl rfl ?_; refine wl_mv rfl rfl ?_; apply wl_val; apply opv_len; exact rfl; exact tyB.sl; exact rfl; refine wl_bin rfl rfl bin_lss rfl ?_; refine wl_ns ?_
  refine wc_cond rfl (fun h1 => ?_) (fun h1 => ?_)
  · obtain ⟨b, hb⟩ : ∃ x, xs[k]? = some x := ⟨_, List.getElem?_eq_getElem (by omega)⟩
    have hbl := b.toNat_lt
    have hsn : crcRaw 4294967295 (xs.take (k + 1)) = eightC (crcRaw 4294967295 (xs.take k) ^^^ b.toNat) := by
      rw [List.take_add_one, hb, Option.toList_some, raw_snoc]
    have hxl := xorb_lt hlt b
    refine wc_skip ?_; refine we_seq ?_; refine wc_seq ?_; refine wc_block ?_; refine wc_sr ?_; refine wl_mv rfl rfl ?_; refine wl_mv rfl rfl ?_; refine wl_mv rfl rfl ?_; apply wl_byK (T := tyB) (hr := hr) (hb := hb); exact rfl; exact rfl; exact rfl; exact rfl; exact rfl; intro _; apply wl_val; apply opv_convR; exact rfl; exact Try.underlying5; exact Try.underlying90; exact IntWalk.u32_in _ (by omega); exact rfl
    refine wl_val (opv_bin rfl rfl (bin_xor rfl hlt (by simp only [IntKind.bits]; omega))) rfl ?_
    refine wl_as rfl rfl ?_; refine wl_ns ?_; refine wc_sr ?_; refine wl_as rfl rfl ?_; refine wl_ns ?_; refine wc_block ?_
    refine wc_loop (fun L wr m => ∃ (j y : Nat), L = [(0, .slice A xs.length c), (3, .int .u32 (y : Int)), (4, .int .i64 (k : Int)), (5, .int .i64 (j : Int))] ∧ j ≤ 8 ∧ y < 4294967296 ∧ stepsC (8 - j) y = eightC (crcRaw 4294967295 (xs.take k) ^^^ b.toNat) ∧ w = wr ∧ m = 8 - j)
      [(0, .slice A xs.length c), (3, .int .u32 (crcRaw 4294967295 (xs.take k) ^^^ b.toNat : Nat)), (4, .int .i64 (k : Int)), (5, .int .i64 (0 : Nat))] 8 ⟨0, _, rfl, by omega, hxl, rfl, rfl, rfl⟩ ⟨rfl, rfl, rfl, rfl, trivial⟩ ?_
    rintro _ _ m ⟨j, y, rfl, hj, hy, he, rfl, rfl⟩
    refine wc_seq ?_; refine wc_sr ?_; refine wl_mv rfl rfl ?_; refine wl_bin rfl rfl bin_lss rfl ?_; refine wl_ns ?_
    refine wc_cond rfl (fun h3 => ?_) (fun h3 => ?_)
    · have he' : stepsC (8 - (j + 1)) (stepC y) = eightC (crcRaw 4294967295 (xs.take k) ^^^ b.toNat) := by rw [← he, show 8 - j = (8 - (j + 1)) + 1 by omega]; rfl
      have hsl := step_lt hy
      refine wc_skip ?_; refine we_seq ?_; refine wc_seq ?_; refine wc_block ?_; refine wc_sr ?_; refine wl_mv rfl rfl ?_
      refine wl_val (opv_bin (b := .int .u32 (2 : Nat)) rfl rfl (bin_rem (by omega))) rfl ?_
      refine wl_bin rfl rfl bin_eql rfl ?_; refine wl_as rfl rfl ?_; refine wl_ns ?_; refine wc_sr ?_; refine wl_mv rfl rfl ?_
      refine wl_val (opv_bin (b := .int .u32 (2 : Nat)) rfl rfl (bin_quo (by omega) (wrap_small rfl (by simp only [IntKind.bits]; omega)))) rfl ?_
      refine wl_as rfl rfl ?_; refine wl_ns ?_; refine wc_sr ?_; refine wl_mv rfl rfl ?_; refine wl_ns ?_
      refine wc_cond rfl (fun h2 => ?_) (fun h2 => ?_)
      · rw [stepC_odd (by omega)] at he' hsl
        refine wc_region ?_; refine wl_mv rfl rfl ?_
        refine wl_val (opv_bin (b := .int .u32 (3988292384 : Nat)) rfl rfl (bin_xor rfl (by simp only [IntKind.bits]; omega) (by decide))) rfl ?_
        refine wl_as rfl rfl ?_; refine wl_nil ?_; refine we_block_norm ?_; refine we_seq ?_; refine wc_region ?_; refine wl_mv rfl rfl ?_; apply wl_val; apply opv_bin; exact rfl; exact rfl; exact bin_add64 (by omega); exact rfl; refine wl_as rfl rfl ?_; refine wl_nil ?_
        refine we_loop [(0, .slice A xs.length c), (3, .int .u32 (y / 2 ^^^ 3988292384 : Nat)), (4, .int .i64 (k : Int)), (5, .int .i64 ((j + 1 : Nat) : Int))] (8 - (j + 1)) ⟨j + 1, _, rfl, by omega, hsl, he', rfl, rfl⟩ (by omega) ⟨rfl, rfl, rfl, rfl, trivial⟩
      · rw [stepC_even (by omega)] at he' hsl
        refine wc_skip ?_; refine we_block_norm ?_; refine we_seq ?_; refine wc_region ?_; refine wl_mv rfl rfl ?_; apply wl_val; apply opv_bin; exact rfl; exact rfl; exact bin_add64 (by omega); exact rfl; refine wl_as rfl rfl ?_; refine wl_nil ?_
        refine we_loop [(0, .slice A xs.length c), (3, .int .u32 (y / 2 : Nat)), (4, .int .i64 (k : Int)), (5, .int .i64 ((j + 1 : Nat) : Int))] (8 - (j + 1)) ⟨j + 1, _, rfl, by omega, hsl, he', rfl, rfl⟩ (by omega) ⟨rfl, rfl, rfl, rfl, trivial⟩
    · obtain rfl : j = 8 := by omega
      have e : y = crcRaw 4294967295 (xs.take (k + 1)) := by rw [hsn]; exact he
      refine wc_exit ?_; refine we_seq_exit ?_; refine we_loop_exit ?_; refine we_block_exit ?_; refine we_block_norm ?_; refine we_seq ?_; refine wc_region ?_; refine wl_mv rfl rfl ?_; apply wl_val; apply opv_bin; exact rfl; exact rfl; exact bin_add64 (by omega); exact rfl; refine wl_as rfl rfl ?_; refine wl_nil ?_
      refine we_loop [(0, .slice A xs.length c), (3, .int .u32 (crcRaw 4294967295 (xs.take (k + 1)) : Nat)), (4, .int .i64 ((k + 1 : Nat) : Int))] (xs.length - (k + 1)) ⟨k + 1, rfl, by omega, rfl, rfl⟩ (by omega) ⟨rfl, by rw [← e]; rfl, rfl, trivial⟩
  · obtain rfl : k = xs.length := by omega
    rw [List.take_length] at hlt ⊢
    refine wc_exit ?_; refine we_seq_exit ?_; refine we_loop_exit ?_; refine we_block_exit ?_; refine we_seq ?_; refine wc_sr ?_; refine wl_mv rfl rfl ?_
    refine wl_val (opv_bin (a := .int .u32 (4294967295 : Nat)) rfl rfl (bin_subU' rfl (by omega) (by decide))) rfl ?_
    refine wl_as rfl rfl ?_; refine wl_ns ?_; refine wc_ret ?_
    exact we_ret1 rfl rfl ⟨_, rfl, rfl, rfl⟩

end Go.Proofs.Ytaacnknniaipmaa

/-
  The fixed fact of layer 3's statements, and the walk over the law CrcSums.
-/
namespace Go.Proofs.Ytaacnknniaipmaa
open Go.RowKit

theorem RdBB.one {w : World} {A A1 : Option Addr} {c1 : Nat} {r : List UInt8} (h : Rd w A 1 [.slice A1 r.length c1]) (h1 : RdB w A1 r) (hc : r.length ≤ c1) : RdBB w A [r] :=
  ⟨_, h, fun i q hi => by
    cases i with
    | zero => simp only [List.getElem?_cons_zero, Option.some.injEq] at hi; subst hi; exact ⟨A1, c1, rfl, h1, hc⟩
    | succ i => simp at hi⟩
theorem RdBB.two {w : World} {A A1 A2 : Option Addr} {c1 c2 : Nat} {r s : List UInt8} (h : Rd w A 2 [.slice A1 r.length c1, .slice A2 s.length c2]) (h1 : RdB w A1 r) (hc : r.length ≤ c1) (h2 : RdB w A2 s) (hc2 : s.length ≤ c2) : RdBB w A [r, s] :=
  ⟨_, h, fun i q hi => by
    cases i with
    | zero => simp only [List.getElem?_cons_zero, Option.some.injEq] at hi; subst hi; exact ⟨A1, c1, rfl, h1, hc⟩
    | succ i => cases i with
      | zero => simp only [List.getElem?_cons_succ, List.getElem?_cons_zero, Option.some.injEq] at hi; subst hi; exact ⟨A2, c2, rfl, h2, hc2⟩
      | succ i => simp at hi⟩
theorem RdBB.three {w : World} {A A1 A2 A3 : Option Addr} {c1 c2 c3 : Nat} {r s t : List UInt8} (h : Rd w A 3 [.slice A1 r.length c1, .slice A2 s.length c2, .slice A3 t.length c3]) (h1 : RdB w A1 r) (hc : r.length ≤ c1) (h2 : RdB w A2 s) (hc2 : s.length ≤ c2) (h3 : RdB w A3 t) (hc3 : t.length ≤ c3) : RdBB w A [r, s, t] :=
  ⟨_, h, fun i q hi => by
    cases i with
    | zero => simp only [List.getElem?_cons_zero, Option.some.injEq] at hi; subst hi; exact ⟨A1, c1, rfl, h1, hc⟩
    | succ i => cases i with
      | zero => simp only [List.getElem?_cons_succ, List.getElem?_cons_zero, Option.some.injEq] at hi; subst hi; exact ⟨A2, c2, rfl, h2, hc2⟩
      | succ i => cases i with
        | zero => simp only [List.getElem?_cons_succ, List.getElem?_cons_zero, Option.some.injEq] at hi; subst hi; exact ⟨A3, c3, rfl, h3, hc3⟩
        | succ i => simp at hi⟩
end Go.Proofs.Ytaacnknniaipmaa

/-
  Walks over Parts of the program and of the reference.
-/
namespace Go.Proofs.Ytaacnknniaipmaa
open Go.RowKit

theorem rd_cut {w : World} {A : Option Addr} {xs : List UInt8} {c l h : Nat} (hr : RdB w A xs) (h1 : l ≤ h) (hh : h ≤ xs.length) (hc : xs.length ≤ c) : RdB w (cutA A c l) ((xs.take h).drop l) := by
  have := Rd.cut (l := l) (h := h) hr h1 hh hc
  rw [bvs_cut] at this
  have e : ((xs.take h).drop l).length = h - l := by simp; omega
  unfold RdB; rw [e]; exact this
def RetP (w : World) (x : List (List UInt8) × Nat) (v : Value) (w' : World) : Prop :=
  ∃ (A : Option Addr) (c : Nat), v = .tuple #[.slice A x.1.length c, .int .i64 (x.2 : Int)] ∧ OwBB w' w.heap.size A c x.1 ∧ Below w.heap.size w w'

theorem parts_any {A : Option Addr} {n c : Nat} {xs : List UInt8} {w : World} (hr : RdB w A xs) (hn : xs.length = n) (hc : xs.length ≤ c) (hl : xs.length ≤ 1099511627776) : CallsV Try.prog 64 #[.slice A n c] w (RetP w (parts xs)) := by
  subst hn
  refine calls_in (N := _) Try.func64 rfl Try.ntmps64 rfl ?_; show WC _ _ _ _ _ _
  refine wc_sr ?_; refine wl_as rfl rfl ?_; refine wl_as rfl rfl ?_; refine wl_ns ?_; refine wc_sr ?_; refine wl_as rfl rfl ?_; refine wl_ns ?_; refine wc_seq ?_; refine wc_sr ?_; refine wl_as rfl rfl ?_; refine wl_ns ?_; refine wc_block ?_
  refine wc_loop (fun L wr m => ∃ (q f : Nat) (out : List (List UInt8)) (P : Option Addr) (cp : Nat), L = [(0, .slice A xs.length c), (4, .slice P out.length cp), (5, .int .i64 (q : Int))] ∧ q ≤ xs.length ∧ xs.length - q ≤ f ∧ parts xs = partsF f xs q out ∧ out.length ≤ q ∧ OwBB wr w.heap.size P cp out ∧ Below w.heap.size w wr ∧ m = xs.length - q)
    [(0, .slice A xs.length c), (4, .slice none 0 0), (5, .int .i64 (0 : Nat))] xs.length ⟨0, xs.length, [], none, 0, rfl, by omega, by omega, rfl, by simp, OwBB.nil _ _, Below.refl _ _, rfl⟩ ⟨rfl, rfl, rfl, trivial⟩ ?_
  rintro _ w1 m ⟨q, f, out, P, cp, rfl, hq, hf, hp, hol, o1, hb1, rfl⟩
  refine wc_seq ?_; refine wc_sr ?_; refine wl_mv rfl rfl ?_; refine wl_mv rfl rfl ?_; apply wl_val; apply opv_len; exact rfl; exact tyB.sl; exact rfl; refine wl_bin rfl rfl bin_lss rfl ?_; refine wl_ns ?_
  refine wc_cond rfl (fun h1 => ?_) (fun h1 => ?_)
  · obtain ⟨f, rfl⟩ : ∃ g, f = g + 1 := ⟨f - 1, by omega⟩
    obtain ⟨n, x, e, hu⟩ : ∃ n x e, getU xs q = (n, x, e) := ⟨_, _, _, rfl⟩
    have r1 := RdB.below hr hb1
    refine wc_skip ?_; refine we_seq ?_; refine wc_block ?_; refine wc_sr ?_; refine wl_mv rfl rfl ?_; refine wl_mv rfl rfl ?_
    refine wl_call ok_codec_GetU (getU_at hu r1 rfl (by simp only [maxLen]; omega) (by omega)) ⟨rfl, rfl, trivial⟩ rfl ?_
    rintro _ w2 ⟨rfl, h2⟩
    have hb2 := hb1.trans (h2.mono hb1.size)
    replace o1 := o1.below h2
    replace r1 := RdB.below r1 h2
    refine wl_mv rfl rfl ?_; apply wl_val; apply opv_extract; exact rfl; exact rfl; exact rfl; apply wl_val; apply opv_extract; exact rfl; exact rfl; exact rfl; apply wl_val; apply opv_extract; exact rfl; exact rfl; exact rfl; refine wl_as rfl rfl ?_; refine wl_as rfl rfl ?_; refine wl_as rfl rfl ?_; refine wl_ns ?_; refine wc_seq ?_; refine wc_sr ?_; refine wl_mv rfl rfl ?_; refine wl_bin rfl rfl bin_neq rfl ?_; refine wl_ns ?_
    by_cases he : e = 0
    · subst he
      obtain ⟨k, rfl, hqk, hkl⟩ := getU_next hu
      have hnf : n < 18446744073709551616 := by have := getU_fits xs q; rw [hu] at this; exact this
      refine wc_cond rfl (fun h => absurd rfl h) (fun _ => ?_)
      have e1 : IntKind.u64.wrap ((xs.length : Int) - k) = (xs.length : Int) - k := IntWalk.u64_in _ (by omega)
      refine wc_skip ?_; refine we_seq ?_; refine wc_seq ?_; refine wc_sr ?_; refine wl_mv rfl rfl ?_; refine wl_mv rfl rfl ?_; apply wl_val; apply opv_len; exact rfl; exact tyB.sl; exact rfl; refine wl_mv rfl rfl ?_; apply wl_val; apply opv_bin; exact rfl; exact rfl; exact bin_sub64 (by omega); exact rfl; apply wl_val; apply opv_convR; exact rfl; exact Try.underlying3; exact Try.underlying22; exact IntWalk.u64_in _ (by omega); exact rfl; refine wl_bin rfl rfl bin_gtr rfl ?_; refine wl_ns ?_
      refine wc_cond rfl (fun h3 => ?_) (fun h3 => ?_)
      · refine wc_sr ?_; refine wl_as rfl rfl ?_; refine wl_as rfl rfl ?_; refine wl_ns ?_; refine wc_ret ?_; refine we_seq_ret ?_; refine we_block_ret ?_; refine we_loop_ret ?_; refine we_block_ret ?_; refine we_seq_ret ?_
        refine we_ret2 rfl rfl rfl ⟨_, rfl, ?_⟩
        rw [hp, partsF_short (by omega) hu (by omega)]
        exact ⟨none, 0, rfl, OwBB.nil _ _, hb2⟩
      · have hkn : k + n ≤ xs.length := by omega
        refine wc_skip ?_; refine we_seq ?_; refine wc_sr ?_; refine wl_mv rfl rfl ?_; refine wl_mv rfl rfl ?_; apply wl_val; apply opv_convR; exact rfl; exact Try.underlying22; exact Try.underlying3; exact IntWalk.i64_in _ (by omega); exact rfl; apply wl_val; apply opv_bin; exact rfl; exact rfl; exact bin_add64 (by omega); exact rfl; refine wl_as rfl rfl ?_; refine wl_ns ?_; refine wc_region ?_; refine wl_mv rfl rfl ?_; refine wl_mv rfl rfl ?_; refine wl_mv rfl rfl ?_; refine wl_mv rfl rfl ?_
        refine wl_sl (l := k) (h := k + n) tyB rfl ⟨_, rfl⟩ ⟨_, by simp only [Int.natCast_add]; rfl⟩ (by omega) (by omega) rfl ?_
        refine wl_call ok_bytes_Clone (clone_any (rd_cut r1 (by omega) hkn hc) (by simp; omega) (by simp; omega)) ⟨rfl, trivial⟩ rfl ?_
        rintro _ w3 ⟨A3, c3, rfl, o3, h3⟩
        have hb3 := hb2.trans (h3.mono hb2.size)
        refine wl_pushR o1 h3 hb2.size o3 hb3 rfl (by omega) rfl rfl rfl rfl rfl fun p A4 c4 w4 o4 hb4 => ?_
        refine wl_as rfl rfl ?_; refine wl_nil ?_; refine we_block_norm ?_
        refine we_loop [(0, .slice A xs.length c), (4, .slice A4 (out ++ [(xs.take (k + n)).drop k]).length c4), (5, .int .i64 ((k + n : Nat) : Int))] (xs.length - (k + n)) ⟨k + n, f, _, A4, c4, rfl, hkn, by omega, ?_, by simp; omega, o4, hb4, rfl⟩ (by omega) ⟨rfl, by rw [List.length_append]; rfl, by rw [Int.natCast_add]; rfl, trivial⟩
        rw [hp, partsF_step (by omega) hu (by omega)]
    · refine wc_cond rfl (fun _ => ?_) (fun h => absurd (fun h' => he (by exact_mod_cast h')) h)
      refine wc_sr ?_; refine wl_mv rfl rfl ?_; refine wl_as rfl rfl ?_; refine wl_as rfl rfl ?_; refine wl_ns ?_; refine wc_ret ?_; refine we_seq_ret ?_; refine we_block_ret ?_; refine we_loop_ret ?_; refine we_block_ret ?_; refine we_seq_ret ?_
      refine we_ret2 rfl rfl rfl ⟨_, rfl, ?_⟩
      rw [hp, partsF_err (by omega) hu he]
      exact ⟨none, 0, rfl, OwBB.nil _ _, hb2⟩
  · refine wc_exit ?_; refine we_seq_exit ?_; refine we_loop_exit ?_; refine we_block_exit ?_; refine we_seq ?_; refine wc_sr ?_; refine wl_mv rfl rfl ?_; refine wl_as rfl rfl ?_; refine wl_as rfl rfl ?_; refine wl_ns ?_; refine wc_ret ?_
    refine we_ret2 rfl rfl rfl ⟨_, rfl, ?_⟩
    rw [hp, partsF_end (by omega)]
    exact ⟨P, cp, rfl, o1, hb1⟩

end Go.Proofs.Ytaacnknniaipmaa

/-
  Walks over the numbers of eight bytes of the program and of the references.
-/
namespace Go.Proofs.Ytaacnknniaipmaa
open Go.RowKit

theorem fill_down {α : Type} {l : List α} {z x : α} {k : Nat} (h : l[k]? = some x) : (List.replicate (k + 1) z ++ l.drop (k + 1)).set k x = List.replicate k z ++ l.drop k := by
  obtain ⟨hk, e⟩ := List.getElem?_eq_some_iff.1 h
  rw [List.set_append_left _ _ (by simp), List.replicate_succ', List.set_append_right _ _ (by simp)]
  rw [List.drop_eq_getElem_cons hk, e]
  simp
theorem byte_of (m : Nat) : Value.int .u8 ((m % 2 ^ IntKind.u8.bits : Nat) : Int) = bv (UInt8.ofNat m) := by
  simp [bv, IntKind.bits]

theorem refOrdU_any (n : Nat) (hn : n < 2 ^ 64) (w : World) : CallsV Try.prog 98 #[.int .u64 n] w (RetB w (ordU n)) := by
  refine calls_in (N := _) Try.func98 rfl Try.ntmps98 rfl ?_; show WC _ _ _ _ _ _
  refine wc_sr ?_; refine wl_as rfl rfl ?_; refine wl_ns ?_; refine wc_sr ?_
  refine wl_mk (n := 8) (c := 8) tyB rfl rfl rfl rfl (by omega) (by omega) (by simp only [maxLen]; omega) rfl fun A1 w1 o1 hb1 _ => ?_
  refine wl_as rfl rfl ?_; refine wl_ns ?_; refine wc_seq ?_; refine wc_sr ?_; refine wl_as rfl rfl ?_; refine wl_ns ?_; refine wc_block ?_
  refine wc_loop (fun L wr m => ∃ k : Nat, L = [(0, .int .u64 ((n / 256 ^ (8 - k) : Nat) : Int)), (3, .slice A1 8 8), (4, .int .i64 ((k : Int) - 1))] ∧ k ≤ 8 ∧ Ow wr w.heap.size 5 A1 8 8 (bvs (List.replicate k 0 ++ (ordU n).drop k)) ∧ Below w.heap.size w wr ∧ m = k)
    [(0, .int .u64 (n : Int)), (3, .slice A1 8 8), (4, .int .i64 7)] 8 ⟨8, by simp, by omega, by rw [List.drop_of_length_le (by rw [ordU_length]; omega)]; simpa [bvs, bv] using o1, hb1, rfl⟩ ⟨rfl, rfl, rfl, trivial⟩ ?_
  rintro _ w2 m ⟨k, rfl, hk, o2, hb2, rfl⟩
  refine wc_seq ?_; refine wc_sr ?_; refine wl_mv rfl rfl ?_; refine wl_bin rfl rfl bin_geq rfl ?_; refine wl_ns ?_
  refine wc_cond rfl (fun h1 => ?_) (fun h1 => ?_)
  · obtain ⟨k, rfl⟩ : ∃ j, m = j + 1 := ⟨m - 1, by omega⟩
    have hg := ordK_get 8 n k (by omega)
    have ek : ((k + 1 : Nat) : Int) - 1 = (k : Int) := by omega
    rw [ek]
    refine wc_skip ?_; refine we_seq ?_; refine wc_seq ?_; refine wc_block ?_; refine wc_sr ?_; refine wl_mv rfl rfl ?_; refine wl_mv rfl rfl ?_; refine wl_mv rfl rfl ?_
    refine wl_val (opv_bin (b := .int .u64 (256 : Nat)) rfl rfl (bin_rem (by omega))) rfl ?_
    apply wl_val; apply opv_convR; exact rfl; exact Try.underlying22; exact Try.underlying5; exact IntWalk.u8_in _ (by omega); exact rfl
    refine wl_set (kk := k) tyB rfl rfl o2 rfl (by omega) (fun _ => rfl) rfl rfl fun p w3 o3 g3 _ => ?_
    have hb3 := g3.below hb2 o2 (Nat.le_refl _) hb2.size
    have ev : n / 256 ^ (8 - (k + 1)) % 256 = n / 256 ^ (8 - (k + 1)) % 2 ^ IntKind.u8.bits := rfl
    rw [ev, byte_of, bvs_set, show 8 - (k + 1) = 8 - 1 - k by omega, fill_down (l := ordU n) (by rw [ordU, hg])] at o3
    refine wl_ns ?_; refine wc_region ?_; refine wl_mv rfl rfl ?_
    refine wl_val (opv_bin (b := .int .u64 (256 : Nat)) rfl rfl (bin_quo (by omega) (wrap_small rfl (Nat.lt_of_le_of_lt (Nat.div_le_self _ _) (Nat.lt_of_le_of_lt (Nat.div_le_self _ _) hn))))) rfl ?_
    refine wl_as rfl rfl ?_; refine wl_nil ?_; refine we_block_norm ?_; refine we_seq ?_; refine wc_region ?_; refine wl_mv rfl rfl ?_; apply wl_val; apply opv_bin; exact rfl; exact rfl; exact bin_sub64 (by omega); exact rfl; refine wl_as rfl rfl ?_; refine wl_nil ?_
    refine we_loop [(0, .int .u64 ((n / 256 ^ (8 - k) : Nat) : Int)), (3, .slice A1 8 8), (4, .int .i64 ((k : Int) - 1))] k ⟨k, rfl, by omega, o3, hb3, rfl⟩ (by omega) ⟨?_, rfl, rfl, trivial⟩
    rw [show 8 - k = (8 - (k + 1)) + 1 by omega, Nat.pow_succ, ← Nat.div_div_eq_div_mul]; rfl
  · obtain rfl : m = 0 := by omega
    simp only [List.replicate_zero, List.drop_zero, List.nil_append] at o2
    refine wc_exit ?_; refine we_seq_exit ?_; refine we_loop_exit ?_; refine we_block_exit ?_; refine we_seq ?_; refine wc_sr ?_; refine wl_mv rfl rfl ?_; refine wl_as rfl rfl ?_; refine wl_ns ?_; refine wc_ret ?_
    exact we_ret1 rfl rfl ⟨_, rfl, A1, 8, by rw [ordU_length], by unfold OwB; rw [ordU_length]; exact o2, hb2⟩
end Go.Proofs.Ytaacnknniaipmaa

/-
  Walks over the opening of sealed records, of the program and of the reference.
-/
namespace Go.Proofs.Ytaacnknniaipmaa
open Go.RowKit

theorem or_add {x y i : Nat} (h : y < 2 ^ i) : x * 2 ^ i ||| y = x * 2 ^ i + y := by
  have := Nat.shiftLeft_add_eq_or_of_lt h x
  rw [Nat.shiftLeft_eq] at this
  exact this.symm
theorem or4 {a b c d : Nat} (hb : b < 256) (hc : c < 256) (hd : d < 256) : a * 2 ^ 24 ||| b * 2 ^ 16 ||| c * 2 ^ 8 ||| d = ((a * 256 + b) * 256 + c) * 256 + d := by
  rw [or_add (show b * 2 ^ 16 < 2 ^ 24 by omega), show a * 2 ^ 24 + b * 2 ^ 16 = (a * 256 + b) * 2 ^ 16 by omega, or_add (show c * 2 ^ 8 < 2 ^ 16 by omega), show (a * 256 + b) * 2 ^ 16 + c * 2 ^ 8 = ((a * 256 + b) * 256 + c) * 2 ^ 8 by omega, or_add (show d < 2 ^ 8 by omega)]
theorem crcGet_any {A : Option Addr} {n c : Nat} {xs : List UInt8} {w : World} (hr : RdB w A xs) (hn : xs.length = n) (h4 : 4 ≤ xs.length) :
    CallsV Try.prog 75 #[.slice A n c] w fun v w' => v = .int .u32 (numB (xs.take 4) : Nat) ∧ Below w.heap.size w w' := by
  subst hn
  obtain ⟨x0, h0⟩ : ∃ x, xs[0]? = some x := ⟨_, List.getElem?_eq_getElem (by omega)⟩
  obtain ⟨x1, h1⟩ : ∃ x, xs[1]? = some x := ⟨_, List.getElem?_eq_getElem (by omega)⟩
  obtain ⟨x2, h2⟩ : ∃ x, xs[2]? = some x := ⟨_, List.getElem?_eq_getElem (by omega)⟩
  obtain ⟨x3, h3⟩ : ∃ x, xs[3]? = some x := ⟨_, List.getElem?_eq_getElem (by omega)⟩
  have l0 := x0.toNat_lt
  have l1 := x1.toNat_lt
  have l2 := x2.toNat_lt
  have l3 := x3.toNat_lt
  have q0 : x0.toNat * 2 ^ 24 < 2 ^ 32 := Nat.lt_of_lt_of_le ((Nat.mul_lt_mul_right (by decide)).2 l0) (by decide)
  have q1 : x1.toNat * 2 ^ 16 < 2 ^ 32 := Nat.lt_of_lt_of_le ((Nat.mul_lt_mul_right (by decide)).2 l1) (by decide)
  have q2 : x2.toNat * 2 ^ 8 < 2 ^ 32 := Nat.lt_of_lt_of_le ((Nat.mul_lt_mul_right (by decide)).2 l2) (by decide)
  have q3 : x3.toNat < 2 ^ 32 := Nat.lt_of_lt_of_le l3 (by decide)
  have e : numB (xs.take 4) = ((x0.toNat * 256 + x1.toNat) * 256 + x2.toNat) * 256 + x3.toNat := by
    rw [numB_step h3, numB_step h2, numB_step h1, numB_step h0]; simp [numB]
  rw [← or4 (a := x0.toNat) l1 l2 l3] at e
  rw [e]
  refine calls_in (N := _) Try.func75 rfl Try.ntmps75 rfl ?_; show WC _ _ _ _ _ _
  refine wc_sr ?_; refine wl_as rfl rfl ?_; refine wl_ns ?_; refine wc_seq ?_
  refine wc_drawB mixed (by kernel_rfl) ?_
  apply wq_val; intro _ hw_; apply opv_move; exact rfl; exact rfl; apply wq_byK (T := tyB) (hr := hr) (hb := h0); exact rfl; exact rfl; exact rfl; exact rfl; exact rfl; intro _; apply wq_val; intro _ hw_; apply opv_convR; exact rfl; exact Try.underlying5; exact Try.underlying90; exact IntWalk.u32_in _ (by omega); exact rfl
  refine wq_val (fun _ _ => opv_bin (b := .int .u64 (24 : Nat)) rfl rfl ((bin_shl rfl).to (congrArg (fun z : Nat => Value.int .u32 (z : Int)) (Nat.mod_eq_of_lt q0)))) rfl ?_
  apply wq_val; intro _ hw_; apply opv_move; exact rfl; exact rfl; apply wq_byK (T := tyB) (hr := hr) (hb := h1); exact rfl; exact rfl; exact rfl; exact rfl; exact rfl; intro _; apply wq_val; intro _ hw_; apply opv_convR; exact rfl; exact Try.underlying5; exact Try.underlying90; exact IntWalk.u32_in _ (by omega); exact rfl
  refine wq_val (fun _ _ => opv_bin (b := .int .u64 (16 : Nat)) rfl rfl ((bin_shl rfl).to (congrArg (fun z : Nat => Value.int .u32 (z : Int)) (Nat.mod_eq_of_lt q1)))) rfl ?_
  refine wq_val (fun _ _ => opv_bin rfl rfl (bin_or rfl q0 q1)) rfl ?_
  apply wq_val; intro _ hw_; apply opv_move; exact rfl; exact rfl; apply wq_byK (T := tyB) (hr := hr) (hb := h2); exact rfl; exact rfl; exact rfl; exact rfl; exact rfl; intro _; apply wq_val; intro _ hw_; apply opv_convR; exact rfl; exact Try.underlying5; exact Try.underlying90; exact IntWalk.u32_in _ (by omega); exact rfl
  refine wq_val (fun _ _ => opv_bin (b := .int .u64 (8 : Nat)) rfl rfl ((bin_shl rfl).to (congrArg (fun z : Nat => Value.int .u32 (z : Int)) (Nat.mod_eq_of_lt q2)))) rfl ?_
  refine wq_val (fun _ _ => opv_bin rfl rfl (bin_or rfl (Nat.or_lt_two_pow q0 q1) q2)) rfl ?_
  apply wq_val; intro _ hw_; apply opv_move; exact rfl; exact rfl; apply wq_byK (T := tyB) (hr := hr) (hb := h3); exact rfl; exact rfl; exact rfl; exact rfl; exact rfl; intro _; apply wq_val; intro _ hw_; apply opv_convR; exact rfl; exact Try.underlying5; exact Try.underlying90; exact IntWalk.u32_in _ (by omega); exact rfl
  refine wq_val (fun _ _ => opv_bin rfl rfl (bin_or rfl (Nat.or_lt_two_pow (Nat.or_lt_two_pow q0 q1) q2) q3)) rfl ?_
  apply wq_val; intro _ hw_; apply opv_assign; exact rfl; exact rfl; refine wq_nil fun w1 hw1 => ?_
  refine we_seq ?_; refine wc_ret ?_
  exact we_ret1 rfl rfl ⟨_, rfl, rfl, hw1⟩

theorem openB_errY {xs y : List UInt8} {q : Nat} (h : q ≤ xs.length) (hy : xs.drop q = y) {r : List UInt8} {e : Nat} (ho : openH y = (r, e)) (he : ¬ e = 0) : openB xs q = ([], 0, e) := openB_err h (hy.symm ▸ ho) he
theorem openB_okY {xs y : List UInt8} {q : Nat} (h : q ≤ xs.length) (hy : xs.drop q = y) {r : List UInt8} (ho : openH y = (r, 0)) : openB xs q = (r, q + 8 + r.length, 0) := openB_ok h (hy.symm ▸ ho)
/-- A body, a place and an error are handed back. -/
def RetO (w : World) (x : List UInt8 × Nat × Nat) (v : Value) (w' : World) : Prop :=
  ∃ (A : Option Addr) (c : Nat), v = .tuple #[.slice A x.1.length c, .int .i64 (x.2.1 : Int), .int .i64 (x.2.2 : Int)] ∧ OwB w' w.heap.size A c x.1 ∧ Below w.heap.size w w'
theorem RetO.err {w w' : World} {x : List UInt8 × Nat × Nat} {e : Nat} {k : Int} (h : x = ([], 0, e)) (hk : k = e) (hb : Below w.heap.size w w') : RetO w x (.tuple #[.slice none 0 0, .int .i64 0, .int .i64 k]) w' := by
  subst h hk; exact ⟨none, 0, rfl, Ow.nil _ _ _, hb⟩
theorem RdBB.two' {w : World} {A A1 A2 : Option Addr} {n1 n2 c1 c2 : Nat} {r s : List UInt8} (h : Rd w A 2 [.slice A1 n1 c1, .slice A2 n2 c2]) (h1 : RdB w A1 r) (e1 : r.length = n1) (hc : r.length ≤ c1) (h2 : RdB w A2 s) (e2 : s.length = n2) (hc2 : s.length ≤ c2) : RdBB w A [r, s] := by
  subst e1 e2; exact RdBB.two h h1 hc h2 hc2

theorem open_any {A : Option Addr} {n c : Nat} {xs : List UInt8} {p : Int} {w : World} (hr : RdB w A xs) (hn : xs.length = n) (hc : xs.length ≤ c) (hl : xs.length ≤ 140737488355328) :
    CallsV Try.prog 50 #[.slice A n c, .int .i64 p] w (RetO w (openB xs p)) := by
  subst hn
  refine calls_in (N := _) Try.func50 rfl Try.ntmps50 rfl ?_; show WC _ _ _ _ _ _
  refine wc_sr ?_; refine wl_as rfl rfl ?_; refine wl_as rfl rfl ?_; refine wl_as rfl rfl ?_; refine wl_ns ?_; refine wc_seq ?_; refine wc_sr ?_; refine wl_mv rfl rfl ?_; refine wl_bin rfl rfl bin_lss rfl ?_; refine wl_mv rfl rfl ?_
  refine wl_cutV 5 16 (.bool (decide ((p < 0) ∨ ((xs.length : Int) < p)))) ?c8 ?_; (case c8 => (dsimp only [List.take]; by_cases hc0 : (p < 0); (focus (apply wl_skip; exact rfl; exact rfl; exact rfl; refine bTn ?_; (with_reducible assumption); exact rfl; apply wl_skip; exact rfl; exact rfl; exact rfl; refine bTn ?_; (with_reducible assumption); exact rfl; apply wl_skip; exact rfl; exact rfl; exact rfl; refine bTn ?_; (with_reducible assumption); exact rfl; apply wl_skip; exact rfl; exact rfl; exact rfl; refine bTn ?_; (with_reducible assumption); exact rfl; apply wl_val; apply opv_pickT; exact rfl; refine bT ?_; (with_reducible assumption); exact rfl; exact rfl; refine wl_nil ?_; refine we_cut _ ⟨rfl, rfl⟩ ⟨congrArg (fun b => some (Value.bool b)) ?e8_0, ?s8_0⟩; (case e8_0 => ((simp [hc0]; done))); (case s8_0 => (refine And.intro rfl ?_; refine And.intro rfl ?_; refine And.intro rfl ?_; refine And.intro rfl ?_; refine And.intro rfl ?_; refine And.intro rfl ?_; refine And.intro rfl ?_; refine And.intro rfl ?_; exact True.intro)))); (focus (apply wl_take; exact rfl; exact rfl; exact rfl; refine bF ?_; (with_reducible assumption); refine wl_mv rfl rfl ?_; apply wl_take; exact rfl; exact rfl; exact rfl; refine bF ?_; (with_reducible assumption); refine wl_mv rfl rfl ?_; apply wl_take; exact rfl; exact rfl; exact rfl; refine bF ?_; (with_reducible assumption); apply wl_val; apply opv_len; exact rfl; exact tyB.sl; exact rfl; apply wl_take; exact rfl; exact rfl; exact rfl; refine bF ?_; (with_reducible assumption); refine wl_bin rfl rfl bin_gtr rfl ?_; apply wl_val; apply opv_pickF; exact rfl; refine bF ?_; (with_reducible assumption); exact rfl; exact rfl; refine wl_nil ?_; refine we_cut _ ⟨rfl, rfl⟩ ⟨congrArg (fun b => some (Value.bool b)) ?e8_1, ?s8_1⟩; (case e8_1 => ((simp [hc0]; done))); (case s8_1 => (refine And.intro rfl ?_; refine And.intro rfl ?_; refine And.intro rfl ?_; refine And.intro rfl ?_; refine And.intro rfl ?_; refine And.intro rfl ?_; refine And.intro rfl ?_; refine And.intro rfl ?_; exact True.intro)))))); dsimp only [List.drop]
  refine wl_ns ?_
  refine wc_cond rfl (fun h => ?_) (fun h => ?_)
  · refine wc_sr ?_; refine wl_as rfl rfl ?_; refine wl_as rfl rfl ?_; refine wl_as rfl rfl ?_; refine wl_ns ?_; refine wc_ret ?_; refine we_seq_ret ?_
    exact we_ret3 rfl rfl rfl rfl ⟨_, rfl, RetO.err (openB_arg (by omega)) rfl (Below.refl _ _)⟩
  · obtain ⟨q, rfl⟩ := Int.eq_ofNat_of_zero_le (show 0 ≤ p by omega)
    have hq : q ≤ xs.length := by omega
    refine wc_skip ?_; refine we_seq ?_; refine wc_sr ?_; refine wl_mv rfl rfl ?_; refine wl_mv rfl rfl ?_
    refine wl_sl (l := q) (h := xs.length) tyB rfl ⟨_, rfl⟩ rfl hq (by omega) rfl ?_
    obtain ⟨y, hy⟩ : ∃ y, xs.drop q = y := ⟨_, rfl⟩
    have ry : RdB w (cutA A c q) y := by have := rd_cut hr hq (Nat.le_refl _) hc; rw [List.take_length, hy] at this; exact this
    have hyl : xs.length - q = y.length := by rw [← hy, List.length_drop]
    obtain ⟨Y, hY⟩ : ∃ Y, cutA A c q = Y := ⟨_, rfl⟩
    obtain ⟨d, hd⟩ : ∃ d, c - q = d := ⟨_, rfl⟩
    have hyd : y.length ≤ d := by omega
    rw [hY] at ry
    rw [hyl, hY, hd]
    refine wl_as rfl rfl ?_; refine wl_ns ?_; refine wc_seq ?_; refine wc_sr ?_; refine wl_mv rfl rfl ?_; apply wl_val; apply opv_len; exact rfl; exact tyB.sl; exact rfl; refine wl_bin rfl rfl bin_lss rfl ?_; refine wl_ns ?_
    refine wc_cond rfl (fun h8 => ?_) (fun h8 => ?_)
    · refine wc_sr ?_; refine wl_as rfl rfl ?_; refine wl_as rfl rfl ?_; refine wl_as rfl rfl ?_; refine wl_ns ?_; refine wc_ret ?_; refine we_seq_ret ?_
      exact we_ret3 rfl rfl rfl rfl ⟨_, rfl, RetO.err (openB_errY hq hy (openH_short (by omega)) (by decide)) rfl (Below.refl _ _)⟩
    · refine wc_skip ?_; refine we_seq ?_; refine wc_sr ?_; refine wl_mv rfl rfl ?_
      refine wl_call ok_crc_get (crcGet_any ry rfl (by omega)) ⟨rfl, trivial⟩ rfl ?_
      rintro _ w1 ⟨rfl, hb1⟩
      obtain ⟨n, hn⟩ : ∃ n, numB (y.take 4) = n := ⟨_, rfl⟩
      have hnl : n < 4294967296 := by rw [← hn]; exact numB_lt4 (by simp; omega)
      rw [hn]
      replace ry := RdB.below ry hb1
      refine wl_as rfl rfl ?_; refine wl_ns ?_; refine wc_seq ?_; refine wc_sr ?_; refine wl_mv rfl rfl ?_; refine wl_bin rfl rfl bin_gtr rfl ?_; refine wl_ns ?_
      refine wc_cond rfl (fun h2 => ?_) (fun h2 => ?_)
      · refine wc_sr ?_; refine wl_as rfl rfl ?_; refine wl_as rfl rfl ?_; refine wl_as rfl rfl ?_; refine wl_ns ?_; refine wc_ret ?_; refine we_seq_ret ?_
        exact we_ret3 rfl rfl rfl rfl ⟨_, rfl, RetO.err (openB_errY hq hy (openH_size (by omega) (by omega)) (by decide)) rfl hb1⟩
      · refine wc_skip ?_; refine we_seq ?_; refine wc_sr ?_; refine wl_mv rfl rfl ?_; apply wl_val; apply opv_convR; exact rfl; exact Try.underlying90; exact Try.underlying3; exact IntWalk.i64_in _ (by omega); exact rfl; apply wl_val; apply opv_bin; exact rfl; exact rfl; exact bin_add64 (by omega); exact rfl; refine wl_as rfl rfl ?_; refine wl_ns ?_; refine wc_seq ?_; refine wc_sr ?_; refine wl_mv rfl rfl ?_; apply wl_val; apply opv_len; exact rfl; exact tyB.sl; exact rfl; refine wl_mv rfl rfl ?_; refine wl_bin rfl rfl bin_lss rfl ?_; refine wl_ns ?_
        refine wc_cond rfl (fun h3 => ?_) (fun h3 => ?_)
        · refine wc_sr ?_; refine wl_as rfl rfl ?_; refine wl_as rfl rfl ?_; refine wl_as rfl rfl ?_; refine wl_ns ?_; refine wc_ret ?_; refine we_seq_ret ?_
          exact we_ret3 rfl rfl rfl rfl ⟨_, rfl, RetO.err (openB_errY hq hy (openH_end (by omega) (by omega) (by omega)) (by decide)) rfl hb1⟩
        · have hyn : 8 + n ≤ y.length := by omega
          have hbl : ((y.take (8 + n)).drop 8).length = n := by simp; omega
          refine wc_skip ?_; refine we_seq ?_; refine wc_seq ?_; refine wc_seq ?_
          refine wc_heldB mixed fun w2 hS => ?_
          apply wh_take 0; exact rfl; kernel_rfl; kernel_rfl; kernel_rfl; exact hS; intro _ hw_; apply opv_move; exact rfl; exact rfl
          refine wh_take 1 rfl (by kernel_rfl) (by kernel_rfl) (by kernel_rfl) hS (fun _ _ => opv_slice (l := 0) (h := 4) tyB rfl rfl ⟨_, rfl⟩ (by omega) (by omega)) rfl ?_
          apply wh_take 2; exact rfl; kernel_rfl; kernel_rfl; kernel_rfl; exact hS; intro _ hw_; apply opv_move; exact rfl; exact rfl; apply wh_take 3; exact rfl; kernel_rfl; kernel_rfl; kernel_rfl; exact hS; intro _ hw_; apply opv_move; exact rfl; exact rfl
          refine wh_take 4 rfl (by kernel_rfl) (by kernel_rfl) (by kernel_rfl) hS (fun _ _ => opv_slice (l := 8) (h := 8 + n) tyB rfl ⟨_, rfl⟩ ⟨_, by simp only [Int.natCast_add]; rfl⟩ (by omega) (by omega)) rfl ?_
          apply wh_take 7; exact rfl; kernel_rfl; kernel_rfl; kernel_rfl; exact hS; intro _ hw_; apply opv_move; exact rfl; exact rfl
          refine wh_take 8 rfl (by kernel_rfl) (by kernel_rfl) (by kernel_rfl) hS (fun _ _ => opv_slice (l := 4) (h := y.length) tyB rfl ⟨_, rfl⟩ rfl (by omega) (by omega)) rfl ?_
          refine wh_one 5 (o := ⟨_, _, _, _, _, _⟩) (by kernel_rfl) rfl ?_
          refine wl_bs (vs := [_, _]) tyBB ⟨rfl, rfl, rfl, rfl, rfl, rfl, trivial⟩ rfl (by decide) rfl fun A5 w5 o5 h5 _ => ?_
          have hS5 := hS.trans (h5.mono hS.size)
          replace ry := RdB.below ry hS5
          have rA : RdB w5 (cutA Y d 0) (y.take 4) := by have := rd_cut (l := 0) (h := 4) ry (by omega) (by omega) hyd; exact this
          have rB := rd_cut (l := 8) (h := 8 + n) ry (by omega) hyn hyd
          have rC := rd_cut (l := 4) (h := y.length) ry (by omega) (Nat.le_refl _) hyd
          rw [List.take_length] at rC
          have hrows := RdBB.two' o5.rd rA (by simp; omega) (by simp; omega) rB (by simp; omega) (by simp; omega)
          refine wl_nil ?_
          refine we_held hS5 ?_
          refine wh_one 6 (o := ⟨_, _, _, _, _, _⟩) (by kernel_rfl) rfl ?_
          refine wl_call ok_crc_Sum (sum_any hrows rfl (by simp only [maxLen]; simp; omega) (by simp only [maxLen]; simp)) ⟨rfl, trivial⟩ rfl ?_
          rintro _ w6 ⟨rfl, h6⟩
          have hS6 := hS5.trans (h6.mono hS5.size)
          refine wl_nil ?_
          refine we_held hS6 ?_
          refine wh_one 9 (o := ⟨_, _, _, _, _, _⟩) (by kernel_rfl) rfl ?_
          refine wl_call ok_crc_get (crcGet_any (RdB.below rC h6) (by simp) (by simp; omega)) ⟨rfl, trivial⟩ rfl ?_
          rintro _ w7 ⟨rfl, h7⟩
          have hS7 := hS6.trans (h7.mono hS6.size)
          refine wl_nil ?_
          refine we_held hS7 ?_
          obtain ⟨s, hs⟩ : ∃ s, crcOf [y.take 4, (y.take (8 + n)).drop 8].flatten = s := ⟨_, rfl⟩
          obtain ⟨t, ht⟩ : ∃ t, numB ((y.drop 4).take 4) = t := ⟨_, rfl⟩
          rw [hs, ht]
          have hs' : crcOf (y.take 4 ++ (y.take (8 + n)).drop 8) = s := by rw [← hs]; simp
          apply wh_take 10; exact rfl; kernel_rfl; kernel_rfl; kernel_rfl; exact hS7; intro _ hw_; apply opv_bin; exact rfl; exact rfl; exact bin_neq; exact rfl
          refine wh_done (by kernel_rfl) ?_
          have hb7 := hb1.trans (hS7.mono hb1.size)
          refine we_seq ?_
          refine wc_cond rfl (fun h4 => ?_) (fun h4 => ?_)
          · refine wc_sr ?_; refine wl_as rfl rfl ?_; refine wl_as rfl rfl ?_; refine wl_as rfl rfl ?_; refine wl_ns ?_; refine wc_ret ?_; refine we_seq_ret ?_
            exact we_ret3 rfl rfl rfl rfl ⟨_, rfl, RetO.err (openB_errY hq hy (openH_sum (by omega) (by omega) (by omega) (by rw [hn, hs', ht]; omega)) (by decide)) rfl hb7⟩
          · refine wc_skip ?_; refine we_seq ?_; refine wc_sr ?_; refine wl_mv rfl rfl ?_; refine wl_mv rfl rfl ?_
            refine wl_sl (l := 8) (h := 8 + n) tyB rfl ⟨_, rfl⟩ ⟨_, by simp only [Int.natCast_add]; rfl⟩ (by omega) (by omega) rfl ?_
            have rD := RdB.below rB (h6.trans (h7.mono h6.size))
            refine wl_call ok_bytes_Clone (clone_any rD (by rw [hbl]; omega) (by rw [hbl]; omega)) ⟨rfl, trivial⟩ rfl ?_
            rintro _ w8 ⟨A8, c8, rfl, o8, h8'⟩
            have hb8 := hb7.trans (h8'.mono hb7.size)
            have eo := openB_okY hq hy (openH_ok (y := y) (by omega) (by omega) (by omega) (by rw [hn, hs', ht]; omega))
            rw [hn] at eo
            refine wl_mv rfl rfl ?_; refine wl_mv rfl rfl ?_; apply wl_val; apply opv_bin; exact rfl; exact rfl; exact bin_add64 (by omega); exact rfl; refine wl_as rfl rfl ?_; refine wl_as rfl rfl ?_; refine wl_as rfl rfl ?_; refine wl_ns ?_; refine wc_ret ?_
            refine we_ret3 rfl rfl rfl rfl ⟨_, rfl, ?_⟩
            rw [eo]
            refine ⟨A8, c8, ?_, Ow.mono o8 hb7.size, hb8⟩
            rw [hbl, show (q : Int) + (8 + (n : Int)) = ((q + 8 + n : Nat) : Int) by omega]; rfl

end Go.Proofs.Ytaacnknniaipmaa

/-
  Walks over the reference's sealed records.
-/
namespace Go.Proofs.Ytaacnknniaipmaa
open Go.RowKit

theorem OwB.of {w : World} {base n c : Nat} {A : Option Addr} {vs : List Value} {ys : List UInt8} (h : Ow w base 5 A n c vs) (hn : ys.length = n) (hv : bvs ys = vs) : OwB w base A c ys := by subst hn hv; exact h
theorem refFour_any (n : Nat) (hn : n < 4294967296) (w : World) : CallsV Try.prog 82 #[.int .u32 n] w fun v w' => ∃ (A : Option Addr) (c : Nat), v = .slice A 4 c ∧ RdB w' A (four n) ∧ Below w.heap.size w w' := by
  refine calls_in (N := _) Try.func82 rfl Try.ntmps82 rfl ?_; show WC _ _ _ _ _ _
  refine wc_sr ?_; refine wl_as rfl rfl ?_; refine wl_ns ?_; refine wc_sr ?_; refine wl_mv rfl rfl ?_; apply wl_val; apply opv_convR; exact rfl; exact Try.underlying90; exact Try.underlying22; exact IntWalk.u64_in _ (by omega); exact rfl
  refine wl_call ok_caissonref01_OrdU (refOrdU_any n (by omega) w) ⟨rfl, trivial⟩ rfl ?_
  rintro _ w1 ⟨A1, c1, rfl, o1, hb1⟩
  have hc := o1.cap
  have rc := rd_cut (l := 4) (h := 8) o1.rd (by omega) (by rw [ordU_length]; omega) hc
  rw [List.take_of_length_le (by rw [ordU_length]; omega), ordU_four] at rc
  rw [ordU_length] at hc ⊢
  refine wl_as rfl rfl ?_; refine wl_ns ?_; refine wc_sr ?_; refine wl_mv rfl rfl ?_
  refine wl_sl (l := 4) (h := 8) tyB rfl ⟨_, rfl⟩ rfl (by omega) (by omega) rfl ?_
  refine wl_as rfl rfl ?_; refine wl_ns ?_; refine wc_ret ?_
  exact we_ret1 rfl rfl ⟨_, rfl, _, _, rfl, rc, hb1⟩

/-- Bytes and an error are handed back. -/
def RetS (w : World) (x : List UInt8 × Nat) (v : Value) (w' : World) : Prop :=
  ∃ (A : Option Addr) (c : Nat), v = .tuple #[.slice A x.1.length c, .int .i64 (x.2 : Int)] ∧ OwB w' w.heap.size A c x.1 ∧ Below w.heap.size w w'
theorem refSeal_any {A : Option Addr} {n c : Nat} {xs : List UInt8} {w : World} (hr : RdB w A xs) (hn : xs.length = n) :
    CallsV Try.prog 58 #[.slice A n c] w (RetS w (sealB xs)) := by
  subst hn
  refine calls_in (N := _) Try.func58 rfl Try.ntmps58 rfl ?_; show WC _ _ _ _ _ _
  refine wc_sr ?_; refine wl_as rfl rfl ?_; refine wl_as rfl rfl ?_; refine wl_ns ?_; refine wc_seq ?_; refine wc_sr ?_; refine wl_mv rfl rfl ?_; apply wl_val; apply opv_len; exact rfl; exact tyB.sl; exact rfl; refine wl_bin rfl rfl bin_gtr rfl ?_; refine wl_ns ?_
  refine wc_cond rfl (fun h => ?_) (fun h => ?_)
  · refine wc_sr ?_; refine wl_as rfl rfl ?_; refine wl_as rfl rfl ?_; refine wl_ns ?_; refine wc_ret ?_; refine we_seq_ret ?_
    refine we_ret2 rfl rfl rfl ⟨_, rfl, ?_⟩
    rw [sealB, if_pos (by omega)]
    exact ⟨none, 0, rfl, Ow.nil _ _ _, Below.refl _ _⟩
  · have hl : xs.length ≤ 1048576 := by omega
    refine wc_skip ?_; refine we_seq ?_; refine wc_sr ?_; refine wl_mv rfl rfl ?_; apply wl_val; apply opv_len; exact rfl; exact tyB.sl; exact rfl; apply wl_val; apply opv_convR; exact rfl; exact Try.underlying3; exact Try.underlying90; exact IntWalk.u32_in _ (by omega); exact rfl
    refine wl_call ok_caissonref03_four (refFour_any xs.length (by omega) w) ⟨rfl, trivial⟩ rfl ?_
    rintro _ w1 ⟨A1, c1, rfl, r1, hb⟩
    replace hr := RdB.below hr hb
    refine wl_as rfl rfl ?_; refine wl_ns ?_; refine wc_sr ?_; refine wl_mv rfl rfl ?_
    refine wl_call ok_caissonref01_Copy (copy_any r1 (four_length _) (by rw [four_length]; decide)) ⟨rfl, trivial⟩ rfl ?_
    rintro _ w2 ⟨A2, c2, rfl, o2, h2⟩
    rw [four_length]
    unfold OwB at o2
    rw [four_length] at o2
    refine wl_mv rfl rfl ?_
    refine wl_app tyB rfl o2 rfl (RdB.below hr h2) (bvs_one _) (by omega) (by simp only [maxLen]; omega) h2.size rfl fun A3 c3 w3 o3 g3 _ => ?_
    have h3 : Below w1.heap.size w1 w3 := g3.below h2 o2 (Nat.le_refl _) h2.size
    have o3' : OwB w3 w1.heap.size A3 c3 (four xs.length ++ xs) := OwB.of o3 (by simp [four_length]) (bvs_append _ _)
    refine wl_call ok_caissonref03_Sum (refSum_any o3'.rd (by simp [four_length]) (by simp [four_length, maxLen]; omega)) ⟨rfl, trivial⟩ rfl ?_
    rintro _ _ ⟨rfl, rfl⟩
    obtain ⟨s, hs⟩ : ∃ s, crcOf (four xs.length ++ xs) = s := ⟨_, rfl⟩
    have hsl : s < 4294967296 := hs ▸ crcOf_lt _
    rw [hs]
    replace hb := hb.trans (h3.mono hb.size)
    replace r1 := RdB.below r1 h3
    replace hr := RdB.below hr h3
    clear h2 o2 o3 o3' g3 h3
    refine wl_as rfl rfl ?_; refine wl_ns ?_; refine wc_sr ?_; refine wl_mv rfl rfl ?_
    refine wl_call ok_caissonref01_Copy (copy_any r1 (four_length _) (by rw [four_length]; decide)) ⟨rfl, trivial⟩ rfl ?_
    rintro _ w4 ⟨A4, c4, rfl, o4, h4⟩
    rw [four_length]
    refine wl_mv rfl rfl ?_
    refine wl_call ok_caissonref03_four (refFour_any s hsl w4) ⟨rfl, trivial⟩ rfl ?_
    rintro _ w5 ⟨A5, c5, rfl, r5, h5⟩
    replace o4 := OwB.below o4 h5
    unfold OwB at o4
    rw [four_length] at o4
    have h45 := h4.trans (h5.mono h4.size)
    unfold RdB at r5
    rw [four_length] at r5
    refine wl_app tyB rfl o4 rfl r5 (bvs_one _) (by omega) (by simp only [maxLen]; omega) h45.size rfl fun A6 c6 w6 o6 g6 _ => ?_
    have h6 : Below w3.heap.size w3 w6 := g6.below h45 o4 (Nat.le_refl _) h45.size
    refine wl_mv rfl rfl ?_
    refine wl_app tyB rfl o6 rfl (RdB.below hr h6) (bvs_one _) (by omega) (by simp only [maxLen]; omega) h6.size rfl fun A7 c7 w7 o7 g7 _ => ?_
    have h7 : Below w3.heap.size w3 w7 := g7.below h6 o6 (Nat.le_refl _) h6.size
    have o7' : OwB w7 w3.heap.size A7 c7 (crcRec xs) := OwB.of o7 (by rw [crcRec_length]) (by rw [crcRec, hs]; simp [bvs_append])
    refine wl_as rfl rfl ?_; refine wl_as rfl rfl ?_; refine wl_ns ?_; refine wc_ret ?_
    refine we_ret2 rfl rfl rfl ⟨_, rfl, ?_⟩
    rw [sealB, if_neg (by omega)]
    exact ⟨A7, c7, by dsimp only; rw [crcRec_length]; rfl, Ow.mono o7' hb.size, hb.trans (h7.mono hb.size)⟩

theorem numB_lt4' {l : List UInt8} {k : Nat} (h : k ≤ 4) : numB (l.take k) < 4294967296 := by
  have h1 := numB_lt (l.take k)
  have h2 : 256 ^ (l.take k).length ≤ 256 ^ 4 := Nat.pow_le_pow_right (by decide) (by simp; omega)
  exact Nat.lt_of_lt_of_le h1 h2
theorem sealB_ok {l : List UInt8} (h : l.length ≤ 1048576) : sealB l = (crcRec l, 0) := by rw [sealB, if_neg (by omega)]
theorem refSeal_ok {A : Option Addr} {n c : Nat} {xs : List UInt8} {w : World} (h : xs.length ≤ 1048576) (hr : RdB w A xs) (hn : xs.length = n) :
    CallsV Try.prog 58 #[.slice A n c] w (RetS w (crcRec xs, 0)) := sealB_ok h ▸ refSeal_any hr hn
theorem refOpen_any {A : Option Addr} {n c : Nat} {xs : List UInt8} {p : Int} {w : World} (hr : RdB w A xs) (hn : xs.length = n) (hc : xs.length ≤ c) (hl : xs.length ≤ 140737488355328) (hp : -9223372036854775808 ≤ p ∧ p ≤ 9223372036854775807) :
    CallsV Try.prog 26 #[.slice A n c, .int .i64 p] w (RetO w (openB xs p)) := by
  subst hn
  refine calls_in (N := _) Try.func26 rfl Try.ntmps26 rfl ?_; show WC _ _ _ _ _ _
  refine wc_sr ?_; refine wl_as rfl rfl ?_; refine wl_as rfl rfl ?_; refine wl_as rfl rfl ?_; refine wl_ns ?_; refine wc_seq ?_; refine wc_sr ?_; refine wl_mv rfl rfl ?_; refine wl_bin rfl rfl bin_lss rfl ?_; refine wl_mv rfl rfl ?_
  refine wl_cutV 5 19 (.bool (decide ((p < 0) ∨ ((xs.length : Int) < p)))) ?c13 ?_; (case c13 => (dsimp only [List.take]; by_cases hc0 : (p < 0); (focus (apply wl_skip; exact rfl; exact rfl; exact rfl; refine bTn ?_; (with_reducible assumption); exact rfl; apply wl_skip; exact rfl; exact rfl; exact rfl; refine bTn ?_; (with_reducible assumption); exact rfl; apply wl_skip; exact rfl; exact rfl; exact rfl; refine bTn ?_; (with_reducible assumption); exact rfl; apply wl_skip; exact rfl; exact rfl; exact rfl; refine bTn ?_; (with_reducible assumption); exact rfl; apply wl_val; apply opv_pickT; exact rfl; refine bT ?_; (with_reducible assumption); exact rfl; exact rfl; refine wl_nil ?_; refine we_cut _ ⟨rfl, rfl⟩ ⟨congrArg (fun b => some (Value.bool b)) ?e13_0, ?s13_0⟩; (case e13_0 => ((simp [hc0]; done))); (case s13_0 => (refine And.intro rfl ?_; refine And.intro rfl ?_; refine And.intro rfl ?_; refine And.intro rfl ?_; refine And.intro rfl ?_; refine And.intro rfl ?_; refine And.intro rfl ?_; refine And.intro rfl ?_; exact True.intro)))); (focus (apply wl_take; exact rfl; exact rfl; exact rfl; refine bF ?_; (with_reducible assumption); refine wl_mv rfl rfl ?_; apply wl_take; exact rfl; exact rfl; exact rfl; refine bF ?_; (with_reducible assumption); refine wl_mv rfl rfl ?_; apply wl_take; exact rfl; exact rfl; exact rfl; refine bF ?_; (with_reducible assumption); apply wl_val; apply opv_len; exact rfl; exact tyB.sl; exact rfl; apply wl_take; exact rfl; exact rfl; exact rfl; refine bF ?_; (with_reducible assumption); refine wl_bin rfl rfl bin_gtr rfl ?_; apply wl_val; apply opv_pickF; exact rfl; refine bF ?_; (with_reducible assumption); exact rfl; exact rfl; refine wl_nil ?_; refine we_cut _ ⟨rfl, rfl⟩ ⟨congrArg (fun b => some (Value.bool b)) ?e13_1, ?s13_1⟩; (case e13_1 => ((simp [hc0]; done))); (case s13_1 => (refine And.intro rfl ?_; refine And.intro rfl ?_; refine And.intro rfl ?_; refine And.intro rfl ?_; refine And.intro rfl ?_; refine And.intro rfl ?_; refine And.intro rfl ?_; refine And.intro rfl ?_; exact True.intro)))))); dsimp only [List.drop]
  refine wl_ns ?_
  refine wc_cond rfl (fun h => ?_) (fun h => ?_)
  · refine wc_sr ?_; refine wl_as rfl rfl ?_; refine wl_as rfl rfl ?_; refine wl_as rfl rfl ?_; refine wl_ns ?_; refine wc_ret ?_; refine we_seq_ret ?_
    exact we_ret3 rfl rfl rfl rfl ⟨_, rfl, RetO.err (openB_arg (by omega)) rfl (Below.refl _ _)⟩
  · obtain ⟨q, rfl⟩ := Int.eq_ofNat_of_zero_le (show 0 ≤ p by omega)
    have hq : q ≤ xs.length := by omega
    obtain ⟨y, hy⟩ : ∃ y, xs.drop q = y := ⟨_, rfl⟩
    have hyl : xs.length - q = y.length := by rw [← hy, List.length_drop]
    have hget : ∀ k, y[k]? = xs[q + k]? := fun k => by rw [← hy, List.getElem?_drop]
    refine wc_skip ?_; refine we_seq ?_; refine wc_seq ?_; refine wc_sr ?_; refine wl_mv rfl rfl ?_; apply wl_val; apply opv_len; exact rfl; exact tyB.sl; exact rfl; refine wl_mv rfl rfl ?_; apply wl_val; apply opv_bin; exact rfl; exact rfl; exact bin_sub64 (by omega); exact rfl; refine wl_bin rfl rfl bin_lss rfl ?_; refine wl_ns ?_
    refine wc_cond rfl (fun h8 => ?_) (fun h8 => ?_)
    · refine wc_sr ?_; refine wl_as rfl rfl ?_; refine wl_as rfl rfl ?_; refine wl_as rfl rfl ?_; refine wl_ns ?_; refine wc_ret ?_; refine we_seq_ret ?_
      exact we_ret3 rfl rfl rfl rfl ⟨_, rfl, RetO.err (openB_errY hq hy (openH_short (by omega)) (by decide)) rfl (Below.refl _ _)⟩
    · refine wc_skip ?_; refine we_seq ?_; refine wc_sr ?_; refine wl_as rfl rfl ?_; refine wl_ns ?_; refine wc_seq ?_; refine wc_sr ?_; refine wl_as rfl rfl ?_; refine wl_ns ?_; refine wc_block ?_
      refine wc_loop (fun L wr m => ∃ k : Nat, L = [(0, .slice A xs.length c), (1, .int .i64 (q : Int)), (7, .int .i64 (numB (y.take k) : Nat)), (8, .int .i64 (k : Int))] ∧ k ≤ 4 ∧ w = wr ∧ m = 4 - k)
        [(0, .slice A xs.length c), (1, .int .i64 (q : Int)), (7, .int .i64 (0 : Nat)), (8, .int .i64 (0 : Nat))] 4 ⟨0, rfl, by omega, rfl, rfl⟩ ⟨rfl, rfl, rfl, rfl, trivial⟩ ?_
      rintro _ _ m ⟨k, rfl, hk, rfl, rfl⟩
      have hnl := numB_lt4' (l := y) hk
      refine wc_seq ?_; refine wc_sr ?_; refine wl_mv rfl rfl ?_; refine wl_bin rfl rfl bin_lss rfl ?_; refine wl_ns ?_
      refine wc_cond rfl (fun h1 => ?_) (fun h1 => ?_)
      · obtain ⟨x, hx⟩ : ∃ x, y[k]? = some x := ⟨_, List.getElem?_eq_getElem (by omega)⟩
        have hx2 := hx
        rw [hget] at hx2
        have hxl := x.toNat_lt
        refine wc_skip ?_; refine we_seq ?_; refine wc_seq ?_; refine wc_block ?_; refine wc_region ?_; refine wl_mv rfl rfl ?_
        refine wl_val (opv_bin (b := .int .i64 (256 : Nat)) rfl rfl (bin_mulN (by omega))) rfl ?_
        refine wl_mv rfl rfl ?_; refine wl_mv rfl rfl ?_; refine wl_mv rfl rfl ?_; apply wl_val; apply opv_bin; exact rfl; exact rfl; exact bin_add64 (by omega); exact rfl; apply wl_byK (T := tyB) (hr := hr) (hb := hx2); exact rfl; exact rfl; exact rfl; exact rfl; exact rfl; intro _; apply wl_val; apply opv_convR; exact rfl; exact Try.underlying5; exact Try.underlying3; exact IntWalk.i64_in _ (by omega); exact rfl; apply wl_val; apply opv_bin; exact rfl; exact rfl; exact bin_add64 (by omega); exact rfl; refine wl_as rfl rfl ?_; refine wl_nil ?_; refine we_block_norm ?_; refine we_seq ?_; refine wc_region ?_; refine wl_mv rfl rfl ?_; apply wl_val; apply opv_bin; exact rfl; exact rfl; exact bin_add64 (by omega); exact rfl; refine wl_as rfl rfl ?_; refine wl_nil ?_
        have en : ((numB (y.take k) * 256 : Nat) : Int) + (x.toNat : Int) = (numB (y.take (k + 1)) : Nat) := by rw [numB_step hx]; omega
        rw [en]
        skip
        refine we_loop [(0, .slice A xs.length c), (1, .int .i64 (q : Int)), (7, .int .i64 (numB (y.take (k + 1)) : Nat)), (8, .int .i64 ((k + 1 : Nat) : Int))] (4 - (k + 1)) ⟨k + 1, rfl, by omega, rfl, rfl⟩ (by omega) ⟨rfl, rfl, rfl, rfl, trivial⟩
      · obtain rfl : k = 4 := by omega
        obtain ⟨n, hn⟩ : ∃ n, numB (y.take 4) = n := ⟨_, rfl⟩
        rw [hn] at hnl ⊢
        refine wc_exit ?_; refine we_seq_exit ?_; refine we_loop_exit ?_; refine we_block_exit ?_; refine we_seq ?_; refine wc_seq ?_; refine wc_sr ?_; refine wl_mv rfl rfl ?_; refine wl_bin rfl rfl bin_gtr rfl ?_; refine wl_ns ?_
        refine wc_cond rfl (fun h2 => ?_) (fun h2 => ?_)
        · refine wc_sr ?_; refine wl_as rfl rfl ?_; refine wl_as rfl rfl ?_; refine wl_as rfl rfl ?_; refine wl_ns ?_; refine wc_ret ?_; refine we_seq_ret ?_
          exact we_ret3 rfl rfl rfl rfl ⟨_, rfl, RetO.err (openB_errY hq hy (openH_size (by omega) (by omega)) (by decide)) rfl (Below.refl _ _)⟩
        · refine wc_skip ?_; refine we_seq ?_; refine wc_seq ?_; refine wc_sr ?_; refine wl_mv rfl rfl ?_; apply wl_val; apply opv_len; exact rfl; exact tyB.sl; exact rfl; refine wl_mv rfl rfl ?_; apply wl_val; apply opv_bin; exact rfl; exact rfl; exact bin_sub64 (by omega); exact rfl; apply wl_val; apply opv_bin; exact rfl; exact rfl; exact bin_sub64 (by omega); exact rfl; refine wl_mv rfl rfl ?_; refine wl_bin rfl rfl bin_lss rfl ?_; refine wl_ns ?_
          refine wc_cond rfl (fun h3 => ?_) (fun h3 => ?_)
          · refine wc_sr ?_; refine wl_as rfl rfl ?_; refine wl_as rfl rfl ?_; refine wl_as rfl rfl ?_; refine wl_ns ?_; refine wc_ret ?_; refine we_seq_ret ?_
            exact we_ret3 rfl rfl rfl rfl ⟨_, rfl, RetO.err (openB_errY hq hy (openH_end (by omega) (by omega) (by omega)) (by decide)) rfl (Below.refl _ _)⟩
          · have hyn : 8 + n ≤ y.length := by omega
            have hbl : ((y.take (8 + n)).drop 8).length = n := by simp; omega
            have ec : (xs.take (q + 8 + n)).drop (q + 8) = (y.take (8 + n)).drop 8 := by
              rw [← hy, List.drop_take, List.drop_take, List.drop_drop]; congr 1; omega
            have ew : (xs.take (q + 8 + n)).drop q = y.take (8 + n) := by
              rw [← hy, List.drop_take]; congr 1; omega
            have rB := rd_cut (l := q + 8) (h := q + 8 + n) hr (by omega) (by omega) hc
            have rW := rd_cut (l := q) (h := q + 8 + n) hr (by omega) (by omega) hc
            rw [ec] at rB
            rw [ew] at rW
            have hb := Below.refl w.heap.size w
            refine wc_skip ?_; refine we_seq ?_; refine wc_sr ?_; refine wl_mv rfl rfl ?_; refine wl_mv rfl rfl ?_; apply wl_val; apply opv_bin; exact rfl; exact rfl; exact bin_add64 (by omega); exact rfl; refine wl_mv rfl rfl ?_; apply wl_val; apply opv_bin; exact rfl; exact rfl; exact bin_add64 (by omega); exact rfl; refine wl_mv rfl rfl ?_; apply wl_val; apply opv_bin; exact rfl; exact rfl; exact bin_add64 (by omega); exact rfl
            refine wl_sl (l := q + 8) (h := q + 8 + n) tyB rfl ⟨_, by simp only [Int.natCast_add]; rfl⟩ ⟨_, by simp only [Int.natCast_add]; rfl⟩ (by omega) (by omega) rfl ?_
            refine wl_call ok_caissonref01_Copy (copy_any rB (by rw [hbl]; omega) (by rw [hbl]; omega)) ⟨rfl, trivial⟩ rfl ?_
            rintro _ w1 ⟨A1, c1, rfl, o1, h1'⟩
            refine wl_as rfl rfl ?_; refine wl_ns ?_; refine wc_sr ?_; refine wl_mv rfl rfl ?_
            refine wl_call ok_caissonref03_Seal (refSeal_ok (by rw [hbl]; omega) o1.rd rfl) ⟨rfl, trivial⟩ rfl ?_
            rintro _ w2 ⟨A2, c2, rfl, o2, h2'⟩
            have h12 := h1'.trans (h2'.mono h1'.size)
            dsimp only at o2
            refine wl_mv rfl rfl ?_; apply wl_val; apply opv_extract; exact rfl; exact rfl; exact rfl; apply wl_val; apply opv_extract; exact rfl; exact rfl; exact rfl; refine wl_as rfl rfl ?_; refine wl_as rfl rfl ?_; refine wl_ns ?_; refine wc_seq ?_; refine wc_sr ?_; refine wl_mv rfl rfl ?_; refine wl_mv rfl rfl ?_; refine wl_mv rfl rfl ?_; refine wl_mv rfl rfl ?_; apply wl_val; apply opv_bin; exact rfl; exact rfl; exact bin_add64 (by omega); exact rfl; refine wl_mv rfl rfl ?_; apply wl_val; apply opv_bin; exact rfl; exact rfl; exact bin_add64 (by omega); exact rfl
            refine wl_sl (l := q) (h := q + 8 + n) tyB rfl ⟨_, rfl⟩ ⟨_, by simp only [Int.natCast_add]; rfl⟩ (by omega) (by omega) rfl ?_
            refine wl_call ok_caissonref01_Equal (equal_any o2.rd (RdB.below rW h12) rfl (by simp; omega) (by rw [crcRec_length, hbl]; simp only [maxLen]; omega)) ⟨rfl, rfl, trivial⟩ rfl ?_
            rintro _ w3 ⟨rfl, h3'⟩
            have h13 := h12.trans (h3'.mono h12.size)
            have hri := rec_iff (y := y) (by omega) (by omega)
            rw [hn] at hri
            apply wl_val; apply opv_notD; exact rfl; exact rfl; refine wl_ns ?_
            refine wc_cond rfl (fun h4 => ?_) (fun h4 => ?_)
            · refine wc_sr ?_; refine wl_as rfl rfl ?_; refine wl_as rfl rfl ?_; refine wl_as rfl rfl ?_; refine wl_ns ?_; refine wc_ret ?_; refine we_seq_ret ?_
              exact we_ret3 rfl rfl rfl rfl ⟨_, rfl, RetO.err (openB_errY hq hy (openH_sum (by omega) (by omega) (by omega) (by rw [hn, ← hri]; exact h4)) (by decide)) rfl h13⟩
            · have eo := openB_okY hq hy (openH_ok (y := y) (by omega) (by omega) (by omega) (by rw [hn, ← hri]; exact Decidable.not_not.1 h4))
              rw [hn] at eo
              replace o1 := OwB.below o1 (h2'.trans (h3'.mono h2'.size))
              refine wc_skip ?_; refine we_seq ?_; refine wc_sr ?_; refine wl_mv rfl rfl ?_; refine wl_mv rfl rfl ?_; apply wl_val; apply opv_bin; exact rfl; exact rfl; exact bin_add64 (by omega); exact rfl; refine wl_mv rfl rfl ?_; apply wl_val; apply opv_bin; exact rfl; exact rfl; exact bin_add64 (by omega); exact rfl; refine wl_as rfl rfl ?_; refine wl_as rfl rfl ?_; refine wl_as rfl rfl ?_; refine wl_ns ?_; refine wc_ret ?_
              refine we_ret3 rfl rfl rfl rfl ⟨_, rfl, ?_⟩
              rw [eo]
              refine ⟨A1, c1, ?_, o1, h13⟩
              rw [hbl, show (q : Int) + 8 + (n : Int) = ((q + 8 + n : Nat) : Int) by omega]; rfl

end Go.Proofs.Ytaacnknniaipmaa

/-
  New memory of the library's: rules for copy and for its fresh bytes; walks over bytes.Join without a separator and over the sealing of records.
-/
namespace Go.Proofs.Ytaacnknniaipmaa
open Go.RowKit

section
variable {P : Program} {N : Nat} {ops : Array Oper} {Q : Exit → Act → World → Prop} {rest : List Oper} {L : FL} {w : World} {t e : TypeId} {z : Value} {bytes : Nat}
/-- copy into a block that is known whole: all of the source fits. -/
theorem wl_copy {d : Nat} {x y : Operand} {ty : TypeId} {pos : String} {aft : Array Edge} {g off n c m c' : Nat} {A B : Option Addr} {cs ys : List Value} (T : Row1 P t e z bytes)
    (hx : look L x = some (.slice A n c)) (hy : look L y = some (.slice B m c')) (ha : Ar w g e cs) (hr : Rd w B m ys) (h1 : ∀ u ∈ ys, u.oneCell' = true)
    (hA : 0 < m → A = some ⟨g, off, none⟩) (hm : m ≤ n) (hfit : off + m ≤ cs.length) (hd : Nat.blt d N = true)
    (h : ∀ w', Ar w' g e (cs.take off ++ (ys ++ cs.drop (off + m))) → Below g w w' → WL P N ops Q rest ((d, .int .i64 (m : Int)) :: L) w') :
    WL P N ops Q (⟨some d, .call { callee := .builtin .copy, args := #[x, y], argTypes := #[t, t] }, ty, pos, aft, none⟩ :: rest) L w := fun a hH => by
  have hl : ys.length = m := hr.1
  obtain ⟨i, hi, _, hs, _⟩ := info_parts T.info
  refine wpList_copy_splice rfl x y t t rfl e T.sl (by simp [hi, hs]) A B n c m c' (hH.eval hx) (hH.eval hy) g off cs e ha ys (by rw [hl]; exact (Nat.min_eq_left hm).symm)
    (fun h0 => ?_) (by rw [hl]; exact hfit) h1 g w (Below.refl _ _) (Nat.le_refl _) fun w' hc hb => ?_
  · rw [hl] at h0
    obtain ⟨b, o, hB, _, hcell⟩ := hr.2 h0
    exact ⟨hA h0, ⟨b, o, none⟩, hB, fun j v hv => by rw [Addr.add_lit]; exact hcell j v hv⟩
  · have hc' : Ar w' g e (splice cs off ys) := hc
    unfold splice at hc'
    rw [hl] at hc'
    have := h w' hc' hb _ (hH.put hd (.int .i64 (m : Int)))
    simpa [goInt, hl] using this
theorem opv_ext {f : FuncId} {x : Operand} {ats : Array TypeId} {ty : TypeId} {u v : Value} {w' : World} (hx : look L x = some u) (hrun : (callFunc f #[u]).run P w = .ok (.value v) w') :
    OpV P (.call { callee := .value (.func f), args := #[x], argTypes := ats }) ty L w v w' := fun ρ o hρ ho _ => by
  have hf : ρ (.func f) = .func (.func f) #[] #[] := hρ _ _ rfl
  unfold execOp
  simp only [ho, resolve, Deferred.ofValue, hf, Sem.run_bind, Sem.run_pure, Result.andThen_ok, invoke]
  have : (#[] ++ Array.map ρ #[x] ++ #[]) = #[u] := by simp [hρ x u hx]
  rw [this]
  exact hrun
theorem opv_slice3 {x y y' : Operand} {ty : TypeId} {A : Option Addr} {n c h : Nat} {k k' : IntKind} (T : Row1 P t e z bytes) (hx : look L x = some (.slice A n c)) (hy : look L y = some (.int k (h : Int))) (hy' : look L y' = some (.int k' (h : Int))) (h2 : h ≤ c) :
    OpV P (.slice t x none (some y) (some y')) ty L w (.slice A h h) w := fun ρ o hρ ho _ => by
  unfold execOp
  simp only [ho, Instr.sliceAt, Instr.slice, Sem.run_bind, run_underlying T.sl, Result.andThen_ok, hρ x _ hx, Option.map_none, Option.map_some, T.size]
  have e1 : (Instr.sliceBounds true n c none (some (ρ y)) (some (ρ y'))).run P w = .ok (0, h, h) w := by
    simp [Instr.sliceBounds, Instr.sliceBound, hρ y _ hy, hρ y' _ hy', asIntOf, h2]
  rw [e1]
  by_cases h0 : h = 0
  · subst h0; simp
  · cases A with
    | none => simp
    | some a => simp [Addr.add]
end

/-- New bytes: at the head of a block from block base on (which may be longer than the slice), or nil. -/
def NwB (w : World) (base : Nat) (A : Option Addr) (c : Nat) (xs : List UInt8) : Prop :=
  (A = none ∧ c = 0 ∧ xs = []) ∨ ∃ (g : Nat) (cs : List Value), A = some ⟨g, 0, none⟩ ∧ base ≤ g ∧ Ar w g 5 cs ∧ xs.length ≤ c ∧ c ≤ cs.length ∧ cs.take xs.length = bvs xs
section
variable {w w' : World} {base c : Nat} {A : Option Addr} {xs : List UInt8}
theorem OwB.nw (h : OwB w base A c xs) : NwB w base A c xs := by
  rcases h.2 with ⟨hv, hn⟩ | ⟨g, cap, cur, hv, hb, hg, hnc, _, hs, ht⟩
  · injection hv with hA hn' hc
    exact .inl ⟨hA, hc, List.length_eq_zero_iff.1 hn'⟩
  · injection hv with hA hn' hc
    subst hc
    exact .inr ⟨g, cur.toList, hA, hb, by simpa [Ar] using hg, hnc, by simp; omega, by simpa using ht⟩
theorem NwB.cap (h : NwB w base A c xs) : xs.length ≤ c := by
  rcases h with ⟨_, rfl, rfl⟩ | ⟨_, _, _, _, _, h, _⟩
  · simp
  · exact h
theorem NwB.rd (h : NwB w base A c xs) : RdB w A xs := by
  rcases h with ⟨rfl, rfl, rfl⟩ | ⟨g, cs, rfl, hg, ha, h1, h2, h3⟩
  · exact Rd.nil _ _
  · refine ⟨bvs_length _, fun _ => ⟨g, 0, rfl, ha.lt, fun j u hu => ?_⟩⟩
    rw [← h3, List.getElem?_take] at hu
    split at hu
    · rw [ha.cell, Nat.zero_add]; exact hu
    · cases hu
theorem NwB.below (h : NwB w base A c xs) (hb : Below w.heap.size w w') : NwB w' base A c xs := by
  rcases h with h | ⟨g, cs, hA, hg, ha, h1⟩
  · exact .inl h
  · exact .inr ⟨g, cs, hA, hg, ha.bel hb, h1⟩
theorem NwB.mono {base' : Nat} (h : NwB w base A c xs) (hb : base' ≤ base) : NwB w base' A c xs := by
  rcases h with h | ⟨g, cs, hA, hg, h1⟩
  · exact .inl h
  · exact .inr ⟨g, cs, hA, Nat.le_trans hb hg, h1⟩
end
def RetN' (w : World) (xs : List UInt8) (v : Value) (w' : World) : Prop :=
  ∃ (A : Option Addr) (c : Nat), v = .slice A xs.length c ∧ NwB w' w.heap.size A c xs ∧ Below w.heap.size w w'

theorem take_flat {rows : List (List UInt8)} {k : Nat} {x : List UInt8} (hx : rows[k]? = some x) : (rows.take (k + 1)).flatten = (rows.take k).flatten ++ x := by
  rw [List.take_add_one, hx]; simp
theorem take_flat_le (rows : List (List UInt8)) (k : Nat) : (rows.take k).flatten.length ≤ rows.flatten.length := by
  have : rows.flatten = (rows.take k).flatten ++ (rows.drop k).flatten := by rw [← List.flatten_append, List.take_append_drop]
  rw [this, List.length_append]; omega
theorem bJoin_any {A : Option Addr} {n c : Nat} {rows : List (List UInt8)} {w : World} (hr : RdBB w A rows) (hn : rows.length = n) (hc : rows.length ≤ c) (hl : rows.flatten.length ≤ 140737488355328) (hl2 : rows.length ≤ maxLen) :
    CallsV Try.prog 72 #[.slice A n c, .slice none 0 0] w (RetN' w rows.flatten) := by
  subst hn
  simp only [maxLen] at hl2
  refine calls_in (N := _) Try.func72 rfl Try.ntmps72 rfl ?_; show WC _ _ _ _ _ _
  refine wc_sr ?_; refine wl_as rfl rfl ?_; refine wl_ns ?_; refine wc_seq ?_; refine wc_sr ?_; refine wl_mv rfl rfl ?_; apply wl_val; apply opv_len; exact rfl; exact tyBB.sl; exact rfl; refine wl_bin rfl rfl bin_eql rfl ?_; refine wl_ns ?_
  refine wc_cond rfl (fun h0 => ?_) (fun h0 => ?_)
  · obtain rfl : rows = [] := List.length_eq_zero_iff.1 (by omega)
    refine wc_sr ?_
    refine wl_bs (vs := []) tyB trivial rfl (by decide) rfl fun A1 w1 o1 hb1 _ => ?_
    refine wl_as rfl rfl ?_; refine wl_ns ?_; refine wc_ret ?_; refine we_seq_ret ?_
    exact we_ret1 rfl rfl ⟨_, rfl, A1, 0, rfl, OwB.nw o1, hb1⟩
  · refine wc_skip ?_; refine we_seq ?_; refine wc_seq ?_; refine wc_sr ?_; refine wl_mv rfl rfl ?_; apply wl_val; apply opv_len; exact rfl; exact tyBB.sl; exact rfl; refine wl_bin rfl rfl bin_eql rfl ?_; refine wl_ns ?_
    obtain ⟨r0, hr0⟩ : ∃ x, rows[0]? = some x := ⟨_, List.getElem?_eq_getElem (by omega)⟩
    have hf0 : (rows.take 1).flatten = r0 := by rw [take_flat hr0]; simp
    have hl0 := take_flat_le rows 1
    rw [hf0] at hl0
    obtain ⟨vs, X, cx, hv, hvk, rx, hcx⟩ := hr.at hr0
    refine wc_cond rfl (fun h1 => ?_) (fun h1 => ?_)
    · have hone : rows.flatten = r0 := by rw [← hf0, List.take_of_length_le (by omega)]
      refine wc_sr ?_; refine wl_mv rfl rfl ?_; apply wl_elK (T := tyBB) (hr := hv) (hb := hvk); exact rfl; exact rfl; exact rfl; exact rfl; exact rfl; intro _
      refine wl_app tyB rfl (Ow.nil w w.heap.size _) rfl rx (bvs_one _) (by omega) (by simp only [maxLen]; omega) (Nat.le_refl _) rfl fun A1 c1 w1 o1 g1 _ => ?_
      have hb1 := g1.below (Below.refl w.heap.size w) (Ow.nil w w.heap.size 5) (Nat.le_refl _) (Nat.le_refl _)
      refine wl_as rfl rfl ?_; refine wl_ns ?_; refine wc_ret ?_; refine we_seq_ret ?_
      refine we_ret1 rfl rfl ⟨_, rfl, ?_⟩
      rw [hone]
      exact ⟨A1, c1, by simp, (OwB.of o1 (by simp) (by simp)).nw, hb1⟩
    · refine wc_skip ?_; refine we_seq ?_; refine wc_sr ?_; refine wl_as rfl rfl ?_; refine wl_ns ?_; refine wc_seq ?_; refine wc_sr ?_; refine wl_mv rfl rfl ?_; apply wl_val; apply opv_len; exact rfl; exact tyB.sl; exact rfl; refine wl_bin rfl rfl bin_gtr rfl ?_; refine wl_ns ?_
      refine wc_condF rfl ?_
      refine wc_skip ?_; refine we_seq ?_; refine wc_seq ?_; refine wc_sr ?_; refine wl_mv rfl rfl ?_; apply wl_val; apply opv_len; exact rfl; exact tyBB.sl; exact rfl; refine wl_mv rfl rfl ?_; refine wl_ns ?_; refine wc_block ?_
      refine wc_loop (fun L wr m => ∃ k : Nat, L = [(0, .slice A rows.length c), (1, .slice none 0 0), (5, .int .i64 ((rows.take k).flatten.length : Nat)), (42, .slice A rows.length c), (43, .int .i64 (rows.length : Int)), (44, .int .i64 (k : Int))] ∧ k ≤ rows.length ∧ w = wr ∧ m = rows.length - k)
        [(0, .slice A rows.length c), (1, .slice none 0 0), (5, .int .i64 (0 : Nat)), (42, .slice A rows.length c), (43, .int .i64 (rows.length : Int)), (44, .int .i64 (0 : Nat))] rows.length ⟨0, rfl, by omega, rfl, rfl⟩ ⟨rfl, rfl, rfl, rfl, rfl, rfl, trivial⟩ ?_
      rintro _ _ m ⟨k, rfl, hk, rfl, rfl⟩
      have hlk := take_flat_le rows k
      refine wc_sr ?_; refine wl_bin rfl rfl bin_lss rfl ?_; refine wl_ns ?_; refine wc_seq ?_
      refine wc_cond rfl (fun h2 => ?_) (fun h2 => ?_)
      · obtain ⟨x, hx⟩ : ∃ x, rows[k]? = some x := ⟨_, List.getElem?_eq_getElem (by omega)⟩
        obtain ⟨us, Y, cy, hu, huk, ry, hcy⟩ := hr.at hx
        have e2 := congrArg List.length (take_flat hx)
        rw [List.length_append] at e2
        have hlk1 := take_flat_le rows (k + 1)
        refine wc_skip ?_; refine we_seq ?_; refine wc_seq ?_; refine wc_block ?_; refine wc_sr ?_; apply wl_elK (T := tyBB) (hr := hu) (hb := huk); exact rfl; exact rfl; exact rfl; exact rfl; exact rfl; intro _; refine wl_as rfl rfl ?_; refine wl_ns ?_; refine wc_seq ?_; refine wc_sr ?_; refine wl_mv rfl rfl ?_; apply wl_val; apply opv_len; exact rfl; exact tyB.sl; exact rfl; refine wl_mv rfl rfl ?_; apply wl_val; apply opv_bin; exact rfl; exact rfl; exact bin_sub64 (by omega); exact rfl; refine wl_bin rfl rfl bin_gtr rfl ?_; refine wl_ns ?_
        refine wc_cond rfl (fun h3 => ?_) (fun h3 => ?_)
        · exact absurd h3 (by omega)
        · refine wc_skip ?_; refine we_seq ?_; refine wc_region ?_; refine wl_mv rfl rfl ?_; refine wl_mv rfl rfl ?_; apply wl_val; apply opv_len; exact rfl; exact tyB.sl; exact rfl; apply wl_val; apply opv_bin; exact rfl; exact rfl; exact bin_add64 (by omega); exact rfl; refine wl_as rfl rfl ?_; refine wl_nil ?_; refine we_block_norm ?_; refine we_seq ?_; refine wc_region ?_; apply wl_val; apply opv_bin; exact rfl; exact rfl; exact bin_add64 (by omega); exact rfl; refine wl_mv rfl rfl ?_; refine wl_nil ?_
          refine we_loop [(0, .slice A rows.length c), (1, .slice none 0 0), (5, .int .i64 ((rows.take (k + 1)).flatten.length : Nat)), (42, .slice A rows.length c), (43, .int .i64 (rows.length : Int)), (44, .int .i64 ((k + 1 : Nat) : Int))] (rows.length - (k + 1)) ⟨k + 1, rfl, by omega, rfl, rfl⟩ (by omega) ⟨rfl, rfl, by rw [e2]; rfl, rfl, rfl, by simp [lookT], trivial⟩
      · obtain rfl : k = rows.length := by omega
        rw [List.take_length]
        obtain ⟨T, hT⟩ : ∃ T, rows.flatten.length = T := ⟨_, rfl⟩
        rw [hT] at hl ⊢
        obtain ⟨cs, hrunM, hle, _⟩ := Lib.run_makeNoZero (P := Try.prog) w #[3] 32 5 Try.underlying32 T (by omega)
        have hcall : (callFunc 89 #[.int .i64 (T : Int)]).run Try.prog w = .ok (.value (.slice (some ⟨w.heap.size, 0, none⟩) T cs.size)) (w.drew.drew.alloc (.cells cs 5)) := by
          rw [run_callFunc_extern Try.func89 (by kernel_rfl) (by kernel_rfl) (by kernel_rfl) (e := Extern.BytealgMakeNoZero.makeNoZero #[3] #[32]) (by kernel_rfl), hrunM]
          rfl
        clear hrunM
        obtain ⟨g, hg⟩ : ∃ g, w.heap.size = g := ⟨_, rfl⟩
        have hbA : Below g w (w.drew.drew.alloc (.cells cs 5)) := ((Below.refl g w).drew.drew).alloc (by simp [hg]) _
        have aA : Ar (w.drew.drew.alloc (.cells cs 5)) g 5 cs.toList := by
          have := Ar.new w.drew.drew 5 cs.toList
          simpa [hg] using this
        obtain ⟨w1, hw1⟩ : ∃ w1, w.drew.drew.alloc (.cells cs 5) = w1 := ⟨_, rfl⟩
        rw [hw1] at hcall hbA aA
        rw [hg] at hcall
        have hlen : cs.toList.length = cs.size := by simp
        obtain ⟨ds, hds⟩ : ∃ ds, cs.toList = ds := ⟨_, rfl⟩
        rw [hds] at aA hlen
        rw [← hlen] at hle hcall
        refine wc_exit ?_; refine we_seq_exit ?_; refine we_loop_exit ?_; refine we_block_exit ?_; refine we_seq ?_; refine wc_sr ?_; refine wl_mv rfl rfl ?_
        refine wl_val (opv_ext rfl hcall) rfl ?_
        refine wl_mv rfl rfl ?_; refine wl_mv rfl rfl ?_
        refine wl_val (opv_slice3 (h := T) tyB rfl rfl rfl hle) rfl ?_
        refine wl_as rfl rfl ?_; refine wl_ns ?_; refine wc_sr ?_; refine wl_mv rfl rfl ?_; refine wl_mv rfl rfl ?_
        have hr1 := RdBB.below hr (show Below w.heap.size w w1 by rw [hg]; exact hbA)
        obtain ⟨vs, X, cx, hv, hvk, rx, hcx⟩ := hr1.at hr0
        apply wl_elK (T := tyBB) (hr := hv) (hb := hvk); exact rfl; exact rfl; exact rfl; exact rfl; exact rfl; intro _
        refine wl_copy (off := 0) tyB rfl rfl aA rx (bvs_one _) (fun _ => rfl) (by omega) (by omega) rfl fun w2 a2 hb2 => ?_
        have hb2' := hbA.trans hb2
        rw [List.take_zero, List.nil_append, Nat.zero_add] at a2
        refine wl_as rfl rfl ?_; refine wl_ns ?_; refine wc_seq ?_; refine wc_sr ?_; refine wl_mv rfl rfl ?_
        refine wl_sl (l := 1) (h := rows.length) tyBB rfl ⟨_, rfl⟩ rfl (by omega) (by omega) rfl ?_
        apply wl_val; apply opv_len; exact rfl; exact tyBB.sl; exact rfl; refine wl_mv rfl rfl ?_; refine wl_ns ?_; refine wc_block ?_
        refine wc_loop (fun L wr m => ∃ (k : Nat) (es : List Value), L = [(1, .slice none 0 0), (8, .slice (some ⟨g, 0, none⟩) T T), (9, .int .i64 ((rows.take (k + 1)).flatten.length : Nat)), (70, .slice (cutA A c 1) (rows.length - 1) (c - 1)), (71, .int .i64 ((rows.length - 1 : Nat) : Int)), (72, .int .i64 (k : Int))] ∧ k + 1 ≤ rows.length ∧ Ar wr g 5 es ∧ es.length = ds.length ∧ es.take (rows.take (k + 1)).flatten.length = bvs (rows.take (k + 1)).flatten ∧ Below g w wr ∧ m = rows.length - k)
          [(1, .slice none 0 0), (8, .slice (some ⟨g, 0, none⟩) T T), (9, .int .i64 (r0.length : Nat)), (70, .slice (cutA A c 1) (rows.length - 1) (c - 1)), (71, .int .i64 ((rows.length - 1 : Nat) : Int)), (72, .int .i64 (0 : Nat))] rows.length
          ⟨0, bvs r0 ++ ds.drop r0.length, by rw [Nat.zero_add, hf0], by omega, a2, by simp [bvs_length]; omega, by rw [Nat.zero_add, hf0, List.take_append_of_le_length (by rw [bvs_length]; omega), List.take_of_length_le (by rw [bvs_length]; omega)], hb2', rfl⟩ ⟨rfl, rfl, rfl, rfl, rfl, rfl, trivial⟩ ?_
        rintro _ w3 m ⟨k, es, rfl, hk, a3, hel, het, hb3, rfl⟩
        have hlk := take_flat_le rows (k + 1)
        rw [hT] at hlk
        refine wc_sr ?_; refine wl_bin rfl rfl bin_lss rfl ?_; refine wl_ns ?_; refine wc_seq ?_
        refine wc_cond rfl (fun h2 => ?_) (fun h2 => ?_)
        · obtain ⟨x, hx⟩ : ∃ x, rows[k + 1]? = some x := ⟨_, List.getElem?_eq_getElem (by omega)⟩
          have hb3' : Below w.heap.size w w3 := by rw [hg]; exact hb3
          obtain ⟨us, Y, cy, hu0, huk, ry, hcy⟩ := hr.at hx
          have hu := Rd.below hu0 hb3'
          have hcut := Rd.cut (l := 1) (h := rows.length) hu (by omega) (Nat.le_refl _) hc
          have huk' : ((us.take rows.length).drop 1)[k]? = some (Value.slice Y x.length cy) := by
            rw [List.getElem?_drop, List.getElem?_take, if_pos (by omega), Nat.add_comm]; exact huk
          have e1 := take_flat hx
          have e2 := congrArg List.length e1
          rw [List.length_append] at e2
          have hlk1 := take_flat_le rows (k + 1 + 1)
          rw [hT] at hlk1
          obtain ⟨p, hp⟩ : ∃ p, (rows.take (k + 1)).flatten.length = p := ⟨_, rfl⟩
          rw [hp] at hlk e2 het ⊢
          refine wc_skip ?_; refine we_seq ?_; refine wc_seq ?_; refine wc_block ?_; refine wc_sr ?_; apply wl_elK (T := tyBB) (hr := hcut) (hb := huk'); exact rfl; exact rfl; exact rfl; exact rfl; exact rfl; intro _; refine wl_as rfl rfl ?_; refine wl_ns ?_; refine wc_sr ?_; refine wl_mv rfl rfl ?_; refine wl_mv rfl rfl ?_; refine wl_mv rfl rfl ?_
          refine wl_sl (l := p) (h := T) tyB rfl ⟨_, rfl⟩ rfl (by omega) (by omega) rfl ?_
          refine wl_mv rfl rfl ?_
          refine wl_copy (g := g) (off := p) (ys := []) tyB rfl rfl a3 (Rd.nil _ _) (by simp) (fun h => by omega) (by omega) (by omega) rfl fun w4 a4 hb4 => ?_
          rw [List.nil_append, Nat.add_zero, List.take_append_drop] at a4
          apply wl_val; apply opv_bin; exact rfl; exact rfl; exact bin_add64 (by omega); exact rfl; refine wl_as rfl rfl ?_; refine wl_ns ?_; refine wc_region ?_; refine wl_mv rfl rfl ?_; refine wl_mv rfl rfl ?_; refine wl_mv rfl rfl ?_
          refine wl_sl (l := p) (h := T) tyB rfl ⟨_, rfl⟩ rfl (by omega) (by omega) rfl ?_
          refine wl_mv rfl rfl ?_
          refine wl_copy (g := g) (off := p) tyB rfl rfl a4 (RdB.below ry (by rw [hg]; exact hb3.trans hb4)) (bvs_one _) (fun h => ?_) (by omega) (by omega) rfl fun w5 a5 hb5 => ?_
          · rw [cutA, if_neg (by omega)]; simp [Addr.add_lit]
          have hb5' := (hb3.trans hb4).trans hb5
          apply wl_val; apply opv_bin; exact rfl; exact rfl; exact bin_add64 (by omega); exact rfl; refine wl_as rfl rfl ?_; refine wl_nil ?_; refine we_block_norm ?_; refine we_seq ?_; refine wc_region ?_; apply wl_val; apply opv_bin; exact rfl; exact rfl; exact bin_add64 (by omega); exact rfl; refine wl_mv rfl rfl ?_; refine wl_nil ?_
          refine we_loop [(1, .slice none 0 0), (8, .slice (some ⟨g, 0, none⟩) T T), (9, .int .i64 ((rows.take (k + 1 + 1)).flatten.length : Nat)), (70, .slice (cutA A c 1) (rows.length - 1) (c - 1)), (71, .int .i64 ((rows.length - 1 : Nat) : Int)), (72, .int .i64 ((k + 1 : Nat) : Int))] (rows.length - (k + 1)) ⟨k + 1, _, rfl, by omega, a5, by simp [bvs_length]; omega, ?_, hb5', rfl⟩ (by omega) ⟨rfl, rfl, by rw [e2]; rfl, rfl, rfl, by simp [lookT], trivial⟩
          rw [e2, e1, bvs_append, ← het]
          rw [← List.append_assoc, List.take_append_of_le_length (by simp [bvs_length]; omega), List.take_of_length_le (by simp [bvs_length]; omega)]
        · have ek : k + 1 = rows.length := by omega
          rw [ek, List.take_length] at het
          refine wc_exit ?_; refine we_seq_exit ?_; refine we_loop_exit ?_; refine we_block_exit ?_; refine we_seq ?_; refine wc_sr ?_; refine wl_mv rfl rfl ?_; refine wl_as rfl rfl ?_; refine wl_ns ?_; refine wc_ret ?_
          refine we_ret1 rfl rfl ⟨_, rfl, some ⟨g, 0, none⟩, T, by rw [hT], .inr ⟨g, es, rfl, by omega, a3, by omega, by omega, het⟩, by rw [hg]; exact hb3⟩
end Go.Proofs.Ytaacnknniaipmaa

/-
  Walks over the sealing of records by the program.
-/
namespace Go.Proofs.Ytaacnknniaipmaa
open Go.RowKit

theorem RdBB.three' {w : World} {A A1 A2 A3 : Option Addr} {n1 n2 n3 c1 c2 c3 : Nat} {r s t : List UInt8} (h : Rd w A 3 [.slice A1 n1 c1, .slice A2 n2 c2, .slice A3 n3 c3]) (h1 : RdB w A1 r) (e1 : r.length = n1) (hc : r.length ≤ c1) (h2 : RdB w A2 s) (e2 : s.length = n2) (hc2 : s.length ≤ c2) (h3 : RdB w A3 t) (e3 : t.length = n3) (hc3 : t.length ≤ c3) : RdBB w A [r, s, t] := by
  subst e1 e2 e3; exact RdBB.three h h1 hc h2 hc2 h3 hc3
theorem crcPut_any (n : Nat) (hn : n < 4294967296) (w : World) : CallsV Try.prog 73 #[.int .u32 n] w (RetB w (four n)) := by
  refine calls_in (N := _) Try.func73 rfl Try.ntmps73 rfl ?_; show WC _ _ _ _ _ _
  refine wc_sr ?_; refine wl_as rfl rfl ?_; refine wl_ns ?_; refine wc_sr ?_; refine wl_mv rfl rfl ?_
  refine wl_val (opv_bin (b := .int .u64 (24 : Nat)) rfl rfl (bin_shr hn)) rfl ?_
  apply wl_val; apply opv_convR; exact rfl; exact Try.underlying90; exact Try.underlying5; exact IntWalk.u8_in _ (by omega); exact rfl; refine wl_mv rfl rfl ?_
  refine wl_val (opv_bin (b := .int .u64 (16 : Nat)) rfl rfl (bin_shr hn)) rfl ?_
  apply wl_val; apply opv_convR; exact rfl; exact Try.underlying90; exact Try.underlying5; exact wrap_nat rfl _; exact rfl; refine wl_mv rfl rfl ?_
  refine wl_val (opv_bin (b := .int .u64 (8 : Nat)) rfl rfl (bin_shr hn)) rfl ?_
  apply wl_val; apply opv_convR; exact rfl; exact Try.underlying90; exact Try.underlying5; exact wrap_nat rfl _; exact rfl; refine wl_mv rfl rfl ?_; apply wl_val; apply opv_convR; exact rfl; exact Try.underlying90; exact Try.underlying5; exact wrap_nat rfl _; exact rfl
  refine wl_bs (vs := [_, _, _, _]) tyB ⟨rfl, rfl, rfl, rfl, rfl, rfl, rfl, rfl, rfl, rfl, rfl, rfl, trivial⟩ rfl (by decide) rfl fun A1 w1 o1 hb1 _ => ?_
  have e0 : Value.int .u8 ((n / 2 ^ 24 : Nat) : Int) = bv (UInt8.ofNat (n / 2 ^ 24)) := by
    unfold bv; rw [UInt8.toNat_ofNat', Nat.mod_eq_of_lt (by omega)]
  rw [e0, byte_of, byte_of, byte_of] at o1
  have o2 : OwB w1 w.heap.size A1 4 (four n) := OwB.of o1 (four_length n) (by rw [four_list]; rfl)
  refine wl_as rfl rfl ?_; refine wl_ns ?_; refine wc_ret ?_
  exact we_ret1 rfl rfl ⟨_, rfl, A1, 4, by rw [four_length], o2, hb1⟩
/-- New bytes and an error are handed back. -/
def RetSN (w : World) (x : List UInt8 × Nat) (v : Value) (w' : World) : Prop :=
  ∃ (A : Option Addr) (c : Nat), v = .tuple #[.slice A x.1.length c, .int .i64 (x.2 : Int)] ∧ NwB w' w.heap.size A c x.1 ∧ Below w.heap.size w w'
theorem seal_any {A : Option Addr} {n c : Nat} {rows : List (List UInt8)} {w : World} (hr : RdBB w A rows) (hn : rows.length = n) (hc : rows.length ≤ c) (hl : rows.flatten.length ≤ 140737488355328) (hl2 : rows.length ≤ maxLen) :
    CallsV Try.prog 49 #[.slice A n c] w (RetSN w (sealB rows.flatten)) := by
  subst hn
  refine calls_in (N := _) Try.func49 rfl Try.ntmps49 rfl ?_; show WC _ _ _ _ _ _
  refine wc_sr ?_; refine wl_as rfl rfl ?_; refine wl_as rfl rfl ?_; refine wl_ns ?_; refine wc_sr ?_; refine wl_mv rfl rfl ?_
  refine wl_call ok_bytes_Join (bJoin_any hr rfl hc hl hl2) ⟨rfl, rfl, trivial⟩ rfl ?_
  obtain ⟨ys, hys⟩ : ∃ ys, rows.flatten = ys := ⟨_, rfl⟩
  rw [hys] at hl ⊢
  rintro _ w1 ⟨A1, c1, rfl, o1, hb1⟩
  have hcap := o1.cap
  refine wl_as rfl rfl ?_; refine wl_ns ?_; refine wc_seq ?_; refine wc_sr ?_; refine wl_mv rfl rfl ?_; apply wl_val; apply opv_len; exact rfl; exact tyB.sl; exact rfl; refine wl_bin rfl rfl bin_gtr rfl ?_; refine wl_ns ?_
  refine wc_cond rfl (fun h => ?_) (fun h => ?_)
  · refine wc_sr ?_; refine wl_as rfl rfl ?_; refine wl_as rfl rfl ?_; refine wl_ns ?_; refine wc_ret ?_; refine we_seq_ret ?_
    refine we_ret2 rfl rfl rfl ⟨_, rfl, ?_⟩
    rw [sealB, if_pos (by omega)]
    exact ⟨none, 0, rfl, .inl ⟨rfl, rfl, rfl⟩, hb1⟩
  · have hyl : ys.length ≤ 1048576 := by omega
    rw [sealB_ok hyl]
    refine wc_skip ?_; refine we_seq ?_; refine wc_sr ?_; refine wl_mv rfl rfl ?_; apply wl_val; apply opv_len; exact rfl; exact tyB.sl; exact rfl; apply wl_val; apply opv_convR; exact rfl; exact Try.underlying3; exact Try.underlying90; exact IntWalk.u32_in _ (by omega); exact rfl
    refine wl_call ok_crc_put (crcPut_any ys.length (by omega) w1) ⟨rfl, trivial⟩ rfl ?_
    rintro _ w2 ⟨A2, c2, rfl, o2, h2⟩
    have hc2 := o2.cap
    rw [four_length] at hc2 ⊢
    have hb2 := hb1.trans (h2.mono hb1.size)
    have r1 := RdB.below o1.rd h2
    refine wl_as rfl rfl ?_; refine wl_ns ?_; refine wc_sr ?_; refine wl_mv rfl rfl ?_; refine wl_mv rfl rfl ?_; refine wl_mv rfl rfl ?_
    refine wl_bs (vs := [_, _]) tyBB ⟨rfl, rfl, rfl, rfl, rfl, rfl, trivial⟩ rfl (by decide) rfl fun A3 w3 o3 h3 _ => ?_
    have hb3 := hb2.trans (h3.mono hb2.size)
    replace r1 := RdB.below r1 h3
    have r2 := RdB.below o2.rd h3
    have hrows := RdBB.two' o3.rd r2 (four_length _) (by rw [four_length]; exact hc2) r1 rfl hcap
    skip
    refine wl_call ok_crc_Sum (sum_any hrows rfl (by simp only [maxLen]; simp [four_length]; omega) (by simp only [maxLen]; simp)) ⟨rfl, trivial⟩ rfl ?_
    rintro _ w4 ⟨rfl, h4⟩
    have hb4 := hb3.trans (h4.mono hb3.size)
    replace r1 := RdB.below r1 h4
    replace r2 := RdB.below r2 h4
    obtain ⟨s, hs⟩ : ∃ s, crcOf [four ys.length, ys].flatten = s := ⟨_, rfl⟩
    have hs' : crcOf (four ys.length ++ ys) = s := by rw [← hs]; simp
    have hsl : s < 4294967296 := hs ▸ crcOf_lt _
    rw [hs]
    skip
    refine wl_call ok_crc_put (crcPut_any s hsl w4) ⟨rfl, trivial⟩ rfl ?_
    rintro _ w5 ⟨A5, c5, rfl, o5, h5⟩
    have hc5 := o5.cap
    rw [four_length] at hc5 ⊢
    have hb5 := hb4.trans (h5.mono hb4.size)
    replace r1 := RdB.below r1 h5
    replace r2 := RdB.below r2 h5
    refine wl_mv rfl rfl ?_
    refine wl_bs (vs := [_, _, _]) tyBB ⟨rfl, rfl, rfl, rfl, rfl, rfl, rfl, rfl, rfl, trivial⟩ rfl (by decide) rfl fun A6 w6 o6 h6 _ => ?_
    have hb6 := hb5.trans (h6.mono hb5.size)
    replace r1 := RdB.below r1 h6
    replace r2 := RdB.below r2 h6
    have r5 := RdB.below o5.rd h6
    have hrow3 := RdBB.three' o6.rd r2 (four_length _) (by rw [four_length]; exact hc2) r5 (four_length _) (by rw [four_length]; exact hc5) r1 rfl hcap
    have e3 : [four ys.length, four s, ys].flatten = crcRec ys := by rw [crcRec, hs']; simp
    refine wl_call ok_bytes_Join (bJoin_any hrow3 rfl (by simp) (by rw [e3, crcRec_length]; omega) (by simp only [maxLen]; simp)) ⟨rfl, rfl, trivial⟩ rfl ?_
    rw [e3]
    rintro _ w7 ⟨A7, c7, rfl, o7, h7⟩
    have hb7 := hb6.trans (h7.mono hb6.size)
    refine wl_as rfl rfl ?_; refine wl_as rfl rfl ?_; refine wl_ns ?_; refine wc_ret ?_
    exact we_ret2 rfl rfl rfl ⟨_, rfl, A7, c7, rfl, o7.mono hb6.size, hb7⟩
end Go.Proofs.Ytaacnknniaipmaa

/-
  Rows of bytes whose elements lie in memory of their own or in old memory.
-/
namespace Go.Proofs.Ytaacnknniaipmaa
open Go.RowKit

def elC (w0 : World) (vs : List Value) (rows : List (List UInt8)) : Ck := ⟨fun w S => vs.length = rows.length ∧ ∀ (i : Nat) (r : List UInt8), rows[i]? = some r → ∃ (A' : Option Addr) (c' : Nat), vs[i]? = some (Value.slice A' r.length c') ∧ r.length ≤ c' ∧ ((RdB w A' r ∧ ∀ a, A' = some a → 0 < r.length → S a.block) ∨ RdB w0 A' r),
  fun {w w' S S'} ⟨hl, h⟩ hz hm => ⟨hl, fun i r hi => by
    obtain ⟨A', c', h1, h2, h3⟩ := h i r hi
    refine ⟨A', c', h1, h2, h3.elim (fun ⟨k1, k2⟩ => .inl ⟨⟨k1.1, fun hn => ?_⟩, fun a ha hr => ?_⟩) .inr⟩
    · obtain ⟨b, o, hA, hb, hc⟩ := k1.2 hn
      have hk := hm b hb (k2 _ hA hn)
      exact ⟨b, o, hA, by omega, fun j u hu => (World.cell?_of_block (a := ⟨b, o + j, none⟩) hk.2).trans (hc j u hu)⟩
    · obtain ⟨b, o, hA, hb, hc⟩ := k1.2 hr
      have := k2 a ha hr
      rw [ha] at hA
      cases hA
      exact (hm b hb this).1⟩⟩
section
variable {M : BS} {w0 w : World} {H : List Cd} {A : Option Addr} {c : Nat} {vs : List Value} {rows : List (List UInt8)}
theorem elC_rd {S : BS} (h : (elC w0 vs rows).P w S) (hb : Below w0.heap.size w0 w) (hr : Rd w A rows.length vs) : RdBB w A rows := by
  refine ⟨vs, hr, fun i r hi => ?_⟩
  obtain ⟨A', c', h1, h2, h3⟩ := h.2 i r hi
  exact ⟨A', c', h1, h3.elim (fun k => k.1) fun k => k.below hb, h2⟩
theorem St.bb (hs : St NoB w0 w H) (i j : Nat) (hi : nthC H i = some (.ow 32 A rows.length c vs)) (hj : nthC H j = some (.ck (elC w0 vs rows))) : RdBB w A rows := by
  obtain ⟨T, hc, _⟩ := hs.get j hj
  exact elC_rd hc hs.bel (hs.ow i hi).rd
end
section
variable {M : BS} {w0 w : World} {H : List Cd} {A : Option Addr} {c : Nat} {vs : List Value} {rows : List (List UInt8)}
/-- One of the call's own goes behind. -/
theorem St.bbOwn {A' : Option Addr} {c' : Nat} {r : List UInt8} (hs : St M w0 w (.ow 5 A' r.length c' (bvs r) :: .ck (elC w0 vs rows) :: H)) : St M w0 w (.ck (elC w0 (vs ++ [.slice A' r.length c']) (rows ++ [r])) :: H) := by
  refine hs.pack (H1 := [_, _]) _ fun w S ⟨T1, hT1, ⟨hA, ho⟩, T, hT, ⟨hl, h⟩, _⟩ => ⟨by simp [hl], fun i x hi => ?_⟩
  rcases Nat.lt_or_ge i rows.length with hlt | hge
  · rw [List.getElem?_append_left hlt] at hi
    obtain ⟨B, d, h1, h2, h3⟩ := h i x hi
    exact ⟨B, d, by rw [List.getElem?_append_left (by omega)]; exact h1, h2, h3.elim (fun k => .inl ⟨k.1, fun a ha hn => (hT _ (k.2 a ha hn)).1⟩) .inr⟩
  · rw [List.getElem?_append_right hge] at hi
    obtain ⟨h0, h1⟩ := List.getElem?_eq_some_iff.1 hi
    have h0' : i - rows.length = 0 := by simpa using h0
    simp only [h0', List.getElem_cons_zero] at h1
    subst h1
    exact ⟨A', c', by rw [List.getElem?_append_right (by omega), show i - vs.length = 0 by omega]; rfl, OwB.cap (show OwB w 0 A' c' r from ho), .inl ⟨Ow.rd ho, fun a ha _ => hT1 _ (hA a ha)⟩⟩
theorem St.elNil (hs : St M w0 w H) : St M w0 w (.ck (elC w0 [] []) :: H) :=
  hs.new (T := NoB) (c := .ck (elC w0 [] [])) (Below.refl _ _) ⟨rfl, fun i r h => by simp at h⟩ fun b _ h => h.elim
/-- One that lies in old memory, whatever the call may write elsewhere. -/
theorem St.bbOld {A' : Option Addr} {c' : Nat} {r : List UInt8} (hs : St M w0 w (.ck (elC w0 vs rows) :: H)) (hr : RdB w0 A' r) (hc : r.length ≤ c') : St M w0 w (.ck (elC w0 (vs ++ [.slice A' r.length c']) (rows ++ [r])) :: H) := by
  refine hs.pack (H1 := [_]) _ fun w S ⟨T, hT, ⟨hl, h⟩, _⟩ => ⟨by simp [hl], fun i x hi => ?_⟩
  rcases Nat.lt_or_ge i rows.length with hlt | hge
  · rw [List.getElem?_append_left hlt] at hi
    obtain ⟨B, d, h1, h2, h3⟩ := h i x hi
    exact ⟨B, d, by rw [List.getElem?_append_left (by omega)]; exact h1, h2, h3.elim (fun k => .inl ⟨k.1, fun a ha hn => hT _ (k.2 a ha hn)⟩) .inr⟩
  · rw [List.getElem?_append_right hge] at hi
    obtain ⟨h0, h1⟩ := List.getElem?_eq_some_iff.1 hi
    have h0' : i - rows.length = 0 := by simpa using h0
    simp only [h0', List.getElem_cons_zero] at h1
    subst h1
    exact ⟨A', c', by rw [List.getElem?_append_right (by omega), show i - vs.length = 0 by omega]; rfl, hc, .inr hr⟩
end
theorem wc_cutB {P : Program} {N : Nat} {Q : Exit → Act → World → Prop} {L : FL} {w : World} {c : Code} {id : Nat} (J : FL → World → Prop) (hx : WC P N c (Exit.inBlock id (CutQ N J Q)) L w) (hy : ∀ L w, J L w → WE N Q .normal L w) : WC P N c (Exit.inBlock id Q) L w := fun a ha =>
  wp_mono (hx a ha) fun e a' w' h => by
    cases e with
    | normal => obtain ⟨L', hJ, ha'⟩ := h; exact hy L' w' hJ a' ha'
    | exit id' =>
      simp only [Exit.inBlock] at h ⊢
      split at h <;> rename_i hi
      · rw [if_pos hi]; obtain ⟨L', hJ, ha'⟩ := h; exact hy L' w' hJ a' ha'
      · rw [if_neg hi]; exact h
    | _ => exact h
theorem wc_heldG {P : Program} {N : Nat} {Q : Exit → Act → World → Prop} {L : FL} {w : World} (S : World → Prop) (m : Nat) {id : Nat} {l : List Oper} (hm : P.follows .mixedOrders = true) (h : WM P N l.toArray Q S m l.length (Array.replicate l.length false) L w.drew) : WC P N (.region id l.toArray true) Q L w := fun a ha =>
  wp_region_noPanic (wp_region_any hm (any_of_M (S := S) (m := m) _ _ _ _ (by simpa using h a ha)))
end Go.Proofs.Ytaacnknniaipmaa

/-
  Walks over putMsg of session.
-/
namespace Go.Proofs.Ytaacnknniaipmaa
open Go.RowKit

theorem g1_int : Cell1 Try.prog 3 := ⟨by kernel_rfl, by rw [Try.underlying3]⟩
theorem g1_u64 : Cell1 Try.prog 22 := ⟨by kernel_rfl, by rw [Try.underlying22]⟩
theorem g1_bool : Cell1 Try.prog 4 := ⟨by kernel_rfl, by rw [Try.underlying4]⟩
theorem g1_by : Cell1 Try.prog 32 := ⟨by kernel_rfl, by rw [Try.underlying32]⟩
theorem g1_ens : Cell1 Try.prog 31 := ⟨by kernel_rfl, by rw [Try.underlying31]⟩
theorem sMs : StT Try.prog 34 10 := ⟨by kernel_rfl, by kernel_rfl⟩
theorem fa_sMs {k : Nat} (h : k < 10) : FieldAt Try.prog 34 k k := by
  match k, h with
  | 0, _ => exact fieldAt_mk Try.underlying34 rfl rfl (by kernel_rfl)
  | 1, _ => exact fieldAt_mk Try.underlying34 rfl rfl (by kernel_rfl)
  | 2, _ => exact fieldAt_mk Try.underlying34 rfl rfl (by kernel_rfl)
  | 3, _ => exact fieldAt_mk Try.underlying34 rfl rfl (by kernel_rfl)
  | 4, _ => exact fieldAt_mk Try.underlying34 rfl rfl (by kernel_rfl)
  | 5, _ => exact fieldAt_mk Try.underlying34 rfl rfl (by kernel_rfl)
  | 6, _ => exact fieldAt_mk Try.underlying34 rfl rfl (by kernel_rfl)
  | 7, _ => exact fieldAt_mk Try.underlying34 rfl rfl (by kernel_rfl)
  | 8, _ => exact fieldAt_mk Try.underlying34 rfl rfl (by kernel_rfl)
  | 9, _ => exact fieldAt_mk Try.underlying34 rfl rfl (by kernel_rfl)
theorem sEn : StT Try.prog 166 2 := ⟨by kernel_rfl, by kernel_rfl⟩
theorem fa_sEn {k : Nat} (h : k < 2) : FieldAt Try.prog 166 k k := by
  match k, h with
  | 0, _ => exact fieldAt_mk Try.underlying166 rfl rfl (by kernel_rfl)
  | 1, _ => exact fieldAt_mk Try.underlying166 rfl rfl (by kernel_rfl)
def zEn : List Value := [.int .u64 0, .slice none 0 0]
theorem zeroEn : (Try.prog.info? 166).map (·.zero) = some (some (.agg zEn.toArray)) := by kernel_rfl
theorem tkEn : RowK Try.prog 31 166 2 (.agg zEn.toArray) 32 := ⟨Try.underlying31, by kernel_rfl, by simp [zEn, Value.cells], by decide⟩
/-- A message as values. -/
def msV (m : MsgM) (E : Option Addr) (ce : Nat) (D : Option Addr) (cd : Nat) : List Value := [.int .i64 m.kind, .int .i64 m.fr, .int .i64 m.to, .int .u64 (m.term : Int), .int .u64 (m.ix : Int), .int .u64 (m.lt : Int), .int .u64 (m.cm : Int), .slice E m.ents.length ce, .bool m.ok, .slice D m.data.length cd]
def enV (e : Nat × By) (A : Option Addr) (c : Nat) : List Value := [.int .u64 (e.1 : Int), .slice A e.2.length c]
def etEl (e : Nat × By) : El where
  P w S cs := ∃ (A : Option Addr) (c : Nat), cs = enV e A c ∧ (byEl e.2).P w S [.slice A e.2.length c]
  move := by rintro w w' S S' cs ⟨A, c, h, hb⟩ hz hm; exact ⟨A, c, h, El.move _ hb hz hm⟩
def msgK (m : MsgM) (k : Nat) : List By := [intsB [m.kind, m.fr, m.to, tI m.ok], wordsB [m.term, m.ix, m.lt, m.cm], m.data] ++ (m.ents.take k).flatMap entB
theorem msgK_next {m : MsgM} {k : Nat} {e : Nat × By} (h : m.ents[k]? = some e) : msgK m (k + 1) = msgK m k ++ [wordsB [e.1]] ++ [e.2] := by
  unfold msgK
  rw [take_getR h]
  simp [entB]
theorem msgK_len (m : MsgM) (k : Nat) (h : k ≤ m.ents.length) : (msgK m k).length = 3 + 2 * k := by
  have : ∀ l : List (Nat × By), (l.flatMap entB).length = 2 * l.length := by
    intro l; induction l with
    | nil => rfl
    | cons x l ih => rw [List.flatMap_cons, List.length_append, ih]; simp [entB]; omega
  unfold msgK
  rw [List.length_append, this, List.length_take, Nat.min_eq_left h]; rfl
theorem ents_flat : ∀ l : List (Nat × By), (∀ e ∈ l, e.1 < 2 ^ 64) → ((l.flatMap entB).flatten).length ≤ 10 * l.length + ((l.map (·.2)).flatten).length
  | [], _ => by simp
  | e :: l, h => by
    have ih := ents_flat l fun x hx => h x (List.mem_cons_of_mem _ hx)
    have h1 := wordsB_len [e.1] (fun n hn => by rw [List.mem_singleton] at hn; subst hn; exact h e List.mem_cons_self)
    rw [List.flatMap_cons, List.flatten_append, List.length_append, List.map_cons, List.flatten_cons, List.length_append]
    simp only [entB, List.flatten_cons, List.flatten_nil, List.append_nil, List.length_append, List.length_cons, List.length_nil] at h1 ⊢
    omega
theorem msgL_len {m : MsgM} (hW : ∀ n ∈ [m.term, m.ix, m.lt, m.cm], n < 2 ^ 64) (hE : ∀ e ∈ m.ents, e.1 < 2 ^ 64) : (msgL m).flatten.length ≤ 80 + m.data.length + (10 * m.ents.length + ((m.ents.map (·.2)).flatten).length) := by
  have h1 := intsB_len [m.kind, m.fr, m.to, tI m.ok]
  have h2 := wordsB_len [m.term, m.ix, m.lt, m.cm] hW
  have h3 := ents_flat m.ents hE
  unfold msgL
  rw [List.flatten_append, List.length_append]
  simp only [List.flatten_cons, List.flatten_nil, List.append_nil, List.length_append, List.length_cons, List.length_nil] at h1 h2 ⊢
  omega
def PmI (w : World) (m : MsgM) (E : Option Addr) (ce g1 : Nat) (cs : List Value) : FL → World → Nat → Prop := fun L wr q =>
  ∃ (k : Nat) (R : Option Addr) (c : Nat) (vs : List Value), L = [(3, .slice R (msgK m k).length c), (31, .slice E m.ents.length ce), (32, .int .i64 (m.ents.length : Int)), (33, .int .i64 (k : Int))] ∧ k ≤ m.ents.length ∧
    St NoB w wr [.ow 32 R (msgK m k).length c vs, .ck (elC w vs (msgK m k)), .blk g1 34 cs] ∧ q = m.ents.length - k
set_option maxHeartbeats 4000000 in
set_option maxRecDepth 8000 in
theorem putMsg_any {m : MsgM} {E D : Option Addr} {ce cd : Nat} {w : World} (rE : RdR 2 w All E (m.ents.map etEl)) (rD : RdB w D m.data) (hD : m.data.length ≤ cd) (hW : ∀ n ∈ [m.term, m.ix, m.lt, m.cm], n < 2 ^ 64) (hE : ∀ e ∈ m.ents, e.1 < 2 ^ 64) (hl : m.data.length + (m.ents.map (·.2)).flatten.length + m.ents.length ≤ 16777216) :
    CallsV Try.prog 47 #[.agg (msV m E ce D cd).toArray] w (RetW w (putMsg m)) := by
  have hs := St.init w
  have hmax : maxLen = 9223372036854775807 := rfl
  refine calls_in (N := _) Try.func47 rfl Try.ntmps47 rfl ?_; show WC _ _ _ _ _ _
  refine wc_sr ?_
  refine ws_box (cs := msV m E ce D cd) hs rfl rfl ?_; clear hs; intro g1 _ hs
  unfold msV at hs
  refine wl_as rfl rfl ?_; refine wl_ns ?_; refine wc_seq ?_
  refine wc_cutE (fun L w' => ∃ (R : Option Addr) (c : Nat) (vs : List Value), L = [(1, .pointer (some ⟨g1, 0, none⟩)), (3, .slice R 3 c)] ∧ St NoB w w' [.ow 32 R 3 c vs, .ck (elC w vs [intsB [m.kind, m.fr, m.to, tI m.ok], wordsB [m.term, m.ix, m.lt, m.cm], m.data]), .blk g1 34 (msV m E ce D cd)]) ?_ ?_
  · refine wc_heldM 24 mixed fun w_ hS => ?_
    apply wm_take 0; exact rfl; intro _ hw_; apply opv_fa; exact fa_sMs (by decide); exact rfl; exact rfl; kernel_rfl; exact hS; apply wm_take 1; exact rfl; intro _ hw_; apply opv_ldX; exact rfl; exact Ar.bel (hs.ar 0 rfl) hw_; exact g1_int; exact rfl; exact rfl; kernel_rfl; exact hS; apply wm_take 2; exact rfl; intro _ hw_; apply opv_fa; exact fa_sMs (by decide); exact rfl; exact rfl; kernel_rfl; exact hS; apply wm_take 3; exact rfl; intro _ hw_; apply opv_ldX; exact rfl; exact Ar.bel (hs.ar 0 rfl) hw_; exact g1_int; exact rfl; exact rfl; kernel_rfl; exact hS; apply wm_take 4; exact rfl; intro _ hw_; apply opv_fa; exact fa_sMs (by decide); exact rfl; exact rfl; kernel_rfl; exact hS; apply wm_take 5; exact rfl; intro _ hw_; apply opv_ldX; exact rfl; exact Ar.bel (hs.ar 0 rfl) hw_; exact g1_int; exact rfl; exact rfl; kernel_rfl; exact hS; apply wm_take 6; exact rfl; intro _ hw_; apply opv_fa; exact fa_sMs (by decide); exact rfl; exact rfl; kernel_rfl; exact hS; apply wm_take 7; exact rfl; intro _ hw_; apply opv_ldX; exact rfl; exact Ar.bel (hs.ar 0 rfl) hw_; exact g1_bool; exact rfl; exact rfl; kernel_rfl; exact hS; apply wm_take 11; exact rfl; intro _ hw_; apply opv_fa; exact fa_sMs (by decide); exact rfl; exact rfl; kernel_rfl; exact hS; apply wm_take 12; exact rfl; intro _ hw_; apply opv_ldX; exact rfl; exact Ar.bel (hs.ar 0 rfl) hw_; exact g1_u64; exact rfl; exact rfl; kernel_rfl; exact hS; apply wm_take 13; exact rfl; intro _ hw_; apply opv_fa; exact fa_sMs (by decide); exact rfl; exact rfl; kernel_rfl; exact hS; apply wm_take 14; exact rfl; intro _ hw_; apply opv_ldX; exact rfl; exact Ar.bel (hs.ar 0 rfl) hw_; exact g1_u64; exact rfl; exact rfl; kernel_rfl; exact hS; apply wm_take 15; exact rfl; intro _ hw_; apply opv_fa; exact fa_sMs (by decide); exact rfl; exact rfl; kernel_rfl; exact hS; apply wm_take 16; exact rfl; intro _ hw_; apply opv_ldX; exact rfl; exact Ar.bel (hs.ar 0 rfl) hw_; exact g1_u64; exact rfl; exact rfl; kernel_rfl; exact hS; apply wm_take 17; exact rfl; intro _ hw_; apply opv_fa; exact fa_sMs (by decide); exact rfl; exact rfl; kernel_rfl; exact hS; apply wm_take 18; exact rfl; intro _ hw_; apply opv_ldX; exact rfl; exact Ar.bel (hs.ar 0 rfl) hw_; exact g1_u64; exact rfl; exact rfl; kernel_rfl; exact hS; apply wm_take 21; exact rfl; intro _ hw_; apply opv_fa; exact fa_sMs (by decide); exact rfl; exact rfl; kernel_rfl; exact hS; apply wm_take 22; exact rfl; intro _ hw_; apply opv_ldX; exact rfl; exact Ar.bel (hs.ar 0 rfl) hw_; exact g1_by; exact rfl; exact rfl; kernel_rfl; exact hS
    replace hs := hs.below hS
    refine wm_two 8 19 (by kernel_rfl) rfl rfl ?_ ?_ <;> dsimp only [List.getElem_toArray, List.getElem_cons_succ, List.getElem_cons_zero]
    · refine wl_call ok_session_truth struth_any ⟨rfl, trivial⟩ rfl ?_
      rintro _ _ ⟨rfl, rfl⟩
      refine wl_nil ?_
      refine we_heldM (fun _ => hS) ?_
      refine wm_two 9 19 (by kernel_rfl) rfl rfl ?_ ?_ <;> dsimp only [List.getElem_toArray, List.getElem_cons_succ, List.getElem_cons_zero]
      · refine wl_bs (vs := iVs [m.kind, m.fr, m.to, tI m.ok]) tyIs ⟨rfl, rfl, rfl, rfl, rfl, rfl, rfl, rfl, rfl, rfl, rfl, rfl, trivial⟩ rfl (by decide) rfl fun R9 _ o9 hbx _ => ?_
        replace o9 := o9.rd
        replace hs := hs.below hbx
        replace hS := hS.trans (hbx.mono hS.size)
        clear hbx
        refine wl_nil ?_
        refine we_heldM (fun _ => hS) ?_
        refine wm_two 10 19 (by kernel_rfl) rfl rfl ?_ ?_ <;> dsimp only [List.getElem_toArray, List.getElem_cons_succ, List.getElem_cons_zero]
        · refine wl_call ok_session_ints (sints_any (ns := [m.kind, m.fr, m.to, tI m.ok]) o9 rfl (by simp)) ⟨rfl, trivial⟩ rfl ?_
          rintro _ _ ⟨X10, x10, rfl, hsx⟩
          replace hs := hs.call hsx
          have hbx := hsx.bel
          replace hS := hS.trans (hbx.mono hS.size)
          replace o9 := o9.below hbx
          clear hbx hsx
          refine wl_nil ?_
          refine we_heldM (fun _ => hS) ?_
          refine wm_one 19 (by kernel_rfl) rfl ?_; dsimp only [List.getElem_toArray, List.getElem_cons_succ, List.getElem_cons_zero]
          refine wl_bs (vs := wVs [m.term, m.ix, m.lt, m.cm]) tyWs ⟨rfl, rfl, rfl, rfl, rfl, rfl, rfl, rfl, rfl, rfl, rfl, rfl, trivial⟩ rfl (by decide) rfl fun R19 _ o19 hbx _ => ?_
          replace o19 := o19.rd
          replace hs := hs.below hbx
          replace hS := hS.trans (hbx.mono hS.size)
          replace o9 := o9.below hbx
          clear hbx
          refine wl_nil ?_
          refine we_heldM (fun _ => hS) ?_
          refine wm_one 20 (by kernel_rfl) rfl ?_; dsimp only [List.getElem_toArray, List.getElem_cons_succ, List.getElem_cons_zero]
          refine wl_call ok_session_words (words_any (ns := [m.term, m.ix, m.lt, m.cm]) o19 rfl (fun n hn => hW n hn) (by simp)) ⟨rfl, trivial⟩ rfl ?_
          rintro _ _ ⟨X20, x20, rfl, hsx⟩
          replace hs := hs.call hsx
          have hbx := hsx.bel
          replace hS := hS.trans (hbx.mono hS.size)
          replace o9 := o9.below hbx
          replace o19 := o19.below hbx
          clear hbx hsx
          refine wl_nil ?_
          refine we_heldM (fun _ => hS) ?_
          refine wm_one 23 (by kernel_rfl) rfl ?_; dsimp only [List.getElem_toArray, List.getElem_cons_succ, List.getElem_cons_zero]
          refine wl_bs (vs := [.slice X10 (intsB [m.kind, m.fr, m.to, tI m.ok]).length x10, .slice X20 (wordsB [m.term, m.ix, m.lt, m.cm]).length x20, .slice D m.data.length cd]) tyBB ⟨rfl, rfl, rfl, rfl, rfl, rfl, rfl, rfl, rfl, trivial⟩ rfl (by decide) rfl fun R _ o_ hbx _ => ?_
          replace hs := hs.newO hbx o_ (Nat.le_refl _)
          replace hS := hS.trans (hbx.mono hS.size)
          clear hbx o_
          refine wl_nil ?_
          refine we_heldM (fun _ => hS) ?_
          refine wm_one 24 (by kernel_rfl) rfl ?_; dsimp only [List.getElem_toArray, List.getElem_cons_succ, List.getElem_cons_zero]
          refine wl_as rfl rfl ?_; refine wl_nil ?_
          refine we_heldM (fun h => absurd h (by decide)) ?_
          refine wm_done (by kernel_rfl) ?_
          replace hs := hs.elNil.front 3 rfl
          dsimp only [delC] at hs
          replace hs := hs.bbOwn
          replace hs := hs.front 2 rfl
          dsimp only [delC] at hs
          replace hs := hs.bbOwn
          replace hs := hs.bbOld rD hD
          replace hs := hs.front 1 rfl
          dsimp only [delC, List.nil_append, List.cons_append] at hs
          exact we_cut _ ⟨R, 3, _, rfl, hs⟩ ⟨rfl, rfl, trivial⟩
        · refine wl_bs (vs := wVs [m.term, m.ix, m.lt, m.cm]) tyWs ⟨rfl, rfl, rfl, rfl, rfl, rfl, rfl, rfl, rfl, rfl, rfl, rfl, trivial⟩ rfl (by decide) rfl fun R19 _ o19 hbx _ => ?_
          replace o19 := o19.rd
          replace hs := hs.below hbx
          replace hS := hS.trans (hbx.mono hS.size)
          replace o9 := o9.below hbx
          clear hbx
          refine wl_nil ?_
          refine we_heldM (fun _ => hS) ?_
          refine wm_one 10 (by kernel_rfl) rfl ?_; dsimp only [List.getElem_toArray, List.getElem_cons_succ, List.getElem_cons_zero]
          refine wl_call ok_session_ints (sints_any (ns := [m.kind, m.fr, m.to, tI m.ok]) o9 rfl (by simp)) ⟨rfl, trivial⟩ rfl ?_
          rintro _ _ ⟨X10, x10, rfl, hsx⟩
          replace hs := hs.call hsx
          have hbx := hsx.bel
          replace hS := hS.trans (hbx.mono hS.size)
          replace o9 := o9.below hbx
          replace o19 := o19.below hbx
          clear hbx hsx
          refine wl_nil ?_
          refine we_heldM (fun _ => hS) ?_
          refine wm_one 20 (by kernel_rfl) rfl ?_; dsimp only [List.getElem_toArray, List.getElem_cons_succ, List.getElem_cons_zero]
          refine wl_call ok_session_words (words_any (ns := [m.term, m.ix, m.lt, m.cm]) o19 rfl (fun n hn => hW n hn) (by simp)) ⟨rfl, trivial⟩ rfl ?_
          rintro _ _ ⟨X20, x20, rfl, hsx⟩
          replace hs := hs.call hsx
          have hbx := hsx.bel
          replace hS := hS.trans (hbx.mono hS.size)
          replace o9 := o9.below hbx
          replace o19 := o19.below hbx
          clear hbx hsx
          refine wl_nil ?_
          refine we_heldM (fun _ => hS) ?_
          refine wm_one 23 (by kernel_rfl) rfl ?_; dsimp only [List.getElem_toArray, List.getElem_cons_succ, List.getElem_cons_zero]
          refine wl_bs (vs := [.slice X10 (intsB [m.kind, m.fr, m.to, tI m.ok]).length x10, .slice X20 (wordsB [m.term, m.ix, m.lt, m.cm]).length x20, .slice D m.data.length cd]) tyBB ⟨rfl, rfl, rfl, rfl, rfl, rfl, rfl, rfl, rfl, trivial⟩ rfl (by decide) rfl fun R _ o_ hbx _ => ?_
          replace hs := hs.newO hbx o_ (Nat.le_refl _)
          replace hS := hS.trans (hbx.mono hS.size)
          clear hbx o_
          refine wl_nil ?_
          refine we_heldM (fun _ => hS) ?_
          refine wm_one 24 (by kernel_rfl) rfl ?_; dsimp only [List.getElem_toArray, List.getElem_cons_succ, List.getElem_cons_zero]
          refine wl_as rfl rfl ?_; refine wl_nil ?_
          refine we_heldM (fun h => absurd h (by decide)) ?_
          refine wm_done (by kernel_rfl) ?_
          replace hs := hs.elNil.front 3 rfl
          dsimp only [delC] at hs
          replace hs := hs.bbOwn
          replace hs := hs.front 2 rfl
          dsimp only [delC] at hs
          replace hs := hs.bbOwn
          replace hs := hs.bbOld rD hD
          replace hs := hs.front 1 rfl
          dsimp only [delC, List.nil_append, List.cons_append] at hs
          exact we_cut _ ⟨R, 3, _, rfl, hs⟩ ⟨rfl, rfl, trivial⟩
      · refine wl_bs (vs := wVs [m.term, m.ix, m.lt, m.cm]) tyWs ⟨rfl, rfl, rfl, rfl, rfl, rfl, rfl, rfl, rfl, rfl, rfl, rfl, trivial⟩ rfl (by decide) rfl fun R19 _ o19 hbx _ => ?_
        replace o19 := o19.rd
        replace hs := hs.below hbx
        replace hS := hS.trans (hbx.mono hS.size)
        clear hbx
        refine wl_nil ?_
        refine we_heldM (fun _ => hS) ?_
        refine wm_one 9 (by kernel_rfl) rfl ?_; dsimp only [List.getElem_toArray, List.getElem_cons_succ, List.getElem_cons_zero]
        refine wl_bs (vs := iVs [m.kind, m.fr, m.to, tI m.ok]) tyIs ⟨rfl, rfl, rfl, rfl, rfl, rfl, rfl, rfl, rfl, rfl, rfl, rfl, trivial⟩ rfl (by decide) rfl fun R9 _ o9 hbx _ => ?_
        replace o9 := o9.rd
        replace hs := hs.below hbx
        replace hS := hS.trans (hbx.mono hS.size)
        replace o19 := o19.below hbx
        clear hbx
        refine wl_nil ?_
        refine we_heldM (fun _ => hS) ?_
        refine wm_one 10 (by kernel_rfl) rfl ?_; dsimp only [List.getElem_toArray, List.getElem_cons_succ, List.getElem_cons_zero]
        refine wl_call ok_session_ints (sints_any (ns := [m.kind, m.fr, m.to, tI m.ok]) o9 rfl (by simp)) ⟨rfl, trivial⟩ rfl ?_
        rintro _ _ ⟨X10, x10, rfl, hsx⟩
        replace hs := hs.call hsx
        have hbx := hsx.bel
        replace hS := hS.trans (hbx.mono hS.size)
        replace o9 := o9.below hbx
        replace o19 := o19.below hbx
        clear hbx hsx
        refine wl_nil ?_
        refine we_heldM (fun _ => hS) ?_
        refine wm_one 20 (by kernel_rfl) rfl ?_; dsimp only [List.getElem_toArray, List.getElem_cons_succ, List.getElem_cons_zero]
        refine wl_call ok_session_words (words_any (ns := [m.term, m.ix, m.lt, m.cm]) o19 rfl (fun n hn => hW n hn) (by simp)) ⟨rfl, trivial⟩ rfl ?_
        rintro _ _ ⟨X20, x20, rfl, hsx⟩
        replace hs := hs.call hsx
        have hbx := hsx.bel
        replace hS := hS.trans (hbx.mono hS.size)
        replace o9 := o9.below hbx
        replace o19 := o19.below hbx
        clear hbx hsx
        refine wl_nil ?_
        refine we_heldM (fun _ => hS) ?_
        refine wm_one 23 (by kernel_rfl) rfl ?_; dsimp only [List.getElem_toArray, List.getElem_cons_succ, List.getElem_cons_zero]
        refine wl_bs (vs := [.slice X10 (intsB [m.kind, m.fr, m.to, tI m.ok]).length x10, .slice X20 (wordsB [m.term, m.ix, m.lt, m.cm]).length x20, .slice D m.data.length cd]) tyBB ⟨rfl, rfl, rfl, rfl, rfl, rfl, rfl, rfl, rfl, trivial⟩ rfl (by decide) rfl fun R _ o_ hbx _ => ?_
        replace hs := hs.newO hbx o_ (Nat.le_refl _)
        replace hS := hS.trans (hbx.mono hS.size)
        clear hbx o_
        refine wl_nil ?_
        refine we_heldM (fun _ => hS) ?_
        refine wm_one 24 (by kernel_rfl) rfl ?_; dsimp only [List.getElem_toArray, List.getElem_cons_succ, List.getElem_cons_zero]
        refine wl_as rfl rfl ?_; refine wl_nil ?_
        refine we_heldM (fun h => absurd h (by decide)) ?_
        refine wm_done (by kernel_rfl) ?_
        replace hs := hs.elNil.front 3 rfl
        dsimp only [delC] at hs
        replace hs := hs.bbOwn
        replace hs := hs.front 2 rfl
        dsimp only [delC] at hs
        replace hs := hs.bbOwn
        replace hs := hs.bbOld rD hD
        replace hs := hs.front 1 rfl
        dsimp only [delC, List.nil_append, List.cons_append] at hs
        exact we_cut _ ⟨R, 3, _, rfl, hs⟩ ⟨rfl, rfl, trivial⟩
    · refine wl_bs (vs := wVs [m.term, m.ix, m.lt, m.cm]) tyWs ⟨rfl, rfl, rfl, rfl, rfl, rfl, rfl, rfl, rfl, rfl, rfl, rfl, trivial⟩ rfl (by decide) rfl fun R19 _ o19 hbx _ => ?_
      replace o19 := o19.rd
      replace hs := hs.below hbx
      replace hS := hS.trans (hbx.mono hS.size)
      clear hbx
      refine wl_nil ?_
      refine we_heldM (fun _ => hS) ?_
      refine wm_one 8 (by kernel_rfl) rfl ?_; dsimp only [List.getElem_toArray, List.getElem_cons_succ, List.getElem_cons_zero]
      refine wl_call ok_session_truth struth_any ⟨rfl, trivial⟩ rfl ?_
      rintro _ _ ⟨rfl, rfl⟩
      refine wl_nil ?_
      refine we_heldM (fun _ => hS) ?_
      refine wm_one 9 (by kernel_rfl) rfl ?_; dsimp only [List.getElem_toArray, List.getElem_cons_succ, List.getElem_cons_zero]
      refine wl_bs (vs := iVs [m.kind, m.fr, m.to, tI m.ok]) tyIs ⟨rfl, rfl, rfl, rfl, rfl, rfl, rfl, rfl, rfl, rfl, rfl, rfl, trivial⟩ rfl (by decide) rfl fun R9 _ o9 hbx _ => ?_
      replace o9 := o9.rd
      replace hs := hs.below hbx
      replace hS := hS.trans (hbx.mono hS.size)
      replace o19 := o19.below hbx
      clear hbx
      refine wl_nil ?_
      refine we_heldM (fun _ => hS) ?_
      refine wm_one 10 (by kernel_rfl) rfl ?_; dsimp only [List.getElem_toArray, List.getElem_cons_succ, List.getElem_cons_zero]
      refine wl_call ok_session_ints (sints_any (ns := [m.kind, m.fr, m.to, tI m.ok]) o9 rfl (by simp)) ⟨rfl, trivial⟩ rfl ?_
      rintro _ _ ⟨X10, x10, rfl, hsx⟩
      replace hs := hs.call hsx
      have hbx := hsx.bel
      replace hS := hS.trans (hbx.mono hS.size)
      replace o9 := o9.below hbx
      replace o19 := o19.below hbx
      clear hbx hsx
      refine wl_nil ?_
      refine we_heldM (fun _ => hS) ?_
      refine wm_one 20 (by kernel_rfl) rfl ?_; dsimp only [List.getElem_toArray, List.getElem_cons_succ, List.getElem_cons_zero]
      refine wl_call ok_session_words (words_any (ns := [m.term, m.ix, m.lt, m.cm]) o19 rfl (fun n hn => hW n hn) (by simp)) ⟨rfl, trivial⟩ rfl ?_
      rintro _ _ ⟨X20, x20, rfl, hsx⟩
      replace hs := hs.call hsx
      have hbx := hsx.bel
      replace hS := hS.trans (hbx.mono hS.size)
      replace o9 := o9.below hbx
      replace o19 := o19.below hbx
      clear hbx hsx
      refine wl_nil ?_
      refine we_heldM (fun _ => hS) ?_
      refine wm_one 23 (by kernel_rfl) rfl ?_; dsimp only [List.getElem_toArray, List.getElem_cons_succ, List.getElem_cons_zero]
      refine wl_bs (vs := [.slice X10 (intsB [m.kind, m.fr, m.to, tI m.ok]).length x10, .slice X20 (wordsB [m.term, m.ix, m.lt, m.cm]).length x20, .slice D m.data.length cd]) tyBB ⟨rfl, rfl, rfl, rfl, rfl, rfl, rfl, rfl, rfl, trivial⟩ rfl (by decide) rfl fun R _ o_ hbx _ => ?_
      replace hs := hs.newO hbx o_ (Nat.le_refl _)
      replace hS := hS.trans (hbx.mono hS.size)
      clear hbx o_
      refine wl_nil ?_
      refine we_heldM (fun _ => hS) ?_
      refine wm_one 24 (by kernel_rfl) rfl ?_; dsimp only [List.getElem_toArray, List.getElem_cons_succ, List.getElem_cons_zero]
      refine wl_as rfl rfl ?_; refine wl_nil ?_
      refine we_heldM (fun h => absurd h (by decide)) ?_
      refine wm_done (by kernel_rfl) ?_
      replace hs := hs.elNil.front 3 rfl
      dsimp only [delC] at hs
      replace hs := hs.bbOwn
      replace hs := hs.front 2 rfl
      dsimp only [delC] at hs
      replace hs := hs.bbOwn
      replace hs := hs.bbOld rD hD
      replace hs := hs.front 1 rfl
      dsimp only [delC, List.nil_append, List.cons_append] at hs
      exact we_cut _ ⟨R, 3, _, rfl, hs⟩ ⟨rfl, rfl, trivial⟩
  clear hs
  rintro _ w2 ⟨R, c, vs, rfl, hs⟩
  unfold msV at hs
  refine we_seq ?_; refine wc_seq ?_; refine wc_sr ?_; apply wl_val; apply opv_fa; exact fa_sMs (by decide); exact rfl; exact rfl; apply wl_val; apply opv_ldX; exact rfl; exact hs.ar 2 rfl; exact g1_ens; exact rfl; exact rfl; apply wl_val; apply opv_len; exact rfl; exact tkEn.sl; exact rfl; refine wl_mv rfl rfl ?_; refine wl_ns ?_; refine wc_block ?_
  refine wc_loop (PmI w m E ce g1 _) [(3, .slice R 3 c), (31, .slice E m.ents.length ce), (32, .int .i64 (m.ents.length : Int)), (33, .int .i64 (0 : Nat))] m.ents.length ⟨0, R, c, vs, rfl, Nat.zero_le _, hs, rfl⟩ ⟨rfl, rfl, rfl, rfl, trivial⟩ ?_
  clear hs
  rintro _ w3 q ⟨k, R, c, vs, rfl, hk, hs, rfl⟩
  have hkl := msgK_len m k hk
  refine wc_sr ?_; refine wl_bin rfl rfl bin_lss rfl ?_; refine wl_ns ?_; refine wc_seq ?_
  refine wc_cond rfl (fun h1 => ?_) (fun h1 => ?_)
  · obtain ⟨e, he⟩ : ∃ e, m.ents[k]? = some e := ⟨_, List.getElem?_eq_getElem (by omega)⟩
    obtain ⟨b, o, cs, rfl, _, _, ⟨X, cx, rfl, hx⟩, hw⟩ := RdR.at (k := 2) (by decide) rE (E := etEl e) (i := k) (by rw [List.getElem?_map, he]; rfl)
    have i1 := hw.below hs.bel
    have rx : RdB w X e.2 ∧ e.2.length ≤ cx := by
      obtain ⟨A', c', h1, h2, h3, _⟩ := hx
      simp only [List.cons.injEq, Value.slice.injEq, and_true] at h1
      obtain ⟨rfl, _, rfl⟩ := h1
      exact ⟨h3, h2⟩
    have hkl2 := msgK_len m (k + 1) (by omega)
    refine wc_skip ?_; refine we_seq ?_; refine wc_seq ?_; refine wc_block ?_; refine wc_sr ?_; apply wl_val; apply opv_idxG tkEn; exact rfl; exact rfl; exact rfl; omega; exact rfl; apply wl_val; apply opv_ldG; exact rfl; assumption; exact sEn; exact rfl
    refine ws_var (cs := enV e X cx) hs zeroEn sEn rfl (fun _ => rfl) (by first | rfl | simp [Value.oneCell']) rfl ?_; clear hs; intro g5 _ hs
    clear i1
    unfold enV at hs
    refine wl_ns ?_
    refine wc_heldG (fun w' => Ar w' g5 166 [.int .u64 (e.1 : Int), .slice X e.2.length cx]) 9 mixed ?_
    replace hs := hs.below (Below.refl _ _).drew
    have hS := hs.ar 0 rfl
    apply wm_take 0; exact rfl; intro _ hw_; apply opv_move; exact rfl; exact rfl; kernel_rfl; exact hS; apply wm_take 1; exact rfl; intro _ hw_; apply opv_fa; exact fa_sEn (by decide); exact rfl; exact rfl; kernel_rfl; exact hS; apply wm_take 2; exact rfl; intro _ hw_; apply opv_ldX; exact rfl; assumption; exact g1_u64; exact rfl; exact rfl; kernel_rfl; exact hS; apply wm_take 5; exact rfl; intro _ hw_; apply opv_fa; exact fa_sEn (by decide); exact rfl; exact rfl; kernel_rfl; exact hS; apply wm_take 6; exact rfl; intro _ hw_; apply opv_ldX; exact rfl; assumption; exact g1_by; exact rfl; exact rfl; kernel_rfl; exact hS
    refine wm_one 3 (by kernel_rfl) rfl ?_; dsimp only [List.getElem_toArray, List.getElem_cons_succ, List.getElem_cons_zero]
    refine wl_bs (vs := wVs [e.1]) tyWs ⟨rfl, rfl, rfl, trivial⟩ rfl (by decide) rfl fun R3 _ o3 hbx _ => ?_
    replace hs := hs.below hbx
    clear hbx hS
    refine wl_nil ?_
    refine we_heldM (fun _ => hs.ar 0 rfl) ?_
    refine wm_one 4 (by kernel_rfl) rfl ?_; dsimp only [List.getElem_toArray, List.getElem_cons_succ, List.getElem_cons_zero]
    refine wl_call ok_session_words (words_any (ns := [e.1]) o3.rd rfl (fun n hn => by rw [List.mem_singleton] at hn; subst hn; exact hE e (List.mem_of_getElem? he)) (by simp)) ⟨rfl, trivial⟩ rfl ?_
    rintro _ _ ⟨X4, x4, rfl, hsx⟩
    replace hs := hs.call hsx
    clear hsx o3
    refine wl_nil ?_
    refine we_heldM (fun _ => hs.ar 1 rfl) ?_
    refine wm_one 7 (by kernel_rfl) rfl ?_; dsimp only [List.getElem_toArray, List.getElem_cons_succ, List.getElem_cons_zero]
    refine wl_bs (vs := [.slice X4 (wordsB [e.1]).length x4, .slice X e.2.length cx]) tyBB ⟨rfl, rfl, rfl, rfl, rfl, rfl, trivial⟩ rfl (by decide) rfl fun R7 _ o7 hbx _ => ?_
    replace hs := hs.below hbx
    clear hbx
    refine wl_nil ?_
    refine we_heldM (fun _ => hs.ar 1 rfl) ?_
    refine wm_one 8 (by kernel_rfl) rfl ?_; dsimp only [List.getElem_toArray, List.getElem_cons_succ, List.getElem_cons_zero]
    refine ws_app hs 2 rfl rfl tyBB rfl o7.rd (by simp [Value.oneCell']) (by omega) (by simp only [maxLen]; omega) rfl ?_
    clear hs o7; intro R8 c8 _ hs; (try dsimp only [setC] at hs)
    refine wl_nil ?_
    refine we_heldM (fun _ => hs.ar 1 rfl) ?_
    refine wm_one 9 (by kernel_rfl) rfl ?_; dsimp only [List.getElem_toArray, List.getElem_cons_succ, List.getElem_cons_zero]
    refine wl_as rfl rfl ?_; refine wl_nil ?_
    refine we_heldM (fun h => absurd h (by decide)) ?_
    refine wm_done (by kernel_rfl) ?_
    try dsimp only [List.nil_append, List.cons_append] at hs
    replace hs := (hs.front 3 rfl).front 1 rfl
    dsimp only [delC] at hs
    replace hs := hs.bbOwn.bbOld rx.1 rx.2
    replace hs := (hs.drop 1 rfl).front 1 rfl
    dsimp only [delC] at hs
    rw [← msgK_next he, List.append_assoc] at hs
    rw [show (msgK m k).length + 2 = (msgK m (k + 1)).length by omega] at hs ⊢
    refine we_block_norm ?_; refine we_seq ?_; refine wc_region ?_; apply wl_val; apply opv_bin; exact rfl; exact rfl; exact bin_add64 (by omega); exact rfl; refine wl_mv rfl rfl ?_; refine wl_nil ?_
    exact we_loop _ (m.ents.length - (k + 1)) ⟨k + 1, R8, c8, _, rfl, by omega, hs, rfl⟩ (by omega) ⟨rfl, rfl, rfl, by rw [show ((k + 1 : Nat) : Int) = (k : Int) + 1 by omega]; rfl, trivial⟩
  · obtain rfl : k = m.ents.length := by omega
    have hL : msgK m m.ents.length = msgL m := by unfold msgK msgL; rw [List.take_length]
    rw [hL] at hs hkl ⊢
    refine wc_exit ?_; refine we_seq_exit ?_; refine we_loop_exit ?_; refine we_block_exit ?_; refine we_seq ?_; refine wc_sr ?_; refine wl_mv rfl rfl ?_
    refine wl_call ok_codec_Frame (frame_any (hs.bb 0 1 rfl rfl) rfl (by have := msgL_len hW hE; omega)) ⟨rfl, trivial⟩ rfl ?_
    rintro _ _ ⟨B, cB, rfl, o_, hbx⟩
    replace hs := hs.newO hbx o_ (Nat.le_refl _)
    replace hs := ((hs.drop 1 rfl).drop 1 rfl).drop 1 rfl
    refine wl_as rfl rfl ?_; refine wl_ns ?_; refine wc_ret ?_
    exact we_ret1 rfl rfl ⟨_, rfl, B, cB, rfl, hs⟩
end Go.Proofs.Ytaacnknniaipmaa
