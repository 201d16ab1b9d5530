/-
  The texts of this proof, joined: Iv, Ya, Je, Yb, Tt, Ma, Mb, Mc, Md, Me, Mg, Mf, Jf, Jg, Jh, Ji, Jj, Jk, Jp, Jr, Mh, Mi, Mj, Mk.
-/
import Derived.Test.YtdgagffieobiiaaGreatDoorTabM2
import Derived.Test.YtdgagffieobiiaaGreatDoorTabM1
import Derived.Deep.MidRow

/-
  The engine's rules for calls through an interface value, and for elements of rows that are known by their cells and are written in place. Nothing here names the program.
-/
namespace Go.Proofs.YtdgagffieobiiaaGreatDoor
open Go.RowKit

theorem bin_quoN {P : Program} {t : TypeId} {a b : Nat} (hb : 0 < b) (ha : a ≤ 9223372036854775807) : BinV P .quo t (.int .i64 (a : Int)) (.int .i64 (b : Int)) (.int .i64 ((a / b : Nat) : Int)) := bin_quo hb (IntWalk.i64_in _ (by have := Nat.div_le_self a b; generalize a / b = q at this ⊢; omega))
section
variable {P : Program} {N : Nat} {ops : Array Oper} {Q : Exit → Act → World → Prop} {rest : List Oper} {L : FL} {w : World}
end

/-! #### Rows that are known by their cells, written in place -/
section
variable {P : Program} {N : Nat} {ops : Array Oper} {Q : Exit → Act → World → Prop} {rest : List Oper} {L : FL} {w0 w : World} {M : BS} {H : List Cd} {t e : TypeId} {g : Nat} {cs cs' : List Value} {z : Value} {bytes k : Nat}
/-- A row of the call's own that is known by its cells, where it has elements, lies at the start of a block. -/
theorem OwR.form {S : BS} {A : Option Addr} {base c : Nat} {els : List El} (h : OwR k e w base S A c els) (hn : 0 < els.length) : ∃ g, A = some ⟨g, 0, none⟩ := by
  obtain ⟨css, _, h2⟩ := h
  rcases h2.2 with ⟨hv, h0⟩ | ⟨g, cap, cur, hv, _⟩
  · omega
  · injection hv with hA; exact ⟨g, hA⟩
end
end Go.Proofs.YtdgagffieobiiaaGreatDoor

/-
  Rows whose elements lie apart from one another; pieces told as one; bytes of one's own whose values are not known. Nothing here names the program.
-/
namespace Go.Proofs.YtdgagffieobiiaaGreatDoor
open Go.RowKit

/-- Pieces told as one. -/
def packC (H : List Cd) : Ck := ⟨fun w S => Sat w H S, fun h hz hm => h.move hz hm⟩
/-- Elements and their cells, piece by piece. -/
def zipCe : List El → List (List Value) → List Cd
  | E :: els, cs :: css => .ce E cs :: zipCe els css
  | _, _ => []
/-- A row of the call's own whose elements lie apart. -/
def rsC (k : Nat) (e : TypeId) (A : Option Addr) (c : Nat) (els : List El) : Ck := ⟨fun w S => ∃ css : List (List Value), css.length = els.length ∧ Sat w (.rg k e A c (css.map rawEl) :: zipCe els css) S, fun ⟨css, hl, h⟩ hz hm => ⟨css, hl, h.move hz hm⟩⟩
theorem zipCe_app : ∀ {els els' : List El} {css css' : List (List Value)}, css.length = els.length → zipCe (els ++ els') (css ++ css') = zipCe els css ++ zipCe els' css'
  | [], _, [], _, _ => rfl
  | E :: els, els', cs :: css, css', h => by
    show _ :: zipCe (els ++ els') (css ++ css') = _ :: (zipCe els css ++ zipCe els' css')
    rw [zipCe_app (by simpa using h)]
  | [], _, _ :: _, _, h => by simp at h
  | _ :: _, _, [], _, h => by simp at h
theorem zipCe_grp {k : Nat} {w : World} : ∀ {els : List El} {css : List (List Value)} {S : BS}, Sat w (zipCe els css) S → css.length = els.length → (∀ cs ∈ css, cs.length = k) → Grp k w S els css
  | [], [], S, _, _, _ => Grp.nil _ _ _
  | E :: els, cs :: css, S, ⟨T, hT, hc, hr⟩, h, hk => by
    have h1 := zipCe_grp hr (by simpa using h) fun cs hcs => hk cs (List.mem_cons_of_mem _ hcs)
    exact (Grp.one (El.mono hc fun b _ h => hT b h) (hk cs List.mem_cons_self)).append (h1.mono fun b _ h => h.1)
  | [], _ :: _, _, _, h, _ => by simp at h
  | _ :: _, [], _, _, h, _ => by simp at h
section
variable {w0 w : World} {M : BS} {H H1 H2 : List Cd} {k : Nat} {e : TypeId} {A : Option Addr} {c : Nat} {els : List El}
theorem St.pk (hs : St M w0 w (H1 ++ H)) : St M w0 w (.ck (packC H1) :: H) := hs.pack (.ck (packC H1)) fun _ _ h => h
theorem St.unpk (hs : St M w0 w (.ck (packC H1) :: H)) : St M w0 w (H1 ++ H) := hs.unpack fun _ h => h
theorem Sat.permL {w : World} {H H' : List Cd} (p : H.Perm H') : ∀ {S : BS}, Sat w H S → Sat w H' S := by
  induction p with
  | nil => intro S h; exact h
  | cons c _ ih => rintro S ⟨T, hT, hc, hr⟩; exact ⟨T, hT, hc, ih hr⟩
  | swap a b H => intro S h; exact h.front (i := 1) rfl
  | trans _ _ ih1 ih2 => intro S h; exact ih2 (ih1 h)
theorem Sat.dropC {w : World} {c : Cd} {H : List Cd} {S : BS} (h : Sat w (c :: H) S) : Sat w H S := by
  obtain ⟨T, hT, h1, h2⟩ := h
  exact h2.mono fun _ _ h => h.1
theorem Sat.mem {w : World} {c : Cd} : ∀ {H : List Cd} {S : BS}, Sat w H S → c ∈ H → ∃ T : BS, (∀ b, T b → S b) ∧ c.P w T
  | d :: H, S, ⟨T, hT, hd, hr⟩, h => by
    rw [List.mem_cons] at h
    rcases h with rfl | h
    · exact ⟨T, hT, hd⟩
    · obtain ⟨U, hU, hc⟩ := Sat.mem hr h
      exact ⟨U, fun b k => (hU b k).1, hc⟩
/-- Where the elements lie apart, the row is a row of elements too. -/
theorem rs_rg {T : BS} (h : (rsC k e A c els).P w T) : (Cd.rg k e A c els).P w T := by
  obtain ⟨css, hl, T1, hT1, h1, h2⟩ := h
  obtain ⟨ho, hk⟩ := OwR.raw h1.2
  refine ⟨fun a ha => hT1 _ (h1.1 a ha), css, (zipCe_grp h2 hl hk).mono fun b _ h => ⟨h.1, fun a ha hb => h.2 (by rw [hb]; exact h1.1 a ha)⟩, by rw [← hl]; exact ho⟩
theorem St.rs (hs : St M w0 w H) (i : Nat) (hi : nthC H i = some (.ck (rsC k e A c els))) : OwR k e w 0 All A c els := by
  obtain ⟨T, hc, _⟩ := hs.get i hi
  exact (rs_rg hc).2.mono (Nat.le_refl _) fun _ _ _ => trivial
theorem St.nilS (hs : St M w0 w H) (k : Nat) (e : TypeId) : St M w0 w (.ck (rsC k e none 0 []) :: H) := (hs.nilG k e).pack (H1 := [.rg k e none 0 []]) _ fun _ _ h => ⟨[], rfl, h⟩
theorem St.unrs (hs : St M w0 w (.ck (rsC k e A c els) :: H)) : ∃ css : List (List Value), css.length = els.length ∧ St M w0 w ((.rg k e A c (css.map rawEl) :: zipCe els css) ++ H) := by
  obtain ⟨⟨css, hl⟩, h⟩ := hs.unpackE (α := { css : List (List Value) // css.length = els.length }) (H1 := fun css => .rg k e A c (css.1.map rawEl) :: zipCe els css.1) fun T ⟨css, hl, h⟩ => ⟨⟨css, hl⟩, h⟩
  exact ⟨css, hl, h⟩
end
section
variable {P : Program} {N : Nat} {ops : Array Oper} {Q : Exit → Act → World → Prop} {rest : List Oper} {L : FL} {w0 w : World} {M : BS} {H : List Cd} {t e : TypeId} {cs : List Value} {z : Value} {bytes k : Nat}
/-- An element, with the memory that is its own, goes into such a row. -/
theorem ws_pushS {d1 d2 : Nat} {x : Operand} {E : El} {s : Operand} {ty1 ty2 : TypeId} {p1 p2 : String} {f1 f2 : Array Edge} {A : Option Addr} {n c : Nat} {els : List El} (hs : St M w0 w (.ck (rsC k e A c els) :: .ce E cs :: H)) (T : RowK P t e k z bytes)
    (hs1 : ∀ p, look ((d1, p) :: L) s = some (.slice A n c)) (hn : els.length = n) (hx : ∃ v, look L x = some v ∧ v.cells = cs.toArray) (hl : cs.length = k) (h1 : cs.all (·.oneCell') = true) (hk : k ≤ 16777216)
    (hbytes : (n + 1) * bytes ≤ 140737488355328) (hmax : n + 1 ≤ maxLen) (hd1 : Nat.blt d1 N = true) (hd2 : Nat.blt d2 N = true)
    (h : ∀ p A' c' w', St M w0 w' (.ck (rsC k e A' c' (els ++ [E])) :: H) → WL P N ops Q rest ((d2, .slice A' (n + 1) c') :: (d1, p) :: L) w') :
    WL P N ops Q (⟨some d1, .buildSlice t 1 #[(0, x)], ty1, p1, f1, none⟩ :: ⟨some d2, .call { callee := .builtin .append, args := #[s, .tmp d1], argTypes := #[t, t] }, ty2, p2, f2, none⟩ :: rest) L w := by
  obtain ⟨css, hcl, hs⟩ := hs.unrs
  refine ws_pushR (cs := cs) hs 0 hs1 rfl T (by simpa [hcl] using hn) hx hl h1 hk hbytes hmax hd1 hd2 fun p A' c' w' hs => h p A' c' w' (hs.map fun S h => ?_)
  have h2 : Sat w' ((.rg k e A' c' ((css ++ [cs]).map rawEl) :: (zipCe els css ++ [.ce E cs])) ++ H) S := by simpa [setC] using h
  obtain ⟨T, hT, h3, h4⟩ := h2.append
  exact ⟨T, hT, ⟨css ++ [cs], by simp [hcl], by rw [zipCe_app hcl]; exact h3⟩, h4⟩
end
end Go.Proofs.YtdgagffieobiiaaGreatDoor

/-
  Walks over twin and twins of the program.
-/
namespace Go.Proofs.YtdgagffieobiiaaGreatDoor
open Go.RowKit

/-- An entry whose lists lie in memory of their own. -/
def enOw (x : En) (A : Option Addr) (c : Nat) (B : Option Addr) (d : Nat) : List Cd := [.ow 5 A x.key.length c (bvs x.key), .ow 5 B x.val.length d (bvs x.val)]
/-- An entry and where its lists lie. -/
structure EnA where
  x : En
  A : Option Addr
  c : Nat
  B : Option Addr
  d : Nat
def eaV (a : EnA) : List Value := enV a.x a.A a.c a.B a.d
def enM (a : EnA) : List Cd := enOw a.x a.A a.c a.B a.d
/-- An entry's cells, its lists in memory of their own that lies apart. -/
def oE (x : En) : El := ⟨fun w S cs => ∃ A c B d, cs = enV x A c B d ∧ Sat w (enOw x A c B d) S, fun ⟨A, c, B, d, h, h2⟩ hz hm => ⟨A, c, B, d, h, h2.move hz hm⟩⟩
def RetE2 (w : World) (x : En) (v : Value) (w' : World) : Prop := ∃ (A : Option Addr) (c : Nat) (B : Option Addr) (d : Nat), v = .agg (enV x A c B d).toArray ∧ St NoB w w' (enOw x A c B d)
theorem ow_cap {w : World} {A : Option Addr} {n c base : Nat} {e : TypeId} {xs : List Value} (h : Ow w base e A n c xs) : n ≤ c := by
  rcases h.2 with ⟨hv, hn⟩ | ⟨g, cap, cur, hv, _, _, hnc, _⟩
  · omega
  · injection hv with _ _ hc; omega
theorem byEl_of {w : World} {S : BS} {A : Option Addr} {c : Nat} {xs : List UInt8} (h : (Cd.ow 5 A xs.length c (bvs xs)).P w S) : (byEl xs).P w S [.slice A xs.length c] := ⟨A, c, rfl, ow_cap h.2, h.2.rd, fun a ha _ => h.1 a ha⟩
theorem enEl_of {x : En} {A B : Option Addr} {c d : Nat} (w : World) (S : BS) (h : Sat w (enOw x A c B d) S) : (Cd.ce (enEl x) (enV x A c B d)).P w S := by
  obtain ⟨T, hT, h1, U, hU, h2, _⟩ := h
  exact enEl.mk (El.mono (byEl_of h1) fun b _ h => hT b h) (El.mono (byEl_of h2) fun b _ h => (hU b h).1)
theorem oE_en {x : En} {w : World} {S : BS} {cs : List Value} (h : (oE x).P w S cs) : (enEl x).P w S cs := by
  obtain ⟨A, c, B, d, rfl, h⟩ := h
  exact enEl_of w S h
theorem oE_of {x : En} {A B : Option Addr} {c d : Nat} (w : World) (S : BS) (h : Sat w (enOw x A c B d) S) : (Cd.ce (oE x) (enV x A c B d)).P w S := ⟨A, c, B, d, rfl, h⟩
theorem grp_en {k : Nat} {w : World} {S : BS} {l : List En} {css : List (List Value)} (h : Grp k w S (l.map oE) css) : Grp k w S (l.map enEl) css := ⟨by rw [h.1]; simp, fun i cs hi => by
  obtain ⟨h1, E, h2, h3⟩ := h.2 i cs hi
  refine ⟨h1, ?_⟩
  rw [List.getElem?_map] at h2 ⊢
  cases hx : l[i]? with
  | none => rw [hx] at h2; cases h2
  | some x => rw [hx] at h2; cases h2; exact ⟨_, rfl, oE_en h3⟩⟩
theorem owr_en {k base c : Nat} {e : TypeId} {w : World} {S : BS} {A : Option Addr} {l : List En} (h : OwR k e w base S A c (l.map oE)) : OwR k e w base S A c (l.map enEl) := by
  obtain ⟨css, h1, h2⟩ := h
  exact ⟨css, grp_en h1, by simpa using h2⟩
/-- Rows of entries that lie apart, read. -/
theorem St.rsE {M : BS} {w0 w : World} {H : List Cd} {e : TypeId} {A : Option Addr} {c : Nat} {l : List En} (hs : St M w0 w H) (i : Nat) (hi : nthC H i = some (.ck (rsC 4 e A c (l.map oE)))) : OwR 4 e w 0 All A c (l.map enEl) := owr_en (hs.rs i hi)
end Go.Proofs.YtdgagffieobiiaaGreatDoor

/-
  Bytes of one's own that are turned over; twins of lists whose entries lie apart.
-/
namespace Go.Proofs.YtdgagffieobiiaaGreatDoor
open Go.RowKit

/-- Bytes of one's own, whatever they are. -/
def jk (A : Option Addr) (n c : Nat) : Ck := ⟨fun w S => ∃ xs : List UInt8, xs.length = n ∧ (Cd.ow 5 A n c (bvs xs)).P w S, fun ⟨xs, h, h2⟩ hz hm => ⟨xs, h, Cd.move (c := .ow 5 _ _ _ (bvs xs)) h2 hz hm⟩⟩
/-- Two new rows of bytes. -/
theorem St.two {w w' : World} {A B : Option Addr} {n c m d : Nat} {xs ys : List Value} (hb : Below w.heap.size w w') (h1 : Ow w' w.heap.size 5 A n c xs) (h2 : Ow w' w.heap.size 5 B m d ys) (hne : ∀ a b, A = some a → B = some b → a.block ≠ b.block) : St NoB w w' [.ow 5 A n c xs, .ow 5 B m d ys] :=
  ⟨Mod.of_below hb _, fun b => ∃ a, A = some a ∧ b = a.block, fun b ⟨a, ha, hb⟩ => .inr (by rw [hb]; exact (Ow.lt h1 a ha).1), ⟨fun a ha => ⟨a, ha, rfl⟩, h1.mono (Nat.zero_le _)⟩,
    fun b => ∃ a, B = some a ∧ b = a.block, fun b ⟨a, ha, hb⟩ => ⟨.inr (by rw [hb]; exact (Ow.lt h2 a ha).1), fun ⟨a', ha', hb'⟩ => hne a' a ha' ha (by rw [← hb', hb])⟩, ⟨fun a ha => ⟨a, ha, rfl⟩, h2.mono (Nat.zero_le _)⟩, trivial⟩
theorem twin2_any {x : En} {A B : Option Addr} {c d : Nat} {w : World} (rx : RdB w A x.key) (rx2 : RdB w B x.val) (hl : x.key.length ≤ 140737488355328) (hl2 : x.val.length ≤ 140737488355328) :
    CallsV Tryz.prog 32 #[.agg (enV x A c B d).toArray] w (RetE2 w x) :=
  (twinE_any rx rx2 hl hl2).mono fun v w' ⟨C, e, D, f, hv, h1, h2, h3, hb⟩ => ⟨C, e, D, f, hv, St.two hb h1 h2 h3⟩
/-- Twins of entries, each in memory that lies apart. -/
def RetEs2 (w : World) (l : List En) (v : Value) (w' : World) : Prop := ∃ (A : Option Addr) (c : Nat), v = .slice A l.length c ∧ St NoB w w' [.ck (rsC 4 31 A c (l.map oE))]
theorem twins3_any {A : Option Addr} {n c : Nat} {l : List En} {w : World} (hr : RdR 4 w All A (l.map enEl)) (hn : l.length = n) (hok : ∀ x ∈ l, x.key.length ≤ 140737488355328 ∧ x.val.length ≤ 140737488355328) (hl : l.length ≤ 1099511627776) :
    CallsV Tryz.prog 8 #[.slice A n c] w (RetEs2 w l) := by
  subst hn
  have hmax : maxLen = 9223372036854775807 := rfl
  have hs := (St.init w).nilS 4 31
  refine calls_in (N := _) Tryz.func8 rfl Tryz.ntmps8 rfl ?_; show WC _ _ _ _ _ _
  refine wc_sr ?_; refine wl_as rfl rfl ?_; refine wl_ns ?_; refine wc_sr ?_; refine wl_as rfl rfl ?_; refine wl_ns ?_; refine wc_seq ?_; refine wc_sr ?_; refine wl_as rfl rfl ?_; refine wl_ns ?_; refine wc_block ?_
  refine wc_loop (fun L wr m => ∃ (k : Nat) (P : Option Addr) (cp : Nat), L = [(0, .slice A l.length c), (3, .slice P k cp), (4, .int .i64 (k : Int))] ∧ k ≤ l.length ∧ St NoB w wr [.ck (rsC 4 31 P cp ((l.take k).map oE))] ∧ m = l.length - k)
    [(0, .slice A l.length c), (3, .slice none 0 0), (4, .int .i64 (0 : Nat))] l.length ⟨0, none, 0, rfl, by omega, hs, rfl⟩ ⟨rfl, rfl, rfl, trivial⟩ ?_
  clear hs
  rintro _ w1 m ⟨k, P, cp, rfl, hk, hs, rfl⟩
  refine wc_seq ?_; refine wc_sr ?_; refine wl_mv rfl rfl ?_; refine wl_mv rfl rfl ?_; apply wl_val; apply opv_len; exact rfl; exact tkE.sl; exact rfl; refine wl_bin rfl rfl bin_lss rfl ?_; refine wl_ns ?_
  refine wc_cond rfl (fun h1 => ?_) (fun h1 => ?_)
  · obtain ⟨x, hx⟩ : ∃ x, l[k]? = some x := ⟨_, List.getElem?_eq_getElem (by omega)⟩
    have hox := hok x (List.mem_of_getElem? hx)
    obtain ⟨b, o, cs, rfl, _, _, hp, i1⟩ := RdR.at (k := 4) (by decide) hr (E := enEl x) (i := k) (by rw [List.getElem?_map, hx]; rfl)
    obtain ⟨X, cx, Y, cy, rfl, rx, _, ry, _⟩ := enEl.rd hp
    replace i1 := i1.below hs.bel
    refine wc_skip ?_; refine we_seq ?_; refine wc_seq ?_; refine wc_block ?_; refine wc_region ?_; refine wl_mv rfl rfl ?_; refine wl_mv rfl rfl ?_; refine wl_mv rfl rfl ?_; apply wl_val; apply opv_idxG tkE; exact rfl; exact rfl; exact rfl; omega; exact rfl; apply wl_val; apply opv_ldG; exact rfl; assumption; exact sE; exact rfl
    refine wl_call ok_caissonref07_Twin (twin2_any (x := x) (rx.below hs.bel) (ry.below hs.bel) hox.1 hox.2) ⟨rfl, trivial⟩ rfl ?_
    rintro _ w2 ⟨C, e, D, f, rfl, hsx⟩
    replace hs := ((hs.call hsx).pack (H1 := enOw x C e D f) (.ce (oE x) (enV x C e D f)) oE_of).front 1 rfl
    dsimp only [delC] at hs
    refine ws_pushS hs tkE (fun _ => rfl) (by simp; omega) ⟨_, rfl, rfl⟩ rfl rfl (by decide) (by omega) (by simp only [maxLen]; omega) rfl rfl ?_; clear hs; intro _ R2 c2 _ hs
    refine wl_as rfl rfl ?_; refine wl_nil ?_; refine we_block_norm ?_; refine we_seq ?_; refine wc_region ?_; refine wl_mv rfl rfl ?_; apply wl_val; apply opv_bin; exact rfl; exact rfl; exact bin_add64 (by omega); exact rfl; refine wl_as rfl rfl ?_; refine wl_nil ?_
    refine we_loop _ (l.length - (k + 1)) ⟨k + 1, R2, c2, rfl, by omega, by rw [take_getR hx]; simpa using hs, rfl⟩ (by omega) ⟨rfl, rfl, by simp [lookT], trivial⟩
  · obtain rfl : k = l.length := by omega
    rw [List.take_length] at hs
    refine wc_exit ?_; refine we_seq_exit ?_; refine we_loop_exit ?_; refine we_block_exit ?_; refine we_seq ?_; refine wc_sr ?_; refine wl_mv rfl rfl ?_; refine wl_as rfl rfl ?_; refine wl_ns ?_; refine wc_ret ?_
    exact we_ret1 rfl rfl ⟨_, rfl, P, cp, rfl, hs⟩
end Go.Proofs.YtdgagffieobiiaaGreatDoor

/-
  The types of the seat of texts and cells, and small rules for numbers.
-/
namespace Go.Proofs.YtdgagffieobiiaaGreatDoor
open Go.RowKit
theorem tyI : Row1 Tryz.prog 85 3 (.int .i64 0) 8 := ⟨Tryz.underlying85, by kernel_rfl, rfl, by rw [Tryz.underlying3]⟩
theorem tyS : Row1 Tryz.prog 50 9 (str []) 16 := ⟨Tryz.underlying50, by kernel_rfl, rfl, by rw [Tryz.underlying9]⟩
theorem tyBool : Tryz.prog.underlying 4 = some .bool := Tryz.underlying4
section
variable {P : Program} {t : TypeId} {a b : Int}
theorem run_equalIn_bool (w : World) (d : Nat) (p q : Bool) (ht : P.underlying t = some .bool) : (Op.equalIn (d + 1) t (.bool p) (.bool q)).run P w = .ok (decide (p = q)) w := by
  unfold Op.equalIn
  rw [Sem.run_bind, run_underlying ht]
  cases p <;> cases q <;> rfl
theorem bin_neqB {p q : Bool} (ht : P.underlying t = some .bool) : BinV P .neq t (.bool p) (.bool q) (.bool (decide (p ≠ q))) := .mk fun x y w => by
  have h := run_equalIn_bool w 9999 p q ht
  simp [eqGuard, binOp, Op.equal, Op.maxDepth, h]
end
end Go.Proofs.YtdgagffieobiiaaGreatDoor

/-
  Tables in memory: their types' facts, nodes of a skip list told as pieces, and the walk over a node's height.
-/
namespace Go.Proofs.YtdgagffieobiiaaGreatDoor
open Go.RowKit

theorem fa_T1 : FieldAt Tryz.prog 66 1 5 := fieldAt_mk Tryz.underlying66 rfl rfl (by kernel_rfl)
theorem fa_T2 : FieldAt Tryz.prog 66 2 6 := fieldAt_mk Tryz.underlying66 rfl rfl (by kernel_rfl)
theorem fa_N0 : FieldAt Tryz.prog 64 0 0 := fieldAt_mk Tryz.underlying64 rfl rfl (by kernel_rfl)
theorem fa_N1 : FieldAt Tryz.prog 64 1 4 := fieldAt_mk Tryz.underlying64 rfl rfl (by kernel_rfl)
theorem e1_int : Cell1 Tryz.prog 3 := ⟨by kernel_rfl, by rw [Tryz.underlying3]⟩
theorem e1_ns : Cell1 Tryz.prog 62 := ⟨by kernel_rfl, by rw [Tryz.underlying62]⟩
theorem e1_pn : Cell1 Tryz.prog 82 := ⟨by kernel_rfl, by rw [Tryz.underlying82]⟩
theorem tyN : Row1 Tryz.prog 62 82 (.pointer none) 8 := ⟨Tryz.underlying62, by kernel_rfl, rfl, by rw [Tryz.underlying82]⟩

/-- The table that a height is reckoned by, whatever its bytes. -/
def GT (w : World) : Prop := 2 < w.heap.size ∧ ∀ i, i < 64 → ∃ x : UInt8, w.cell? ⟨2, i, none⟩ = some (bv x)
theorem GT.mod {M : BS} {w w' : World} (h : GT w) (hm : Mod M w w') (hM : ¬ M 2) : GT w' := ⟨Nat.lt_of_lt_of_le h.1 hm.size, fun i hi => by
  obtain ⟨x, hx⟩ := h.2 i hi
  exact ⟨x, (World.cell?_of_block (a := ⟨2, i, none⟩) (hm.block _ h.1 hM)).trans hx⟩⟩
theorem GT.below {w w' : World} (h : GT w) (hb : Below w.heap.size w w') : GT w' := h.mod (M := NoB) (Mod.of_below hb _) id
section
variable {P : Program} {L : FL} {w : World}
theorem opv_negU {x : Operand} {t ty : TypeId} {k : IntKind} {q : Int} (hx : look L x = some (.int k q)) : OpV P (.unOp .neg t x) ty L w (.int k (k.wrap (-q))) w := fun ρ o hρ ho _ => by
  simp [execOp, ho, hρ x _ hx, Op.unary, Op.intArith]
theorem wrap_neg {n : Nat} (h0 : 0 < n) (hn : n ≤ 9223372036854775807) : IntKind.u64.wrap (-(n : Int)) = ((18446744073709551616 - n : Nat) : Int) := by
  rw [wrap_uns rfl]
  simp only [IntKind.bits]
  omega
end
theorem tz_any {n : Nat} (h0 : 0 < n) (hn : n ≤ 9223372036854775807) {w : World} (hg : GT w) : CallsV Tryz.prog 103 #[.int .u64 (n : Int)] w fun v w' => (∃ x : UInt8, v = .int .i64 (x.toNat : Int)) ∧ w' = w := by
  have h1 : ¬ (n : Int) = 0 := by omega
  refine calls_in (N := _) Tryz.func103 rfl Tryz.ntmps103 rfl ?_; show WC _ _ _ _ _ _
  refine wc_sr ?_; refine wl_as rfl rfl ?_; refine wl_ns ?_; refine wc_seq ?_; refine wc_sr ?_; refine wl_mv rfl rfl ?_; refine wl_bin rfl rfl bin_eql rfl ?_; refine wl_ns ?_; apply wc_decF; exact rfl; (with_reducible assumption); refine wc_skip ?_; refine we_seq ?_; refine wc_sr ?_; refine wl_mv rfl rfl ?_; refine wl_mv rfl rfl ?_
  refine wl_val (opv_negU rfl) rfl ?_
  rw [wrap_neg h0 hn]
  refine wl_bin rfl rfl (bin_and rfl (by simp only [IntKind.bits]; omega) (by simp only [IntKind.bits]; omega)) rfl ?_
  refine wl_val (opv_bin (b := .int .u64 ((285870213051353865 : Nat) : Int)) rfl rfl (bin_mulU rfl)) rfl ?_
  refine wl_val (opv_bin (b := .int .u64 ((58 : Nat) : Int)) rfl rfl (bin_shr (Nat.mod_lt _ (by decide)))) rfl ?_
  obtain ⟨m, hm⟩ : ∃ q, (n &&& (18446744073709551616 - n)) * 285870213051353865 % 2 ^ IntKind.u64.bits / 2 ^ 58 = q := ⟨_, rfl⟩
  have hlt : m < 64 := by
    rw [← hm]
    have h2 : (n &&& (18446744073709551616 - n)) * 285870213051353865 % 2 ^ IntKind.u64.bits < 2 ^ IntKind.u64.bits := Nat.mod_lt _ (by decide)
    refine Nat.div_lt_of_lt_mul ?_
    have : (2 ^ 58 * 64 : Nat) = 2 ^ IntKind.u64.bits := by decide
    omega
  rw [hm]
  obtain ⟨x, hx⟩ := hg.2 m hlt
  refine wl_val (opv_idxA (kk := m) Tryz.underlying159 ⟨by kernel_rfl, by rw [Tryz.underlying5]⟩ rfl rfl rfl hlt) rfl ?_
  refine wl_val (opv_loadC (u := bv x) ⟨by kernel_rfl, by rw [Tryz.underlying5]⟩ rfl (by simpa using hx)) rfl ?_
  have hxl := x.toNat_lt
  unfold bv
  refine wl_val (opv_convR (r := (x.toNat : Int)) rfl Tryz.underlying5 Tryz.underlying3 (IntWalk.i64_in _ (by omega))) rfl ?_
  refine wl_as rfl rfl ?_; refine wl_ns ?_; refine wc_ret ?_
  exact we_ret1 rfl rfl ⟨_, rfl, ⟨x, rfl⟩, rfl⟩
theorem opv_min {P : Program} {L : FL} {w : World} {x y : Operand} {ats : Array TypeId} {ty : TypeId} {k : IntKind} {a b r : Int} (hx : look L x = some (.int k a)) (hy : look L y = some (.int k b)) (hr : (if b < a then b else a) = r) : OpV P (.call { callee := .builtin .min, args := #[x, y], argTypes := ats }) ty L w (.int k r) w := fun ρ o hρ ho _ => by
  subst hr
  unfold execOp
  simp only [ho, resolve, invoke, builtin, Sem.run_bind, Sem.run_pure, Result.andThen_ok, List.map_toArray, List.map_cons, List.map_nil, hρ x _ hx, hρ y _ hy]
  simp [Builtin.min_, Builtin.min2]
theorem tz0_any {n : Nat} (h0 : 0 < n) (hn : n ≤ 9223372036854775807) {w : World} (hg : GT w) : CallsV Tryz.prog 85 #[.int .u64 (n : Int)] w fun v w' => (∃ x : UInt8, v = .int .i64 (x.toNat : Int)) ∧ w' = w := by
  refine calls_in (N := _) Tryz.func85 rfl Tryz.ntmps85 rfl ?_; show WC _ _ _ _ _ _
  refine wc_sr ?_; refine wl_as rfl rfl ?_; refine wl_ns ?_; refine wc_seq ?_; apply wc_condFb; exact rfl; exact rfl; refine wc_skip ?_; refine we_seq ?_; refine wc_sr ?_; refine wl_mv rfl rfl ?_
  refine wl_call ok_math_bits_TrailingZeros64 (tz_any h0 hn hg) ⟨rfl, trivial⟩ rfl ?_
  rintro _ w' ⟨⟨x, rfl⟩, hw⟩
  rw [hw]
  refine wl_as rfl rfl ?_; refine wl_ns ?_; refine wc_ret ?_
  exact we_ret1 rfl rfl ⟨_, rfl, ⟨x, rfl⟩, rfl⟩
theorem height_any {n : Nat} (h0 : 0 < n) (hn : n ≤ 9223372036854775807) {w : World} (hg : GT w) : CallsV Tryz.prog 57 #[.int .i64 (n : Int)] w fun v w' => (∃ h : Nat, 1 ≤ h ∧ h ≤ 12 ∧ v = .int .i64 (h : Int)) ∧ w' = w := by
  refine calls_in (N := _) Tryz.func57 rfl Tryz.ntmps57 rfl ?_; show WC _ _ _ _ _ _
  refine wc_sr ?_; refine wl_as rfl rfl ?_; refine wl_ns ?_; refine wc_sr ?_; refine wl_mv rfl rfl ?_; apply wl_val; apply opv_convR; exact rfl; exact Tryz.underlying3; exact Tryz.underlying126; exact IntWalk.u64_in _ (by omega); exact rfl
  refine wl_call ok_math_bits_TrailingZeros (tz0_any h0 hn hg) ⟨rfl, trivial⟩ rfl ?_
  rintro _ w' ⟨⟨x, rfl⟩, hw⟩
  rw [hw]
  have hx := x.toNat_lt
  apply wl_val; apply opv_bin; exact rfl; exact rfl; exact bin_add64 (by omega); exact rfl
  obtain ⟨r, hr, hr2⟩ : ∃ r : Int, (if (x.toNat : Int) + 1 < 12 then (x.toNat : Int) + 1 else 12) = r ∧ 1 ≤ r ∧ r ≤ 12 := ⟨_, rfl, by split <;> omega, by split <;> omega⟩
  refine wl_val (opv_min (r := r) rfl rfl hr) rfl ?_
  refine wl_as rfl rfl ?_; refine wl_ns ?_; refine wc_ret ?_
  exact we_ret1 rfl rfl ⟨_, rfl, ⟨r.toNat, by omega, by omega, by rw [Int.toNat_of_nonneg (by omega)]⟩, rfl⟩
end Go.Proofs.YtdgagffieobiiaaGreatDoor

/-
  A skip list told as pieces; walks over levels, ahead and seek.
-/
namespace Go.Proofs.YtdgagffieobiiaaGreatDoor
open Go.RowKit

theorem tyPN : ∃ te, Tryz.prog.underlying 82 = some (.pointer te) := ⟨_, Tryz.underlying82⟩
theorem bin_neqPtrNil {P : Program} {t : TypeId} {a : Addr} (ht : ∃ te, P.underlying t = some (.pointer te)) : BinV P .neq t (.pointer (some a)) (.pointer none) (.bool true) := .mk fun x y w => by
  obtain ⟨te, ht⟩ := ht
  have h : ∀ d : Nat, (Op.equalIn (d + 1) t (.pointer (some a)) (.pointer none)).run P w = .ok false w := fun d => by simp [Op.equalIn, run_underlying ht]
  simp [eqGuard, binOp, Op.equal, Op.maxDepth, h 9999]
theorem bin_neqNilNil {P : Program} {t : TypeId} (ht : ∃ te, P.underlying t = some (.pointer te)) : BinV P .neq t (.pointer none) (.pointer none) (.bool false) := .mk fun x y w => by
  obtain ⟨te, ht⟩ := ht
  have h : ∀ d : Nat, (Op.equalIn (d + 1) t (.pointer none) (.pointer none)).run P w = .ok true w := fun d => by simp [Op.equalIn, run_underlying ht]
  simp [eqGuard, binOp, Op.equal, Op.maxDepth, h 9999]
/-- A node: its entry, its block, its row's block and its height. -/
structure Nd where
  a : EnA
  g : Nat
  r : Nat
  h : Nat
def pN (g : Nat) : Value := .pointer (some ⟨g, 0, none⟩)
/-- What stands next at a level. -/
def nxt (ns : List Nd) (l : Nat) : Value := match ns.find? (fun n => decide (l < n.h)) with
  | some n => pN n.g
  | none => .pointer none
def rowV (ns : List Nd) (h : Nat) : List Value := (List.range h).map (nxt ns)
theorem rowV_len (ns : List Nd) (h : Nat) : (rowV ns h).length = h := by simp [rowV]
theorem rowV_get {ns : List Nd} {h l : Nat} (hl : l < h) : (rowV ns h)[l]? = some (nxt ns l) := by simp [rowV, hl]
theorem nxt_one (ns : List Nd) (l : Nat) : (nxt ns l).oneCell' = true := by unfold nxt; split <;> rfl
def nodV (n : Nd) : List Value := eaV n.a ++ [.slice (some ⟨n.r, 0, none⟩) n.h n.h]
def ndM (ns : List Nd) (n : Nd) : List Cd := .blk n.g 64 (nodV n) :: .ow 82 (some ⟨n.r, 0, none⟩) n.h n.h (rowV ns n.h) :: enM n.a
def nodP : List Nd → List Cd
  | [] => []
  | n :: ns => ndM ns n ++ nodP ns
/-- The cells of a table, and what stands behind them in the same block. -/
def tbV (sl : Value) (cnt : Nat) (sz : Int) (ex : List Value) : List Value := .slice none 0 0 :: .int .u64 0 :: .int .u8 0 :: .slice none 0 0 :: sl :: .int .i64 (cnt : Int) :: .int .i64 sz :: ex
def hdS : Option Nat → Value
  | none => .slice none 0 0
  | some r => .slice (some ⟨r, 0, none⟩) 12 12
def hdP : Option Nat → List Nd → List Cd
  | none, _ => []
  | some r, ns => [.ow 82 (some ⟨r, 0, none⟩) 12 12 (rowV ns 12)]
/-- A table's pieces, its count told apart. -/
def tabQ (TX : TypeId × List Value) (t : Nat) (r0 : Option Nat) (ns : List Nd) (cnt : Nat) (sz : Int) : List Cd := [.blk t TX.1 (tbV (hdS r0) cnt sz TX.2), .ck (packC (hdP r0 ns)), .ck (packC (nodP ns))]
/-- A table's pieces. -/
def tabP (TX : TypeId × List Value) (t : Nat) (r0 : Option Nat) (ns : List Nd) (sz : Int) : List Cd := tabQ TX t r0 ns ns.length sz
theorem mem_nodP : ∀ {d : List Nd} {n : Nd} {rest : List Nd} {c : Cd}, c ∈ ndM rest n → c ∈ nodP (d ++ n :: rest)
  | [], n, rest, c, h => List.mem_append.2 (.inl h)
  | m :: d, n, rest, c, h => List.mem_append.2 (.inr (mem_nodP h))
/-- The node that has been come to. -/
def atP (t : Nat) (done : List Nd) : Value := match done.getLast? with
  | some n => pN n.g
  | none => pN t
theorem ar_wi {w : World} {g : Nat} {t : TypeId} {cs : List Value} (h : Ar w g t cs) (o : Nat) (ds : List Value) (hd : ∀ j u, ds[j]? = some u → cs[o + j]? = some u) : Wi w g o ds := ⟨h.lt, fun j u hu => (h.cell (o + j)).trans (hd j u hu)⟩
section
variable {M : BS} {w0 w : World} {H : List Cd} {TX : TypeId × List Value} {t r cnt : Nat} {ns : List Nd} {sz : Int}
theorem node_read (hs : St M w0 w H) (i : Nat) (hi : nthC H i = some (.ck (packC (nodP ns)))) {d rest : List Nd} {n : Nd} (hns : ns = d ++ n :: rest) : Ar w n.g 64 (nodV n) ∧ Rd w (some ⟨n.r, 0, none⟩) n.h (rowV rest n.h) ∧ RdB w n.a.A n.a.x.key ∧ RdB w n.a.B n.a.x.val := by
  obtain ⟨T, hc, _⟩ := hs.get i hi
  have h : Sat w (nodP ns) T := hc
  have hm : ∀ c ∈ ndM rest n, c ∈ nodP ns := fun c hc => by rw [hns]; exact mem_nodP hc
  obtain ⟨_, _, h1⟩ := h.mem (hm (.blk n.g 64 (nodV n)) (by simp [ndM]))
  obtain ⟨_, _, h2⟩ := h.mem (hm (.ow 82 (some ⟨n.r, 0, none⟩) n.h n.h (rowV rest n.h)) (by simp [ndM]))
  obtain ⟨_, _, h3⟩ := h.mem (hm (.ow 5 n.a.A n.a.x.key.length n.a.c (bvs n.a.x.key)) (by simp [ndM, enM, enOw]))
  obtain ⟨_, _, h4⟩ := h.mem (hm (.ow 5 n.a.B n.a.x.val.length n.a.d (bvs n.a.x.val)) (by simp [ndM, enM, enOw]))
  exact ⟨h1.2, h2.2.rd, h3.2.rd, h4.2.rd⟩
theorem node_wi (hs : St M w0 w H) (i : Nat) (hi : nthC H i = some (.ck (packC (nodP ns)))) {d rest : List Nd} {n : Nd} (hns : ns = d ++ n :: rest) : Wi w n.g (0 + 0) (eaV n.a) ∧ Wi w n.g (0 + 4) [.slice (some ⟨n.r, 0, none⟩) n.h n.h] := by
  obtain ⟨h1, _⟩ := node_read hs i hi hns
  refine ⟨ar_wi h1 _ _ fun j u hu => ?_, ar_wi h1 _ _ fun j u hu => ?_⟩
  · show (nodV n)[0 + 0 + j]? = some u
    have e : 0 + 0 + j = j := by omega
    rw [e, nodV, List.getElem?_append_left (List.getElem?_eq_some_iff.1 hu).1]; exact hu
  · have hj : j = 0 := by have := (List.getElem?_eq_some_iff.1 hu).1; simp at this; omega
    subst hj
    exact hu
theorem at_read (hs : St M w0 w H) (i j k : Nat) (hi : nthC H i = some (.blk t TX.1 (tbV (hdS (some r)) cnt sz TX.2))) (hj : nthC H j = some (.ck (packC (hdP (some r) ns)))) (hk : nthC H k = some (.ck (packC (nodP ns)))) {done rest : List Nd} (hns : ns = done ++ rest) {l : Nat} (hl : l < 12) (hh : ∀ n, done.getLast? = some n → l < n.h) :
    ∃ g rr h, atP t done = pN g ∧ Wi w g (0 + 4) [.slice (some ⟨rr, 0, none⟩) h h] ∧ l < h ∧ Rd w (some ⟨rr, 0, none⟩) h (rowV rest h) := by
  cases hd : done.getLast? with
  | none =>
    have he : done = [] := List.getLast?_eq_none_iff.1 hd
    subst he
    obtain ⟨T, hc, _⟩ := hs.get j hj
    obtain ⟨_, _, h2⟩ := Sat.mem (show Sat w (hdP (some r) ns) T from hc) List.mem_cons_self
    refine ⟨t, r, 12, rfl, ar_wi (hs.ar i hi) _ _ fun j u hu => ?_, hl, ?_⟩
    · have hj : j = 0 := by have := (List.getElem?_eq_some_iff.1 hu).1; simp at this; omega
      subst hj
      exact hu
    · rw [List.nil_append] at hns
      rw [← hns]; exact h2.2.rd
  | some n =>
    obtain ⟨d, rfl⟩ : ∃ d, done = d ++ [n] := List.getLast?_eq_some_iff.1 hd
    have hns' : ns = d ++ n :: rest := by rw [hns]; simp
    exact ⟨n.g, n.r, n.h, by rw [atP, hd], (node_wi hs k hk hns').2, hh n hd, (node_read hs k hk hns').2.1⟩
end
theorem ow_form {w : World} {base n c : Nat} {e : TypeId} {A : Option Addr} {xs : List Value} (h : Ow w base e A n c xs) (hn : 0 < n) : ∃ g, A = some ⟨g, 0, none⟩ := by
  rcases h.2 with ⟨_, h0⟩ | ⟨g, cap, cur, hv, _⟩
  · omega
  · injection hv with hA; exact ⟨g, hA⟩
/-- What was last of a beginning that goes up to a level. -/
def prv (t : Nat) (pre : List Nd) (l : Nat) : Value := atP t (pre.filter fun n => decide (l < n.h))
theorem prv_at {t : Nat} {done mid : List Nd} {l : Nat} (hd : ∀ n, done.getLast? = some n → l < n.h) (hm : ∀ n ∈ mid, ¬ l < n.h) : prv t (done ++ mid) l = atP t done := by
  have h1 : mid.filter (fun n => decide (l < n.h)) = [] := List.filter_eq_nil_iff.2 fun n hn => by simpa using hm n hn
  rw [prv, List.filter_append, h1, List.append_nil]
  cases hl : done.getLast? with
  | none => rw [List.getLast?_eq_none_iff.1 hl]; rfl
  | some n =>
    obtain ⟨d, rfl⟩ : ∃ d, done = d ++ [n] := List.getLast?_eq_some_iff.1 hl
    have : decide (l < n.h) = true := decide_eq_true (hd n hl)
    rw [List.filter_append, List.filter_cons, if_pos this, List.filter_nil]
    simp [atP]
theorem nxt_split (mid post : List Nd) (l : Nat) : (∃ m1 n m2, mid = m1 ++ n :: m2 ∧ l < n.h ∧ nxt (mid ++ post) l = pN n.g) ∨ ((∀ n ∈ mid, ¬ l < n.h) ∧ nxt (mid ++ post) l = nxt post l) := by
  induction mid with
  | nil => exact .inr ⟨by simp, rfl⟩
  | cons a mid ih =>
    by_cases h : l < a.h
    · refine .inl ⟨[], a, mid, rfl, h, ?_⟩
      rw [nxt, List.cons_append, List.find?_cons, decide_eq_true h]
    · have e : nxt (a :: mid ++ post) l = nxt (mid ++ post) l := by
        rw [nxt, List.cons_append, List.find?_cons, decide_eq_false h]; rfl
      rw [e]
      rcases ih with ⟨m1, n, m2, h1, h2, h3⟩ | ⟨h1, h2⟩
      · exact .inl ⟨a :: m1, n, m2, by rw [h1]; rfl, h2, h3⟩
      · exact .inr ⟨fun n hn => (List.mem_cons.1 hn).elim (fun e => e ▸ h) (h1 n), h2⟩
theorem nxt_post (post : List Nd) (l : Nat) : nxt post l = .pointer none ∨ ∃ p1 n p2, post = p1 ++ n :: p2 ∧ nxt post l = pN n.g := by
  have := nxt_split post [] l
  rw [List.append_nil] at this
  rcases this with ⟨m1, n, m2, h1, _, h3⟩ | ⟨_, h2⟩
  · exact .inr ⟨m1, n, m2, h1, h3⟩
  · exact .inl h2
set_option maxRecDepth 8000 in
theorem levels_any {S : BS} {TX : TypeId × List Value} {t : Nat} {r0 : Option Nat} {ns : List Nd} {cnt : Nat} {sz : Int} {w : World} (h0 : Sat w (tabQ TX t r0 ns cnt sz) S) (hn : r0 = none → ns = []) :
    CallsV Tryz.prog 86 #[pN t] w fun v w' => ∃ r, v = .slice (some ⟨r, 0, none⟩) 12 12 ∧ St S w w' (tabQ TX t (some r) ns cnt sz) := by
  have hs := St.start h0
  unfold tabQ tbV at hs
  unfold pN
  refine calls_in (N := _) Tryz.func86 rfl Tryz.ntmps86 rfl ?_; show WC _ _ _ _ _ _
  cases r0 with
  | some r =>
    unfold hdS at hs
    refine wc_sr ?_; refine wl_as rfl rfl ?_; refine wl_ns ?_; refine wc_seq ?_; refine wc_sr ?_; refine wl_mv rfl rfl ?_; apply wl_val; apply opv_nilOk; exact rfl; exact rfl; apply wl_val; apply opv_fa; exact fa_N0; exact rfl; exact rfl; apply wl_val; apply opv_fa; exact fa_N1; exact rfl; exact rfl; apply wl_val; apply opv_ldX; exact rfl; exact hs.ar 0 rfl; exact e1_ns; exact rfl; exact rfl; apply wl_val; apply opv_bin; exact rfl; exact rfl; exact bin_eqlSliceNil tyN.sl; exact rfl; refine wl_ns ?_; apply wc_condFb; exact rfl; exact rfl; refine wc_skip ?_; refine we_seq ?_; refine wc_sr ?_; refine wl_mv rfl rfl ?_; apply wl_val; apply opv_nilOk; exact rfl; exact rfl; apply wl_val; apply opv_fa; exact fa_N0; exact rfl; exact rfl; apply wl_val; apply opv_fa; exact fa_N1; exact rfl; exact rfl; apply wl_val; apply opv_ldX; exact rfl; exact hs.ar 0 rfl; exact e1_ns; exact rfl; exact rfl; refine wl_as rfl rfl ?_; refine wl_ns ?_; refine wc_ret ?_
    exact we_ret1 rfl rfl ⟨_, rfl, r, rfl, hs⟩
  | none =>
    obtain rfl := hn rfl
    unfold hdS at hs
    refine wc_sr ?_; refine wl_as rfl rfl ?_; refine wl_ns ?_; refine wc_seq ?_; refine wc_sr ?_; refine wl_mv rfl rfl ?_; apply wl_val; apply opv_nilOk; exact rfl; exact rfl; apply wl_val; apply opv_fa; exact fa_N0; exact rfl; exact rfl; apply wl_val; apply opv_fa; exact fa_N1; exact rfl; exact rfl; apply wl_val; apply opv_ldX; exact rfl; exact hs.ar 0 rfl; exact e1_ns; exact rfl; exact rfl; apply wl_val; apply opv_bin; exact rfl; exact rfl; exact bin_eqlSliceNil tyN.sl; exact rfl; refine wl_ns ?_; apply wc_condTb; exact rfl; exact rfl; refine wc_region ?_; refine wl_mv rfl rfl ?_
    refine ws_mk hs tyN rfl rfl rfl rfl (by decide) (by decide) (by simp [maxLen]) rfl ?_
    clear hs; intro A w2 hs
    obtain ⟨r, rfl⟩ := ow_form (hs.ow 0 rfl) (by decide)
    replace hs := St.pk (H1 := [.ow 82 (some ⟨r, 0, none⟩) 12 12 (List.replicate 12 (.pointer none))]) hs
    apply wl_val; apply opv_nilOk; exact rfl; exact rfl; apply wl_val; apply opv_fa; exact fa_N0; exact rfl; exact rfl; apply wl_val; apply opv_fa; exact fa_N1; exact rfl; exact rfl; apply ws_st hs 1; exact rfl; exact rfl; exact e1_ns; exact rfl; exact rfl; exact rfl; clear hs; intro _ hs; dsimp only [setC, List.set] at hs; refine wl_ns ?_; refine wc_sr ?_; refine wl_mv rfl rfl ?_; apply wl_val; apply opv_nilOk; exact rfl; exact rfl; apply wl_val; apply opv_fa; exact fa_N0; exact rfl; exact rfl; apply wl_val; apply opv_fa; exact fa_N1; exact rfl; exact rfl; apply wl_val; apply opv_ldX; exact rfl; exact hs.ar 1 rfl; exact e1_ns; exact rfl; exact rfl; refine wl_as rfl rfl ?_; refine wl_ns ?_; refine wc_ret ?_
    exact we_ret1 rfl rfl ⟨_, rfl, r, rfl, (hs.drop 2 rfl).front 1 rfl⟩
set_option maxRecDepth 8000 in
theorem ahead_any {S : BS} {TX : TypeId × List Value} {t kn e seq : Nat} {r0 : Option Nat} {ns pre post : List Nd} {cnt : Nat} {sz : Int} {K : Option Addr} {key : List UInt8} {w : World} (h0 : Sat w (tabQ TX t r0 ns cnt sz) S) (hn : r0 = none → ns = []) (hns : ns = pre ++ post) (hpre : ∀ n ∈ pre, cmpE n.a.x key seq < 0) (hpost : ∀ n ∈ post, ¬ cmpE n.a.x key seq < 0)
    (hkn : key.length = kn) (hkey : ∀ w', Mod S w w' → RdB w' K key) :
    CallsV Tryz.prog 58 #[pN t, .slice K kn e, .int .u64 (seq : Int)] w fun v w' => ∃ r o, v = .slice (some ⟨o, 0, none⟩) 12 12 ∧ St S w w' (.ow 82 (some ⟨o, 0, none⟩) 12 12 ((List.range 12).map (prv t pre)) :: tabQ TX t (some r) ns cnt sz) := by
  subst hkn
  have hs := St.start h0
  unfold pN
  refine calls_in (N := _) Tryz.func58 rfl Tryz.ntmps58 rfl ?_; show WC _ _ _ _ _ _
  refine wc_sr ?_; refine wl_as rfl rfl ?_; refine wl_ns ?_; refine wc_sr ?_; refine wl_mv rfl rfl ?_
  obtain ⟨S2, hS2, _, _, _, hB⟩ := St.lend (H1 := tabQ TX t r0 ns cnt sz) (H2 := []) (by rw [List.append_nil]; exact hs)
  refine wl_call ok_mem_Table_levels (levels_any hS2 hn) ⟨rfl, trivial⟩ rfl ?_
  rintro _ w2 ⟨r, rfl, hsx⟩
  replace hs := hB _ _ hsx
  rw [List.append_nil] at hs
  clear hB hsx hS2
  unfold tabQ at hs
  refine wl_ns ?_; refine wc_sr ?_
  refine ws_mk hs tyN rfl rfl rfl rfl (by decide) (by decide) (by simp [maxLen]) rfl ?_
  clear hs; intro A w3 hs
  obtain ⟨o, rfl⟩ := ow_form (hs.ow 0 rfl) (by decide)
  have h12 : ((12 : Nat) : Int) = 12 := rfl
  refine wl_as rfl rfl ?_; refine wl_ns ?_; refine wc_sr ?_; refine wl_mv rfl rfl ?_; apply wl_val; apply opv_nilOk; exact rfl; exact rfl; apply wl_val; apply opv_fa; exact fa_N0; exact rfl; exact rfl; refine wl_as rfl rfl ?_; refine wl_ns ?_; refine wc_seq ?_; refine wc_sr ?_; refine wl_as rfl rfl ?_; refine wl_ns ?_; refine wc_block ?_
  refine wc_loop (fun L wr mm => ∃ (m : Nat) (done mid : List Nd) (oV : List Value), L = [(0, pN t), (1, .slice K key.length e), (2, .int .u64 (seq : Int)), (7, .slice (some ⟨o, 0, none⟩) 12 12), (8, atP t done), (9, .int .i64 ((m : Int) - 1))] ∧ m ≤ 12 ∧ pre = done ++ mid ∧ (∀ n, done.getLast? = some n → m ≤ n.h) ∧ oV.length = 12 ∧ (∀ l, m ≤ l → l < 12 → oV[l]? = some (prv t pre l)) ∧ St S w wr (.ow 82 (some ⟨o, 0, none⟩) 12 12 oV :: tabQ TX t (some r) ns cnt sz) ∧ mm = m)
    [(0, pN t), (1, .slice K key.length e), (2, .int .u64 (seq : Int)), (7, .slice (some ⟨o, 0, none⟩) 12 12), (8, pN t), (9, .int .i64 (((12 : Nat) : Int) - 1))] 12 ⟨12, [], pre, _, rfl, by omega, rfl, by simp, by simp, fun l h1 h2 => by omega, hs, rfl⟩ ⟨rfl, rfl, rfl, rfl, rfl, rfl, trivial⟩ ?_
  clear hs
  rintro _ w4 mm ⟨m, done, mid, oV, rfl, hm, hpm, hlast, hoV, hov, hs, rfl⟩
  cases mm with
  | zero =>
    have h1 : ¬ (0 : Int) ≤ ((0 : Nat) : Int) - 1 := by omega
    have he : oV = (List.range 12).map (prv t pre) := by
      apply List.ext_getElem?
      intro l
      rcases Nat.lt_or_ge l 12 with h | h
      · rw [hov l (by omega) h]; simp [h]
      · rw [List.getElem?_eq_none (by omega), List.getElem?_eq_none (by simp; omega)]
    rw [he] at hs
    refine wc_seq ?_; refine wc_sr ?_; refine wl_mv rfl rfl ?_; refine wl_bin rfl rfl bin_geq rfl ?_; refine wl_ns ?_; apply wc_condFb; exact rfl; exact rfl; refine wc_exit ?_; refine we_seq_exit ?_; refine we_loop_exit ?_; refine we_block_exit ?_; refine we_seq ?_; refine wc_sr ?_; refine wl_mv rfl rfl ?_; refine wl_as rfl rfl ?_; refine wl_ns ?_; refine wc_ret ?_
    exact we_ret1 rfl rfl ⟨_, rfl, r, o, rfl, hs⟩
  | succ l =>
    rw [natc_pred]
    have h1 : (0 : Int) ≤ (l : Int) := by omega
    refine wc_seq ?_; refine wc_sr ?_; refine wl_mv rfl rfl ?_; refine wl_bin rfl rfl bin_geq rfl ?_; refine wl_ns ?_; apply wc_condTb; exact rfl; exact rfl; refine wc_skip ?_; refine we_seq ?_; refine wc_seq ?_; refine wc_block ?_; refine wc_seq ?_; refine wc_block ?_
    refine wc_loop (fun L wr mm => ∃ (d2 mid2 : List Nd), L = [(0, pN t), (1, .slice K key.length e), (2, .int .u64 (seq : Int)), (7, .slice (some ⟨o, 0, none⟩) 12 12), (8, atP t d2), (9, .int .i64 (l : Int))] ∧ pre = d2 ++ mid2 ∧ (∀ n, d2.getLast? = some n → l < n.h) ∧ St S w wr (.ow 82 (some ⟨o, 0, none⟩) 12 12 oV :: tabQ TX t (some r) ns cnt sz) ∧ mm = mid2.length)
      [(0, pN t), (1, .slice K key.length e), (2, .int .u64 (seq : Int)), (7, .slice (some ⟨o, 0, none⟩) 12 12), (8, atP t done), (9, .int .i64 (l : Int))] mid.length ⟨done, mid, rfl, hpm, fun n hn => hlast n hn, hs, rfl⟩ ⟨rfl, rfl, rfl, rfl, rfl, rfl, trivial⟩ ?_
    clear hs hpm hlast
    rintro _ w5 mm ⟨d2, mid2, rfl, hpm2, hlast2, hs, rfl⟩
    unfold tabQ at hs
    have hns2 : ns = d2 ++ (mid2 ++ post) := by rw [hns, hpm2, List.append_assoc]
    obtain ⟨g, rr, h, hat, hw4, hlh, hrow⟩ := at_read hs 1 2 3 rfl rfl rfl hns2 (show l < 12 by omega) hlast2
    have hu := rowV_get (ns := mid2 ++ post) hlh
    rw [hat]
    unfold pN
    rcases nxt_split mid2 post l with ⟨m1, n, m2, hm1, hln, hnx⟩ | ⟨hno, hnx⟩
    · rw [hnx] at hu
      unfold pN at hu
      have hns3 : ns = (d2 ++ m1) ++ n :: (m2 ++ post) := by rw [hns2, hm1]; simp
      obtain ⟨j1, _⟩ := node_wi hs 3 rfl hns3
      obtain ⟨_, _, rn, _⟩ := node_read hs 3 rfl hns3
      have hlt : cmpE n.a.x key seq < 0 := hpre n (by rw [hpm2, hm1]; simp)
      unfold eaV at j1
      refine wc_seq ?_; refine wc_sr ?_; refine wl_mv rfl rfl ?_; apply wl_val; apply opv_nilOk; exact rfl; exact rfl; apply wl_val; apply opv_fa; exact fa_N1; exact rfl; exact rfl; apply wl_val; apply opv_ldW0; exact rfl; assumption; exact e1_ns; exact rfl; exact rfl; refine wl_mv rfl rfl ?_; apply wl_elK (T := tyN) (hr := hrow) (hb := hu); exact rfl; exact rfl; exact rfl; exact rfl; exact rfl; intro _; apply wl_val; apply opv_bin; exact rfl; exact rfl; exact bin_neqPtrNil tyPN; exact rfl; refine wl_mv rfl rfl ?_; apply wl_take; exact rfl; exact rfl; exact rfl; exact rfl; refine wl_mv rfl rfl ?_; apply wl_take; exact rfl; exact rfl; exact rfl; exact rfl; apply wl_val; apply opv_nilOk; exact rfl; exact rfl; apply wl_take; exact rfl; exact rfl; exact rfl; exact rfl; apply wl_val; apply opv_fa; exact fa_N1; exact rfl; exact rfl; apply wl_take; exact rfl; exact rfl; exact rfl; exact rfl; apply wl_val; apply opv_ldW0; exact rfl; assumption; exact e1_ns; exact rfl; exact rfl; apply wl_take; exact rfl; exact rfl; exact rfl; exact rfl; refine wl_mv rfl rfl ?_; apply wl_elTK (T := tyN) (hr := hrow) (hb := hu); exact rfl; exact rfl; exact rfl; exact rfl; exact rfl; exact rfl; exact rfl; exact rfl; exact rfl; exact rfl; exact rfl; exact rfl; exact rfl; exact rfl; intro _; apply wl_take; exact rfl; exact rfl; exact rfl; exact rfl; apply wl_val; apply opv_nilOk; exact rfl; exact rfl; apply wl_take; exact rfl; exact rfl; exact rfl; exact rfl; apply wl_val; apply opv_fa; exact fa_N0; exact rfl; exact rfl; apply wl_take; exact rfl; exact rfl; exact rfl; exact rfl; apply wl_val; apply opv_ldG; exact rfl; assumption; exact sE; exact rfl; apply wl_take; exact rfl; exact rfl; exact rfl; exact rfl; refine wl_mv rfl rfl ?_; apply wl_take; exact rfl; exact rfl; exact rfl; exact rfl; refine wl_mv rfl rfl ?_; apply wl_take; exact rfl; exact rfl; exact rfl; exact rfl
      refine wl_call ok_mem_compare (compare_any (x := n.a.x) rn (hkey _ hs.1) rfl) ⟨rfl, rfl, rfl, trivial⟩ rfl ?_
      rintro _ w6 ⟨rfl, hbx⟩
      replace hs := hs.below hbx
      replace hw4 := hw4.below hbx
      replace hrow := hrow.below hbx
      apply wl_take; exact rfl; exact rfl; exact rfl; exact rfl; refine wl_bin rfl rfl bin_lss rfl ?_; apply wl_val; apply opv_pickT; exact rfl; exact rfl; exact rfl; exact rfl; refine wl_ns ?_; apply wc_decT; exact rfl; (with_reducible assumption); refine wc_skip ?_; refine we_seq ?_; refine wc_block ?_; refine wc_region ?_; refine wl_mv rfl rfl ?_; apply wl_val; apply opv_nilOk; exact rfl; exact rfl; apply wl_val; apply opv_fa; exact fa_N1; exact rfl; exact rfl; apply wl_val; apply opv_ldW0; exact rfl; assumption; exact e1_ns; exact rfl; exact rfl; refine wl_mv rfl rfl ?_; apply wl_elK (T := tyN) (hr := hrow) (hb := hu); exact rfl; exact rfl; exact rfl; exact rfl; exact rfl; intro _; refine wl_as rfl rfl ?_; refine wl_nil ?_; refine we_block_norm ?_
      refine we_loop _ m2.length ⟨(d2 ++ m1) ++ [n], m2, rfl, by rw [hpm2, hm1]; simp, fun n' hn' => by simp at hn'; rw [← hn']; exact hln, hs, rfl⟩ (by rw [hm1]; simp; omega) ⟨rfl, rfl, rfl, rfl, by simp [atP, lookT]; rfl, rfl, trivial⟩
    · rw [hnx] at hu
      rcases nxt_post post l with hnp | ⟨p1, n, p2, hp1, hnp⟩
      · rw [hnp] at hu
        refine wc_seq ?_; refine wc_sr ?_; refine wl_mv rfl rfl ?_; apply wl_val; apply opv_nilOk; exact rfl; exact rfl; apply wl_val; apply opv_fa; exact fa_N1; exact rfl; exact rfl; apply wl_val; apply opv_ldW0; exact rfl; assumption; exact e1_ns; exact rfl; exact rfl; refine wl_mv rfl rfl ?_; apply wl_elK (T := tyN) (hr := hrow) (hb := hu); exact rfl; exact rfl; exact rfl; exact rfl; exact rfl; intro _; apply wl_val; apply opv_bin; exact rfl; exact rfl; exact bin_neqNilNil tyPN; exact rfl; refine wl_mv rfl rfl ?_; apply wl_skip; exact rfl; exact rfl; exact rfl; exact bR2; exact rfl; apply wl_skip; exact rfl; exact rfl; exact rfl; exact bR2; exact rfl; apply wl_skip; exact rfl; exact rfl; exact rfl; exact bR2; exact rfl; apply wl_skip; exact rfl; exact rfl; exact rfl; exact bR2; exact rfl; apply wl_skip; exact rfl; exact rfl; exact rfl; exact bR2; exact rfl; apply wl_skip; exact rfl; exact rfl; exact rfl; exact bR2; exact rfl; apply wl_skip; exact rfl; exact rfl; exact rfl; exact bR2; exact rfl; apply wl_skip; exact rfl; exact rfl; exact rfl; exact bR2; exact rfl; apply wl_skip; exact rfl; exact rfl; exact rfl; exact bR2; exact rfl; apply wl_skip; exact rfl; exact rfl; exact rfl; exact bR2; exact rfl; apply wl_skip; exact rfl; exact rfl; exact rfl; exact bR2; exact rfl; apply wl_skip; exact rfl; exact rfl; exact rfl; exact bR2; exact rfl; apply wl_skip; exact rfl; exact rfl; exact rfl; exact bR2; exact rfl; apply wl_skip; exact rfl; exact rfl; exact rfl; exact bR2; exact rfl; apply wl_val; apply opv_pickF; exact rfl; exact rfl; exact rfl; exact rfl; refine wl_ns ?_; apply wc_condFb; exact rfl; exact rfl; refine wc_exit ?_; refine we_seq_exit ?_; refine we_loop_exit ?_; refine we_block_exit ?_; refine we_seq ?_; refine wc_region ?_; refine wl_mv rfl rfl ?_; refine wl_mv rfl rfl ?_; refine wl_mv rfl rfl ?_
        refine ws_set hs 0 rfl rfl tyN rfl rfl (show l < 12 by omega) (fun _ => rfl) rfl rfl ?_
        clear hs; intro _ w7 hs; dsimp only [setC] at hs
        refine wl_nil ?_; refine we_block_norm ?_; refine we_seq ?_; refine wc_region ?_; refine wl_mv rfl rfl ?_; apply wl_val; apply opv_bin; exact rfl; exact rfl; exact bin_sub64 (by omega); exact rfl; refine wl_as rfl rfl ?_; refine wl_nil ?_
        refine we_loop _ l ⟨l, d2, mid2, _, rfl, by omega, hpm2, fun n hn => Nat.le_of_lt (hlast2 n hn), by rw [List.length_set]; exact hoV, fun l' h1 h2 => ?_, hs, rfl⟩ (by omega) ⟨rfl, rfl, rfl, rfl, by rw [hat]; rfl, rfl, trivial⟩
        rcases Nat.lt_or_ge l l' with h | h
        · rw [List.getElem?_set_ne (by omega)]; exact hov l' (by omega) h2
        · obtain rfl : l' = l := by omega
          rw [List.getElem?_set_self (by omega), hpm2, prv_at hlast2 hno, hat]; rfl
      · rw [hnp] at hu
        unfold pN at hu
        have hns3 : ns = (d2 ++ mid2 ++ p1) ++ n :: p2 := by rw [hns2, hp1]; simp
        obtain ⟨j1, _⟩ := node_wi hs 3 rfl hns3
        obtain ⟨_, _, rn, _⟩ := node_read hs 3 rfl hns3
        have hlt : ¬ cmpE n.a.x key seq < 0 := hpost n (by rw [hp1]; simp)
        unfold eaV at j1
        refine wc_seq ?_; refine wc_sr ?_; refine wl_mv rfl rfl ?_; apply wl_val; apply opv_nilOk; exact rfl; exact rfl; apply wl_val; apply opv_fa; exact fa_N1; exact rfl; exact rfl; apply wl_val; apply opv_ldW0; exact rfl; assumption; exact e1_ns; exact rfl; exact rfl; refine wl_mv rfl rfl ?_; apply wl_elK (T := tyN) (hr := hrow) (hb := hu); exact rfl; exact rfl; exact rfl; exact rfl; exact rfl; intro _; apply wl_val; apply opv_bin; exact rfl; exact rfl; exact bin_neqPtrNil tyPN; exact rfl; refine wl_mv rfl rfl ?_; apply wl_take; exact rfl; exact rfl; exact rfl; exact rfl; refine wl_mv rfl rfl ?_; apply wl_take; exact rfl; exact rfl; exact rfl; exact rfl; apply wl_val; apply opv_nilOk; exact rfl; exact rfl; apply wl_take; exact rfl; exact rfl; exact rfl; exact rfl; apply wl_val; apply opv_fa; exact fa_N1; exact rfl; exact rfl; apply wl_take; exact rfl; exact rfl; exact rfl; exact rfl; apply wl_val; apply opv_ldW0; exact rfl; assumption; exact e1_ns; exact rfl; exact rfl; apply wl_take; exact rfl; exact rfl; exact rfl; exact rfl; refine wl_mv rfl rfl ?_; apply wl_elTK (T := tyN) (hr := hrow) (hb := hu); exact rfl; exact rfl; exact rfl; exact rfl; exact rfl; exact rfl; exact rfl; exact rfl; exact rfl; exact rfl; exact rfl; exact rfl; exact rfl; exact rfl; intro _; apply wl_take; exact rfl; exact rfl; exact rfl; exact rfl; apply wl_val; apply opv_nilOk; exact rfl; exact rfl; apply wl_take; exact rfl; exact rfl; exact rfl; exact rfl; apply wl_val; apply opv_fa; exact fa_N0; exact rfl; exact rfl; apply wl_take; exact rfl; exact rfl; exact rfl; exact rfl; apply wl_val; apply opv_ldG; exact rfl; assumption; exact sE; exact rfl; apply wl_take; exact rfl; exact rfl; exact rfl; exact rfl; refine wl_mv rfl rfl ?_; apply wl_take; exact rfl; exact rfl; exact rfl; exact rfl; refine wl_mv rfl rfl ?_; apply wl_take; exact rfl; exact rfl; exact rfl; exact rfl
        refine wl_call ok_mem_compare (compare_any (x := n.a.x) rn (hkey _ hs.1) rfl) ⟨rfl, rfl, rfl, trivial⟩ rfl ?_
        rintro _ w6 ⟨rfl, hbx⟩
        replace hs := hs.below hbx
        apply wl_take; exact rfl; exact rfl; exact rfl; exact rfl; refine wl_bin rfl rfl bin_lss rfl ?_; apply wl_val; apply opv_pickT; exact rfl; exact rfl; exact rfl; exact rfl; refine wl_ns ?_; apply wc_decF; exact rfl; (with_reducible assumption); refine wc_exit ?_; refine we_seq_exit ?_; refine we_loop_exit ?_; refine we_block_exit ?_; refine we_seq ?_; refine wc_region ?_; refine wl_mv rfl rfl ?_; refine wl_mv rfl rfl ?_; refine wl_mv rfl rfl ?_
        refine ws_set hs 0 rfl rfl tyN rfl rfl (show l < 12 by omega) (fun _ => rfl) rfl rfl ?_
        clear hs; intro _ w7 hs; dsimp only [setC] at hs
        refine wl_nil ?_; refine we_block_norm ?_; refine we_seq ?_; refine wc_region ?_; refine wl_mv rfl rfl ?_; apply wl_val; apply opv_bin; exact rfl; exact rfl; exact bin_sub64 (by omega); exact rfl; refine wl_as rfl rfl ?_; refine wl_nil ?_
        refine we_loop _ l ⟨l, d2, mid2, _, rfl, by omega, hpm2, fun n hn => Nat.le_of_lt (hlast2 n hn), by rw [List.length_set]; exact hoV, fun l' h1 h2 => ?_, hs, rfl⟩ (by omega) ⟨rfl, rfl, rfl, rfl, by rw [hat]; rfl, rfl, trivial⟩
        rcases Nat.lt_or_ge l l' with h | h
        · rw [List.getElem?_set_ne (by omega)]; exact hov l' (by omega) h2
        · obtain rfl : l' = l := by omega
          rw [List.getElem?_set_self (by omega), hpm2, prv_at hlast2 hno, hat]; rfl
end Go.Proofs.YtdgagffieobiiaaGreatDoor

/-
  Walks over seek and there of a table.
-/
namespace Go.Proofs.YtdgagffieobiiaaGreatDoor
open Go.RowKit

/-- The first of some nodes. -/
def fstN : List Nd → Value
  | [] => .pointer none
  | n :: _ => pN n.g
theorem nxt_zero {ns : List Nd} (h : ∀ n ∈ ns, 1 ≤ n.h) : nxt ns 0 = fstN ns := by
  cases ns with
  | nil => rfl
  | cons n ns => rw [nxt, List.find?_cons, decide_eq_true (by have := h n List.mem_cons_self; omega)]; rfl
theorem prv_zero {t : Nat} {pre : List Nd} (h : ∀ n ∈ pre, 1 ≤ n.h) : prv t pre 0 = atP t pre := by
  have := prv_at (t := t) (done := pre) (mid := []) (l := 0) (fun n hn => h n (List.mem_of_getLast? hn)) (by simp)
  rwa [List.append_nil] at this
theorem seek_any {S : BS} {TX : TypeId × List Value} {t kn e seq : Nat} {r0 : Option Nat} {ns pre post : List Nd} {sz : Int} {K : Option Addr} {key : List UInt8} {w : World} (h0 : Sat w (tabP TX t r0 ns sz) S) (hn : r0 = none → ns = []) (hns : ns = pre ++ post) (hpre : ∀ n ∈ pre, cmpE n.a.x key seq < 0) (hpost : ∀ n ∈ post, ¬ cmpE n.a.x key seq < 0)
    (hh : ∀ n ∈ ns, 1 ≤ n.h) (hkn : key.length = kn) (hkey : ∀ w', Mod S w w' → RdB w' K key) :
    CallsV Tryz.prog 39 #[pN t, .slice K kn e, .int .u64 (seq : Int)] w fun v w' => ∃ r, v = fstN post ∧ St S w w' (tabP TX t (some r) ns sz) := by
  have hs := St.start h0
  unfold pN
  refine calls_in (N := _) Tryz.func39 rfl Tryz.ntmps39 rfl ?_; show WC _ _ _ _ _ _
  refine wc_sr ?_; refine wl_as rfl rfl ?_; refine wl_ns ?_; refine wc_sr ?_; refine wl_mv rfl rfl ?_; refine wl_mv rfl rfl ?_; refine wl_mv rfl rfl ?_
  obtain ⟨S2, hS2, _, hM, _, hB⟩ := St.lend (H1 := tabP TX t r0 ns sz) (H2 := []) (by rw [List.append_nil]; exact hs)
  refine wl_call ok_mem_Table_ahead (ahead_any hS2 hn hns hpre hpost hkn fun w' hm => hkey w' (hM w' hm)) ⟨rfl, rfl, rfl, trivial⟩ rfl ?_
  rintro _ w2 ⟨r, o, rfl, hsx⟩
  replace hs := hB _ _ hsx
  rw [List.append_nil] at hs
  simp only [tabP, tabQ] at hs
  have hout := (hs.ow 0 rfl).rd
  have hu : ((List.range 12).map (prv t pre))[0]? = some (atP t pre) := by rw [← prv_zero fun n h => hh n (by rw [hns]; exact List.mem_append_left _ h)]; rfl
  obtain ⟨g, rr, h, hat, hw4, hlh, hrow⟩ := at_read hs 1 2 3 rfl rfl rfl hns (show 0 < 12 by omega) fun n hn => hh n (by rw [hns]; exact List.mem_append_left _ (List.mem_of_getLast? hn))
  rw [hat] at hu
  unfold pN at hu
  have hu2 := rowV_get (ns := post) hlh
  rw [nxt_zero fun n h => hh n (by rw [hns]; exact List.mem_append_right _ h)] at hu2
  apply wl_elK (T := tyN) (hr := hout) (hb := hu); exact rfl; exact rfl; exact rfl; exact rfl; exact rfl; intro _; apply wl_val; apply opv_nilOk; exact rfl; exact rfl; apply wl_val; apply opv_fa; exact fa_N1; exact rfl; exact rfl; apply wl_val; apply opv_ldW0; exact rfl; assumption; exact e1_ns; exact rfl; exact rfl; apply wl_elK (T := tyN) (hr := hrow) (hb := hu2); exact rfl; exact rfl; exact rfl; exact rfl; exact rfl; intro _; refine wl_as rfl rfl ?_; refine wl_ns ?_; refine wc_ret ?_
  exact we_ret1 rfl rfl ⟨_, rfl, r, rfl, hs.drop 0 rfl⟩
end Go.Proofs.YtdgagffieobiiaaGreatDoor

/-
  Walk over there of a table.
-/
namespace Go.Proofs.YtdgagffieobiiaaGreatDoor
open Go.RowKit

/-- Does the first of some nodes stand at a key and Seq? -/
def thB (post : List Nd) (key : List UInt8) (seq : Nat) : Bool := match post with
  | [] => false
  | n :: _ => decide (cmpE n.a.x key seq = 0)
theorem there_any {S : BS} {TX : TypeId × List Value} {t c d : Nat} {r0 : Option Nat} {ns pre post : List Nd} {sz : Int} {A B : Option Addr} {x : En} {w : World} (h0 : Sat w (tabP TX t r0 ns sz) S) (hn : r0 = none → ns = []) (hns : ns = pre ++ post) (hpre : ∀ n ∈ pre, cmpE n.a.x x.key x.seq < 0) (hpost : ∀ n ∈ post, ¬ cmpE n.a.x x.key x.seq < 0)
    (hh : ∀ n ∈ ns, 1 ≤ n.h) (hkey : ∀ w', Mod S w w' → RdB w' A x.key) :
    CallsV Tryz.prog 30 #[pN t, .agg (enV x A c B d).toArray] w fun v w' => ∃ r, v = .bool (thB post x.key x.seq) ∧ St S w w' (tabP TX t (some r) ns sz) := by
  have hs := St.start h0
  unfold pN
  refine calls_in (N := _) Tryz.func30 rfl Tryz.ntmps30 rfl ?_; show WC _ _ _ _ _ _
  refine wc_sr ?_
  refine ws_box (cs := enV x A c B d) hs rfl rfl ?_; clear hs; intro g3 _ hs
  refine wl_as rfl rfl ?_; refine wl_ns ?_; refine wc_sr ?_; refine wl_mv rfl rfl ?_; apply wl_val; apply opv_fa; exact fa_sE (by decide); exact rfl; exact rfl; apply wl_val; apply opv_ldX; exact rfl; exact hs.ar 0 rfl; exact e1_by; exact rfl; exact rfl; apply wl_val; apply opv_fa; exact fa_sE (by decide); exact rfl; exact rfl; apply wl_val; apply opv_ldX; exact rfl; exact hs.ar 0 rfl; exact e1_u64; exact rfl; exact rfl
  unfold enV at hs
  skip
  obtain ⟨S2, hS2, _, hM, _, hB⟩ := St.lend (H1 := tabP TX t r0 ns sz) (H2 := [.blk g3 31 (enV x A c B d)]) (((hs.front 3 rfl).front 3 rfl).front 3 rfl)
  refine wl_call ok_mem_Table_seek (seek_any hS2 hn hns hpre hpost hh rfl fun w' hm => hkey w' (hM w' hm)) ⟨rfl, rfl, rfl, trivial⟩ rfl ?_
  rintro _ w2 ⟨r, rfl, hsx⟩
  replace hs := hB _ _ hsx
  clear hB hsx hS2 hM
  simp only [tabP, tabQ] at hs
  unfold enV at hs
  dsimp only [List.cons_append, List.nil_append] at hs
  have a3 := hs.ar 3 rfl
  refine wl_as rfl rfl ?_; refine wl_ns ?_; refine wc_seq ?_
  refine wc_heldB mixed fun w3 hS => ?_
  cases post with
  | nil =>
    unfold fstN
    apply wh_takeH 0; exact rfl; intro _ hw_; apply opv_move; exact rfl; exact rfl; kernel_rfl; exact hS; apply wh_takeH 1; exact rfl; intro _ hw_; apply opv_bin; exact rfl; exact rfl; exact bin_neqNilNil tyPN; exact rfl; kernel_rfl; exact hS; apply wh_takeH 2; exact rfl; intro _ hw_; apply opv_move; exact rfl; exact rfl; kernel_rfl; exact hS; apply wh_skipGH 3; exact rfl; exact rfl; exact rfl; exact rfl; exact bR2; exact rfl; kernel_rfl; exact hS; apply wh_skipGH 4; exact rfl; exact rfl; exact rfl; exact rfl; exact bR2; exact rfl; kernel_rfl; exact hS; apply wh_skipGH 5; exact rfl; exact rfl; exact rfl; exact rfl; exact bR2; exact rfl; kernel_rfl; exact hS; apply wh_skipGH 6; exact rfl; exact rfl; exact rfl; exact rfl; exact bR2; exact rfl; kernel_rfl; exact hS; apply wh_skipGH 7; exact rfl; exact rfl; exact rfl; exact rfl; exact bR2; exact rfl; kernel_rfl; exact hS; apply wh_skipGH 8; exact rfl; exact rfl; exact rfl; exact rfl; exact bR2; exact rfl; kernel_rfl; exact hS; apply wh_skipGH 9; exact rfl; exact rfl; exact rfl; exact rfl; exact bR2; exact rfl; kernel_rfl; exact hS; apply wh_skipGH 10; exact rfl; exact rfl; exact rfl; exact rfl; exact bR2; exact rfl; kernel_rfl; exact hS; apply wh_skipGH 11; exact rfl; exact rfl; exact rfl; exact rfl; exact bR2; exact rfl; kernel_rfl; exact hS; apply wh_skipGH 12; exact rfl; exact rfl; exact rfl; exact rfl; exact bR2; exact rfl; kernel_rfl; exact hS; apply wh_takeH 13; exact rfl; intro _ hw_; apply opv_pickF; exact rfl; exact rfl; exact rfl; exact rfl; kernel_rfl; exact hS; apply wh_takeH 14; exact rfl; intro _ hw_; apply opv_assign; exact rfl; exact rfl; kernel_rfl; exact hS
    refine wh_done (by kernel_rfl) ?_
    refine we_seq ?_; refine wc_ret ?_
    exact we_ret1 rfl rfl ⟨_, rfl, r, rfl, (hs.below hS).drop 3 rfl⟩
  | cons n post =>
    unfold fstN pN
    obtain ⟨j1, _⟩ := node_wi hs 2 rfl hns
    obtain ⟨_, _, rn, _⟩ := node_read hs 2 rfl hns
    unfold eaV at j1
    apply wh_takeH 0; exact rfl; intro _ hw_; apply opv_move; exact rfl; exact rfl; kernel_rfl; exact hS; apply wh_takeH 1; exact rfl; intro _ hw_; apply opv_bin; exact rfl; exact rfl; exact bin_neqPtrNil tyPN; exact rfl; kernel_rfl; exact hS; apply wh_takeH 2; exact rfl; intro _ hw_; apply opv_move; exact rfl; exact rfl; kernel_rfl; exact hS; apply wh_takeGH 3; exact rfl; exact rfl; exact rfl; exact rfl; exact rfl; intro _ hw_; apply opv_move; exact rfl; exact rfl; kernel_rfl; exact hS; apply wh_takeGH 4; exact rfl; exact rfl; exact rfl; exact rfl; exact rfl; intro _ hw_; apply opv_nilOk; exact rfl; exact rfl; kernel_rfl; exact hS; apply wh_takeGH 5; exact rfl; exact rfl; exact rfl; exact rfl; exact rfl; intro _ hw_; apply opv_fa; exact fa_N0; exact rfl; exact rfl; kernel_rfl; exact hS; apply wh_takeGH 6; exact rfl; exact rfl; exact rfl; exact rfl; exact rfl; intro _ hw_; apply opv_ldG; exact rfl; exact Wi.below (by assumption) hw_; exact sE; exact rfl; kernel_rfl; exact hS; apply wh_takeGH 7; exact rfl; exact rfl; exact rfl; exact rfl; exact rfl; intro _ hw_; apply opv_fa; exact fa_sE (by decide); exact rfl; exact rfl; kernel_rfl; exact hS; apply wh_takeGH 8; exact rfl; exact rfl; exact rfl; exact rfl; exact rfl; intro _ hw_; apply opv_ldX; exact rfl; exact Ar.bel (by assumption) hw_; exact e1_by; exact rfl; exact rfl; kernel_rfl; exact hS; apply wh_takeGH 9; exact rfl; exact rfl; exact rfl; exact rfl; exact rfl; intro _ hw_; apply opv_fa; exact fa_sE (by decide); exact rfl; exact rfl; kernel_rfl; exact hS; apply wh_takeGH 10; exact rfl; exact rfl; exact rfl; exact rfl; exact rfl; intro _ hw_; apply opv_ldX; exact rfl; exact Ar.bel (by assumption) hw_; exact e1_u64; exact rfl; exact rfl; kernel_rfl; exact hS
    refine wh_one 11 (o := ⟨_, _, _, _, _, _⟩) (by kernel_rfl) rfl ?_
    apply wl_take; exact rfl; exact rfl; exact rfl; exact rfl
    refine wl_call ok_mem_compare (compare_any (x := n.a.x) (rn.below hS) ((hkey _ hs.1).below hS) rfl) ⟨rfl, rfl, rfl, trivial⟩ rfl ?_
    rintro _ w4 ⟨rfl, hbx⟩
    replace hS := hS.trans (hbx.mono hS.size)
    refine wl_nil ?_
    refine we_held hS ?_
    refine wh_takeG 12 rfl (by kernel_rfl) (by kernel_rfl) (by kernel_rfl) hS rfl rfl rfl rfl (fun _ _ => opv_bin rfl rfl bin_eql) rfl ?_
    apply wh_takeH 13; exact rfl; intro _ hw_; apply opv_pickT; exact rfl; exact rfl; exact rfl; exact rfl; kernel_rfl; exact hS; apply wh_takeH 14; exact rfl; intro _ hw_; apply opv_assign; exact rfl; exact rfl; kernel_rfl; exact hS
    refine wh_done (by kernel_rfl) ?_
    refine we_seq ?_; refine wc_ret ?_
    exact we_ret1 rfl rfl ⟨_, rfl, r, rfl, (hs.below hS).drop 3 rfl⟩
end Go.Proofs.YtdgagffieobiiaaGreatDoor

/-
  A skip list into which a node is being put: rows up to a level, and stores among pieces.
-/
namespace Go.Proofs.YtdgagffieobiiaaGreatDoor
open Go.RowKit

/-- A row of which the levels below j are new. -/
def rowJ (j : Nat) (ns' ns : List Nd) (h : Nat) : List Value := (List.range h).map fun l => if l < j then nxt ns' l else nxt ns l
theorem rowJ_len (j : Nat) (ns' ns : List Nd) (h : Nat) : (rowJ j ns' ns h).length = h := by simp [rowJ]
theorem rowJ_get {j : Nat} {ns' ns : List Nd} {h l : Nat} (hl : l < h) : (rowJ j ns' ns h)[l]? = some (if l < j then nxt ns' l else nxt ns l) := by simp [rowJ, hl]
theorem rowJ_zero (ns' ns : List Nd) (h : Nat) : rowJ 0 ns' ns h = rowV ns h := by simp [rowJ, rowV]
theorem rowJ_all {j : Nat} {ns' ns : List Nd} {h : Nat} (hh : ∀ l, j ≤ l → l < h → nxt ns' l = nxt ns l) : rowJ j ns' ns h = rowV ns' h := by
  refine List.map_congr_left fun l hl => ?_
  have hl' := List.mem_range.1 hl
  by_cases h1 : l < j
  · rw [if_pos h1]
  · rw [if_neg h1, hh l (by omega) hl']
/-- One level on, where the level's next is the same. -/
theorem rowJ_same {j : Nat} {ns' ns : List Nd} {h : Nat} (hh : j < h → nxt ns' j = nxt ns j) : rowJ (j + 1) ns' ns h = rowJ j ns' ns h := by
  refine List.map_congr_left fun l hl => ?_
  have hl' := List.mem_range.1 hl
  by_cases h1 : l < j
  · rw [if_pos h1, if_pos (by omega)]
  · rw [if_neg h1]
    by_cases h2 : l = j
    · subst h2; rw [if_pos (by omega), hh hl']
    · rw [if_neg (by omega)]
/-- One level on, where it is written. -/
theorem rowJ_set {j : Nat} {ns' ns : List Nd} {h : Nat} : rowJ (j + 1) ns' ns h = (rowJ j ns' ns h).set j (nxt ns' j) := by
  refine List.ext_getElem? fun l => ?_
  rcases Nat.lt_or_ge l h with h1 | h1
  · rw [rowJ_get h1]
    by_cases h2 : j = l
    · subst h2
      rw [List.getElem?_set_self (by rw [rowJ_len]; exact h1), if_pos (by omega)]
    · rw [List.getElem?_set_ne h2, rowJ_get h1]
      by_cases h3 : l < j
      · rw [if_pos h3, if_pos (by omega)]
      · rw [if_neg h3, if_neg (by omega)]
  · rw [List.getElem?_eq_none (by rw [rowJ_len]; exact h1), List.getElem?_eq_none (by rw [List.length_set, rowJ_len]; exact h1)]
theorem nxt_skip {N : Nd} {tl : List Nd} {l : Nat} (h : N.h ≤ l) : ∀ d : List Nd, nxt (d ++ N :: tl) l = nxt (d ++ tl) l
  | [] => by rw [List.nil_append, nxt, List.find?_cons, decide_eq_false (by omega)]; rfl
  | a :: d => by
    have ih := nxt_skip (tl := tl) h d
    rw [List.cons_append, List.cons_append, nxt, nxt, List.find?_cons, List.find?_cons]
    by_cases h1 : l < a.h
    · rw [decide_eq_true h1]
    · rw [decide_eq_false h1]; exact ih
theorem nxt_hit {n : Nd} {l : Nat} (h : l < n.h) (a b : List Nd) : ∀ d : List Nd, nxt (d ++ n :: a) l = nxt (d ++ n :: b) l
  | [] => by rw [List.nil_append, List.nil_append, nxt, nxt, List.find?_cons, List.find?_cons, decide_eq_true h]
  | x :: d => by
    have ih := nxt_hit h a b d
    rw [List.cons_append, List.cons_append, nxt, nxt, List.find?_cons, List.find?_cons]
    by_cases h1 : l < x.h
    · rw [decide_eq_true h1]
    · rw [decide_eq_false h1]; exact ih
theorem nxt_pass {l : Nat} (tl : List Nd) : ∀ {mid : List Nd}, (∀ n ∈ mid, ¬ l < n.h) → nxt (mid ++ tl) l = nxt tl l
  | [], _ => rfl
  | x :: mid, h => by
    have ih := nxt_pass tl fun n hn => h n (List.mem_cons_of_mem _ hn)
    rw [List.cons_append, nxt, List.find?_cons, decide_eq_false (h x List.mem_cons_self)]; exact ih
theorem nxt_top {N : Nd} {tl : List Nd} {l : Nat} (h : l < N.h) : nxt (N :: tl) l = pN N.g := by rw [nxt, List.find?_cons, decide_eq_true h]
/-- The nodes ahead of the new one. -/
def preP (j : Nat) : List Nd → List Nd → List Nd → List Cd
  | [], _, _ => []
  | n :: d, tl', tl => .ow 82 (some ⟨n.r, 0, none⟩) n.h n.h (rowJ j (d ++ tl') (d ++ tl) n.h) :: .blk n.g 64 (nodV n) :: (enM n.a ++ preP j d tl' tl)
theorem preP_app (j : Nat) (tl' tl e : List Nd) : ∀ d : List Nd, preP j (d ++ e) tl' tl = preP j d (e ++ tl') (e ++ tl) ++ preP j e tl' tl
  | [] => rfl
  | n :: d => by
    have ih := preP_app j tl' tl e d
    rw [List.cons_append, preP, preP, ih, List.append_assoc, List.append_assoc, List.cons_append, List.cons_append, List.append_assoc]
/-- All levels are written: the node stands there. -/
theorem preP_all {N : Nd} {j : Nat} {post : List Nd} (hj : N.h ≤ j) : ∀ pre : List Nd, (nodP (pre ++ N :: post)).Perm (preP j pre (N :: post) post ++ nodP (N :: post))
  | [] => .refl _
  | n :: d => by
    have ih := preP_all hj (post := post) d
    rw [List.cons_append, nodP, preP, ndM, rowJ_all (fun l h1 _ => nxt_skip (Nat.le_trans hj h1) d), List.cons_append, List.cons_append, List.cons_append, List.cons_append, List.append_assoc]
    exact (List.Perm.swap _ _ _).trans ((ih.append_left _).cons _ |>.cons _)
theorem preP_zero (tl' post : List Nd) : ∀ pre : List Nd, (nodP (pre ++ post)).Perm (preP 0 pre tl' post ++ nodP post)
  | [] => .refl _
  | n :: d => by
    have ih := preP_zero tl' post d
    rw [List.cons_append, nodP, preP, ndM, rowJ_zero, List.cons_append, List.cons_append, List.cons_append, List.cons_append, List.append_assoc]
    exact (List.Perm.swap _ _ _).trans ((ih.append_left _).cons _ |>.cons _)
/-- Behind the last that goes up to a level nothing changes there. -/
theorem preP_low {l : Nat} {tl' tl : List Nd} : ∀ {mid : List Nd}, (∀ n ∈ mid, ¬ l < n.h) → preP (l + 1) mid tl' tl = preP l mid tl' tl
  | [], _ => rfl
  | n :: d, h => by
    rw [preP, preP, preP_low fun x hx => h x (List.mem_cons_of_mem _ hx), rowJ_same fun hl => absurd hl (h n List.mem_cons_self)]
/-- Nor ahead of it. -/
theorem preP_high {l : Nat} {n : Nd} (hl : l < n.h) {a b : List Nd} : ∀ d : List Nd, preP (l + 1) d (n :: a) (n :: b) = preP l d (n :: a) (n :: b)
  | [] => rfl
  | x :: d => by
    rw [preP, preP, preP_high hl d, rowJ_same fun _ => nxt_hit hl a b d]
/-- The last of some nodes that goes up to a level. -/
theorem last_split (l : Nat) : ∀ pre : List Nd, (∀ n ∈ pre, ¬ l < n.h) ∨ ∃ d n mid, pre = d ++ n :: mid ∧ l < n.h ∧ ∀ m ∈ mid, ¬ l < m.h
  | [] => .inl (by simp)
  | x :: d => by
    rcases last_split l d with h | ⟨d', n, mid, h1, h2, h3⟩
    · by_cases hx : l < x.h
      · exact .inr ⟨[], x, d, rfl, hx, h⟩
      · exact .inl fun n hn => (List.mem_cons.1 hn).elim (fun e => e ▸ hx) (h n)
    · exact .inr ⟨x :: d', n, mid, by rw [h1]; rfl, h2, h3⟩
section
variable {P : Program} {N : Nat} {ops : Array Oper} {Q : Exit → Act → World → Prop} {rest : List Oper} {L : FL} {M : BS} {w0 w : World} {H : List Cd} {e : TypeId} {z : Value} {bytes : Nat} {t : TypeId}
/-- One cell of a row is written. -/
theorem ws_stO {g : Nat} {x y : Operand} {ty : TypeId} {pos : String} {aft : Array Edge} {e1 : TypeId} {A : Option Addr} {n c kk : Nat} {u : Value} {xs : List Value} (hs : St M w0 w H) (i : Nat) (hx : look L x = some (.pointer (some ⟨g, 0 + kk, none⟩))) (hi : nthC H i = some (.ow e A n c xs)) (hA : A = some ⟨g, 0, none⟩) (E : Cell1 P e1)
    (hk : kk < n) (hy : look L y = some u) (h1 : u.oneCell' = true)
    (h : ∀ w', St M w0 w' (setC H i (.ow e A n c (xs.set kk u))) → WL P N ops Q rest L w') :
    WL P N ops Q (⟨none, .store e1 x y, ty, pos, aft, none⟩ :: rest) L w := by
  subst hA
  rw [Nat.zero_add] at hx
  have ho := hs.ow i hi
  have hl : kk < xs.length := by have := ho.1; omega
  have hcell := World.ownsRow.cellAt ho kk (by omega)
  rw [List.getElem?_eq_getElem hl] at hcell
  have hst := World.ownsRow.stored ho kk u
  exact wl_unitN (opu_storeC E hx hy h1 (by simpa using hcell) (by simpa using World.ownsRow.frozenAt ho kk)) (by simpa using h _ (hs.updO i hi hst.1 hst.2 (.inl rfl)))
end
section
variable {P : Program} {N : Nat} {ops : Array Oper} {Q : Exit → Act → World → Prop} {S : World → Prop} {L : FL} {w : World}
theorem wc_heldS (S : World → Prop) (m : Nat) {id : Nat} {l : List Oper} (hm : P.follows .mixedOrders = true) (h : WM P N l.toArray Q S m l.length (Array.replicate l.length false) L w.drew) : WC P N (.region id l.toArray true) Q L w := fun a ha =>
  wp_region_noPanic (wp_region_any hm (any_of_M (S := S) (m := m) _ _ _ _ (by simpa using h a ha)))
end
end Go.Proofs.YtdgagffieobiiaaGreatDoor

/-
  A new node and one level: the row that is written, taken out of the pieces and put back.
-/
namespace Go.Proofs.YtdgagffieobiiaaGreatDoor
open Go.RowKit

theorem Sat.ckSplit {w : World} {X X1 X2 H : List Cd} {S : BS} (p : X.Perm (X1 ++ X2)) (h : Sat w (.ck (packC X) :: H) S) : Sat w (.ck (packC X1) :: .ck (packC X2) :: H) S := by
  obtain ⟨T, hT, hc, hr⟩ := h
  obtain ⟨T1, hT1, h1, h2⟩ := Sat.append (Sat.permL p (show Sat w X T from hc))
  exact ⟨T1, fun b hb => hT b (hT1 b hb), h1, (fun b => T b ∧ ¬ T1 b), fun b hb => ⟨hT b hb.1, hb.2⟩, h2, hr.mono fun b _ hb => ⟨⟨hb.1, fun h => hb.2 (hT1 b h)⟩, fun h => hb.2 h.1⟩⟩
theorem Sat.ckJoin {w : World} {X X1 X2 H : List Cd} {S : BS} (p : X.Perm (X1 ++ X2)) (h : Sat w (.ck (packC X1) :: .ck (packC X2) :: H) S) : Sat w (.ck (packC X) :: H) S := by
  obtain ⟨T1, hT1, h1, T2, hT2, h2, hr⟩ := h
  refine ⟨fun b => T1 b ∨ T2 b, fun b hb => hb.elim (hT1 b) fun h => (hT2 b h).1, Sat.permL p.symm (Sat.join (T := T1) (fun b h => .inl h) h1 (Sat.mono h2 fun b _ h => ⟨.inr h, (hT2 b h).2⟩)), hr.mono fun b _ hb => ⟨hb.1.1, fun h => h.elim hb.1.2 hb.2⟩⟩
/-- The pieces of a table into which a node is being put, levels below l done. -/
def insP (TX : TypeId × List Value) (r : Nat) (N : Nd) (pre post : List Nd) (c0 : Cd) (t cnt : Nat) (sz : Int) (T : List Cd) (l : Nat) : List Cd :=
  .ow 82 (some ⟨r, 0, none⟩) 12 12 (rowJ l (pre ++ N :: post) (pre ++ post) 12) :: .blk N.g 64 (nodV N) :: .ow 82 (some ⟨N.r, 0, none⟩) N.h N.h (rowJ l post [] N.h) :: c0 :: .blk t TX.1 (tbV (hdS (some r)) cnt sz TX.2) :: .ck (packC (preP l pre (N :: post) post)) :: T
theorem focus {TX : TypeId × List Value} {M : BS} {w0 w : World} {r : Nat} {N : Nd} {pre post : List Nd} {c0 : Cd} {t cnt : Nat} {sz : Int} {T : List Cd} {l : Nat} (hs : St M w0 w (insP TX r N pre post c0 t cnt sz T l)) (hl : l < N.h) (h12 : N.h ≤ 12) :
    ∃ g rr hh row H', prv t pre l = pN g ∧ (∀ w' xs, St M w0 w' (.ow 82 (some ⟨rr, 0, none⟩) hh hh row :: .blk N.g 64 (nodV N) :: .ow 82 (some ⟨N.r, 0, none⟩) N.h N.h xs :: H') → Wi w' g (0 + 4) [.slice (some ⟨rr, 0, none⟩) hh hh]) ∧ l < hh ∧ row[l]? = some (nxt post l) ∧ St M w0 w (.ow 82 (some ⟨rr, 0, none⟩) hh hh row :: .blk N.g 64 (nodV N) :: .ow 82 (some ⟨N.r, 0, none⟩) N.h N.h (rowJ l post [] N.h) :: H') ∧
      ∀ w', St M w0 w' (.ow 82 (some ⟨rr, 0, none⟩) hh hh (row.set l (pN N.g)) :: .blk N.g 64 (nodV N) :: .ow 82 (some ⟨N.r, 0, none⟩) N.h N.h (rowJ (l + 1) post [] N.h) :: H') → St M w0 w' (insP TX r N pre post c0 t cnt sz T (l + 1)) := by
  rcases last_split l pre with hlow | ⟨d, n, mid, hpre, hn, hmid⟩
  · refine ⟨t, r, 12, _, _, ?_, fun w' xs hs => ?_, by omega, ?_, hs, fun w' h => ?_⟩
    · rw [prv, List.filter_eq_nil_iff.2 fun n hn => by simpa using hlow n hn]; rfl
    · refine ar_wi (hs.ar 4 rfl) _ _ fun j u hu => ?_
      have hj : j = 0 := by have := (List.getElem?_eq_some_iff.1 hu).1; simp at this; omega
      subst hj
      exact hu
    · rw [rowJ_get (by omega), if_neg (Nat.lt_irrefl _), nxt_pass post hlow]
    · rw [show pN N.g = nxt (pre ++ N :: post) l by rw [nxt_pass _ hlow, nxt_top hl], ← rowJ_set] at h
      rw [insP, preP_low hlow]
      exact h
  · subst hpre
    have hX : ∀ j, (preP j (d ++ n :: mid) (N :: post) post).Perm ([.ow 82 (some ⟨n.r, 0, none⟩) n.h n.h (rowJ j (mid ++ N :: post) (mid ++ post) n.h)] ++ (preP j d (n :: mid ++ N :: post) (n :: mid ++ post) ++ (.blk n.g 64 (nodV n) :: (enM n.a ++ preP j mid (N :: post) post)))) := fun j => by
      rw [preP_app, preP]
      exact List.perm_middle
    have h1 := (hs.front 5 rfl).map fun _ h => Sat.ckSplit (hX l) h
    have h2 := ((St.unpk h1).front 4 rfl).front 4 rfl
    have h3 := h2.front 2 rfl
    refine ⟨n.g, n.r, n.h, _, _, ?_, fun w' xs hs => ?_, hn, ?_, h3, fun w' h => ?_⟩
    · rw [show d ++ n :: mid = (d ++ [n]) ++ mid by simp, prv_at (fun n' hn' => by simp at hn'; subst hn'; exact hn) hmid, atP]; simp
    · obtain ⟨T', hc, _⟩ := hs.get 3 rfl
      obtain ⟨_, _, hb⟩ := Sat.mem (show Sat w' (preP l d (n :: mid ++ N :: post) (n :: mid ++ post) ++ (.blk n.g 64 (nodV n) :: (enM n.a ++ preP l mid (N :: post) post))) T' from hc) (c := .blk n.g 64 (nodV n)) (by simp)
      refine ar_wi hb.2 _ _ fun j u hu => ?_
      have hj : j = 0 := by have := (List.getElem?_eq_some_iff.1 hu).1; simp at this; omega
      subst hj
      exact hu
    · rw [rowJ_get hn, if_neg (Nat.lt_irrefl _), nxt_pass post hmid]
    · rw [show pN N.g = nxt (mid ++ N :: post) l by rw [nxt_pass _ hmid, nxt_top hl], ← rowJ_set] at h
      have e1 : rowJ (l + 1) (d ++ n :: mid ++ N :: post) (d ++ n :: mid ++ post) 12 = rowJ l (d ++ n :: mid ++ N :: post) (d ++ n :: mid ++ post) 12 := rowJ_same fun _ => by
        rw [List.append_assoc, List.append_assoc, List.cons_append, List.cons_append]; exact nxt_hit hn _ _ d
      have e2 : preP l d (n :: mid ++ N :: post) (n :: mid ++ post) = preP (l + 1) d (n :: mid ++ N :: post) (n :: mid ++ post) := by
        rw [List.cons_append, List.cons_append, preP_high hn]
      rw [e2, ← preP_low hmid] at h
      have k1 := ((h.front 3 rfl).front 1 rfl)
      have k2 := (St.pk (H1 := [_]) k1).map fun _ h => Sat.ckJoin (hX (l + 1)) h
      have k3 := (((((k2.front 5 rfl).front 5 rfl).front 5 rfl).front 5 rfl).front 5 rfl).front 2 rfl
      rw [insP, e1]
      exact k3
theorem rowJ_nils (post : List Nd) (h : Nat) : List.replicate h (Value.pointer none) = rowJ 0 post [] h := by
  rw [rowJ_zero]
  exact (List.eq_replicate_iff.2 ⟨rowV_len _ _, fun b hb => by
    obtain ⟨l, _, rfl⟩ := List.mem_map.1 hb
    rfl⟩).symm
theorem ins_start {TX : TypeId × List Value} {M : BS} {w0 w : World} {r : Nat} {N : Nd} {pre post : List Nd} {c0 : Cd} {t cnt : Nat} {sz : Int} {T : List Cd}
    (hs : St M w0 w (c0 :: .blk t TX.1 (tbV (hdS (some r)) cnt sz TX.2) :: .ck (packC (hdP (some r) (pre ++ post))) :: .ck (packC (nodP (pre ++ post))) :: .blk N.g 64 (nodV N) :: .ow 82 (some ⟨N.r, 0, none⟩) N.h N.h (List.replicate N.h (.pointer none)) :: T)) :
    St M w0 w (insP TX r N pre post c0 t cnt sz (.ck (packC (nodP post)) :: T) 0) := by
  have h1 := (hs.front 3 rfl).map fun _ h => Sat.ckSplit (preP_zero (N :: post) post pre) h
  have h2 := ((((h1.front 3 rfl).front 3 rfl).front 6 rfl).front 6 rfl).front 6 rfl
  have h3 := St.unpk h2
  rw [insP, rowJ_zero, ← rowJ_nils]
  exact h3
theorem ins_end {TX : TypeId × List Value} {M : BS} {w0 w : World} {r : Nat} {N : Nd} {pre post : List Nd} {c0 : Cd} {t cnt : Nat} {sz : Int}
    (hs : St M w0 w (insP TX r N pre post c0 t cnt sz [.ck (packC (nodP post)), .ow 5 N.a.B N.a.x.val.length N.a.d (bvs N.a.x.val), .ow 5 N.a.A N.a.x.key.length N.a.c (bvs N.a.x.key)] N.h)) :
    St M w0 w (tabQ TX t (some r) (pre ++ N :: post) cnt sz) := by
  rw [insP, rowJ_all (fun l h1 _ => nxt_skip h1 pre), rowJ_all (fun l h1 h2 => absurd h2 (by omega))] at hs
  have h1 := ((((hs.drop 3 rfl).front 6 rfl).front 7 rfl).front 4 rfl).front 4 rfl
  have h2 := ((St.pk (H1 := [_, _, _, _]) h1).front 4 rfl).front 1 rfl
  have h3 := (h2.map fun _ h => Sat.ckJoin (X := nodP (N :: post)) (.refl _) h).front 3 rfl
  have h4 := (h3.map fun _ h => Sat.ckJoin (preP_all (Nat.le_refl _) pre) h).front 1 rfl
  exact (St.pk (H1 := [_]) h4).front 2 rfl
end Go.Proofs.YtdgagffieobiiaaGreatDoor

/-
  Walk over insert of a table.
-/
namespace Go.Proofs.YtdgagffieobiiaaGreatDoor
open Go.RowKit

theorem opv_sliceTo {P : Program} {L : FL} {w : World} {t e : TypeId} {z : Value} {bytes : Nat} {x y : Operand} {ty : TypeId} {A : Option Addr} {n c h : Nat} {k : IntKind} (T : Row1 P t e z bytes) (hx : look L x = some (.slice A n c)) (hy : look L y = some (.int k (h : Int))) (h2 : h ≤ c) : OpV P (.slice t x none (some y) none) ty L w (.slice A h c) w := by
  have := opv_slice (P := P) (w := w) (ty := ty) T hx (lo := none) (hi := some y) (l := 0) (h := h) rfl ⟨_, hy⟩ (Nat.zero_le _) h2
  rwa [cutA_zero, Nat.sub_zero, Nat.sub_zero] at this

set_option maxHeartbeats 20000000 in
set_option maxRecDepth 8000 in
theorem tinsert_any {S : BS} {TX : TypeId × List Value} {t c d : Nat} {r0 : Option Nat} {ns pre post : List Nd} {sz : Int} {A B : Option Addr} {x : En} {w : World} (h0 : Sat w (tabP TX t r0 ns sz) S) (hn : r0 = none → ns = []) (hns : ns = pre ++ post) (hpre : ∀ n ∈ pre, cmpE n.a.x x.key x.seq < 0) (hpost : ∀ n ∈ post, ¬ cmpE n.a.x x.key x.seq < 0)
    (hk : ∀ w', Mod S w w' → RdB w' A x.key ∧ RdB w' B x.val) (hl : x.key.length ≤ 140737488355328) (hl2 : x.val.length ≤ 140737488355328) (hcnt : ns.length ≤ 1099511627776) (hsz : 0 ≤ sz ∧ sz ≤ 4611686018427387904) (hg : ∀ w', Mod S w w' → GT w') :
    CallsV Tryz.prog 31 #[pN t, .agg (enV x A c B d).toArray] w fun v w' => ∃ (r : Nat) (N : Nd), v = .tuple #[] ∧ N.a.x = x ∧ 1 ≤ N.h ∧ N.h ≤ 12 ∧ St S w w' (tabP TX t (some r) (pre ++ N :: post) (sz + ((x.key.length + x.val.length : Nat) : Int))) := by
  have hs := St.start h0
  unfold pN
  simp only [tabP, tabQ] at hs
  unfold tbV at hs
  refine calls_in (N := _) Tryz.func31 rfl Tryz.ntmps31 rfl ?_; show WC _ _ _ _ _ _
  refine wc_sr ?_
  refine ws_box (cs := enV x A c B d) hs rfl rfl ?_; clear hs; intro g3 _ hs
  refine wl_ns ?_; refine wc_sr ?_; refine wl_mv rfl rfl ?_; apply wl_val; apply opv_nilOk; exact rfl; exact rfl; apply wl_val; apply opv_fa; exact fa_T1; exact rfl; exact rfl; apply wl_val; apply opv_ldX; exact rfl; exact hs.ar 1 rfl; exact e1_int; exact rfl; exact rfl; apply wl_val; apply opv_bin; exact rfl; exact rfl; exact bin_add64 (by omega); exact rfl; apply wl_val; apply opv_nilOk; exact rfl; exact rfl; apply wl_val; apply opv_fa; exact fa_T1; exact rfl; exact rfl; apply ws_st hs 1; exact rfl; exact rfl; exact e1_int; exact rfl; exact rfl; exact rfl; clear hs; intro _ hs; dsimp only [setC, List.set] at hs; refine wl_ns ?_; refine wc_seq ?_
  unfold enV at hs
  have hc1 : ((ns.length : Nat) : Int) + 1 = ((ns.length + 1 : Nat) : Int) := by omega
  rw [hc1] at hs
  refine wc_heldM 14 mixed fun w_ hS => ?_
  apply wm_take 0; exact rfl; intro _ hw_; apply opv_move; exact rfl; exact rfl; kernel_rfl; exact hS; apply wm_take 1; exact rfl; intro _ hw_; apply opv_nilOk; exact rfl; exact rfl; kernel_rfl; exact hS; apply wm_take 2; exact rfl; intro _ hw_; apply opv_fa; exact fa_T2; exact rfl; exact rfl; kernel_rfl; exact hS; apply wm_take 3; exact rfl; intro _ hw_; apply opv_ldX; exact rfl; exact Ar.bel (hs.ar 1 rfl) hw_; exact e1_int; exact rfl; exact rfl; kernel_rfl; exact hS; apply wm_take 4; exact rfl; intro _ hw_; apply opv_fa; exact fa_sE (by decide); exact rfl; exact rfl; kernel_rfl; exact hS; apply wm_take 5; exact rfl; intro _ hw_; apply opv_ldX; exact rfl; exact Ar.bel (hs.ar 0 rfl) hw_; exact e1_by; exact rfl; exact rfl; kernel_rfl; exact hS; apply wm_take 6; exact rfl; intro _ hw_; apply opv_len; exact rfl; exact tyB.sl; exact rfl; kernel_rfl; exact hS; apply wm_take 7; exact rfl; intro _ hw_; apply opv_fa; exact fa_sE (by decide); exact rfl; exact rfl; kernel_rfl; exact hS; apply wm_take 8; exact rfl; intro _ hw_; apply opv_ldX; exact rfl; exact Ar.bel (hs.ar 0 rfl) hw_; exact e1_by; exact rfl; exact rfl; kernel_rfl; exact hS; apply wm_take 9; exact rfl; intro _ hw_; apply opv_len; exact rfl; exact tyB.sl; exact rfl; kernel_rfl; exact hS; apply wm_take 10; exact rfl; intro _ hw_; apply opv_bin; exact rfl; exact rfl; exact bin_add64 (by omega); exact rfl; kernel_rfl; exact hS; apply wm_take 11; exact rfl; intro _ hw_; apply opv_bin; exact rfl; exact rfl; exact bin_add64 (by omega); exact rfl; kernel_rfl; exact hS; apply wm_takeP 12; exact rfl; intro _; apply opv_nilOk; exact rfl; exact rfl; kernel_rfl; exact fun _ => hS; apply wm_takeP 13; exact rfl; intro _; apply opv_fa; exact fa_T2; exact rfl; exact rfl; kernel_rfl; exact fun _ => hS
  replace hs := hs.below hS
  clear hS
  refine wm_one 14 (by kernel_rfl) rfl ?_; dsimp only [List.getElem_toArray, List.getElem_cons_succ, List.getElem_cons_zero]
  apply ws_st hs 1; exact rfl; exact rfl; exact e1_int; exact rfl; exact rfl; exact rfl; clear hs; intro _ hs; dsimp only [setC, List.set] at hs; refine wl_nil ?_
  refine we_heldM (fun h => absurd h (by decide)) ?_
  refine wm_done (by kernel_rfl) ?_
  refine we_seq ?_; refine wc_seq ?_
  refine wc_heldM 7 mixed fun w_ hS => ?_
  apply wm_take 0; exact rfl; intro _ hw_; apply opv_fa; exact fa_sE (by decide); exact rfl; exact rfl; kernel_rfl; exact hS; apply wm_take 1; exact rfl; intro _ hw_; apply opv_ldX; exact rfl; exact Ar.bel (hs.ar 0 rfl) hw_; exact e1_by; exact rfl; exact rfl; kernel_rfl; exact hS; apply wm_take 3; exact rfl; intro _ hw_; apply opv_fa; exact fa_sE (by decide); exact rfl; exact rfl; kernel_rfl; exact hS; apply wm_take 4; exact rfl; intro _ hw_; apply opv_ldX; exact rfl; exact Ar.bel (hs.ar 0 rfl) hw_; exact e1_by; exact rfl; exact rfl; kernel_rfl; exact hS
  replace hs := hs.below hS
  refine wm_one 2 (by kernel_rfl) rfl ?_; dsimp only [List.getElem_toArray, List.getElem_cons_succ, List.getElem_cons_zero]
  refine wl_call ok_bytes_Clone (clone_any (hk _ hs.1).1 rfl hl) ⟨rfl, trivial⟩ rfl ?_; rintro _ _ ⟨C, e, rfl, o_, hbx⟩; replace hs := hs.newO hbx o_ (Nat.le_refl _); try dsimp only [List.cons_append, List.nil_append, setC, delC] at hs
  replace hS := hS.trans (hbx.mono hS.size)
  refine wl_nil ?_
  refine we_heldM (fun _ => hS) ?_
  apply wm_take 6; exact rfl; intro _ hw_; apply opv_fa; exact fa_sE (by decide); exact rfl; exact rfl; kernel_rfl; exact hS
  refine wm_one 5 (by kernel_rfl) rfl ?_; dsimp only [List.getElem_toArray, List.getElem_cons_succ, List.getElem_cons_zero]
  refine wl_call ok_bytes_Clone (clone_any (hk _ hs.1).2 rfl hl2) ⟨rfl, trivial⟩ rfl ?_; rintro _ _ ⟨D, f, rfl, o_, hbx⟩; replace hs := hs.newO hbx o_ (Nat.le_refl _); try dsimp only [List.cons_append, List.nil_append, setC, delC] at hs
  replace hS := hS.trans (hbx.mono hS.size)
  refine wl_nil ?_
  refine we_heldM (fun _ => hS) ?_
  refine wm_one 7 (by kernel_rfl) rfl ?_; dsimp only [List.getElem_toArray, List.getElem_cons_succ, List.getElem_cons_zero]
  apply ws_st hs 2; exact rfl; exact rfl; exact e1_by; exact rfl; exact rfl; exact rfl; clear hs; intro _ hs; dsimp only [setC, List.set] at hs; refine wl_nil ?_
  refine we_heldM (fun h => absurd h (by decide)) ?_
  refine wm_one 8 (by kernel_rfl) rfl ?_; dsimp only [List.getElem_toArray, List.getElem_cons_succ, List.getElem_cons_zero]
  apply wl_val; apply opv_fa; exact fa_sE (by decide); exact rfl; exact rfl; refine wl_nil ?_
  refine we_heldM (fun h => absurd h (by decide)) ?_
  refine wm_one 9 (by kernel_rfl) rfl ?_; dsimp only [List.getElem_toArray, List.getElem_cons_succ, List.getElem_cons_zero]
  apply ws_st hs 2; exact rfl; exact rfl; exact e1_by; exact rfl; exact rfl; exact rfl; clear hs; intro _ hs; dsimp only [setC, List.set] at hs; refine wl_nil ?_
  refine we_heldM (fun h => absurd h (by decide)) ?_
  refine wm_done (by kernel_rfl) ?_
  clear hS
  refine we_seq ?_; refine wc_seq ?_
  refine wc_heldB mixed fun w5 hS => ?_
  apply wh_takeH 0; exact rfl; intro _ hw_; apply opv_loadX; exact rfl; exact Ar.bel (hs.ar 2 rfl) hw_; exact sE; exact rfl; kernel_rfl; exact hS; apply wh_takeH 1; exact rfl; intro _ hw_; apply opv_move; exact rfl; exact rfl; kernel_rfl; exact hS; apply wh_takeH 2; exact rfl; intro _ hw_; apply opv_nilOk; exact rfl; exact rfl; kernel_rfl; exact hS; apply wh_takeH 3; exact rfl; intro _ hw_; apply opv_fa; exact fa_T1; exact rfl; exact rfl; kernel_rfl; exact hS; apply wh_takeH 4; exact rfl; intro _ hw_; apply opv_ldX; exact rfl; exact Ar.bel (hs.ar 3 rfl) hw_; exact e1_int; exact rfl; exact rfl; kernel_rfl; exact hS
  replace hs := hs.below hS
  refine wh_one 5 (o := ⟨_, _, _, _, _, _⟩) (by kernel_rfl) rfl ?_
  skip
  refine wl_call ok_mem_height (height_any (by omega) (by omega) (hg _ hs.1)) ⟨rfl, trivial⟩ rfl ?_
  rintro _ _ ⟨⟨h, hh1, hh2, rfl⟩, rfl⟩
  refine wl_nil ?_
  refine we_held hS ?_
  refine wh_one 6 (o := ⟨_, _, _, _, _, _⟩) (by kernel_rfl) rfl ?_
  skip
  refine wl_mk tyN rfl rfl rfl rfl (Nat.le_refl _) (by omega) (by simp only [maxLen]; omega) rfl fun R w6 hO hbx _ => ?_
  replace hS := hS.trans (hbx.mono hS.size)
  replace hs := hs.newO hbx hO (Nat.le_refl _)
  clear hbx hO
  refine wl_nil ?_
  refine we_held hS ?_
  obtain ⟨rn, rfl⟩ := ow_form (hs.ow 0 rfl) (by omega)
  refine wh_one 7 (o := ⟨_, _, _, _, _, _⟩) (by kernel_rfl) rfl ?_
  refine wl_val (opv_build (vs := [(0, .agg (enV x C e D f).toArray), (1, .slice (some ⟨rn, 0, none⟩) h h)]) (cs := enV x C e D f ++ [.slice (some ⟨rn, 0, none⟩) h h]) ⟨rfl, rfl, rfl, rfl, trivial⟩ (by kernel_rfl)) rfl ?_
  refine wl_nil ?_
  refine we_held hS ?_
  refine wh_one 8 (o := ⟨_, _, _, _, _, _⟩) (by kernel_rfl) rfl ?_
  refine wl_box (cs := enV x C e D f ++ [.slice (some ⟨rn, 0, none⟩) h h]) rfl rfl fun gn w7 hgn an hbx => ?_
  replace hS := hS.trans (hbx.mono hS.size)
  replace hs := hs.newA hbx hgn an
  clear hbx hgn an
  refine wl_nil ?_
  refine we_held hS ?_
  apply wh_takeH 9; exact rfl; intro _ hw_; apply opv_assign; exact rfl; exact rfl; kernel_rfl; exact hS
  refine wh_done (by kernel_rfl) ?_
  clear hS
  refine we_seq ?_; refine wc_seq ?_
  replace hs := ((hs.front 7 rfl).front 7 rfl).front 7 rfl
  obtain ⟨N, hN⟩ : ∃ N : Nd, N = ⟨⟨x, C, e, D, f⟩, gn, rn, h⟩ := ⟨_, rfl⟩
  refine wc_held (fun w => Ar w g3 31 (enV x C e D f) ∧ Ar w gn 64 (enV x C e D f ++ [.slice (some ⟨rn, 0, none⟩) h h])) mixed ?_
  replace hs := hs.below (Below.refl _ _).drew
  have hS := And.intro (hs.ar 7 rfl) (hs.ar 3 rfl)
  apply wh_takeH 0; exact rfl; intro _ hw_; apply opv_move; exact rfl; exact rfl; kernel_rfl; exact hS; apply wh_takeH 1; exact rfl; intro _ hw_; apply opv_fa; exact fa_sE (by decide); exact rfl; exact rfl; kernel_rfl; exact hS; apply wh_takeH 2; exact rfl; intro _ hw_; apply opv_ldX; exact rfl; exact hw_.1; exact e1_by; exact rfl; exact rfl; kernel_rfl; exact hS; apply wh_takeH 3; exact rfl; intro _ hw_; apply opv_fa; exact fa_sE (by decide); exact rfl; exact rfl; kernel_rfl; exact hS; apply wh_takeH 4; exact rfl; intro _ hw_; apply opv_ldX; exact rfl; exact hw_.1; exact e1_u64; exact rfl; exact rfl; kernel_rfl; exact hS; apply wh_takeH 6; exact rfl; intro _ hw_; apply opv_move; exact rfl; exact rfl; kernel_rfl; exact hS; apply wh_takeH 7; exact rfl; intro _ hw_; apply opv_nilOk; exact rfl; exact rfl; kernel_rfl; exact hS; apply wh_takeH 8; exact rfl; intro _ hw_; apply opv_fa; exact fa_N1; exact rfl; exact rfl; kernel_rfl; exact hS; apply wh_takeH 9; exact rfl; intro _ hw_; apply opv_ldX; exact rfl; exact hw_.2; exact e1_ns; exact rfl; exact rfl; kernel_rfl; exact hS; apply wh_takeH 10; exact rfl; intro _ hw_; apply opv_len; exact rfl; exact tyN.sl; exact rfl; kernel_rfl; exact hS; apply wh_takeH 13; exact rfl; intro _ hw_; apply opv_move; exact rfl; exact rfl; kernel_rfl; exact hS
  refine wh_one 5 (o := ⟨_, _, _, _, _, _⟩) (by kernel_rfl) rfl ?_
  skip
  obtain ⟨S2, hS2, _, hM, hH, hB⟩ := St.lend (H1 := tabQ TX t r0 ns (ns.length + 1) _) (H2 := [_, _, _, _, _]) hs
  refine wl_call ok_mem_Table_ahead (ahead_any hS2 hn hns hpre hpost rfl fun w' hm => ?_) ⟨rfl, rfl, rfl, trivial⟩ rfl ?_
  · obtain ⟨_, _, h⟩ := (hH w' hm).mem (c := .ow 5 C x.key.length e (bvs x.key)) (by simp)
    exact h.2.rd
  rintro _ w8 ⟨r, o, rfl, hsx⟩
  replace hs := hB _ _ hsx
  clear hB hsx hS2 hM hH hS
  unfold tabQ at hs
  dsimp only [List.cons_append, List.nil_append] at hs
  have hS := And.intro (hs.ar 8 rfl) (hs.ar 4 rfl)
  refine wl_nil ?_
  refine we_held hS ?_
  refine wh_takeH 11 rfl (fun _ _ => opv_sliceTo tyN rfl rfl hh2) rfl (by kernel_rfl) hS ?_
  apply wh_takeH 12; exact rfl; intro _ hw_; apply opv_len; exact rfl; exact tyN.sl; exact rfl; kernel_rfl; exact hS
  refine wh_done (by kernel_rfl) ?_
  clear hS
  refine we_seq ?_; refine wc_block ?_
  subst hns
  replace hs := ins_start (N := ⟨⟨x, C, e, D, f⟩, gn, rn, h⟩) (T := [_, _]) (hs.drop 8 rfl)
  refine wc_loop (fun L wr mm => ∃ l : Nat, L = [(4, .pointer (some ⟨gn, 0, none⟩)), (56, .slice (some ⟨o, 0, none⟩) h 12), (57, .int .i64 (h : Int)), (58, .int .i64 (l : Int))] ∧ l ≤ h ∧ St S w wr (insP TX r ⟨⟨x, C, e, D, f⟩, gn, rn, h⟩ pre post (.ow 82 (some ⟨o, 0, none⟩) 12 12 ((List.range 12).map (prv t pre))) t ((pre ++ post).length + 1) (sz + ((x.key.length : Int) + (x.val.length : Int))) [.ck (packC (nodP post)), .ow 5 D x.val.length f (bvs x.val), .ow 5 C x.key.length e (bvs x.key)] l) ∧ mm = h - l)
    [(4, .pointer (some ⟨gn, 0, none⟩)), (56, .slice (some ⟨o, 0, none⟩) h 12), (57, .int .i64 (h : Int)), (58, .int .i64 0)] h ⟨0, rfl, by omega, hs, rfl⟩ ⟨rfl, rfl, rfl, rfl, trivial⟩ ?_
  clear hs
  rintro _ w9 mm ⟨l, rfl, hlh, hs, rfl⟩
  refine wc_sr ?_; refine wl_bin rfl rfl bin_lss rfl ?_; refine wl_ns ?_; refine wc_seq ?_
  refine wc_cond rfl (fun h1 => ?_) (fun h1 => ?_)
  · have hlt : l < h := by omega
    have hout := (Rd.cut (l := 0) (c := 12) (hs.ow 3 rfl).rd (Nat.zero_le _) hh2 (Nat.le_refl _))
    rw [cutA_zero, Nat.sub_zero, List.drop_zero] at hout
    have hu : (((List.range 12).map (prv t pre)).take h)[l]? = some (prv t pre l) := by rw [List.getElem?_take_of_lt hlt, List.getElem?_map, List.getElem?_range (by omega)]; rfl
    obtain ⟨g, rr, hh, row, H', hp, hwi, hlhh, hrow, hs2, hback⟩ := focus hs hlt hh2
    rw [hp] at hu
    unfold pN at hu
    refine wc_skip ?_; refine we_seq ?_; refine wc_seq ?_; refine wc_block ?_; refine wc_sr ?_; refine wl_mv rfl rfl ?_; apply wl_elK (T := tyN) (hr := hout) (hb := hu); exact rfl; exact rfl; exact rfl; exact rfl; exact rfl; intro _; refine wl_as rfl rfl ?_; refine wl_as rfl rfl ?_; refine wl_ns ?_
    have hnv := rowJ_get (j := l) (ns' := post) (ns := []) hlt
    replace hs2 := hs2.below (Below.refl _ _).drew
    have hS := And.intro (hs2.ar 1 rfl) (And.intro (hwi _ _ hs2) (hs2.ow 0 rfl).rd)
    refine wc_heldS (fun w => Ar w gn 64 (enV x C e D f ++ [.slice (some ⟨rn, 0, none⟩) h h]) ∧ Wi w g (0 + 4) [.slice (some ⟨rr, 0, none⟩) hh hh] ∧ Rd w (some ⟨rr, 0, none⟩) hh row) 21 mixed ?_
    apply wm_take 0; exact rfl; intro _ hw_; apply opv_move; exact rfl; exact rfl; kernel_rfl; exact hS; apply wm_take 1; exact rfl; intro _ hw_; apply opv_nilOk; exact rfl; exact rfl; kernel_rfl; exact hS; apply wm_take 2; exact rfl; intro _ hw_; apply opv_fa; exact fa_N1; exact rfl; exact rfl; kernel_rfl; exact hS; apply wm_take 3; exact rfl; intro _ hw_; apply opv_ldX; exact rfl; exact hw_.1; exact e1_ns; exact rfl; exact rfl; kernel_rfl; exact hS; apply wm_take 4; exact rfl; intro _ hw_; apply opv_move; exact rfl; exact rfl; kernel_rfl; exact hS; apply wm_take 5; exact rfl; intro _ hw_; apply opv_move; exact rfl; exact rfl; kernel_rfl; exact hS; apply wm_take 6; exact rfl; intro _ hw_; apply opv_nilOk; exact rfl; exact rfl; kernel_rfl; exact hS; apply wm_take 7; exact rfl; intro _ hw_; apply opv_fa; exact fa_N1; exact rfl; exact rfl; kernel_rfl; exact hS; apply wm_take 8; exact rfl; intro _ hw_; apply opv_ldW0; exact rfl; exact hw_.2.1; exact e1_ns; exact rfl; exact rfl; kernel_rfl; exact hS; apply wm_take 9; exact rfl; intro _ hw_; apply opv_move; exact rfl; exact rfl; kernel_rfl; exact hS; apply wm_take 10; exact rfl; intro _ hw_; apply opv_move; exact rfl; exact rfl; kernel_rfl; exact hS; apply wm_take 11; exact rfl; intro _ hw_; apply opv_nilOk; exact rfl; exact rfl; kernel_rfl; exact hS; apply wm_take 12; exact rfl; intro _ hw_; apply opv_fa; exact fa_N1; exact rfl; exact rfl; kernel_rfl; exact hS; apply wm_take 13; exact rfl; intro _ hw_; apply opv_ldW0; exact rfl; exact hw_.2.1; exact e1_ns; exact rfl; exact rfl; kernel_rfl; exact hS; apply wm_take 14; exact rfl; intro _ hw_; apply opv_move; exact rfl; exact rfl; kernel_rfl; exact hS
    refine wm_take 15 rfl (fun _ hw_ => opv_idxR tyN rfl rfl hw_.2.2 rfl hrow) rfl (by kernel_rfl) hS ?_
    refine wm_take 16 rfl (fun _ hw_ => opv_loadR tyN rfl hw_.2.2 hrow) rfl (by kernel_rfl) hS ?_
    apply wm_take 17; exact rfl; intro _ hw_; apply opv_move; exact rfl; exact rfl; kernel_rfl; exact hS
    refine wm_take 18 rfl (fun _ _ => opv_idx tyN rfl rfl rfl hlt) rfl (by kernel_rfl) hS ?_
    refine wm_one 19 (by kernel_rfl) rfl ?_; dsimp only [List.getElem_toArray, List.getElem_cons_succ, List.getElem_cons_zero]
    refine ws_stO hs2 2 rfl rfl rfl e1_pn hlt rfl (nxt_one _ _) ?_
    clear hs2 hS
    intro w10 hs2
    dsimp only [setC] at hs2
    rw [← rowJ_set] at hs2
    have hS := And.intro (hs2.ar 1 rfl) (And.intro (hwi _ _ hs2) (hs2.ow 0 rfl).rd)
    refine wl_nil ?_
    refine we_heldM (fun _ => hS) ?_
    refine wm_take 20 rfl (fun _ _ => opv_idx tyN rfl rfl rfl hlhh) rfl (by kernel_rfl) hS ?_
    refine wm_one 21 (by kernel_rfl) rfl ?_; dsimp only [List.getElem_toArray, List.getElem_cons_succ, List.getElem_cons_zero]
    refine ws_stO hs2 0 rfl rfl rfl e1_pn hlhh rfl rfl ?_
    clear hs2 hS
    intro w11 hs2
    dsimp only [setC] at hs2
    replace hs2 := hback _ hs2
    refine wl_nil ?_
    refine we_heldM (fun h => absurd h (by decide)) ?_
    refine wm_done (by kernel_rfl) ?_
    have hl1 : (l : Int) + 1 = ((l + 1 : Nat) : Int) := by omega
    refine we_block_norm ?_; refine we_seq ?_; refine wc_region ?_; apply wl_val; apply opv_bin; exact rfl; exact rfl; exact bin_add64 (by omega); exact rfl; refine wl_mv rfl rfl ?_; refine wl_nil ?_
    exact we_loop _ (h - (l + 1)) ⟨l + 1, rfl, hlt, hs2, rfl⟩ (by omega) ⟨rfl, rfl, rfl, by rw [← hl1]; rfl, trivial⟩
  · obtain rfl : l = h := by omega
    refine wc_exit ?_; refine we_seq_exit ?_; refine we_loop_exit ?_; refine we_block_exit ?_
    have hf := ins_end (N := ⟨⟨x, C, e, D, f⟩, gn, rn, l⟩) hs
    refine we_end0 rfl ⟨_, rfl, r, ⟨⟨x, C, e, D, f⟩, gn, rn, l⟩, rfl, rfl, hh1, hh2, ?_⟩
    rw [tabP, show (pre ++ ⟨⟨x, C, e, D, f⟩, gn, rn, l⟩ :: post).length = (pre ++ post).length + 1 by simp; omega, Int.natCast_add]
    exact hf
end Go.Proofs.YtdgagffieobiiaaGreatDoor

/-
  Walks over few, at, runs, Sorted of lists of entries.
-/
namespace Go.Proofs.YtdgagffieobiiaaGreatDoor
open Go.RowKit

theorem cutK_zero (A : Option Addr) (c k : Nat) : cutK A c 0 k = A := by
  unfold cutK
  split
  · rfl
  · cases A with
    | none => rfl
    | some a => simp [Addr.add]
theorem take_rdr {w : World} {S : BS} {A : Option Addr} {l : List En} {c m : Nat} (h : RdR 4 w S A (l.map enEl)) (hc : l.length ≤ c) : RdR 4 w S A ((l.take m).map enEl) := by
  rcases Nat.lt_or_ge m l.length with h1 | h1
  · have := RdR.cut h (by simp) (Nat.zero_le m) (Nat.le_of_lt h1) hc
    rw [cutK_zero, List.drop_zero, ← List.map_take] at this
    exact this
  · rw [List.take_of_length_le h1]; exact h
/-- The first that isn't above a moment. -/
def atE (run : List En) (m : Nat) : Option Nat := run.findIdx? fun x => decide (x.seq ≤ m)
theorem beq_any {A B : Option Addr} {n m c d : Nat} {xs ys : List UInt8} {w : World} (hx : RdB w A xs) (hy : RdB w B ys) (hn : xs.length = n) (hm : ys.length = m) :
    CallsV Tryz.prog 77 #[.slice A n c, .slice B m d] w fun v w' => v = .bool (decide (xs = ys)) ∧ w = w' := by
  subst hn hm
  refine calls_in (N := _) Tryz.func77 rfl Tryz.ntmps77 rfl ?_; show WC _ _ _ _ _ _
  refine wc_sr ?_; refine wl_as rfl rfl ?_; refine wl_ns ?_; refine wc_sr ?_; refine wl_mv rfl rfl ?_
  refine wl_val (opv_ofBytes Tryz.underlying28 Tryz.underlying5 Tryz.underlying9 rfl hx) rfl ?_
  refine wl_mv rfl rfl ?_
  refine wl_val (opv_ofBytes Tryz.underlying28 Tryz.underlying5 Tryz.underlying9 rfl hy) rfl ?_
  refine wl_bin rfl rfl bin_eqlS rfl ?_; refine wl_as rfl rfl ?_; refine wl_ns ?_; refine wc_ret ?_
  exact we_ret1 rfl rfl ⟨_, rfl, rfl, rfl⟩
end Go.Proofs.YtdgagffieobiiaaGreatDoor

/-
  Walks over Sorted, and over the checks of many lists, of the program and of the document.
-/
namespace Go.Proofs.YtdgagffieobiiaaGreatDoor
open Go.RowKit

/-- Blocks of a set, or new ones. -/
def Ab (S : BS) (w : World) : BS := fun b => S b ∨ w.heap.size ≤ b
def RetL (w : World) (S : BS) (l : List En) (v : Value) (w' : World) : Prop := ∃ (P : Option Addr) (cp : Nat), v = .slice P l.length cp ∧ l.length ≤ cp ∧ RdR 4 w' (Ab S w) P (l.map enEl) ∧ Below w.heap.size w w'
theorem RdR.mono {k : Nat} (hk : 0 < k) {w : World} {S S' : BS} {A : Option Addr} {els : List El} (h : RdR k w S A els) (hs : ∀ b, b < w.heap.size → S b → S' b) : RdR k w S' A els := RdR.move hk h (Nat.le_refl _) fun b hb h => ⟨hs b hb h, rfl⟩
theorem OwR.ab {k base c : Nat} {e : TypeId} {w w0 : World} {S : BS} {A : Option Addr} {els : List El} (h : OwR k e w base S A c els) (hb : w0.heap.size ≤ base) : RdR k w (Ab S w0) A els := by
  have hl := OwR.lt h
  obtain ⟨css, h1, h2⟩ := h
  exact ⟨css, h1.mono fun b _ hb => .inl hb.1, own_rd h2, fun a ha _ => .inr (Nat.le_trans hb (hl a ha).1)⟩
def addE (out : List En) (x : En) : List En := if checkE [x] = 0 ∧ inE out x = false then insE out x else out
def sortedE (l : List En) : List En := l.foldl addE []
theorem addE_len (out : List En) (x : En) : (addE out x).length ≤ out.length + 1 := by
  unfold addE; split
  · rw [insE_length]; omega
  · omega
theorem addE_ok {p : En → Prop} {out : List En} {x : En} (h : ∀ y ∈ out, p y) (hx : p x) : ∀ y ∈ addE out x, p y := by
  unfold addE; split
  · intro y hy
    rw [insE, List.mem_append, List.mem_append] at hy
    rcases hy with (hy | hy) | hy
    · exact h y (List.mem_of_mem_take hy)
    · simp at hy; subst hy; exact hx
    · exact h y (List.mem_of_mem_drop hy)
  · exact h
theorem foldl_take {α β : Type} {f : β → α → β} {b : β} {l : List α} {k : Nat} {x : α} (h : l[k]? = some x) : (l.take (k + 1)).foldl f b = f ((l.take k).foldl f b) x := by
  rw [take_getR h, List.foldl_append]; rfl
theorem fold_facts {p : En → Prop} {l : List En} (h : ∀ y ∈ l, p y) : ∀ k, ((l.take k).foldl addE []).length ≤ k ∧ ∀ y ∈ (l.take k).foldl addE [], p y := by
  intro k
  induction k with
  | zero => simp
  | succ k ih =>
    cases hx : l[k]? with
    | none => rw [List.take_of_length_le (by have := List.getElem?_eq_none_iff.1 hx; omega)]; rw [List.take_of_length_le (by have := List.getElem?_eq_none_iff.1 hx; omega)] at ih; exact ⟨by omega, ih.2⟩
    | some x =>
      rw [foldl_take hx]
      exact ⟨by have := addE_len ((l.take k).foldl addE []) x; omega, addE_ok ih.2 (h x (List.mem_of_getElem? hx))⟩
set_option maxRecDepth 4000 in
theorem sorted_any {S : BS} {A : Option Addr} {n c : Nat} {l : List En} {w : World} (hr : RdR 4 w S A (l.map enEl)) (hn : l.length = n) (hok : ∀ x ∈ l, x.key.length ≤ maxLen ∧ x.val.length ≤ maxLen) (hl : l.length ≤ 1048576) :
    CallsV Tryz.prog 5 #[.slice A n c] w (RetL w S (sortedE l)) := by
  subst hn
  have hmax : maxLen = 9223372036854775807 := rfl
  have hs := St.init w
  refine calls_in (N := _) Tryz.func5 rfl Tryz.ntmps5 rfl ?_; show WC _ _ _ _ _ _
  refine wc_sr ?_; refine wl_as rfl rfl ?_; refine wl_ns ?_; refine wc_sr ?_; refine wl_as rfl rfl ?_; refine wl_ns ?_; refine wc_seq ?_; refine wc_sr ?_; refine wl_as rfl rfl ?_; refine wl_ns ?_; refine wc_block ?_
  refine wc_loop (fun L wr mm => ∃ (k : Nat) (P : Option Addr) (cp : Nat) (out : List En), L = [(0, .slice A l.length c), (3, .slice P out.length cp), (4, .int .i64 (k : Int))] ∧ k ≤ l.length ∧ (l.take k).foldl addE [] = out ∧ out.length ≤ cp ∧ RdR 4 wr (Ab S w) P (out.map enEl) ∧ St NoB w wr [] ∧ mm = l.length - k)
    [(0, .slice A l.length c), (3, .slice none 0 0), (4, .int .i64 (0 : Nat))] l.length ⟨0, none, 0, [], rfl, by omega, rfl, by simp, RdR.nil _, hs, rfl⟩ ⟨rfl, rfl, rfl, trivial⟩ ?_
  clear hs
  rintro _ w1 mm ⟨k, P, cp, out, rfl, hk, hout, hcp, hro, hs, rfl⟩
  refine wc_seq ?_; refine wc_sr ?_; refine wl_mv rfl rfl ?_; refine wl_mv rfl rfl ?_; apply wl_val; apply opv_len; exact rfl; exact tkE.sl; exact rfl; refine wl_bin rfl rfl bin_lss rfl ?_; refine wl_ns ?_
  refine wc_cond rfl (fun h1 => ?_) (fun h1 => ?_)
  · obtain ⟨x, hx⟩ : ∃ x, l[k]? = some x := ⟨_, List.getElem?_eq_getElem (by omega)⟩
    have hox := hok x (List.mem_of_getElem? hx)
    have hf := fold_facts (p := fun x => x.key.length ≤ maxLen) (fun y hy => (hok y hy).1) k
    rw [hout] at hf
    have hstep := foldl_take (f := addE) (b := []) hx
    rw [hout, addE] at hstep
    obtain ⟨b, o, cs, rfl, _, _, hp, i1⟩ := RdR.at (k := 4) (by decide) hr (E := enEl x) (i := k) (by rw [List.getElem?_map, hx]; rfl)
    obtain ⟨X, cx, X2, cx2, rfl, rx, _, rx2, _⟩ := enEl.rd (El.all hp)
    have hi := i1.below hs.bel
    have hpw := El.below (El.all hp) hs.bel
    refine wc_skip ?_; refine we_seq ?_; refine wc_seq ?_; refine wc_block ?_; refine wc_sr ?_; refine wl_mv rfl rfl ?_; refine wl_mv rfl rfl ?_; apply wl_val; apply opv_idxG tkE; exact rfl; exact rfl; exact rfl; omega; exact rfl; apply wl_val; apply opv_ldG; exact rfl; assumption; exact sE; exact rfl
    refine wl_bsG (css := [enV x X cx X2 cx2]) tkE ⟨rfl, ⟨_, rfl, rfl⟩, rfl, trivial⟩ (els := [enEl x]) rfl (by decide) (by decide) (Grp.one hpw rfl) rfl fun R w2 hR hbx _ => ?_
    replace hro := hro.below hbx
    replace hs := hs.below hbx
    replace hi := hi.below hbx
    skip
    refine wl_call ok_caissonref07_Check (refCheck_any (l := [x]) (OwR.rd hR) rfl (by simp [maxLen])) ⟨rfl, trivial⟩ rfl ?_; rintro _ _ ⟨rfl, hbx2⟩; replace hs := hs.below hbx2; try dsimp only [List.cons_append, List.nil_append, setC, delC] at hs
    replace hro := hro.below hbx2
    replace hi := hi.below hbx2
    refine wl_cutE (fun L' w' => ∃ t : Bool, L' = [(0, .slice (some ⟨b, o, none⟩) l.length c), (3, .slice P out.length cp), (4, .int .i64 (k : Int)), (26, .bool t)] ∧ St NoB w w' [] ∧ RdR 4 w' (Ab S w) P (out.map enEl) ∧ (t = true ↔ (checkE [x] = 0 ∧ inE out x = false))) ?_ ?_
    · by_cases h2 : checkE [x] = 0
      · have h2' : ((checkE [x] : Nat) : Int) = 0 := by omega
        refine wl_bin rfl rfl bin_eql rfl ?_; refine wl_mv rfl rfl ?_; apply wl_take; exact rfl; exact rfl; exact rfl; refine bT ?_; (with_reducible assumption); refine wl_mv rfl rfl ?_; apply wl_take; exact rfl; exact rfl; exact rfl; refine bT ?_; (with_reducible assumption); refine wl_mv rfl rfl ?_; apply wl_take; exact rfl; exact rfl; exact rfl; refine bT ?_; (with_reducible assumption); refine wl_mv rfl rfl ?_; apply wl_take; exact rfl; exact rfl; exact rfl; refine bT ?_; (with_reducible assumption); apply wl_val; apply opv_idxG tkE; exact rfl; exact rfl; exact rfl; omega; exact rfl; apply wl_take; exact rfl; exact rfl; exact rfl; refine bT ?_; (with_reducible assumption); apply wl_val; apply opv_ldG; exact rfl; assumption; exact sE; exact rfl; apply wl_take; exact rfl; exact rfl; exact rfl; refine bT ?_; (with_reducible assumption)
        refine wl_call ok_caissonref07_In (in_any (e := x) hro.all rfl (rx.below hs.bel) hf.2 (by omega)) ⟨rfl, rfl, trivial⟩ rfl ?_; rintro _ _ ⟨rfl, hbx3⟩; replace hs := hs.below hbx3; try dsimp only [List.cons_append, List.nil_append, setC, delC] at hs
        replace hro := hro.below hbx3
        apply wl_take; exact rfl; exact rfl; exact rfl; refine bT ?_; (with_reducible assumption); apply wl_val; apply opv_not; exact rfl; exact rfl; apply wl_val; apply opv_pickT; exact rfl; refine bT ?_; (with_reducible assumption); exact rfl; exact rfl; refine wl_nil ?_
        refine we_cut _ ⟨!inE out x, rfl, hs, hro, ?_⟩ ⟨rfl, rfl, rfl, rfl, trivial⟩
        simp [h2]
      · have h2' : ¬ ((checkE [x] : Nat) : Int) = 0 := by omega
        refine wl_bin rfl rfl bin_eql rfl ?_; refine wl_mv rfl rfl ?_; apply wl_skip; exact rfl; exact rfl; exact rfl; refine bFn ?_; (with_reducible assumption); exact rfl; apply wl_skip; exact rfl; exact rfl; exact rfl; refine bFn ?_; (with_reducible assumption); exact rfl; apply wl_skip; exact rfl; exact rfl; exact rfl; refine bFn ?_; (with_reducible assumption); exact rfl; apply wl_skip; exact rfl; exact rfl; exact rfl; refine bFn ?_; (with_reducible assumption); exact rfl; apply wl_skip; exact rfl; exact rfl; exact rfl; refine bFn ?_; (with_reducible assumption); exact rfl; apply wl_skip; exact rfl; exact rfl; exact rfl; refine bFn ?_; (with_reducible assumption); exact rfl; apply wl_skip; exact rfl; exact rfl; exact rfl; refine bFn ?_; (with_reducible assumption); exact rfl; apply wl_val; apply opv_pickF; exact rfl; refine bF ?_; (with_reducible assumption); exact rfl; exact rfl; refine wl_nil ?_
        refine we_cut _ ⟨false, rfl, hs, hro, ?_⟩ ⟨rfl, rfl, rfl, rfl, trivial⟩
        simp [h2]
    clear hs hi hro
    rintro _ w4 ⟨t, rfl, hs, hro, ht⟩
    replace hpw := El.below hp hs.bel
    have hi := i1.below hs.bel
    cases t with
    | true =>
      rw [if_pos (ht.1 rfl)] at hstep
      refine we_seq ?_; apply wc_condTb; exact rfl; exact rfl; refine wc_region ?_; refine wl_mv rfl rfl ?_; refine wl_mv rfl rfl ?_; refine wl_mv rfl rfl ?_; apply wl_val; apply opv_idxG tkE; exact rfl; exact rfl; exact rfl; omega; exact rfl; apply wl_val; apply opv_ldG; exact rfl; assumption; exact sE; exact rfl
      refine wl_call ok_caissonref07_Insert (insert_any (e := x) (S := Ab S w) hro rfl hcp (El.mono hpw fun b _ h => .inl h) hf.2 hox.1 (by omega)) ⟨rfl, rfl, trivial⟩ rfl ?_
      rintro _ w5 ⟨P2, cp2, rfl, ho2, hbx4⟩
      have hz4 := hs.size
      replace hs := hs.below hbx4
      refine wl_as rfl rfl ?_; refine wl_nil ?_; refine we_block_norm ?_; refine we_seq ?_; refine wc_region ?_; refine wl_mv rfl rfl ?_; apply wl_val; apply opv_bin; exact rfl; exact rfl; exact bin_add64 (by omega); exact rfl; refine wl_as rfl rfl ?_; refine wl_nil ?_
      refine we_loop _ (l.length - (k + 1)) ⟨k + 1, P2, cp2, insE out x, rfl, by omega, hstep, by have := OwR.len_le ho2; simpa using this, (OwR.ab ho2 (Nat.le_refl _)).mono (by decide) fun b _ h => ?_, hs, rfl⟩ (by omega) ⟨rfl, rfl, by simp [lookT], trivial⟩
      rcases h with h | h
      · exact h
      · exact .inr (by omega)
    | false =>
      rw [if_neg (fun h => by have := ht.2 h; cases this)] at hstep
      refine we_seq ?_; apply wc_condFb; exact rfl; exact rfl; refine wc_skip ?_; refine we_block_norm ?_; refine we_seq ?_; refine wc_region ?_; refine wl_mv rfl rfl ?_; apply wl_val; apply opv_bin; exact rfl; exact rfl; exact bin_add64 (by omega); exact rfl; refine wl_as rfl rfl ?_; refine wl_nil ?_
      refine we_loop _ (l.length - (k + 1)) ⟨k + 1, P, cp, out, rfl, by omega, hstep, hcp, hro, hs, rfl⟩ (by omega) ⟨rfl, rfl, by simp [lookT], trivial⟩
  · obtain rfl : k = l.length := by omega
    rw [List.take_length] at hout
    refine wc_exit ?_; refine we_seq_exit ?_; refine we_loop_exit ?_; refine we_block_exit ?_; refine we_seq ?_; refine wc_sr ?_; refine wl_mv rfl rfl ?_; refine wl_as rfl rfl ?_; refine wl_ns ?_; refine wc_ret ?_
    exact we_ret1 rfl rfl ⟨_, rfl, P, cp, by rw [sortedE, hout], by rw [sortedE, hout]; exact hcp, by rw [sortedE, hout]; exact hro, hs.bel⟩
end Go.Proofs.YtdgagffieobiiaaGreatDoor

/-
  Walks over the checks of many lists, of the program and of the document.
-/
namespace Go.Proofs.YtdgagffieobiiaaGreatDoor
open Go.RowKit

end Go.Proofs.YtdgagffieobiiaaGreatDoor

/-
  Walks over Visible, of the program and of the document.
-/
namespace Go.Proofs.YtdgagffieobiiaaGreatDoor
open Go.RowKit

theorem Mod.rebase {M : BS} {w0 w1 w : World} (hb : Below w0.heap.size w0 w1) (h : Mod M w1 w) (hM : ∀ b, M b → w0.heap.size ≤ b) : Mod NoB w0 w := (Mod.of_below hb NoB).trans h fun b hb h => by have := hM b h; omega
/-- What began later. -/
theorem St.rebase {w0 w1 w : World} {H : List Cd} (hs : St NoB w1 w H) (hb : Below w0.heap.size w0 w1) : St NoB w0 w H :=
  ⟨Mod.rebase hb hs.1 fun b h => h.elim, hs.2.mono fun b _ h => h.elim (fun k => k.elim) fun k => .inr (Nat.le_trans hb.size k)⟩
end Go.Proofs.YtdgagffieobiiaaGreatDoor

/-
  Walks over needed and Keep of the program.
-/
namespace Go.Proofs.YtdgagffieobiiaaGreatDoor
open Go.RowKit

theorem tyQ : Row1 Tryz.prog 56 29 (.int .u64 0) 8 := ⟨Tryz.underlying56, by kernel_rfl, rfl, by rw [Tryz.underlying29]⟩
def u64s (ms : List Nat) : List Value := ms.map fun (m : Nat) => .int .u64 (m : Int)
theorem u64s_get {ms : List Nat} {k m : Nat} (h : ms[k]? = some m) : (u64s ms)[k]? = some (.int .u64 (m : Int)) := by simp [u64s, h]
/-- Whether place i of a run is needed. -/
def ndP (run : List En) (ms : List Nat) (i : Nat) : Bool := decide (i = 0) || ms.any fun m => decide (atE run m = some i)
def pick (run : List En) (ms : List Nat) (i : Nat) : Option En := if ndP run ms i then run[i]? else none
end Go.Proofs.YtdgagffieobiiaaGreatDoor

/-
  Walks over need and Keep of the document.
-/
namespace Go.Proofs.YtdgagffieobiiaaGreatDoor
open Go.RowKit

def z0 : En := ⟨[], 0, 0, []⟩
end Go.Proofs.YtdgagffieobiiaaGreatDoor

/-
  The plain laws of lists of entries: what the program's Visible and Keep make is what the document's make. No program in sight.
-/
namespace Go.Proofs.YtdgagffieobiiaaGreatDoor

theorem cmp_trans : ∀ {a b c : List UInt8}, cmpB a b < 0 → cmpB b c < 0 → cmpB a c < 0
  | [], [], _, h, _ => by simp [cmpB] at h
  | [], _ :: _, [], _, h => by simp [cmpB] at h
  | [], _ :: _, _ :: _, _, _ => by simp [cmpB]
  | _ :: _, [], _, h, _ => by simp [cmpB] at h
  | _ :: _, _ :: _, [], _, h => by simp [cmpB] at h
  | x :: xs, y :: ys, z :: zs, h, k => by
    rcases Nat.lt_trichotomy x.toNat y.toNat with h1 | h1 | h1
    · rcases Nat.lt_trichotomy y.toNat z.toNat with h2 | h2 | h2
      · rw [cmp_lt (UInt8.lt_iff_toNat_lt.2 (by omega))]; decide
      · rw [cmp_lt (UInt8.lt_iff_toNat_lt.2 (by omega))]; decide
      · rw [cmp_gt (UInt8.lt_iff_toNat_lt.2 h2)] at k; simp at k
    · obtain rfl := UInt8.toNat_inj.1 h1
      rcases Nat.lt_trichotomy x.toNat z.toNat with h2 | h2 | h2
      · rw [cmp_lt (UInt8.lt_iff_toNat_lt.2 h2)]; decide
      · obtain rfl := UInt8.toNat_inj.1 h2
        rw [cmp_same] at h k ⊢
        exact cmp_trans h k
      · rw [cmp_gt (UInt8.lt_iff_toNat_lt.2 h2)] at k; simp at k
    · rw [cmp_gt (UInt8.lt_iff_toNat_lt.2 h1)] at h; simp at h
theorem lessE_iff {a b : En} : lessE a b = true ↔ cmpB a.key b.key < 0 ∨ (a.key = b.key ∧ b.seq < a.seq) := by
  rw [lessE, decide_eq_true_eq]
  constructor
  · rintro (h | ⟨h, h'⟩)
    · exact .inl h
    · exact .inr ⟨cmp_zero h, h'⟩
  · rintro (h | ⟨h, h'⟩)
    · exact .inl h
    · exact .inr ⟨by rw [h]; exact cmp_refl _, h'⟩
theorem lessE_trans {a b c : En} (h : lessE a b = true) (k : lessE b c = true) : lessE a c = true := by
  rw [lessE_iff] at h k ⊢
  rcases h with h | ⟨h, h'⟩
  · rcases k with k | ⟨k, k'⟩
    · exact .inl (cmp_trans h k)
    · rw [← k]; exact .inl h
  · rcases k with k | ⟨k, k'⟩
    · rw [h]; exact .inl k
    · exact .inr ⟨h.trans k, by omega⟩
theorem lessE_irr (a : En) : lessE a a = false := by
  rw [← Bool.not_eq_true, lessE_iff, cmp_refl]; simp
theorem lessE_tri (a b : En) : lessE a b = true ∨ (a.key = b.key ∧ a.seq = b.seq) ∨ lessE b a = true := by
  rw [lessE_iff, lessE_iff, cmp_neg a.key b.key]
  rcases cmp_range a.key b.key with h | h | h
  · exact .inl (.inl (by omega))
  · have hk := cmp_zero h
    rcases Nat.lt_trichotomy a.seq b.seq with h1 | h1 | h1
    · exact .inr (.inr (.inr ⟨hk.symm, h1⟩))
    · exact .inr (.inl ⟨hk, h1⟩)
    · exact .inl (.inr ⟨hk, h1⟩)
  · exact .inr (.inr (.inl (by omega)))
/-- In order. -/
abbrev Ord (l : List En) : Prop := l.Pairwise fun a b => lessE a b = true
theorem ordE_of : ∀ {l : List En}, Ord l → ordE l = true
  | [], _ => rfl
  | [a], _ => rfl
  | a :: b :: l, h => by
    obtain ⟨h1, h2⟩ := List.pairwise_cons.1 h
    rw [ordE, h1 b List.mem_cons_self, ordE_of h2]; rfl
/-- The first of a run that isn't above a moment. -/
def fstE (r : List En) (m : Nat) : Option En := r.find? fun x => decide (x.seq ≤ m)
/-- Whether an entry of a run is needed. -/
def nd (r : List En) (ms : List Nat) (x : En) : Bool := decide (r[0]? = some x) || ms.any fun m => decide (fstE r m = some x)
end Go.Proofs.YtdgagffieobiiaaGreatDoor

/-
  The plain law of MergeSame: a sorted list is in order and in form; what is kept of it looks the same at each moment that counts, and is kept again whole. No program in sight.
-/
namespace Go.Proofs.YtdgagffieobiiaaGreatDoor

theorem pos_spec (l : List En) (e : En) : ∀ n, n ≤ l.length → (∀ i x, posE l e n ≤ i → i < n → l[i]? = some x → lessE e x = true) ∧ (posE l e n = 0 ∨ ∃ x, l[posE l e n - 1]? = some x ∧ lessE e x = false ∧ 0 < posE l e n)
  | 0, _ => ⟨by omega, .inl rfl⟩
  | n + 1, h => by
    have hx : l[n]? = some (l[n]'(by omega)) := List.getElem?_eq_getElem (by omega)
    rw [posE, hx]
    simp only
    cases h2 : lessE e (l[n]'(by omega)) with
    | true =>
      rw [if_pos rfl]
      obtain ⟨h3, h4⟩ := pos_spec l e n (by omega)
      refine ⟨fun i x hi hin hxi => ?_, h4⟩
      rcases Nat.lt_or_ge i n with h5 | h5
      · exact h3 i x hi h5 hxi
      · obtain rfl : i = n := by omega
        rw [hx] at hxi; cases hxi; exact h2
    | false =>
      rw [if_neg (by decide)]
      exact ⟨by omega, .inr ⟨_, hx, h2, by omega⟩⟩
theorem inE_false {l : List En} {e : En} (h : inE l e = false) : ∀ x ∈ l, ¬ (x.key = e.key ∧ x.seq = e.seq) := fun x hx => by
  have := List.any_eq_false.1 h x hx
  simpa using this
theorem ins_ord {l : List En} {e : En} (ho : Ord l) (hn : inE l e = false) : Ord (insE l e) := by
  obtain ⟨h1, h2⟩ := pos_spec l e l.length (Nat.le_refl _)
  have hp := posE_le l e l.length
  obtain ⟨p, hpd⟩ : ∃ q, posE l e l.length = q := ⟨_, rfl⟩
  rw [hpd] at h1 h2 hp
  rw [insE, hpd]
  have hlow : ∀ x ∈ l.take p, lessE x e = true := fun x hx => by
    obtain ⟨i, hi, rfl⟩ := List.getElem_of_mem hx
    rw [List.length_take] at hi
    rcases h2 with h2 | ⟨y, hy, hye, hpos⟩
    · omega
    · have hyl : lessE y e = true := by
        rcases lessE_tri e y with h | h | h
        · rw [hye] at h; cases h
        · exact absurd ⟨h.1.symm, h.2.symm⟩ (inE_false hn y (List.mem_of_getElem? hy))
        · exact h
      obtain ⟨hj, hjy⟩ := List.getElem?_eq_some_iff.1 hy
      rw [List.getElem_take]
      rcases Nat.lt_or_ge i (p - 1) with h3 | h3
      · have := (List.pairwise_iff_getElem.1 ho) i (p - 1) (by omega) hj h3
        rw [hjy] at this
        exact lessE_trans this hyl
      · obtain rfl : i = p - 1 := by omega
        rw [hjy]; exact hyl
  have hhigh : ∀ x ∈ l.drop p, lessE e x = true := fun x hx => by
    obtain ⟨i, hi, rfl⟩ := List.getElem_of_mem hx
    rw [List.length_drop] at hi
    exact h1 (p + i) _ (by omega) (by omega) (by rw [List.getElem_drop]; exact List.getElem?_eq_getElem _)
  refine List.pairwise_append.2 ⟨List.pairwise_append.2 ⟨ho.sublist (List.take_sublist _ _), by simp, fun a ha b hb => ?_⟩, ho.sublist (List.drop_sublist _ _), fun a ha b hb => ?_⟩
  · simp at hb; subst hb; exact hlow a ha
  · rw [List.mem_append] at ha
    rcases ha with ha | ha
    · exact lessE_trans (hlow a ha) (hhigh b hb)
    · simp at ha; subst ha; exact hhigh b hb
theorem check_one {x : En} (h : checkE [x] = 0) : bigE x = false ∧ badE x = false := by
  unfold checkE at h
  simp only [List.any_cons, List.any_nil, Bool.or_false] at h
  cases hb : bigE x with
  | true => rw [hb] at h; simp at h
  | false => cases hd : badE x with
    | true => rw [hb, hd] at h; simp at h
    | false => exact ⟨rfl, rfl⟩
theorem check_of {l : List En} (h : ∀ x ∈ l, bigE x = false ∧ badE x = false) : checkE l = 0 := by
  have h1 : l.any bigE = false := List.any_eq_false.2 fun x hx => by rw [(h x hx).1]; simp
  have h2 : l.any badE = false := List.any_eq_false.2 fun x hx => by rw [(h x hx).2]; simp
  rw [checkE, h1, h2]; rfl
theorem sorted_ok (l : List En) : Ord (sortedE l) ∧ ∀ x ∈ sortedE l, bigE x = false ∧ badE x = false := by
  have key : ∀ (l out : List En), Ord out → (∀ x ∈ out, bigE x = false ∧ badE x = false) → Ord (l.foldl addE out) ∧ ∀ x ∈ l.foldl addE out, bigE x = false ∧ badE x = false := by
    intro l
    induction l with
    | nil => intro out h1 h2; exact ⟨h1, h2⟩
    | cons x l ih =>
      intro out h1 h2
      rw [List.foldl_cons]
      by_cases h : checkE [x] = 0 ∧ inE out x = false
      · have ha : addE out x = insE out x := by rw [addE, if_pos h]
        rw [ha]
        exact ih _ (ins_ord h1 h.2) fun y hy => by
          have := addE_ok (p := fun x => bigE x = false ∧ badE x = false) h2 (check_one h.1) y (by rw [ha]; exact hy)
          exact this
      · have ha : addE out x = out := by rw [addE, if_neg h]
        rw [ha]; exact ih _ h1 h2
  exact key l [] (by simp [Ord]) (by simp)
/-- At a moment that counts for it a run's part is seen as the run is. -/
def good (r : List En) (ms : List Nat) (m : Nat) : Prop := ∀ v, fstE r m = some v → nd r ms v = true
end Go.Proofs.YtdgagffieobiiaaGreatDoor

/-
  A table told by its entries: where an entry stands, and the calls there and insert.
-/
namespace Go.Proofs.YtdgagffieobiiaaGreatDoor
open Go.RowKit

theorem cmpE_lt {x : En} (e : En) : cmpE x e.key e.seq < 0 ↔ lessE x e = true := by rw [← cmpE_less]; simp
theorem cmpE_zero {x : En} {key : List UInt8} {seq : Nat} : cmpE x key seq = 0 ↔ x.key = key ∧ x.seq = seq := by
  rw [cmpE]
  constructor
  · intro h
    split at h
    · rename_i h0
      refine ⟨cmp_zero h0, ?_⟩
      split at h
      · cases h
      · split at h
        · cases h
        · omega
    · exact absurd h (by assumption)
  · rintro ⟨rfl, rfl⟩
    rw [if_pos (cmp_refl _), if_neg (by omega), if_neg (by omega)]
theorem ord_split (e : En) : ∀ {ns : List Nd}, Ord (ns.map (·.a.x)) → ∃ pre post, ns = pre ++ post ∧ (∀ n ∈ pre, cmpE n.a.x e.key e.seq < 0) ∧ ∀ n ∈ post, ¬ cmpE n.a.x e.key e.seq < 0
  | [], _ => ⟨[], [], rfl, by simp, by simp⟩
  | n :: ns, h => by
    rw [List.map_cons] at h
    obtain ⟨h1, h2⟩ := List.pairwise_cons.1 h
    by_cases hn : cmpE n.a.x e.key e.seq < 0
    · obtain ⟨pre, post, h3, h4, h5⟩ := ord_split e h2
      exact ⟨n :: pre, post, by rw [h3]; rfl, fun m hm => (List.mem_cons.1 hm).elim (fun h => h ▸ hn) (h4 m), h5⟩
    · refine ⟨[], n :: ns, rfl, by simp, fun m hm => ?_⟩
      rcases List.mem_cons.1 hm with rfl | hm
      · exact hn
      · intro h3
        rw [cmpE_lt] at h3
        exact hn ((cmpE_lt e).2 (lessE_trans (h1 _ (List.mem_map_of_mem hm)) h3))
theorem th_in {pre post : List Nd} {e : En} (ho : Ord ((pre ++ post).map (·.a.x))) (hpre : ∀ n ∈ pre, cmpE n.a.x e.key e.seq < 0) (hpost : ∀ n ∈ post, ¬ cmpE n.a.x e.key e.seq < 0) : thB post e.key e.seq = inE ((pre ++ post).map (·.a.x)) e := by
  have hp : ∀ n ∈ pre, ¬ (n.a.x.key = e.key ∧ n.a.x.seq = e.seq) := fun n hn h => by
    have := hpre n hn
    rw [cmpE_zero.2 h] at this
    exact absurd this (by decide)
  cases post with
  | nil =>
    symm
    refine List.any_eq_false.2 fun x hx => ?_
    obtain ⟨n, hn, rfl⟩ := List.mem_map.1 hx
    rw [List.append_nil] at hn
    simpa using hp n hn
  | cons n post =>
    rw [thB]
    by_cases h0 : cmpE n.a.x e.key e.seq = 0
    · rw [decide_eq_true h0]
      have hm : inE ((pre ++ n :: post).map (·.a.x)) e = true := List.any_eq_true.2 ⟨n.a.x, by simp, decide_eq_true (cmpE_zero.1 h0)⟩
      exact hm.symm
    · rw [decide_eq_false h0]
      symm
      refine List.any_eq_false.2 fun x hx => ?_
      obtain ⟨m, hm, rfl⟩ := List.mem_map.1 hx
      have hen : lessE e n.a.x = true := by
        rcases lessE_tri e n.a.x with h | h | h
        · exact h
        · exact absurd (cmpE_zero.2 ⟨h.1.symm, h.2.symm⟩) h0
        · exact absurd ((cmpE_lt e).2 h) (hpost n List.mem_cons_self)
      have key : ¬ (m.a.x.key = e.key ∧ m.a.x.seq = e.seq) := by
        rcases List.mem_append.1 hm with hm | hm
        · exact hp m hm
        · rcases List.mem_cons.1 hm with rfl | hm
          · exact fun h => h0 (cmpE_zero.2 h)
          · intro h
            rw [List.map_append, List.map_cons] at ho
            have h2 := (List.pairwise_cons.1 (List.pairwise_append.1 ho).2.1).1 _ (List.mem_map_of_mem hm)
            have h3 := lessE_trans hen h2
            rw [lessE_iff] at h3
            rcases h3 with h3 | ⟨h3, h4⟩
            · rw [h.1, cmp_refl] at h3; exact absurd h3 (by decide)
            · omega
      simpa using key
theorem ins_split {pre post : List Nd} {e : En} (hpre : ∀ n ∈ pre, cmpE n.a.x e.key e.seq < 0) (hpost : ∀ n ∈ post, ¬ cmpE n.a.x e.key e.seq < 0) (hin : inE ((pre ++ post).map (·.a.x)) e = false) : insE ((pre ++ post).map (·.a.x)) e = pre.map (·.a.x) ++ e :: post.map (·.a.x) := by
  obtain ⟨h1, h2⟩ := pos_spec ((pre ++ post).map (·.a.x)) e _ (Nat.le_refl _)
  have hl := posE_le ((pre ++ post).map (·.a.x)) e ((pre ++ post).map (·.a.x)).length
  have hp : posE ((pre ++ post).map (·.a.x)) e ((pre ++ post).map (·.a.x)).length = pre.length := by
    obtain ⟨p, hpd⟩ : ∃ q, posE ((pre ++ post).map (·.a.x)) e ((pre ++ post).map (·.a.x)).length = q := ⟨_, rfl⟩
    rw [hpd] at h1 h2 hl ⊢
    rcases Nat.lt_trichotomy p pre.length with h | h | h
    · have hx : ((pre ++ post).map (·.a.x))[p]? = some (pre[p].a.x) := by rw [List.getElem?_map, List.getElem?_append_left h, List.getElem?_eq_getElem h]; rfl
      have h3 := h1 p _ (Nat.le_refl _) (by simp; omega) hx
      have h4 := (cmpE_lt e).1 (hpre _ (List.getElem_mem h))
      have h5 := lessE_trans h3 h4
      rw [lessE_irr] at h5; cases h5
    · exact h
    · rcases h2 with h2 | ⟨x, hx, hxe, hpos⟩
      · omega
      · rw [List.getElem?_map, List.getElem?_append_right (by omega)] at hx
        obtain ⟨n, hn, rfl⟩ := Option.map_eq_some_iff.1 hx
        have hm := List.mem_of_getElem? hn
        rcases lessE_tri e n.a.x with h3 | h3 | h3
        · rw [hxe] at h3; cases h3
        · exact absurd ⟨h3.1.symm, h3.2.symm⟩ (inE_false hin _ (List.mem_map_of_mem (List.mem_append_right _ hm)))
        · exact absurd ((cmpE_lt e).2 h3) (hpost n hm)
  rw [insE, hp, List.map_append, List.take_left' (by simp), List.drop_left' (by simp)]
  simp
def tszE (xs : List En) : Nat := (xs.map fun x => x.key.length + x.val.length).sum
/-- A table, told by its entries. -/
def tblX (TX : TypeId × List Value) (t : Nat) (xs : List En) : Ck := ⟨fun w S => ∃ r0 ns, Sat w (tabP TX t r0 ns (tszE xs : Nat)) S ∧ ns.map (·.a.x) = xs ∧ (r0 = none → ns = []) ∧ ∀ n ∈ ns, 1 ≤ n.h, fun ⟨r0, ns, h, h2⟩ hz hm => ⟨r0, ns, h.move hz hm, h2⟩⟩
/-- A table that is a block. -/
abbrev tblC (t : Nat) (xs : List En) : Ck := tblX (66, []) t xs
theorem tblC_of {TX : TypeId × List Value} {M : BS} {w0 w : World} {t : Nat} {r0 : Option Nat} {ns : List Nd} {xs : List En} {sz : Int} (hs : St M w0 w (tabP TX t r0 ns sz)) (hsz : sz = (tszE xs : Nat)) (hx : ns.map (·.a.x) = xs) (hn : r0 = none → ns = []) (hh : ∀ n ∈ ns, 1 ≤ n.h) : St M w0 w [.ck (tblX TX t xs)] := by
  subst hsz
  rw [← List.append_nil (tabP TX t r0 ns _)] at hs
  exact hs.pack (.ck (tblX TX t xs)) fun _ _ h => ⟨r0, ns, h, hx, hn, hh⟩
theorem tblC_get {TX : TypeId × List Value} {S : BS} {w : World} {t : Nat} {xs : List En} (h0 : Sat w [.ck (tblX TX t xs)] S) : ∃ r0 ns, Sat w (tabP TX t r0 ns (tszE xs : Nat)) S ∧ ns.map (·.a.x) = xs ∧ (r0 = none → ns = []) ∧ ∀ n ∈ ns, 1 ≤ n.h := by
  obtain ⟨T, hT, ⟨r0, ns, h, h2⟩, _⟩ := h0
  exact ⟨r0, ns, h.mono fun b _ hb => hT b hb, h2⟩
theorem there_tab {TX : TypeId × List Value} {S : BS} {t c d : Nat} {xs : List En} {A B : Option Addr} {x : En} {w : World} (h0 : Sat w [.ck (tblX TX t xs)] S) (ho : Ord xs) (hkey : ∀ w', Mod S w w' → RdB w' A x.key) :
    CallsV Tryz.prog 30 #[pN t, .agg (enV x A c B d).toArray] w fun v w' => v = .bool (inE xs x) ∧ St S w w' [.ck (tblX TX t xs)] := by
  obtain ⟨r0, ns, h1, h2, h3, h4⟩ := tblC_get h0
  obtain ⟨pre, post, h5, h6, h7⟩ := ord_split x (h2 ▸ ho)
  refine (there_any (B := B) (c := c) (d := d) h1 h3 h5 h6 h7 h4 hkey).mono fun v w' ⟨r, hv, hs⟩ => ?_
  subst h2 h5
  exact ⟨by rw [hv, th_in ho h6 h7], tblC_of hs rfl rfl (by simp) h4⟩
theorem insert_tab {TX : TypeId × List Value} {S : BS} {t c d : Nat} {xs : List En} {A B : Option Addr} {x : En} {w : World} (h0 : Sat w [.ck (tblX TX t xs)] S) (ho : Ord xs) (hin : inE xs x = false) (hk : ∀ w', Mod S w w' → RdB w' A x.key ∧ RdB w' B x.val) (hl : x.key.length ≤ 140737488355328) (hl2 : x.val.length ≤ 140737488355328) (hcnt : xs.length ≤ 1099511627776) (hsz : tszE xs ≤ 4611686018427387904) (hg : ∀ w', Mod S w w' → GT w') :
    CallsV Tryz.prog 31 #[pN t, .agg (enV x A c B d).toArray] w fun v w' => v = .tuple #[] ∧ St S w w' [.ck (tblX TX t (insE xs x))] := by
  obtain ⟨r0, ns, h1, h2, h3, h4⟩ := tblC_get h0
  obtain ⟨pre, post, h5, h6, h7⟩ := ord_split x (h2 ▸ ho)
  refine (tinsert_any (c := c) (d := d) h1 h3 h5 h6 h7 hk hl hl2 (by rw [← h2, List.length_map] at hcnt; exact hcnt) ⟨by omega, by omega⟩ hg).mono fun v w' ⟨r, N, hv, hN, hN1, _, hs⟩ => ?_
  subst h2 h5
  refine ⟨hv, tblC_of hs ?_ ?_ (by simp) fun n hn => ?_⟩
  · rw [ins_split h6 h7 hin]
    simp [tszE]
    omega
  · rw [ins_split h6 h7 hin]
    simp [hN]
  · rcases List.mem_append.1 hn with hn | hn
    · exact h4 n (List.mem_append_left _ hn)
    · rcases List.mem_cons.1 hn with rfl | hn
      · exact hN1
      · exact h4 n (List.mem_append_right _ hn)
end Go.Proofs.YtdgagffieobiiaaGreatDoor

/-
  Walks over New, Len and Size of a table; plain law of what Put makes.
-/
namespace Go.Proofs.YtdgagffieobiiaaGreatDoor
open Go.RowKit

theorem new_any {w : World} : CallsV Tryz.prog 4 #[] w fun v w' => ∃ t, v = pN t ∧ St NoB w w' [.ck (tblC t [])] := by
  have hs := St.init w
  refine calls_in (N := _) Tryz.func4 rfl Tryz.ntmps4 rfl ?_; show WC _ _ _ _ _ _
  refine wc_sr ?_; refine wl_as rfl rfl ?_; refine wl_ns ?_; refine wc_sr ?_
  refine wl_val (opv_build (vs := []) (cs := tbV (hdS none) 0 0 []) trivial (by kernel_rfl)) rfl ?_
  refine ws_box (cs := tbV (hdS none) 0 0 []) hs rfl rfl ?_; clear hs; intro g2 _ hs
  refine wl_as rfl rfl ?_; refine wl_ns ?_; refine wc_ret ?_
  exact we_ret1 rfl rfl ⟨_, rfl, g2, rfl, tblC_of (r0 := none) (ns := []) (sz := 0) ((St.pk (H1 := []) (St.pk (H1 := []) hs)).front 2 rfl) rfl rfl (fun _ => rfl) (by simp)⟩
theorem tlen_any {TX : TypeId × List Value} {S : BS} {t : Nat} {xs : List En} {w : World} (h0 : Sat w [.ck (tblX TX t xs)] S) : CallsV Tryz.prog 17 #[pN t] w fun v w' => v = .int .i64 (xs.length : Nat) ∧ w' = w := by
  obtain ⟨r0, ns, h1, h2, _, _⟩ := tblC_get h0
  have hs := St.start h1
  simp only [tabP, tabQ] at hs
  unfold tbV at hs
  have a3 := hs.ar 0 rfl
  unfold pN
  refine calls_in (N := _) Tryz.func17 rfl Tryz.ntmps17 rfl ?_; show WC _ _ _ _ _ _
  refine wc_sr ?_; refine wl_as rfl rfl ?_; refine wl_ns ?_; refine wc_sr ?_; refine wl_mv rfl rfl ?_; apply wl_val; apply opv_nilOk; exact rfl; exact rfl; apply wl_val; apply opv_fa; exact fa_T1; exact rfl; exact rfl; apply wl_val; apply opv_ldX; exact rfl; assumption; exact e1_int; exact rfl; exact rfl; refine wl_as rfl rfl ?_; refine wl_ns ?_; refine wc_ret ?_
  exact we_ret1 rfl rfl ⟨_, rfl, by rw [← h2, List.length_map], rfl⟩
theorem tsize_any {TX : TypeId × List Value} {S : BS} {t : Nat} {xs : List En} {w : World} (h0 : Sat w [.ck (tblX TX t xs)] S) : CallsV Tryz.prog 13 #[pN t] w fun v w' => v = .int .i64 (tszE xs : Nat) ∧ w' = w := by
  obtain ⟨r0, ns, h1, h2, _, _⟩ := tblC_get h0
  have hs := St.start h1
  simp only [tabP, tabQ] at hs
  unfold tbV at hs
  have a3 := hs.ar 0 rfl
  unfold pN
  refine calls_in (N := _) Tryz.func13 rfl Tryz.ntmps13 rfl ?_; show WC _ _ _ _ _ _
  refine wc_sr ?_; refine wl_as rfl rfl ?_; refine wl_ns ?_; refine wc_sr ?_; refine wl_mv rfl rfl ?_; apply wl_val; apply opv_nilOk; exact rfl; exact rfl; apply wl_val; apply opv_fa; exact fa_T2; exact rfl; exact rfl; apply wl_val; apply opv_ldX; exact rfl; assumption; exact e1_int; exact rfl; exact rfl; refine wl_as rfl rfl ?_; refine wl_ns ?_; refine wc_ret ?_
  exact we_ret1 rfl rfl ⟨_, rfl, rfl, rfl⟩
theorem insE_mem {out : List En} {x y : En} : y ∈ insE out x ↔ y ∈ out ∨ y = x := by
  rw [insE]
  conv => rhs; rw [← List.take_append_drop (posE out x out.length) out]
  simp only [List.mem_append, List.mem_singleton]
  constructor
  · rintro ((h | h) | h)
    · exact .inl (.inl h)
    · exact .inr h
    · exact .inl (.inr h)
  · rintro ((h | h) | h)
    · exact .inl (.inl h)
    · exact .inr h
    · exact .inl (.inr h)
theorem inE_iff {l : List En} {e : En} : inE l e = true ↔ ∃ x ∈ l, x.key = e.key ∧ x.seq = e.seq := by
  rw [inE, List.any_eq_true]
  exact exists_congr fun x => and_congr_right fun _ => by rw [decide_eq_true_eq]
theorem foldI_mem {y : En} : ∀ {l out : List En}, y ∈ l.foldl insE out ↔ y ∈ out ∨ y ∈ l
  | [], out => by simp
  | x :: l, out => by
    rw [List.foldl_cons, foldI_mem, insE_mem, List.mem_cons]
    constructor
    · rintro ((h | h) | h)
      · exact .inl h
      · exact .inr (.inl h)
      · exact .inr (.inr h)
    · rintro (h | h | h)
      · exact .inl (.inl h)
      · exact .inl (.inr h)
      · exact .inr h
/-- Into a list and into an empty one. -/
theorem inE_fold {l out : List En} {e : En} : inE (l.foldl insE out) e = (inE out e || inE (l.foldl insE []) e) := by
  rw [Bool.eq_iff_iff, Bool.or_eq_true, inE_iff, inE_iff, inE_iff]
  constructor
  · rintro ⟨x, hx, h⟩
    rcases foldI_mem.1 hx with hx | hx
    · exact .inl ⟨x, hx, h⟩
    · exact .inr ⟨x, foldI_mem.2 (.inr hx), h⟩
  · rintro (⟨x, hx, h⟩ | ⟨x, hx, h⟩)
    · exact ⟨x, foldI_mem.2 (.inl hx), h⟩
    · exact ⟨x, foldI_mem.2 (.inr ((foldI_mem.1 hx).resolve_left (by simp))), h⟩
theorem insE_tsz (out : List En) (x : En) : tszE (insE out x) = tszE out + (x.key.length + x.val.length) := by
  have h := List.take_append_drop (posE out x out.length) out
  have h2 : tszE out = tszE (out.take (posE out x out.length)) + tszE (out.drop (posE out x out.length)) := by
    rw [tszE, tszE, tszE, ← List.sum_append, ← List.map_append, h]
  rw [insE, h2]
  simp [tszE]
  omega
/-- All of a list may be put in: none is there, none comes twice. -/
def okP (xs l : List En) (k : Nat) : Bool := (List.range k).all fun j => match l[j]? with
  | some x => !(inE xs x || inE ((l.take j).foldl insE []) x)
  | none => true
theorem okP_succ {xs l : List En} {k : Nat} {x : En} (hx : l[k]? = some x) : okP xs l (k + 1) = (okP xs l k && !(inE xs x || inE ((l.take k).foldl insE []) x)) := by
  rw [okP, List.range_succ, List.all_append, okP]
  simp [hx]
theorem okP_le {xs l : List En} {k m : Nat} (h : okP xs l m = true) (hk : k ≤ m) : okP xs l k = true :=
  List.all_eq_true.2 fun j hj => List.all_eq_true.1 h j (List.mem_range.2 (by have := List.mem_range.1 hj; omega))
theorem fold_succ {xs l : List En} {k : Nat} {x : En} (hx : l[k]? = some x) : (l.take (k + 1)).foldl insE xs = insE ((l.take k).foldl insE xs) x := by
  rw [List.take_add_one, hx]; simp
theorem okP_in {xs l : List En} {k : Nat} {x : En} (h : okP xs l (k + 1) = true) (hx : l[k]? = some x) : inE ((l.take k).foldl insE xs) x = false := by
  rw [okP_succ hx, Bool.and_eq_true, Bool.not_eq_true'] at h
  rw [inE_fold]; exact h.2
theorem okP_ord {xs l : List En} (ho : Ord xs) : ∀ {k : Nat}, k ≤ l.length → okP xs l k = true → Ord ((l.take k).foldl insE xs)
  | 0, _, _ => by simpa using ho
  | k + 1, hk, h => by
    have hx : l[k]? = some (l[k]'(by omega)) := List.getElem?_eq_getElem (by omega)
    rw [fold_succ hx]
    exact ins_ord (okP_ord ho (by omega) (okP_le h (Nat.le_succ k))) (okP_in h hx)
end Go.Proofs.YtdgagffieobiiaaGreatDoor

/-
  Walk over Put of a table.
-/
namespace Go.Proofs.YtdgagffieobiiaaGreatDoor
open Go.RowKit

theorem enEl_rdV {w : World} {S : Nat → Prop} {x : En} {A B : Option Addr} {c d : Nat} (h : (enEl x).P w S (enV x A c B d)) : RdB w A x.key ∧ RdB w B x.val := by
  obtain ⟨A', c', B', d', he, r1, _, r2, _⟩ := enEl.rd h
  simp only [enV, List.cons.injEq, Value.slice.injEq] at he
  obtain ⟨⟨rfl, _⟩, _, _, ⟨rfl, _⟩, _⟩ := he
  exact ⟨r1, r2⟩
/-- What Put answers. -/
def putC (xs l : List En) : Nat := if checkE l = 0 then (if okP xs l l.length then 0 else 7) else checkE l
theorem bigE_le {x : En} (h : bigE x = false) : x.key.length ≤ 1024 ∧ x.val.length ≤ 65536 := by
  simp only [bigE, decide_eq_false_iff_not] at h
  omega
theorem check_big {l : List En} (h : checkE l = 0) : ∀ x ∈ l, x.key.length ≤ 1024 ∧ x.val.length ≤ 65536 := fun x hx => by
  refine bigE_le ?_
  cases hb : bigE x with
  | false => rfl
  | true =>
    rw [checkE, if_pos (List.any_eq_true.2 ⟨x, hx, hb⟩)] at h
    cases h
theorem fold_tsz {xs l : List En} (hb : ∀ x ∈ l, x.key.length ≤ 1024 ∧ x.val.length ≤ 65536) : ∀ {k : Nat}, k ≤ l.length → tszE ((l.take k).foldl insE xs) ≤ tszE xs + k * 66560 ∧ ((l.take k).foldl insE xs).length = xs.length + k
  | 0, _ => by simp
  | k + 1, hk => by
    have hx : l[k]? = some (l[k]'(by omega)) := List.getElem?_eq_getElem (by omega)
    obtain ⟨h1, h2⟩ := fold_tsz (xs := xs) hb (k := k) (by omega)
    have h3 := hb _ (List.getElem_mem (show k < l.length by omega))
    rw [fold_succ hx, insE_tsz, insE_length]
    omega
theorem Wi.mod {M : BS} {w w' : World} {b o : Nat} {cs : List Value} (h : Wi w b o cs) (hm : Mod M w w') (hM : ¬ M b) : Wi w' b o cs := ⟨Nat.lt_of_lt_of_le h.1 hm.size, fun j u hu => (World.cell?_of_block (a := ⟨b, o + j, none⟩) (hm.block b h.1 hM)).trans (h.2 j u hu)⟩
theorem okP_not {xs l : List En} {k : Nat} {x : En} (hx : l[k]? = some x) (h : (inE xs x || inE ((l.take k).foldl insE []) x) = true) : okP xs l l.length = false := by
  cases hk : okP xs l l.length with
  | false => rfl
  | true =>
    have := okP_le hk (show k + 1 ≤ l.length from (List.getElem?_eq_some_iff.1 hx).1)
    rw [okP_succ hx, h] at this
    simp at this
theorem okP_nil {xs l : List En} {k : Nat} (h : okP xs l k = true) : okP [] l k = true := List.all_eq_true.2 fun j hj => by
  have h1 := List.all_eq_true.1 h j hj
  cases hx : l[j]? with
  | none => rfl
  | some x =>
    simp only [hx, Bool.not_eq_true', Bool.or_eq_false_iff] at h1 ⊢
    exact ⟨rfl, h1.2⟩
set_option maxRecDepth 8000 in
set_option maxHeartbeats 2000000 in
theorem put_any {TX : TypeId × List Value} {S R : BS} {t n c : Nat} {xs l : List En} {A : Option Addr} {w : World} (h0 : Sat w [.ck (tblX TX t xs)] S) (ho : Ord xs) (hr : RdR 4 w R A (l.map enEl)) (hR : ∀ b, b < w.heap.size → R b → ¬ S b) (hn : l.length = n) (hl : l.length ≤ 1048576) (hcnt : xs.length ≤ 1073741824) (hsz : tszE xs ≤ 1152921504606846976) (hg : ∀ w', Mod S w w' → GT w') :
    CallsV Tryz.prog 7 #[pN t, .slice A n c] w fun v w' => v = .int .i64 (putC xs l : Nat) ∧ St S w w' [.ck (tblX TX t (if putC xs l = 0 then l.foldl insE xs else xs))] := by
  subst hn
  have hs := St.start h0
  unfold pN
  refine calls_in (N := _) Tryz.func7 rfl Tryz.ntmps7 rfl ?_; show WC _ _ _ _ _ _
  refine wc_sr ?_; refine wl_as rfl rfl ?_; refine wl_ns ?_; refine wc_seq ?_; refine wc_sr ?_; refine wl_mv rfl rfl ?_
  refine wl_call ok_mem_Check (check_any hr.all rfl (by simp only [maxLen]; omega)) ⟨rfl, trivial⟩ rfl ?_
  rintro _ w2 ⟨rfl, hbx⟩
  replace hs := hs.below hbx
  clear hbx
  by_cases hc : checkE l = 0
  · have hbig := check_big hc
    rw [hc]
    refine wl_as rfl rfl ?_; refine wl_ns ?_; refine wc_sr ?_; refine wl_mv rfl rfl ?_; refine wl_bin rfl rfl bin_neq rfl ?_; refine wl_ns ?_; apply wc_condFb; exact rfl; exact rfl; refine wc_skip ?_; refine we_seq ?_; refine wc_sr ?_
    refine wl_call ok_mem_New new_any trivial rfl ?_
    rintro _ w3 ⟨f, rfl, hsn⟩
    replace hs := hs.call hsn
    clear hsn
    unfold pN
    refine wl_as rfl rfl ?_; refine wl_ns ?_; refine wc_seq ?_; refine wc_sr ?_; refine wl_mv rfl rfl ?_; apply wl_val; apply opv_len; exact rfl; exact tkE.sl; exact rfl; refine wl_mv rfl rfl ?_; refine wl_ns ?_; refine wc_block ?_
    refine wc_loop (fun L wr mm => ∃ k : Nat, L = [(0, .pointer (some ⟨t, 0, none⟩)), (1, .slice A l.length c), (6, .pointer (some ⟨f, 0, none⟩)), (17, .slice A l.length c), (18, .int .i64 (l.length : Int)), (19, .int .i64 (k : Int))] ∧ k ≤ l.length ∧ okP xs l k = true ∧ St S w wr [.ck (tblC f ((l.take k).foldl insE [])), .ck (tblX TX t xs)] ∧ mm = l.length - k)
      [(0, .pointer (some ⟨t, 0, none⟩)), (1, .slice A l.length c), (6, .pointer (some ⟨f, 0, none⟩)), (17, .slice A l.length c), (18, .int .i64 (l.length : Int)), (19, .int .i64 0)] l.length ⟨0, rfl, by omega, rfl, hs, rfl⟩ ⟨rfl, rfl, rfl, rfl, rfl, rfl, trivial⟩ ?_
    clear hs
    rintro _ w4 mm ⟨k, rfl, hk, hok, hs, rfl⟩
    refine wc_sr ?_; refine wl_bin rfl rfl bin_lss rfl ?_; refine wl_ns ?_; refine wc_seq ?_
    refine wc_cond rfl (fun h1 => ?_) (fun h1 => ?_)
    · obtain ⟨x, hx⟩ : ∃ x, l[k]? = some x := ⟨_, List.getElem?_eq_getElem (by omega)⟩
      obtain ⟨b, o, cs, rfl, hRb, _, hp, i0⟩ := RdR.at (k := 4) (by decide) hr (E := enEl x) (i := k) (by rw [List.getElem?_map, hx]; rfl)
      obtain ⟨X, cx, Y, cy, rfl, _, _, _, _⟩ := enEl.rd hp
      have rd : ∀ w', Mod S w w' → RdB w' X x.key ∧ RdB w' Y x.val := fun w' hm => enEl_rdV (S := R) ((enEl x).move hp hm.size fun b hb h => ⟨h, hm.block b hb (hR b hb h)⟩)
      have i1 := i0.mod hs.1 (hR b i0.1 hRb)
      refine wc_skip ?_; refine we_seq ?_; refine wc_seq ?_; refine wc_block ?_; refine wc_sr ?_; apply wl_val; apply opv_idxG tkE; exact rfl; exact rfl; exact rfl; omega; exact rfl; apply wl_val; apply opv_ldG; exact rfl; assumption; exact sE; exact rfl
      refine ws_var (cs := enV x X cx Y cy) hs zeroE sE rfl (fun _ => rfl) (by first | rfl | simp [Value.oneCell']) rfl ?_; clear hs; intro g8 _ hs
      refine wl_ns ?_; refine wc_seq ?_; refine wc_sr ?_; refine wl_mv rfl rfl ?_; apply wl_val; apply opv_loadX; exact rfl; exact hs.ar 0 rfl; exact sE; exact rfl
      obtain ⟨S2, hS2, _, hM, _, hB⟩ := St.lend (H1 := [.ck (tblX TX t xs)]) (H2 := [_, _]) (hs.front 2 rfl)
      refine wl_call ok_mem_Table_there (there_tab hS2 ho fun w' hm => (rd w' (hM w' hm)).1) ⟨rfl, rfl, trivial⟩ rfl ?_
      rintro _ w6 ⟨rfl, hsx⟩
      replace hs := hB _ _ hsx
      clear hB hsx hS2 hM
      dsimp only [List.cons_append, List.nil_append] at hs
      cases hin : inE xs x with
      | true =>
        have hz : putC xs l = 7 := by rw [putC, if_pos hc, okP_not hx (by rw [hin]; rfl)]; rfl
        rw [hz]
        refine wl_mv rfl rfl ?_; apply wl_skip; exact rfl; exact rfl; exact rfl; exact bR1; exact rfl; apply wl_skip; exact rfl; exact rfl; exact rfl; exact bR1; exact rfl; apply wl_skip; exact rfl; exact rfl; exact rfl; exact bR1; exact rfl; apply wl_val; apply opv_pickT; exact rfl; exact rfl; exact rfl; exact rfl; refine wl_ns ?_; apply wc_condTb; exact rfl; exact rfl; refine wc_sr ?_; refine wl_as rfl rfl ?_; refine wl_ns ?_; refine wc_ret ?_; refine we_seq_ret ?_; refine we_block_ret ?_; refine we_seq_ret ?_; refine we_loop_ret ?_; refine we_block_ret ?_; refine we_seq_ret ?_
        exact we_ret1 rfl rfl ⟨_, rfl, rfl, by rw [if_neg (by decide)]; exact (hs.drop 1 rfl).drop 1 rfl⟩
      | false =>
        refine wl_mv rfl rfl ?_; apply wl_take; exact rfl; exact rfl; exact rfl; exact rfl; refine wl_mv rfl rfl ?_; apply wl_take; exact rfl; exact rfl; exact rfl; exact rfl; apply wl_val; apply opv_loadX; exact rfl; exact hs.ar 1 rfl; exact sE; exact rfl; apply wl_take; exact rfl; exact rfl; exact rfl; exact rfl
        obtain ⟨S2, hS2, _, hM, _, hB⟩ := St.lend (H1 := [.ck (tblC f ((l.take k).foldl insE []))]) (H2 := [_, _]) (hs.front 2 rfl)
        refine wl_call ok_mem_Table_there (there_tab hS2 (okP_ord (xs := []) .nil hk (okP_nil hok)) fun w' hm => (rd w' (hM w' hm)).1) ⟨rfl, rfl, trivial⟩ rfl ?_
        rintro _ w7 ⟨rfl, hsx⟩
        replace hs := hB _ _ hsx
        clear hB hsx hS2 hM
        dsimp only [List.cons_append, List.nil_append] at hs
        cases hin2 : inE ((l.take k).foldl insE []) x with
        | true =>
          have hz : putC xs l = 7 := by rw [putC, if_pos hc, okP_not hx (by rw [hin, hin2]; rfl)]; rfl
          rw [hz]
          apply wl_val; apply opv_pickF; exact rfl; exact rfl; exact rfl; exact rfl; refine wl_ns ?_; apply wc_condTb; exact rfl; exact rfl; refine wc_sr ?_; refine wl_as rfl rfl ?_; refine wl_ns ?_; refine wc_ret ?_; refine we_seq_ret ?_; refine we_block_ret ?_; refine we_seq_ret ?_; refine we_loop_ret ?_; refine we_block_ret ?_; refine we_seq_ret ?_
          exact we_ret1 rfl rfl ⟨_, rfl, rfl, by rw [if_neg (by decide)]; exact ((hs.front 1 rfl).drop 1 rfl).drop 1 rfl⟩
        | false =>
          apply wl_val; apply opv_pickF; exact rfl; exact rfl; exact rfl; exact rfl; refine wl_ns ?_; apply wc_condFb; exact rfl; exact rfl; refine wc_skip ?_; refine we_seq ?_; refine wc_region ?_; refine wl_mv rfl rfl ?_; apply wl_val; apply opv_loadX; exact rfl; exact hs.ar 2 rfl; exact sE; exact rfl
          obtain ⟨S2, hS2, _, hM, _, hB⟩ := St.lend (H1 := [.ck (tblC f ((l.take k).foldl insE []))]) (H2 := [_, _]) hs
          have hb1 := hbig x (List.mem_of_getElem? hx)
          have hf := fold_tsz (xs := []) hbig hk
          refine wl_call ok_mem_Table_insert (insert_tab hS2 (okP_ord (xs := []) .nil hk (okP_nil hok)) hin2 (fun w' hm => rd w' (hM w' hm)) (by omega) (by omega) (by have := hf.2; simp at this; omega) (by have := hf.1; simp [tszE] at this ⊢; omega) fun w' hm => hg w' (hM w' hm)) ⟨rfl, rfl, trivial⟩ rfl ?_
          rintro _ w8 ⟨rfl, hsx⟩
          replace hs := hB _ _ hsx
          clear hB hsx hS2 hM
          dsimp only [List.cons_append, List.nil_append] at hs
          have hk1 : (k : Int) + 1 = ((k + 1 : Nat) : Int) := by omega
          refine wl_nil ?_; refine we_block_norm ?_; refine we_seq ?_; refine wc_region ?_; apply wl_val; apply opv_bin; exact rfl; exact rfl; exact bin_add64 (by omega); exact rfl; refine wl_mv rfl rfl ?_; refine wl_nil ?_
          refine we_loop _ (l.length - (k + 1)) ⟨k + 1, rfl, by omega, by rw [okP_succ hx, hok, hin, hin2]; rfl, ?_, rfl⟩ (by omega) ⟨rfl, rfl, rfl, rfl, rfl, by rw [← hk1]; rfl, trivial⟩
          rw [fold_succ hx]
          exact (hs.front 1 rfl).drop 2 rfl |>.front 1 rfl
    · obtain rfl : k = l.length := by omega
      have hz : putC xs l = 0 := by rw [putC, if_pos hc, hok]; rfl
      rw [hz, if_pos rfl]
      refine wc_exit ?_; refine we_seq_exit ?_; refine we_loop_exit ?_; refine we_block_exit ?_; refine we_seq ?_; refine wc_seq ?_; refine wc_sr ?_; refine wl_mv rfl rfl ?_; apply wl_val; apply opv_len; exact rfl; exact tkE.sl; exact rfl; refine wl_mv rfl rfl ?_; refine wl_ns ?_; refine wc_block ?_
      refine wc_loop (fun L wr mm => ∃ k : Nat, L = [(0, .pointer (some ⟨t, 0, none⟩)), (35, .slice A l.length c), (36, .int .i64 (l.length : Int)), (37, .int .i64 (k : Int))] ∧ k ≤ l.length ∧ St S w wr [.ck (tblX TX t ((l.take k).foldl insE xs))] ∧ mm = l.length - k)
        [(0, .pointer (some ⟨t, 0, none⟩)), (35, .slice A l.length c), (36, .int .i64 (l.length : Int)), (37, .int .i64 0)] l.length ⟨0, rfl, by omega, hs.drop 0 rfl, rfl⟩ ⟨rfl, rfl, rfl, rfl, trivial⟩ ?_
      clear hs
      rintro _ w5 mm ⟨k, rfl, hk, hs, rfl⟩
      refine wc_sr ?_; refine wl_bin rfl rfl bin_lss rfl ?_; refine wl_ns ?_; refine wc_seq ?_
      refine wc_cond rfl (fun h1 => ?_) (fun h1 => ?_)
      · obtain ⟨x, hx⟩ : ∃ x, l[k]? = some x := ⟨_, List.getElem?_eq_getElem (by omega)⟩
        obtain ⟨b, o, cs, rfl, hRb, _, hp, i0⟩ := RdR.at (k := 4) (by decide) hr (E := enEl x) (i := k) (by rw [List.getElem?_map, hx]; rfl)
        obtain ⟨X, cx, Y, cy, rfl, _, _, _, _⟩ := enEl.rd hp
        have rd : ∀ w', Mod S w w' → RdB w' X x.key ∧ RdB w' Y x.val := fun w' hm => enEl_rdV (S := R) ((enEl x).move hp hm.size fun b hb h => ⟨h, hm.block b hb (hR b hb h)⟩)
        have i1 := i0.mod hs.1 (hR b i0.1 hRb)
        refine wc_skip ?_; refine we_seq ?_; refine wc_seq ?_; refine wc_block ?_; refine wc_sr ?_; apply wl_val; apply opv_idxG tkE; exact rfl; exact rfl; exact rfl; omega; exact rfl; apply wl_val; apply opv_ldG; exact rfl; assumption; exact sE; exact rfl
        refine ws_var (cs := enV x X cx Y cy) hs zeroE sE rfl (fun _ => rfl) (by first | rfl | simp [Value.oneCell']) rfl ?_; clear hs; intro g10 _ hs
        refine wl_ns ?_; refine wc_region ?_; refine wl_mv rfl rfl ?_; apply wl_val; apply opv_loadX; exact rfl; exact hs.ar 0 rfl; exact sE; exact rfl
        obtain ⟨S2, hS2, _, hM, _, hB⟩ := St.lend (H1 := [.ck (tblX TX t ((l.take k).foldl insE xs))]) (H2 := [_]) (hs.front 1 rfl)
        have hb1 := hbig x (List.mem_of_getElem? hx)
        have hf := fold_tsz (xs := xs) hbig hk
        refine wl_call ok_mem_Table_insert (insert_tab hS2 (okP_ord ho hk (okP_le hok hk)) (okP_in (okP_le hok (show k + 1 ≤ l.length by omega)) hx) (fun w' hm => rd w' (hM w' hm)) (by omega) (by omega) (by omega) (by omega) fun w' hm => hg w' (hM w' hm)) ⟨rfl, rfl, trivial⟩ rfl ?_
        rintro _ w8 ⟨rfl, hsx⟩
        replace hs := hB _ _ hsx
        clear hB hsx hS2 hM
        dsimp only [List.cons_append, List.nil_append] at hs
        have hk1 : (k : Int) + 1 = ((k + 1 : Nat) : Int) := by omega
        refine wl_nil ?_; refine we_block_norm ?_; refine we_seq ?_; refine wc_region ?_; apply wl_val; apply opv_bin; exact rfl; exact rfl; exact bin_add64 (by omega); exact rfl; refine wl_mv rfl rfl ?_; refine wl_nil ?_
        refine we_loop _ (l.length - (k + 1)) ⟨k + 1, rfl, by omega, ?_, rfl⟩ (by omega) ⟨rfl, rfl, rfl, by rw [← hk1]; rfl, trivial⟩
        rw [fold_succ hx]
        exact hs.drop 1 rfl
      · obtain rfl : k = l.length := by omega
        refine wc_exit ?_; refine we_seq_exit ?_; refine we_loop_exit ?_; refine we_block_exit ?_; refine we_seq ?_; refine wc_sr ?_; refine wl_as rfl rfl ?_; refine wl_ns ?_; refine wc_ret ?_
        rw [List.take_length] at hs
        exact we_ret1 rfl rfl ⟨_, rfl, rfl, hs⟩
  · have h1 : ¬ ((checkE l : Nat) : Int) = 0 := by omega
    refine wl_as rfl rfl ?_; refine wl_ns ?_; refine wc_sr ?_; refine wl_mv rfl rfl ?_; refine wl_bin rfl rfl bin_neq rfl ?_; refine wl_ns ?_; apply wc_decT; exact rfl; (with_reducible assumption); refine wc_sr ?_; refine wl_mv rfl rfl ?_; refine wl_as rfl rfl ?_; refine wl_ns ?_; refine wc_ret ?_; refine we_seq_ret ?_
    exact we_ret1 rfl rfl ⟨_, rfl, by rw [putC, if_neg hc], by rw [putC, if_neg hc, if_neg hc]; exact hs⟩
end Go.Proofs.YtdgagffieobiiaaGreatDoor

/-
  Walks over twin and Get of a table.
-/
namespace Go.Proofs.YtdgagffieobiiaaGreatDoor
open Go.RowKit

theorem ttwin_any {x : En} {A B : Option Addr} {c d : Nat} {w : World} (rx : RdB w A x.key) (rx2 : RdB w B x.val) (hl : x.key.length ≤ 140737488355328) (hl2 : x.val.length ≤ 140737488355328) :
    CallsV Tryz.prog 41 #[.agg (enV x A c B d).toArray] w (RetE2 w x) := by
  have hs := St.init w
  refine calls_in (N := _) Tryz.func41 rfl Tryz.ntmps41 rfl ?_; show WC _ _ _ _ _ _
  refine wc_sr ?_
  refine ws_box (cs := enV x A c B d) hs rfl rfl ?_; clear hs; intro g1 _ hs
  refine ws_new hs zeroE rfl ?_; clear hs; intro g2 _ hs
  refine wl_ns ?_; refine wc_seq ?_
  unfold enV at hs
  refine wc_heldM 7 mixed fun w_ hS => ?_
  apply wm_take 0; exact rfl; intro _ hw_; apply opv_fa; exact fa_sE (by decide); exact rfl; exact rfl; kernel_rfl; exact hS; apply wm_take 1; exact rfl; intro _ hw_; apply opv_ldX; exact rfl; exact Ar.bel (hs.ar 1 rfl) hw_; exact e1_by; exact rfl; exact rfl; kernel_rfl; exact hS; apply wm_take 3; exact rfl; intro _ hw_; apply opv_fa; exact fa_sE (by decide); exact rfl; exact rfl; kernel_rfl; exact hS; apply wm_take 4; exact rfl; intro _ hw_; apply opv_ldX; exact rfl; exact Ar.bel (hs.ar 1 rfl) hw_; exact e1_by; exact rfl; exact rfl; kernel_rfl; exact hS
  replace hs := hs.below hS
  refine wm_one 2 (by kernel_rfl) rfl ?_; dsimp only [List.getElem_toArray, List.getElem_cons_succ, List.getElem_cons_zero]
  refine wl_call ok_bytes_Clone (clone_any (rx.below hs.bel) rfl hl) ⟨rfl, trivial⟩ rfl ?_; rintro _ _ ⟨C, e, rfl, o_, hbx⟩; replace hs := hs.newO hbx o_ (Nat.le_refl _); try dsimp only [List.cons_append, List.nil_append, setC, delC] at hs
  replace hS := hS.trans (hbx.mono hS.size)
  refine wl_nil ?_
  refine we_heldM (fun _ => hS) ?_
  apply wm_take 6; exact rfl; intro _ hw_; apply opv_fa; exact fa_sE (by decide); exact rfl; exact rfl; kernel_rfl; exact hS
  refine wm_one 5 (by kernel_rfl) rfl ?_; dsimp only [List.getElem_toArray, List.getElem_cons_succ, List.getElem_cons_zero]
  refine wl_call ok_bytes_Clone (clone_any (rx2.below hs.bel) rfl hl2) ⟨rfl, trivial⟩ rfl ?_; rintro _ _ ⟨D, f, rfl, o_, hbx⟩; replace hs := hs.newO hbx o_ (Nat.le_refl _); try dsimp only [List.cons_append, List.nil_append, setC, delC] at hs
  replace hS := hS.trans (hbx.mono hS.size)
  refine wl_nil ?_
  refine we_heldM (fun _ => hS) ?_
  refine wm_one 7 (by kernel_rfl) rfl ?_; dsimp only [List.getElem_toArray, List.getElem_cons_succ, List.getElem_cons_zero]
  apply ws_st hs 3; exact rfl; exact rfl; exact e1_by; exact rfl; exact rfl; exact rfl; clear hs; intro _ hs; dsimp only [setC, List.set] at hs; refine wl_nil ?_
  refine we_heldM (fun h => absurd h (by decide)) ?_
  refine wm_one 8 (by kernel_rfl) rfl ?_; dsimp only [List.getElem_toArray, List.getElem_cons_succ, List.getElem_cons_zero]
  apply wl_val; apply opv_fa; exact fa_sE (by decide); exact rfl; exact rfl; refine wl_nil ?_
  refine we_heldM (fun h => absurd h (by decide)) ?_
  refine wm_one 9 (by kernel_rfl) rfl ?_; dsimp only [List.getElem_toArray, List.getElem_cons_succ, List.getElem_cons_zero]
  apply ws_st hs 3; exact rfl; exact rfl; exact e1_by; exact rfl; exact rfl; exact rfl; clear hs; intro _ hs; dsimp only [setC, List.set] at hs; refine wl_nil ?_
  refine we_heldM (fun h => absurd h (by decide)) ?_
  refine wm_done (by kernel_rfl) ?_
  refine we_seq ?_; refine wc_sr ?_; apply wl_val; apply opv_loadX; exact rfl; exact hs.ar 3 rfl; exact sE; exact rfl; apply ws_stS hs 2; exact rfl; exact rfl; exact rfl; exact sE; exact rfl; exact rfl; clear hs; intro _ hs; dsimp only [setC] at hs; refine wl_ns ?_; refine wc_ret ?_
  exact we_retC rfl rfl (hs.ar 2 rfl) sE ⟨_, rfl, C, e, D, f, rfl, (((hs.drop 2 rfl).drop 2 rfl).front 1 rfl)⟩
theorem cmpE_same {x : En} {key : List UInt8} {seq : Nat} (h : x.key = key) : cmpE x key seq < 0 ↔ seq < x.seq := by
  subst h
  rw [cmpE, if_pos (cmp_refl _)]
  constructor
  · intro h
    split at h
    · assumption
    · split at h <;> exact absurd h (by decide)
  · intro h; rw [if_pos h]; decide
theorem cmpE_diff {x : En} {key : List UInt8} {seq : Nat} (h : ¬ x.key = key) : cmpE x key seq = cmpB x.key key := by
  rw [cmpE, if_neg fun h0 => h (cmp_zero h0)]
def hdE (key : List UInt8) : List Nd → Option En
  | [] => none
  | n :: _ => if n.a.x.key = key then some n.a.x else none
theorem get_eq {pre post : List Nd} {key : List UInt8} {m : Nat} (ho : Ord ((pre ++ post).map (·.a.x))) (hpre : ∀ n ∈ pre, cmpE n.a.x key m < 0) (hpost : ∀ n ∈ post, ¬ cmpE n.a.x key m < 0) :
    getE ((pre ++ post).map (·.a.x)) key m = hdE key post := by
  have h1 : (pre.map (·.a.x)).find? (fun x => decide (x.key = key ∧ x.seq ≤ m)) = none := List.find?_eq_none.2 fun x hx => by
    obtain ⟨n, hn, rfl⟩ := List.mem_map.1 hx
    rw [decide_eq_true_eq]
    rintro ⟨h, h'⟩
    have := (cmpE_same h).1 (hpre n hn)
    omega
  rw [getE, List.map_append, List.find?_append, h1, Option.none_or]
  cases post with
  | nil => rfl
  | cons n post =>
    rw [List.map_cons]
    by_cases hk : n.a.x.key = key
    · have h2 : n.a.x.seq ≤ m := by
        have := hpost n List.mem_cons_self
        rw [cmpE_same hk] at this
        omega
      rw [List.find?_cons, decide_eq_true ⟨hk, h2⟩]
      rw [hdE, if_pos hk]
    · rw [hdE, if_neg hk]
      refine List.find?_eq_none.2 fun x hx => ?_
      rw [decide_eq_true_eq]
      rintro ⟨h, h'⟩
      rcases List.mem_cons.1 hx with rfl | hx
      · exact hk h
      · rw [List.map_append, List.map_cons] at ho
        have h2 := (List.pairwise_cons.1 (List.pairwise_append.1 ho).2.1).1 _ hx
        have h3 := hpost n List.mem_cons_self
        rw [cmpE_diff hk] at h3
        rw [lessE_iff, h] at h2
        rcases h2 with h2 | ⟨h2, _⟩
        · exact h3 h2
        · exact hk h2
/-- What Get answers, and what it brings. -/
def tgV (o : Option En) (v : Value) (H : List Cd) : Prop := match o with
  | some x => ∃ (A : Option Addr) (c : Nat) (B : Option Addr) (d : Nat), v = .tuple #[.agg (enV x A c B d).toArray, .bool true] ∧ H = enOw x A c B d
  | none => v = .tuple #[.agg zE.toArray, .bool false] ∧ H = []
theorem tblC_back {TX : TypeId × List Value} {M : BS} {w0 w : World} {t : Nat} {r0 : Option Nat} {ns : List Nd} {xs : List En} {H : List Cd} (hs : St M w0 w (H ++ tabP TX t r0 ns (tszE xs : Nat))) (hx : ns.map (·.a.x) = xs) (hn : r0 = none → ns = []) (hh : ∀ n ∈ ns, 1 ≤ n.h) : St M w0 w (H ++ [.ck (tblX TX t xs)]) :=
  (((hs.map fun _ h => h.swap).pack (.ck (tblX TX t xs)) fun _ _ h => ⟨r0, ns, h, hx, hn, hh⟩).map fun _ h => Sat.swap (H1 := [_]) h)
theorem tget_any {TX : TypeId × List Value} {S : BS} {t kn e m : Nat} {xs : List En} {K : Option Addr} {key : List UInt8} {w : World} (h0 : Sat w [.ck (tblX TX t xs)] S) (ho : Ord xs) (hkn : key.length = kn) (hkey : ∀ w', Mod S w w' → RdB w' K key) (hok : ∀ x ∈ xs, x.key.length ≤ 140737488355328 ∧ x.val.length ≤ 140737488355328) :
    CallsV Tryz.prog 21 #[pN t, .slice K kn e, .int .u64 (m : Int)] w fun v w' => ∃ H, tgV (getE xs key m) v H ∧ St S w w' (H ++ [.ck (tblX TX t xs)]) := by
  subst hkn
  obtain ⟨r0, ns, h1, h2, h3, h4⟩ := tblC_get h0
  obtain ⟨pre, post, h5, h6, h7⟩ := ord_split ⟨key, m, 0, []⟩ (h2 ▸ ho)
  have hs := St.start h1
  unfold pN
  refine calls_in (N := _) Tryz.func21 rfl Tryz.ntmps21 rfl ?_; show WC _ _ _ _ _ _
  refine wc_sr ?_
  refine ws_new hs zeroE rfl ?_; clear hs; intro g6 _ hs
  refine wl_as rfl rfl ?_; refine wl_ns ?_; refine wc_sr ?_; refine wl_mv rfl rfl ?_; refine wl_mv rfl rfl ?_; refine wl_mv rfl rfl ?_
  obtain ⟨S2, hS2, _, hM, _, hB⟩ := St.lend (H1 := tabP TX t r0 ns (tszE xs : Nat)) (H2 := [.blk g6 31 zE]) (((hs.front 3 rfl).front 3 rfl).front 3 rfl)
  refine wl_call ok_mem_Table_seek (seek_any hS2 h3 h5 h6 h7 h4 rfl fun w' hm => hkey w' (hM w' hm)) ⟨rfl, rfl, rfl, trivial⟩ rfl ?_
  rintro _ w2 ⟨r, rfl, hsx⟩
  replace hs := (hB _ _ hsx).front 3 rfl
  clear hB hsx hS2 hM
  simp only [tabP, tabQ] at hs
  dsimp only [List.cons_append, List.nil_append, delC] at hs
  unfold zE at hs
  subst h5 h2
  have hge := get_eq ho h6 h7
  cases post with
  | nil =>
    unfold fstN
    refine wl_as rfl rfl ?_; refine wl_ns ?_; refine wc_seq ?_; refine wc_sr ?_; refine wl_mv rfl rfl ?_; apply wl_val; apply opv_bin; exact rfl; exact rfl; exact bin_eqlNilNil Tryz.underlying82; exact rfl; refine wl_mv rfl rfl ?_; apply wl_skip; exact rfl; exact rfl; exact rfl; exact bR1; exact rfl; apply wl_skip; exact rfl; exact rfl; exact rfl; exact bR1; exact rfl; apply wl_skip; exact rfl; exact rfl; exact rfl; exact bR1; exact rfl; apply wl_skip; exact rfl; exact rfl; exact rfl; exact bR1; exact rfl; apply wl_skip; exact rfl; exact rfl; exact rfl; exact bR1; exact rfl; apply wl_skip; exact rfl; exact rfl; exact rfl; exact bR1; exact rfl; apply wl_skip; exact rfl; exact rfl; exact rfl; exact bR1; exact rfl; apply wl_skip; exact rfl; exact rfl; exact rfl; exact bR1; exact rfl; apply wl_val; apply opv_pickT; exact rfl; exact rfl; exact rfl; exact rfl; refine wl_ns ?_; apply wc_condTb; exact rfl; exact rfl; refine wc_sr ?_
    refine wl_val (opv_build (vs := []) (cs := zE) trivial (by kernel_rfl)) rfl ?_
    apply ws_stS hs 0; exact rfl; exact rfl; exact rfl; exact sE; exact rfl; exact rfl; clear hs; intro _ hs; dsimp only [setC] at hs; refine wl_as rfl rfl ?_; refine wl_ns ?_; refine wc_ret ?_; refine we_seq_ret ?_
    exact we_retC1 rfl rfl rfl (hs.ar 0 rfl) sE ⟨_, rfl, [], by rw [hge]; exact ⟨rfl, rfl⟩, tblC_back (H := []) (hs.drop 0 rfl) rfl (by simp) h4⟩
  | cons n post =>
    unfold fstN pN
    obtain ⟨j1, _⟩ := node_wi hs 3 rfl rfl
    obtain ⟨_, _, rn, rn2⟩ := node_read hs 3 rfl rfl
    unfold eaV at j1
    refine wl_as rfl rfl ?_; refine wl_ns ?_; refine wc_seq ?_; refine wc_sr ?_; refine wl_mv rfl rfl ?_; apply wl_val; apply opv_bin; exact rfl; exact rfl; exact bin_eqlPtrNil Tryz.underlying82; exact rfl; refine wl_mv rfl rfl ?_; apply wl_take; exact rfl; exact rfl; exact rfl; exact rfl; refine wl_mv rfl rfl ?_; apply wl_take; exact rfl; exact rfl; exact rfl; exact rfl; apply wl_val; apply opv_nilOk; exact rfl; exact rfl; apply wl_take; exact rfl; exact rfl; exact rfl; exact rfl; apply wl_val; apply opv_fa; exact fa_N0; exact rfl; exact rfl; apply wl_take; exact rfl; exact rfl; exact rfl; exact rfl; apply wl_val; apply opv_fa; exact fa_sE (by decide); exact rfl; exact rfl; apply wl_take; exact rfl; exact rfl; exact rfl; exact rfl; apply wl_val; apply opv_ldX; exact rfl; assumption; exact e1_by; exact rfl; exact rfl; apply wl_take; exact rfl; exact rfl; exact rfl; exact rfl; refine wl_mv rfl rfl ?_; apply wl_take; exact rfl; exact rfl; exact rfl; exact rfl
    refine wl_call ok_codec_Cmp (cmp_any rn (hkey _ hs.1) rfl rfl) ⟨rfl, rfl, trivial⟩ rfl ?_
    rintro _ _ ⟨rfl, rfl⟩
    by_cases hk : n.a.x.key = key
    · have hc : cmpB n.a.x.key key = 0 := by rw [hk]; exact cmp_refl _
      apply wl_take; exact rfl; exact rfl; exact rfl; exact rfl; refine wl_bin rfl rfl bin_neq rfl ?_; apply wl_val; apply opv_pickF; exact rfl; exact rfl; exact rfl; exact rfl; refine wl_ns ?_; apply wc_decF; exact rfl; omega; refine wc_skip ?_; refine we_seq ?_; refine wc_sr ?_; refine wl_mv rfl rfl ?_; apply wl_val; apply opv_nilOk; exact rfl; exact rfl; apply wl_val; apply opv_fa; exact fa_N0; exact rfl; exact rfl; apply wl_val; apply opv_ldG; exact rfl; assumption; exact sE; exact rfl
      obtain ⟨l1, l2⟩ := hok n.a.x (List.mem_map_of_mem (by simp))
      refine wl_call ok_mem_twin (ttwin_any rn rn2 l1 l2) ⟨rfl, trivial⟩ rfl ?_
      rintro _ w3 ⟨A, c, B, d, rfl, hsx⟩
      replace hs := hs.call hsx
      unfold enOw at hs
      dsimp only [List.cons_append, List.nil_append] at hs
      apply ws_stS hs 2; exact rfl; exact rfl; exact rfl; exact sE; exact rfl; exact rfl; clear hs; intro _ hs; dsimp only [setC] at hs; refine wl_as rfl rfl ?_; refine wl_ns ?_; refine wc_ret ?_
      exact we_retC1 rfl rfl rfl (hs.ar 2 rfl) sE ⟨_, rfl, enOw n.a.x A c B d, by rw [hge, hdE, if_pos hk]; exact ⟨A, c, B, d, rfl, rfl⟩, tblC_back (H := enOw n.a.x A c B d) (hs.drop 2 rfl) rfl (by simp) h4⟩
    · have hc : ¬ cmpB n.a.x.key key = 0 := fun h => hk (cmp_zero h)
      apply wl_take; exact rfl; exact rfl; exact rfl; exact rfl; refine wl_bin rfl rfl bin_neq rfl ?_; apply wl_val; apply opv_pickF; exact rfl; exact rfl; exact rfl; exact rfl; refine wl_ns ?_; apply wc_decT; exact rfl; (with_reducible assumption); refine wc_sr ?_
      refine wl_val (opv_build (vs := []) (cs := zE) trivial (by kernel_rfl)) rfl ?_
      apply ws_stS hs 0; exact rfl; exact rfl; exact rfl; exact sE; exact rfl; exact rfl; clear hs; intro _ hs; dsimp only [setC] at hs; refine wl_as rfl rfl ?_; refine wl_ns ?_; refine wc_ret ?_; refine we_seq_ret ?_
      exact we_retC1 rfl rfl rfl (hs.ar 0 rfl) sE ⟨_, rfl, [], by rw [hge, hdE, if_neg hk]; exact ⟨rfl, rfl⟩, tblC_back (H := []) (hs.drop 0 rfl) rfl (by simp) h4⟩
end Go.Proofs.YtdgagffieobiiaaGreatDoor
