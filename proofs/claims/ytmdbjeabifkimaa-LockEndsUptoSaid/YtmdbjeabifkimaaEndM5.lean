/-
  The texts of this proof, joined: Ns, Zd, Nt, Nu.
-/
import Derived.Test.YtmdbjeabifkimaaEndM4
import Derived.Test.YtmdbjeabifkimaaEndM2

/-
  Acts of the lock laws: in memory, as arguments; walks over awake, few, twins and calls.
-/
namespace Go.Proofs.Ytmdbjeabifkimaa
open Go.RowKit Go.ChangeShapes Go.WideShapes Go.ChangeAt Go.Deep

/-- One act. -/
structure Ac where
  k : Int
  x : Tx
  l : List Rg
def acV (a : Ac) (A : Option Addr) (c : Nat) : List Value := [.int .i64 a.k, .int .u64 (a.x.1 : Int), .int .u64 (a.x.2 : Int), .slice A a.l.length c]
def acEl (a : Ac) : El where
  P w S cs := ∃ (A : Option Addr) (c : Nat), cs = acV a A c ∧ (rowEl 3 (a.l.map rgEl)).P w S [.slice A a.l.length c]
  move := by rintro w w' S S' cs ⟨A, c, h, h1⟩ hz hm; exact ⟨A, c, h, El.move _ h1 hz hm⟩
theorem acEl.rd {w : World} {S : BS} {a : Ac} {cs : List Value} (h : (acEl a).P w S cs) : ∃ A c, cs = acV a A c ∧ a.l.length ≤ c ∧ RdR 3 w S A (a.l.map rgEl) := by
  obtain ⟨A, c, h0, h1⟩ := h
  obtain ⟨_, h3, h4⟩ := rowEl.rd h1
  exact ⟨A, c, h0, h3, h4⟩
def rgB (r : Rg) : Nat := r.fr.length + r.to.length
def acB (a : Ac) : Nat := sumB rgB a.l
theorem sAc : StT Try.prog 50 4 := ⟨by kernel_rfl, by kernel_rfl⟩
theorem fa_Ac0 : FieldAt Try.prog 50 0 0 := fieldAt_mk Try.underlying50 rfl rfl (by kernel_rfl)
theorem fa_Ac1 : FieldAt Try.prog 50 1 1 := fieldAt_mk Try.underlying50 rfl rfl (by kernel_rfl)
theorem fa_Ac2 : FieldAt Try.prog 50 2 3 := fieldAt_mk Try.underlying50 rfl rfl (by kernel_rfl)
def zAc : List Value := [.int .i64 0, .int .u64 0, .int .u64 0, .slice none 0 0]
theorem zeroAc : (Try.prog.info? 50).map (·.zero) = some (some (.agg zAc.toArray)) := by kernel_rfl
theorem tkAc : RowK Try.prog 22 50 4 (.agg zAc.toArray) 48 := ⟨Try.underlying22, by kernel_rfl, by simp [zAc, Value.cells], by decide⟩
def zTb : List Value := [.slice none 0 0, .slice none 0 0]
theorem zeroTb : (Try.prog.info? 47).map (·.zero) = some (some (.agg zTb.toArray)) := by kernel_rfl
def Tx64 (x : Tx) : Prop := x.1 < 2 ^ 64 ∧ x.2 < 2 ^ 64
theorem len3' {α : Type} : ∀ {l : List α}, l.length = 3 → ∃ a b c, l = [a, b, c]
  | [a, b, c], _ => ⟨a, b, c, rfl⟩
theorem len2' {α : Type} : ∀ {l : List α}, l.length = 2 → ∃ a b, l = [a, b]
  | [a, b], _ => ⟨a, b, rfl⟩
theorem opens_rg : Opens Try.prog 61 rgEl 3 rgB (fun _ => True) := fun {H} enc W fuel cs x h => by
  obtain ⟨xs, n, rfl, rfl, hl, hx, hf⟩ := DataW.trod_struct Try.underlying61 h
  replace hl : cs.length = 3 := hl.trans (by kernel_rfl)
  obtain ⟨c0, c1, c2, rfl⟩ := len3' hl
  obtain ⟨y0, y1, y2, rfl⟩ := len3' hx
  obtain ⟨a0, h0, _, k0, b0⟩ := opens_bytes enc W n [c0] y0 (field_at hf (i := 0) (off := 0) (k := 1) (t := 51) rfl rfl rfl (by kernel_rfl))
  obtain ⟨a1, h1, _, k1, b1⟩ := opens_bytes enc W n [c1] y1 (field_at hf (i := 1) (off := 1) (k := 1) (t := 51) rfl rfl rfl (by kernel_rfl))
  obtain ⟨a2, h2, _, k2, b2⟩ := opens_bool Try.underlying4 enc W n [c2] y2 (field_at hf (i := 2) (off := 2) (k := 1) (t := 4) rfl rfl rfl (by kernel_rfl))
  obtain rfl : c2 = .bool a2 := by simpa [vEl] using h2
  have h0' := h0
  have h1' := h1
  obtain ⟨A, c, e0, _⟩ := h0
  obtain ⟨B, d, e1, _⟩ := h1
  obtain rfl : c0 = .slice A a0.length c := by simpa using e0
  obtain rfl : c1 = .slice B a1.length d := by simpa using e1
  refine ⟨⟨a0, a1, a2⟩, ⟨A, c, B, d, rfl, h0', h1'⟩, rfl, trivial, ?_⟩
  replace b0 : a0.length + 1 ≤ _ := b0
  replace b1 : a1.length + 1 ≤ _ := b1
  simp only [rgB, Rows.uptoBulk, Rows.uptoBulkAll, List.map_cons, List.map_nil]
  omega
theorem opens_rgs : Opens Try.prog 34 (fun l : List Rg => rowEl 3 (l.map rgEl)) 1 (sumB rgB) (fun l => ∀ a ∈ l, True) := opens_slice tkR (by kernel_rfl) opens_rg
def txEl (x : Tx) : El := rawEl (txV x)
theorem opens_txn : Opens Try.prog 30 txEl 2 (fun _ => 0) Tx64 := fun {H} enc W fuel cs x h => by
  obtain ⟨xs, n, rfl, rfl, hl, hx, hf⟩ := DataW.trod_struct Try.underlying30 h
  replace hl : cs.length = 2 := hl.trans (by kernel_rfl)
  obtain ⟨c0, c1, rfl⟩ := len2' hl
  obtain ⟨y0, y1, rfl⟩ := len2' hx
  obtain ⟨a0, h0, _, k0, b0⟩ := opens_int Try.underlying28 enc W n [c0] y0 (field_at hf (i := 0) (off := 0) (k := 1) (t := 28) rfl rfl rfl (by kernel_rfl))
  obtain ⟨a1, h1, _, k1, b1⟩ := opens_int Try.underlying28 enc W n [c1] y1 (field_at hf (i := 1) (off := 1) (k := 1) (t := 28) rfl rfl rfl (by kernel_rfl))
  obtain rfl : c0 = .int .u64 a0 := by simpa [vEl] using h0
  obtain rfl : c1 = .int .u64 a1 := by simpa [vEl] using h1
  have k0' : 0 ≤ a0 ∧ a0 ≤ 18446744073709551615 := by simpa [Lit.wf, IntKind.min, IntKind.max, IntKind.signed, IntKind.bits] using k0
  have k1' : 0 ≤ a1 ∧ a1 ≤ 18446744073709551615 := by simpa [Lit.wf, IntKind.min, IntKind.max, IntKind.signed, IntKind.bits] using k1
  obtain ⟨s, rfl⟩ := Int.eq_ofNat_of_zero_le k0'.1
  obtain ⟨q, rfl⟩ := Int.eq_ofNat_of_zero_le k1'.1
  refine ⟨(s, q), rfl, rfl, ⟨?_, ?_⟩, by simp only [Rows.uptoBulk, Rows.uptoBulkAll, List.map_cons, List.map_nil]; omega⟩
  · show s < 2 ^ 64; omega
  · show q < 2 ^ 64; omega
theorem opens_act : Opens Try.prog 50 acEl 4 acB (fun a => Tx64 a.x) := fun {H} enc W fuel cs x h => by
  obtain ⟨xs, n, rfl, rfl, hl, hx, hf⟩ := DataW.trod_struct Try.underlying50 h
  replace hl : cs.length = 4 := hl.trans (by kernel_rfl)
  obtain ⟨c0, c1, c2, c3, rfl⟩ := len4 hl
  obtain ⟨y0, y1, y2, rfl⟩ := len3' hx
  obtain ⟨a0, h0, _, k0, b0⟩ := opens_int Try.underlying3 enc W n [c0] y0 (field_at hf (i := 0) (off := 0) (k := 1) (t := 3) rfl rfl rfl (by kernel_rfl))
  obtain ⟨a1, h1, _, k1, b1⟩ := opens_txn enc W n [c1, c2] y1 (field_at hf (i := 1) (off := 1) (k := 2) (t := 30) rfl rfl rfl (by kernel_rfl))
  obtain ⟨a2, h2, _, k2, b2⟩ := opens_rgs enc W n [c3] y2 (field_at hf (i := 2) (off := 3) (k := 1) (t := 34) rfl rfl rfl (by kernel_rfl))
  obtain rfl : c0 = .int .i64 a0 := by simpa [vEl] using h0
  have h1' : [c1, c2] = txV a1 := h1
  simp only [txV, List.cons.injEq, and_true] at h1'
  obtain ⟨rfl, rfl⟩ := h1'
  have h2' := h2
  obtain ⟨A, c, e2, _⟩ := h2
  rw [List.length_map] at e2
  obtain rfl : c3 = .slice A a2.length c := by simpa using e2
  refine ⟨⟨a0, a1, a2⟩, ⟨A, c, rfl, h2'⟩, rfl, k1, ?_⟩
  replace b2 : sumB rgB a2 + 1 ≤ _ := b2
  simp only [acB, Rows.uptoBulk, Rows.uptoBulkAll, List.map_cons, List.map_nil]
  omega
theorem opens_acts : Opens Try.prog 22 (fun l : List Ac => rowEl 4 (l.map acEl)) 1 (sumB acB) (fun l => ∀ a ∈ l, Tx64 a.x) := opens_slice tkAc (by kernel_rfl) opens_act
theorem rgs_small {l : List Rg} {n : Nat} (h : sumB rgB l ≤ n) : l.length ≤ n ∧ ∀ x ∈ l, x.fr.length ≤ n ∧ x.to.length ≤ n := by
  have h1 := sumB_len (bulk := rgB) l
  refine ⟨by omega, fun x hx => ?_⟩
  have h2 := sumB_mem (bulk := rgB) hx
  have h3 : rgB x = x.fr.length + x.to.length := rfl
  omega
theorem acs_small {l : List Ac} {n : Nat} (h : sumB acB l ≤ n) : l.length ≤ n ∧ ∀ a ∈ l, a.l.length ≤ n ∧ ∀ x ∈ a.l, x.fr.length ≤ n ∧ x.to.length ≤ n := by
  have h1 := sumB_len (bulk := acB) l
  refine ⟨by omega, fun a ha => rgs_small ?_⟩
  have h2 := sumB_mem (bulk := acB) ha
  have h3 : acB a = sumB rgB a.l := rfl
  omega
/-! #### What acts make of a table -/
noncomputable def stepT (tb : Tb) (a : Ac) : Tb := if a.k = 2 then (relT tb a.x).1 else (askT tb a.x a.l).t
noncomputable def runT (l : List Ac) : Tb := l.foldl stepT ⟨[], []⟩
theorem LkI.step {tb : Tb} (h : LkI tb) (a : Ac) : LkI (stepT tb a) := by
  unfold stepT; split
  · exact h.rel _
  · exact h.ask _ _
theorem LkS.step {k : Nat} {tb : Tb} (h : LkS k tb) (a : Ac) : LkS (k + 1) (stepT tb a) := by
  unfold stepT; split
  · exact (h.rel _).mono (by omega)
  · exact h.ask _ _
theorem LkS.empty : LkS 0 ⟨[], []⟩ := ⟨Nat.le_refl _, by simp⟩
theorem run_take {l : List Ac} {k : Nat} {a : Ac} (h : l[k]? = some a) : runT (l.take (k + 1)) = stepT (runT (l.take k)) a := by
  rw [List.take_add_one, h, Option.toList_some, runT, List.foldl_append]; rfl
theorem run_ok (l : List Ac) : LkI (runT l) ∧ LkS l.length (runT l) := by
  have key : ∀ k, k ≤ l.length → LkI (runT (l.take k)) ∧ LkS k (runT (l.take k)) := by
    intro k
    induction k with
    | zero => exact fun _ => ⟨LkI.empty, LkS.empty⟩
    | succ k ih =>
      intro hk
      rw [run_take (List.getElem?_eq_getElem (by omega))]
      exact ⟨(ih (by omega)).1.step _, (ih (by omega)).2.step _⟩
  have := key l.length (Nat.le_refl _)
  rwa [List.take_length] at this
/-! #### The walks -/
theorem take_rdA {w : World} {S : BS} {A : Option Addr} {l : List Ac} {c m : Nat} (h : RdR 4 w S A (l.map acEl)) (hc : l.length ≤ c) : RdR 4 w S A ((l.take m).map acEl) := by
  rcases Nat.lt_or_ge m l.length with h1 | h1
  · have := RdR.cut h (by simp) (Nat.zero_le m) (Nat.le_of_lt h1) hc
    rw [cutK_zero, List.drop_zero, ← List.map_take] at this
    exact this
  · rw [List.take_of_length_le h1]; exact h
theorem few_any {A : Option Addr} {n c m : Nat} {l : List Ac} {w : World} (hn : l.length = n) (hc : n ≤ c) :
    CallsV Try.prog 21 #[.slice A n c, .int .i64 (m : Int)] w fun v w' => v = .slice A (l.take m).length c ∧ w = w' := by
  subst hn
  refine calls_in (N := _) Try.func21 rfl Try.ntmps21 rfl ?_; show WC _ _ _ _ _ _
  refine wc_sr ?_; refine wl_as rfl rfl ?_; refine wl_ns ?_; refine wc_seq ?_; refine wc_sr ?_; refine wl_mv rfl rfl ?_; apply wl_val; apply opv_len; exact rfl; exact tkAc.sl; exact rfl; refine wl_mv rfl rfl ?_; refine wl_bin rfl rfl bin_gtr rfl ?_; refine wl_ns ?_
  refine wc_cond rfl (fun h1 => ?_) (fun h1 => ?_)
  · refine wc_region ?_; refine wl_mv rfl rfl ?_; refine wl_mv rfl rfl ?_
    refine wl_slK (l := 0) (h := m) tkAc rfl rfl ⟨_, rfl⟩ (by omega) (by omega) rfl ?_
    rw [cutK_zero]
    refine wl_as rfl rfl ?_; refine wl_ns ?_; refine wc_sr ?_; refine wl_mv rfl rfl ?_; refine wl_as rfl rfl ?_; refine wl_ns ?_; refine wc_ret ?_
    exact we_ret1 rfl rfl ⟨_, rfl, slice_eq (by simp; omega), rfl⟩
  · refine wc_skip ?_; refine we_seq ?_; refine wc_sr ?_; refine wl_mv rfl rfl ?_; refine wl_as rfl rfl ?_; refine wl_ns ?_; refine wc_ret ?_
    exact we_ret1 rfl rfl ⟨_, rfl, slice_eq (by simp; omega), rfl⟩
theorem twinsL_any {A : Option Addr} {n c : Nat} {l : List Rg} {w : World} (hr : RdR 3 w All A (l.map rgEl)) (hn : l.length = n) (hl : l.length ≤ 4294967296) (hok : ∀ x ∈ l, x.fr.length ≤ 1048576 ∧ x.to.length ≤ 1048576) :
    CallsV Try.prog 19 #[.slice A n c] w (RetRg w l) := by
  subst hn
  have hs := (St.init w).nilG 3 61
  refine calls_in (N := _) Try.func19 rfl Try.ntmps19 rfl ?_; show WC _ _ _ _ _ _
  refine wc_sr ?_; refine wl_as rfl rfl ?_; refine wl_ns ?_; refine wc_sr ?_; refine wl_as rfl rfl ?_; refine wl_ns ?_; refine wc_seq ?_; refine wc_sr ?_; refine wl_mv rfl rfl ?_; apply wl_val; apply opv_len; exact rfl; exact tkR.sl; exact rfl; refine wl_mv rfl rfl ?_; refine wl_ns ?_; refine wc_block ?_
  refine wc_loop (fun L wr mm => ∃ (k : Nat) (P : Option Addr) (cp : Nat), L = [(6, .slice A l.length c), (7, .int .i64 (l.length : Int)), (3, .slice P k cp), (8, .int .i64 (k : Int))] ∧ k ≤ l.length ∧ St NoB w wr [.rg 3 61 P cp ((l.take k).map rgEl)] ∧ mm = l.length - k)
    [(6, .slice A l.length c), (7, .int .i64 (l.length : Int)), (3, .slice none 0 0), (8, .int .i64 (0 : Nat))] l.length ⟨0, none, 0, rfl, by omega, hs, rfl⟩ ⟨rfl, rfl, rfl, rfl, trivial⟩ ?_
  clear hs
  rintro _ w1 mm ⟨k, P, cp, rfl, hk, hs, rfl⟩
  refine wc_sr ?_; refine wl_bin rfl rfl bin_lss rfl ?_; refine wl_ns ?_; refine wc_seq ?_
  refine wc_cond rfl (fun h1 => ?_) (fun h1 => ?_)
  · obtain ⟨x, hx⟩ : ∃ x, l[k]? = some x := ⟨_, List.getElem?_eq_getElem (by omega)⟩
    have hox := hok x (List.mem_of_getElem? hx)
    obtain ⟨bb, o, cs, rfl, _, _, hp, i1⟩ := RdR.at (k := 3) (by decide) hr (E := rgEl x) (i := k) (by rw [List.getElem?_map, hx]; rfl)
    obtain ⟨X, cx, Y, cy, rfl, rx, _, ry, _⟩ := rgEl.rd hp
    replace i1 := i1.below hs.bel
    refine wc_skip ?_; refine we_seq ?_; refine wc_seq ?_; refine wc_block ?_; refine wc_sr ?_; apply wl_val; apply opv_idxG tkR; exact rfl; exact rfl; exact rfl; omega; exact rfl; apply wl_val; apply opv_ldG; exact rfl; assumption; exact sR; exact rfl
    refine ws_var (cs := rgV x X cx Y cy) hs zeroRg sR rfl (fun _ => rfl) (by first | rfl | simp [Value.oneCell']) rfl ?_; clear hs; intro g5 _ hs
    unfold rgV at hs
    refine wl_ns ?_
    replace hs := hs.below (Below.refl _ _).drew
    refine wc_held (fun w => Ar w g5 61 [.slice X x.fr.length cx, .slice Y x.to.length cy, .bool x.ex]) mixed ?_
    have hS := hs.ar 0 rfl
    apply wh_takeH 0; exact rfl; intro _ hw_; apply opv_move; exact rfl; exact rfl; kernel_rfl; exact hS; apply wh_takeH 1; exact rfl; intro _ hw_; apply opv_fa; exact fa_sR (by decide); exact rfl; exact rfl; kernel_rfl; exact hS; apply wh_takeH 2; exact rfl; intro _ hw_; apply opv_ldX; exact rfl; assumption; exact e1_by; exact rfl; exact rfl; kernel_rfl; exact hS; apply wh_takeH 4; exact rfl; intro _ hw_; apply opv_fa; exact fa_sR (by decide); exact rfl; exact rfl; kernel_rfl; exact hS; apply wh_takeH 5; exact rfl; intro _ hw_; apply opv_ldX; exact rfl; assumption; exact e1_by; exact rfl; exact rfl; kernel_rfl; exact hS; apply wh_takeH 7; exact rfl; intro _ hw_; apply opv_fa; exact fa_sR (by decide); exact rfl; exact rfl; kernel_rfl; exact hS; apply wh_takeH 8; exact rfl; intro _ hw_; apply opv_ldX; exact rfl; assumption; exact e1_bool; exact rfl; exact rfl; kernel_rfl; exact hS
    clear hS
    refine wh_one 3 (o := ⟨_, _, _, _, _, _⟩) (by kernel_rfl) rfl ?_
    refine wl_call ok_caissonref01_Copy (copy_any (rx.below hs.bel) rfl (by omega)) ⟨rfl, trivial⟩ rfl ?_; rintro _ _ ⟨C, e, rfl, o_, hbx⟩; replace hs := hs.newO hbx o_ (Nat.le_refl _); try dsimp only [List.cons_append, List.nil_append, setC, delC] at hs
    refine wl_nil ?_
    refine we_held (hs.ar 1 rfl) ?_
    refine wh_one 6 (o := ⟨_, _, _, _, _, _⟩) (by kernel_rfl) rfl ?_
    refine wl_call ok_caissonref01_Copy (copy_any (ry.below hs.bel) rfl (by omega)) ⟨rfl, trivial⟩ rfl ?_; rintro _ _ ⟨D, f, rfl, o_, hbx⟩; replace hs := hs.newO hbx o_ (Nat.le_refl _); try dsimp only [List.cons_append, List.nil_append, setC, delC] at hs
    refine wl_nil ?_
    refine we_held (hs.ar 2 rfl) ?_
    refine wh_one 9 (o := ⟨_, _, _, _, _, _⟩) (by kernel_rfl) rfl ?_
    refine wl_val (opv_build (vs := [(0, .slice C x.fr.length e), (1, .slice D x.to.length f), (2, .bool x.ex)]) (cs := rgV x C e D f) ⟨rfl, rfl, rfl, rfl, rfl, rfl, trivial⟩ (by kernel_rfl)) rfl ?_
    refine wl_nil ?_
    refine we_held (hs.ar 2 rfl) ?_
    refine wh_one 10 (o := ⟨_, _, _, _, _, _⟩) (by kernel_rfl) rfl ?_
    refine wl_bsG (css := [rgV x C e D f]) tkR ⟨rfl, ⟨_, rfl, rfl⟩, rfl, trivial⟩ (els := [rgV x C e D f].map rawEl) (S := NoB) rfl (by decide) (by decide) (grp_raw (by simp [rgV])) rfl fun R w7 hR hbx _ => ?_
    replace hs := ((((hs.front 1 rfl).pack (H1 := [_, _]) (.ce (rgEl x) (rgV x C e D f)) rgEl_of).newG hbx hR (Nat.le_refl _) fun _ _ h => h.elim))
    clear hR hbx
    refine wl_nil ?_
    refine we_held (hs.ar 2 rfl) ?_
    refine wh_one 11 (o := ⟨_, _, _, _, _, _⟩) (by kernel_rfl) rfl ?_
    refine ws_appR (css := [rgV x C e D f]) (m := 1) hs 3 rfl rfl tkR (by simp; omega) rfl (OwR.rd (hs.rg 0 rfl)) rfl (rgV_all _ _ _ _ _) (by omega) (by simp only [maxLen]; omega) rfl ?_
    clear hs; intro P2 cp2 w8 hs; dsimp only [setC] at hs
    refine wl_nil ?_
    refine we_held (hs.ar 2 rfl) ?_
    refine wh_one 12 (o := ⟨_, _, _, _, _, _⟩) (by kernel_rfl) rfl ?_
    refine wl_as rfl rfl ?_; refine wl_nil ?_
    refine we_held (hs.ar 2 rfl) ?_
    refine wh_done (by kernel_rfl) ?_
    refine we_block_norm ?_; refine we_seq ?_; refine wc_region ?_; apply wl_val; apply opv_bin; exact rfl; exact rfl; exact bin_add64 (by omega); exact rfl; refine wl_mv rfl rfl ?_; refine wl_nil ?_
    replace hs := St.rgCe (((hs.front 3 rfl).drop 1 rfl).drop 2 rfl)
    refine we_loop _ (l.length - (k + 1)) ⟨k + 1, P2, cp2, rfl, by omega, by rw [take_getR hx, List.map_append]; exact hs, rfl⟩ (by omega) ⟨rfl, rfl, rfl, by simp [lookT], trivial⟩
  · obtain rfl : k = l.length := by omega
    rw [List.take_length] at hs
    refine wc_exit ?_; refine we_seq_exit ?_; refine we_loop_exit ?_; refine we_block_exit ?_; refine we_seq ?_; refine wc_sr ?_; refine wl_mv rfl rfl ?_; refine wl_as rfl rfl ?_; refine wl_ns ?_; refine wc_ret ?_
    exact we_ret1 rfl rfl ⟨_, rfl, P, cp, rfl, hs⟩
/-- An empty table. -/
theorem St.lkNil {M : BS} {w0 w : World} {H : List Cd} {t : Nat} (hs : St M w0 w (.blk t 47 zTb :: H)) : St M w0 w (.ck (lkC t (fun _ => 0) ⟨[], []⟩) :: H) := by
  have h1 := ((hs.pack (H1 := []) (.ck (packC [])) fun w S h => h).nilO 75).nilO 75
  have h2 := h1.front 3 rfl
  unfold zTb at h2
  dsimp only [delC] at h2
  exact St.lkMk (gp := fun _ => 0) (tb := ⟨[], []⟩) h2 rfl rfl rfl rfl rfl
end Go.Proofs.Ytmdbjeabifkimaa


/-
  The bytes of a constant string, over pieces: made, marked, and read from then on. Nothing here names the program.
-/
namespace Go.Proofs.Ytmdbjeabifkimaa
open Go.RowKit

theorem zell_freeze (w : World) (a : Addr) (n : Nat) (p : Addr) : (w.freeze a n).cell? p = w.cell? p := by
  unfold World.freeze
  split
  · rfl
  · unfold World.cell?
    simp only [Array.getElem?_modify]
    by_cases h : a.block = p.block
    · rw [if_pos h]
      cases w.heap[p.block]? with
      | none => rfl
      | some o => cases o <;> rfl
    · rw [if_neg h]
theorem zelow_freeze {B : Nat} (w : World) (a : Addr) (n : Nat) (h : B ≤ a.block) : Below B w (w.freeze a n) := by
  unfold World.freeze
  split
  · exact Below.refl _ _
  · refine ⟨rfl, rfl, rfl, by simp, fun j hj => ?_⟩
    simp only [Array.getElem?_modify]
    rw [if_neg (by omega)]
section
variable {P : Program} {N : Nat} {ops : Array Oper} {Q : Exit → Act → World → Prop} {rest : List Oper} {L : FL} {w0 w : World} {M : BS} {H : List Cd} {t e : TypeId} {bytes : Nat}
theorem ws_lit {d1 d2 len : Nat} {ps : List (Nat × Operand)} {ty1 ty2 : TypeId} {p1 p2 : String} {f1 f2 : Array Edge} (hs : St M w0 w H) (xs : List UInt8) (T : Row1 P t e (.int .u8 0) bytes) (he : P.underlying e = some (.int .u8)) (hp : PLooks L 0 ps (bvs xs)) (hl : xs.length = len) (hle : len ≤ 16777216) (h0 : 0 < len) (hd1 : Nat.blt d1 N = true) (hd2 : Nat.blt d2 N = true)
    (h : ∀ p A w', St M w0 w' (.ce (byEl xs) [.slice A xs.length xs.length] :: H) → WL P N ops Q rest ((d2, .slice A xs.length xs.length) :: (d1, p) :: L) w') :
    WL P N ops Q (⟨some d1, .buildSlice t len ps.toArray, ty1, p1, f1, none⟩ :: ⟨some d2, .convert t t (.tmp d1), ty2, p2, f2, none⟩ :: rest) L w := by
  subst hl
  refine wl_bs T hp (bvs_length xs) hle hd1 fun A w1 ho hb _ => ?_
  have hr : RdR 1 w1 All A [] := RdR.nil _
  have hr : Rd w1 A xs.length (bvs xs) := ho.rd
  obtain ⟨b, o, rfl, hb1, hc⟩ := hr.2 h0
  have hlen : 0 < (bvs xs).length := by rw [bvs_length]; exact h0
  have h0c := hc 0 (bvs xs)[0] (List.getElem?_eq_getElem hlen)
  obtain ⟨k, hk⟩ : ∃ k, w1.shape? b = some k := by
    unfold World.cell? at h0c
    unfold World.shape?
    simp only at h0c
    cases hh : w1.heap[b]? with
    | none => rw [hh] at h0c; cases h0c
    | some ob => cases ob <;> first | exact ⟨_, rfl⟩ | (rw [hh] at h0c; cases h0c)
  have hge : w.heap.size ≤ b := (Ow.lt ho _ rfl).1
  have hbf : Below w.heap.size w (w1.freeze ⟨b, k.2, none⟩ 1) := hb.trans (zelow_freeze _ _ _ hge)
  refine wl_val (v := .slice (some ⟨b, o, none⟩) xs.length xs.length) (w' := w1.freeze ⟨b, k.2, none⟩ 1) (fun ρ op hρ ho _ => ?_) hd2 (h _ _ _ ?_)
  · unfold execOp
    simp only [ho, hρ (.tmp d1) (.slice (some ⟨b, o, none⟩) xs.length xs.length) (by simp [look, lookT]), convert, Sem.run_bind, run_underlying T.sl, Result.andThen_ok]
    simp [run_underlying he, markStringish, hk]
  · refine hs.new (T := fun b => w.heap.size ≤ b) (c := .ce (byEl xs) [.slice (some ⟨b, o, none⟩) xs.length xs.length]) hbf ?_ fun _ _ h => h
    refine byEl.mk ⟨hr.1, fun _ => ⟨b, o, rfl, ?_, fun j u hu => by rw [zell_freeze]; exact hc j u hu⟩⟩ (Nat.le_refl _) fun a ha _ => by cases ha; exact hge
    unfold World.freeze; simp; exact hb1
end
end Go.Proofs.Ytmdbjeabifkimaa


/-
  Walks over awake and calls of the lock laws.
-/
namespace Go.Proofs.Ytmdbjeabifkimaa
open Go.RowKit

theorem ar_wiA {w : World} {g : Nat} {a : Ac} {A : Option Addr} {c : Nat} (h : Ar w g 50 (acV a A c)) : Wi w g (0 + 1) (txV a.x) := ⟨h.lt, fun j u hu => (h.cell (0 + 1 + j)).trans (by
  match j, hu with
  | 0, hu => exact hu
  | 1, hu => exact hu
  | j + 2, hu => simp [txV] at hu)⟩
theorem rg_rdr {w : World} {T : BS} {e : TypeId} {A : Option Addr} {c : Nat} {els : List El} (h : (Cd.rg 3 e A c els).P w T) : RdR 3 w All A els := OwR.rd h.2
abbrev r1 : Rg := ⟨[97], [98], true⟩
abbrev tb1 : Tb := ⟨[⟨(1, 0), [r1], []⟩], []⟩
abbrev tb2 : Tb := ⟨[⟨(1, 0), [r1], []⟩, ⟨(2, 0), [], [r1]⟩], [(2, 0)]⟩
theorem aw_1 : askT ⟨[], []⟩ (1, 0) [r1] = ⟨tb1, 1, [], [], 0⟩ := by
  rw [askT, if_neg (by decide), if_neg (by decide), if_pos (by decide)]
  rfl
theorem victs_none {tb : Tb} (h : Acyc tb) : ∀ n, victs n tb = (tb, [])
  | 0 => rfl
  | n + 1 => by rw [victs, victim_eq_none fun o _ => h o.x]
theorem Acyc.single {tb : Tb} (hn : tb.qu.Nodup) {x : Tx} (h : ∀ y ∈ tb.qu, y = x) : Acyc tb := fun z hz => by
  have hx : z = x := h z (circ_qu hz)
  cases hz with
  | single h1 => exact absurd rfl ((ed_iff hn).1 h1).2.1
  | tail _ h1 => exact absurd ((h _ h1.1).trans hx.symm) ((ed_iff hn).1 h1).2.1
theorem aw_2 : askT tb1 (2, 0) [r1] = ⟨tb2, 2, [], [], 0⟩ := by
  have hq : askQ tb1 (2, 0) [r1] = tb2 := rfl
  have hv : victs (tb1.qu.length + 2) tb2 = (tb2, []) := victs_none (Acyc.single (x := (2, 0)) (by simp) (by simp)) _
  have hg : goT tb2 = (tb2, []) := by
    show goStep (tb2, []) (2, 0) = _
    rw [goStep, if_neg (by decide)]
  rw [askT, if_neg (by decide), if_neg (by decide), if_neg (by decide)]
  dsimp only
  rw [hq, hv]
  dsimp only
  rw [hg]
  rfl
theorem aw_3 : (relT tb2 (1, 0)).2 = [(2, 0)] := by
  rw [relT, if_pos (by decide)]
  show (goStep (dropO (leaveT tb2 (1, 0)) (1, 0), []) (2, 0)).2 = _
  rw [goStep, if_pos (by decide)]
  rfl
theorem aw_ok : Wf tb1 ∧ Wf tb2 := by
  have h1 := (LkI.empty.ask (1, 0) [r1])
  rw [aw_1] at h1
  have h2 := h1.ask (2, 0) [r1]
  rw [aw_2] at h2
  exact ⟨h1.wf, h2.wf⟩
set_option maxRecDepth 8000 in
theorem calls_any {A : Option Addr} {n c : Nat} {l : List Ac} {w : World} (hr : RdR 4 w All A (l.map acEl)) (hn : l.length = n) (hc : n ≤ c) (hl : sumB acB l ≤ 1048576) :
    CallsV Try.prog 10 #[.slice A n c] w fun v w' => ∃ (t : Nat) (gp : Tx → Nat), v = pN t ∧ St NoB w w' [.ck (lkC t gp (runT (l.take 40)))] := by
  obtain ⟨hl1, hok1⟩ := acs_small hl
  have hs := St.init w
  refine calls_in (N := _) Try.func10 rfl Try.ntmps10 rfl ?_; show WC _ _ _ _ _ _
  refine wc_sr ?_; refine wl_as rfl rfl ?_; refine wl_ns ?_; refine wc_sr ?_
  refine wl_val (opv_build (vs := []) (cs := zTb) trivial (by kernel_rfl)) rfl ?_
  refine ws_box (cs := zTb) hs rfl rfl ?_
  clear hs; intro t w1 hs
  replace hs := hs.lkNil
  refine wl_as rfl rfl ?_; refine wl_ns ?_; refine wc_seq ?_; refine wc_sr ?_; refine wl_mv rfl rfl ?_
  refine wl_call ok_caissonlaw16_few (few_any (m := 40) hn hc) ⟨rfl, rfl, trivial⟩ rfl ?_; rintro _ _ ⟨rfl, rfl⟩
  have hr2 := take_rdA (m := 40) hr (by omega)
  have hok : ∀ a ∈ l.take 40, a.l.length ≤ 1048576 ∧ ∀ x ∈ a.l, x.fr.length ≤ 1048576 ∧ x.to.length ≤ 1048576 := fun a ha => hok1 a (List.mem_of_mem_take ha)
  have hlen : (l.take 40).length ≤ 40 := by rw [List.length_take]; omega
  have hlc : (l.take 40).length ≤ c := by rw [List.length_take]; omega
  obtain ⟨k, hk⟩ : ∃ q, l.take 40 = q := ⟨_, rfl⟩
  rw [hk] at hr2 hok hlen hlc
  rw [hk]
  clear hr hok1 hl
  apply wl_val; apply opv_len; exact rfl; exact tkAc.sl; exact rfl; refine wl_mv rfl rfl ?_; refine wl_ns ?_; refine wc_block ?_
  refine wc_loop (fun L wr mm => ∃ (i : Nat) (gp : Tx → Nat), L = [(3, .pointer (some ⟨t, 0, none⟩)), (9, .slice A k.length c), (10, .int .i64 (k.length : Int)), (11, .int .i64 (i : Int))] ∧ i ≤ k.length ∧ St NoB w wr [.ck (lkC t gp (runT (k.take i)))] ∧ mm = k.length - i)
    [(3, .pointer (some ⟨t, 0, none⟩)), (9, .slice A k.length c), (10, .int .i64 (k.length : Int)), (11, .int .i64 (0 : Nat))] k.length ⟨0, _, rfl, by omega, hs, rfl⟩ ⟨rfl, rfl, rfl, rfl, trivial⟩ ?_
  clear hs
  rintro _ w2 mm ⟨i, gp, rfl, hi, hs, rfl⟩
  obtain ⟨hI, hS0⟩ := run_ok (k.take i)
  have hti : (k.take i).length ≤ 40 := by rw [List.length_take]; omega
  replace hS0 := hS0.mono hti
  have hz := hS0.sz (by decide)
  refine wc_sr ?_; refine wl_bin rfl rfl bin_lss rfl ?_; refine wl_ns ?_; refine wc_seq ?_
  refine wc_cond rfl (fun h1 => ?_) (fun h1 => ?_)
  · obtain ⟨a, ha⟩ : ∃ a, k[i]? = some a := ⟨_, List.getElem?_eq_getElem (by omega)⟩
    have hoa := hok a (List.mem_of_getElem? ha)
    obtain ⟨bb, o, cs, rfl, _, _, hp, i1⟩ := RdR.at (k := 4) (by decide) hr2 (E := acEl a) (i := i) (by rw [List.getElem?_map, ha]; rfl)
    obtain ⟨X, cx, rfl, hxc, rx⟩ := acEl.rd hp
    replace i1 := i1.below hs.bel
    refine wc_skip ?_; refine we_seq ?_; refine wc_seq ?_; refine wc_block ?_; refine wc_sr ?_; apply wl_val; apply opv_idxG tkAc; exact rfl; exact rfl; exact rfl; omega; exact rfl; apply wl_val; apply opv_ldG; exact rfl; assumption; exact sAc; exact rfl
    refine ws_var (cs := acV a X cx) hs zeroAc sAc rfl (fun _ => rfl) (by first | rfl | simp [Value.oneCell']) rfl ?_; clear hs; intro g5 _ hs
    have i2 := ar_wiA (hs.ar 0 rfl)
    unfold acV at hs
    refine wl_ns ?_; refine wc_sr ?_; apply wl_val; apply opv_fa; exact fa_Ac0; exact rfl; exact rfl; apply wl_val; apply opv_ldX; exact rfl; exact hs.ar 0 rfl; exact e1_i64; exact rfl; exact rfl; refine wl_bin rfl rfl bin_eql rfl ?_; refine wl_ns ?_
    refine wc_cond rfl (fun h2 => ?_) (fun h2 => ?_)
    · refine wc_region ?_; refine wl_mv rfl rfl ?_; apply wl_val; apply opv_fa; exact fa_Ac1; exact rfl; exact rfl; apply wl_val; apply opv_ldG; exact rfl; assumption; exact sTx; exact rfl
      obtain ⟨S2, hS2, _, _, _, hB⟩ := St.lend (H1 := [.ck (lkC t gp _)]) (H2 := [_]) (hs.front 1 rfl)
      refine wl_call ok_lock_Table_Release (release_any (x := a.x) hS2 hI.wf hz) ⟨rfl, rfl, trivial⟩ rfl ?_
      rintro _ w3 ⟨P, cp, rfl, hsx⟩
      replace hs := (hB _ _ hsx).front 1 rfl
      clear hB hsx hS2
      replace hs := (hs.drop 1 rfl).drop 1 rfl
      refine wl_nil ?_; refine we_block_norm ?_; refine we_seq ?_; refine wc_region ?_; apply wl_val; apply opv_bin; exact rfl; exact rfl; exact bin_add64 (by omega); exact rfl; refine wl_mv rfl rfl ?_; refine wl_nil ?_
      refine we_loop _ (k.length - (i + 1)) ⟨i + 1, gp, rfl, by omega, by rw [run_take ha, stepT, if_pos h2]; exact hs, rfl⟩ (by omega) ⟨rfl, rfl, rfl, by simp [lookT], trivial⟩
    · skip
      replace hs := hs.below (Below.refl _ _).drew
      refine wc_held (fun w => Ar w g5 50 (acV a X cx) ∧ Wi w g5 (0 + 1) (txV a.x)) mixed ?_
      have hS : _ ∧ _ := ⟨hs.ar 0 rfl, ar_wiA (hs.ar 0 rfl)⟩
      apply wh_takeH 0; exact rfl; intro _ hw_; apply opv_move; exact rfl; exact rfl; kernel_rfl; exact hS; apply wh_takeH 1; exact rfl; intro _ hw_; apply opv_fa; exact fa_Ac1; exact rfl; exact rfl; kernel_rfl; exact hS; apply wh_takeH 2; exact rfl; intro _ hw_; apply opv_ldG; exact rfl; exact hw_.2; exact sTx; exact rfl; kernel_rfl; exact hS; apply wh_takeH 3; exact rfl; intro _ hw_; apply opv_fa; exact fa_Ac2; exact rfl; exact rfl; kernel_rfl; exact hS; apply wh_takeH 4; exact rfl; intro _ hw_; apply opv_ldX; exact rfl; exact hw_.1; exact e1_rgs; exact rfl; exact rfl; kernel_rfl; exact hS
      clear hS
      refine wh_one 5 (o := ⟨_, _, _, _, _, _⟩) (by kernel_rfl) rfl ?_
      refine wl_call ok_caissonlaw16_twins (twinsL_any (rx.below hs.bel) rfl (by omega) hoa.2) ⟨rfl, trivial⟩ rfl ?_
      rintro _ w3 ⟨R, cr, rfl, hsx⟩
      replace hs := hs.call hsx
      clear hsx
      dsimp only [List.cons_append, List.nil_append] at hs
      refine wl_nil ?_
      refine we_held ⟨hs.ar 1 rfl, ar_wiA (hs.ar 1 rfl)⟩ ?_
      refine wh_one 6 (o := ⟨_, _, _, _, _, _⟩) (by kernel_rfl) rfl ?_
      obtain ⟨S2, hS2, _, _, hH, hB⟩ := St.lend (H1 := [.ck (lkC t gp _)]) (H2 := [_, _]) (hs.front 2 rfl)
      have hos := hS0.os
      refine wl_call ok_lock_Table_Ask (ask_any (x := a.x) (l := a.l) (n := a.l.length) hS2 (fun w' hm => ?_) rfl (by omega) hI.wf (by omega) fun o ho => by have := hS0.held o ho; omega) ⟨rfl, rfl, rfl, trivial⟩ rfl ?_
      · obtain ⟨T, _, h1, _⟩ := hH w' hm
        exact rg_rdr h1
      rintro _ w4 ⟨gp2, P, cp, Q, cq, rfl, hsx⟩
      replace hs := hB _ _ hsx
      clear hB hsx hS2 hH
      dsimp only [List.cons_append, List.nil_append] at hs
      refine wl_nil ?_
      refine we_held ⟨hs.ar 4 rfl, ar_wiA (hs.ar 4 rfl)⟩ ?_
      refine wh_done (by kernel_rfl) ?_
      refine we_block_norm ?_; refine we_seq ?_; refine wc_region ?_; apply wl_val; apply opv_bin; exact rfl; exact rfl; exact bin_add64 (by omega); exact rfl; refine wl_mv rfl rfl ?_; refine wl_nil ?_
      replace hs := ((((hs.drop 0 rfl).drop 0 rfl).drop 1 rfl).drop 1 rfl)
      refine we_loop _ (k.length - (i + 1)) ⟨i + 1, gp2, rfl, by omega, by rw [run_take ha, stepT, if_neg h2]; exact hs, rfl⟩ (by omega) ⟨rfl, rfl, rfl, by simp [lookT], trivial⟩
  · obtain rfl : i = k.length := by omega
    rw [List.take_length] at hs
    refine wc_exit ?_; refine we_seq_exit ?_; refine we_loop_exit ?_; refine we_block_exit ?_; refine we_seq ?_; refine wc_sr ?_; refine wl_mv rfl rfl ?_; refine wl_as rfl rfl ?_; refine wl_ns ?_; refine wc_ret ?_
    exact we_ret1 rfl rfl ⟨_, rfl, t, gp, rfl, hs⟩
end Go.Proofs.Ytmdbjeabifkimaa


/-
  Walks over awake and over the law LockEnds.
-/
namespace Go.Proofs.Ytmdbjeabifkimaa
open Go.RowKit

theorem rg_one {w : World} {T1 T2 T3 : BS} {R A B : Option Addr} {c a b n m : Nat} {x : Rg} (h1 : (Cd.rg 3 61 R c ([rgV x A a B b].map rawEl)).P w T1) (h2 : (byEl x.fr).P w T2 [.slice A n a]) (h3 : (byEl x.to).P w T3 [.slice B m b]) : RdR 3 w All R ([x].map rgEl) := by
  have e2 : n = x.fr.length := by
    obtain ⟨_, _, e, _⟩ := h2
    simp only [List.cons.injEq, Value.slice.injEq, and_true] at e
    exact e.2.1
  have e3 : m = x.to.length := by
    obtain ⟨_, _, e, _⟩ := h3
    simp only [List.cons.injEq, Value.slice.injEq, and_true] at e
    exact e.2.1
  subst e2 e3
  obtain ⟨ho, _⟩ := OwR.raw (css := [rgV x A a B b]) h1.2
  exact ⟨[rgV x A a B b], Grp.one (E := rgEl x) (rgEl.mk (El.mono h2 fun _ _ _ => trivial) (El.mono h3 fun _ _ _ => trivial)) rfl, own_rd ho, fun _ _ _ => trivial⟩
set_option maxRecDepth 8000 in
theorem awake_any (w : World) : CallsV Try.prog 9 #[] w fun v w' => v = .bool true ∧ Below w.heap.size w w' := by
  have hs := St.init w
  refine calls_in (N := _) Try.func9 rfl Try.ntmps9 rfl ?_; show WC _ _ _ _ _ _
  refine wc_sr ?_; refine wl_as rfl rfl ?_; refine wl_ns ?_; refine wc_sr ?_
  refine ws_new hs zeroTb rfl ?_; clear hs; intro g1 _ hs
  replace hs := hs.lkNil
  refine wl_ns ?_; refine wc_sr ?_
  refine ws_lit hs [97] tyB Try.underlying5 ⟨rfl, rfl, rfl, trivial⟩ rfl (by decide) (by decide) rfl rfl ?_
  clear hs; intro _ A w2 hs
  refine ws_lit hs [98] tyB Try.underlying5 ⟨rfl, rfl, rfl, trivial⟩ rfl (by decide) (by decide) rfl rfl ?_
  clear hs; intro _ B w3 hs
  skip
  refine wl_val (opv_build (vs := [(0, .slice A 1 1), (1, .slice B 1 1), (2, .bool true)]) (cs := rgV r1 A 1 B 1) ⟨rfl, rfl, rfl, rfl, rfl, rfl, trivial⟩ (by kernel_rfl)) rfl ?_
  skip
  refine ws_var (cs := rgV r1 A 1 B 1) hs zeroRg sR rfl (fun _ => rfl) (by first | rfl | simp [Value.oneCell']) rfl ?_; clear hs; intro g2 _ hs
  refine wl_ns ?_; refine wc_sr ?_
  refine wl_val (opv_build (vs := [(0, .int .u64 1)]) (cs := txV (1, 0)) ⟨rfl, rfl, trivial⟩ (by kernel_rfl)) rfl ?_
  apply wl_val; apply opv_loadX; exact rfl; exact hs.ar 0 rfl; exact sR; exact rfl
  refine wl_bsG (css := [rgV r1 A 1 B 1]) tkR ⟨rfl, ⟨_, rfl, rfl⟩, rfl, trivial⟩ (els := [rgV r1 A 1 B 1].map rawEl) (S := NoB) rfl (by decide) (by decide) (grp_raw (by simp [rgV])) rfl fun R w7 hR hbx _ => ?_
  replace hs := hs.newG hbx hR (Nat.le_refl _) fun _ _ h => h.elim
  clear hR hbx
  skip
  obtain ⟨S2, hS2, _, _, hH, hB⟩ := St.lend (H1 := [.ck (lkC g1 (fun _ => 0) _)]) (H2 := [_, _, _, _]) (hs.front 4 rfl)
  refine wl_call ok_lock_Table_Ask (ask_any (x := (1, 0)) (l := [r1]) (n := 1) hS2 (fun w' hm => ?_) rfl (by decide) ⟨by simp [names], by simp, by simp, by simp, by simp, by simp⟩ (by decide) (by simp)) ⟨rfl, rfl, rfl, trivial⟩ rfl ?_
  · obtain ⟨T1, _, k1, T2, _, k2, T3, _, k3, T4, _, k4, _⟩ := hH w' hm
    exact rg_one k1 k4 k3
  rintro _ w8 ⟨gp1, P, cp, Q, cq, rfl, hsx⟩
  replace hs := hB _ _ hsx
  clear hB hsx hS2 hH
  dsimp only [List.cons_append, List.nil_append] at hs
  rw [aw_1] at hs
  rw [aw_1]
  dsimp only at hs
  dsimp only
  rw [show ((0 : Nat) : Int) = 0 from rfl]
  refine wl_mv rfl rfl ?_; apply wl_val; apply opv_extract; exact rfl; exact rfl; exact rfl; apply wl_val; apply opv_extract; exact rfl; exact rfl; exact rfl
  refine ws_var (cs := rsV 1 P 0 cp Q 0 cq) hs zeroRs sRs rfl (fun _ => rfl) (by first | rfl | simp [Value.oneCell']) rfl ?_; clear hs; intro g3 _ hs
  refine wl_as rfl rfl ?_; refine wl_ns ?_; refine wc_sr ?_
  refine wl_val (opv_build (vs := [(0, .int .u64 2)]) (cs := txV (2, 0)) ⟨rfl, rfl, trivial⟩ (by kernel_rfl)) rfl ?_
  apply wl_val; apply opv_loadX; exact rfl; exact hs.ar 5 rfl; exact sR; exact rfl
  refine wl_bsG (css := [rgV r1 A 1 B 1]) tkR ⟨rfl, ⟨_, rfl, rfl⟩, rfl, trivial⟩ (els := [rgV r1 A 1 B 1].map rawEl) (S := NoB) rfl (by decide) (by decide) (grp_raw (by simp [rgV])) rfl fun R2 w9 hR hbx _ => ?_
  replace hs := hs.newG hbx hR (Nat.le_refl _) fun _ _ h => h.elim
  clear hR hbx
  skip
  obtain ⟨S2, hS2, _, _, hH, hB⟩ := St.lend (H1 := [.ck (lkC g1 gp1 tb1)]) (H2 := [_, _, _, _, _, _, _, _]) (hs.front 4 rfl)
  refine wl_call ok_lock_Table_Ask (ask_any (x := (2, 0)) (l := [r1]) (n := 1) hS2 (fun w' hm => ?_) rfl (by decide) aw_ok.1 (by decide) (by simp)) ⟨rfl, rfl, rfl, trivial⟩ rfl ?_
  · obtain ⟨T1, _, k1, _, _, _, _, _, _, _, _, _, _, _, _, _, _, _, T3, _, k3, T4, _, k4, _⟩ := hH w' hm
    exact rg_one k1 k4 k3
  rintro _ w10 ⟨gp2, P2, cp2, Q2, cq2, rfl, hsx⟩
  replace hs := hB _ _ hsx
  clear hB hsx hS2 hH
  dsimp only [List.cons_append, List.nil_append] at hs
  rw [aw_2] at hs
  rw [aw_2]
  dsimp only at hs
  dsimp only
  rw [show ((0 : Nat) : Int) = 0 from rfl]
  refine wl_mv rfl rfl ?_; apply wl_val; apply opv_extract; exact rfl; exact rfl; exact rfl; apply wl_val; apply opv_extract; exact rfl; exact rfl; exact rfl
  refine ws_var (cs := rsV 2 P2 0 cp2 Q2 0 cq2) hs zeroRs sRs rfl (fun _ => rfl) (by first | rfl | simp [Value.oneCell']) rfl ?_; clear hs; intro g5 _ hs
  unfold rsV at hs
  refine wl_as rfl rfl ?_; refine wl_ns ?_; refine wc_sr ?_; refine wl_mv rfl rfl ?_; refine wl_bin rfl rfl bin_eql rfl ?_; refine wl_mv rfl rfl ?_; apply wl_take; exact rfl; exact rfl; exact rfl; refine bT ?_; (with_reducible rfl); refine wl_mv rfl rfl ?_; apply wl_take; exact rfl; exact rfl; exact rfl; refine bT ?_; (with_reducible rfl); refine wl_bin rfl rfl bin_eql rfl ?_; apply wl_val; apply opv_pickT; exact rfl; refine bT ?_; (with_reducible rfl); exact rfl; exact rfl; refine wl_mv rfl rfl ?_; apply wl_take; exact rfl; exact rfl; exact rfl; refine bT ?_; (with_reducible rfl); apply wl_val; apply opv_fa; exact fa_Rs0; exact rfl; exact rfl; apply wl_take; exact rfl; exact rfl; exact rfl; refine bT ?_; (with_reducible rfl); apply wl_val; apply opv_ldX; exact rfl; exact hs.ar 5 rfl; exact e1_i64; exact rfl; exact rfl; apply wl_take; exact rfl; exact rfl; exact rfl; refine bT ?_; (with_reducible rfl); refine wl_bin rfl rfl bin_eql rfl ?_; apply wl_val; apply opv_pickT; exact rfl; refine bT ?_; (with_reducible rfl); exact rfl; exact rfl; refine wl_mv rfl rfl ?_; apply wl_take; exact rfl; exact rfl; exact rfl; refine bT ?_; omega; apply wl_val; apply opv_fa; exact fa_Rs0; exact rfl; exact rfl; apply wl_take; exact rfl; exact rfl; exact rfl; refine bT ?_; omega; apply wl_val; apply opv_ldX; exact rfl; exact hs.ar 0 rfl; exact e1_i64; exact rfl; exact rfl; apply wl_take; exact rfl; exact rfl; exact rfl; refine bT ?_; omega; refine wl_bin rfl rfl bin_eql rfl ?_; apply wl_val; apply opv_pickT; exact rfl; refine bT ?_; omega; exact rfl; exact rfl; refine wl_mv rfl rfl ?_; apply wl_take; exact rfl; exact rfl; exact rfl; refine bT ?_; omega
  refine wl_val (opv_build (vs := [(0, .int .u64 1)]) (cs := txV (1, 0)) ⟨rfl, rfl, trivial⟩ (by kernel_rfl)) rfl ?_
  apply wl_take; exact rfl; exact rfl; exact rfl; refine bT ?_; omega
  obtain ⟨S2, hS2, _, _, _, hB⟩ := St.lend (H1 := [.ck (lkC g1 gp2 tb2)]) (H2 := [_, _, _, _, _, _, _, _, _, _, _]) (hs.front 3 rfl)
  refine wl_call ok_lock_Table_Release (release_any (x := (1, 0)) hS2 aw_ok.2 ⟨by decide, by simp⟩) ⟨rfl, rfl, trivial⟩ rfl ?_
  rintro _ w11 ⟨P3, cp3, rfl, hsx⟩
  replace hs := hB _ _ hsx
  rw [aw_3]
  apply wl_take; exact rfl; exact rfl; exact rfl; refine bT ?_; omega; apply wl_val; apply opv_len; exact rfl; exact tkTx.sl; exact rfl; apply wl_take; exact rfl; exact rfl; exact rfl; refine bT ?_; omega; refine wl_bin rfl rfl bin_eql rfl ?_; apply wl_val; apply opv_pickT; exact rfl; refine bT ?_; omega; exact rfl; exact rfl; refine wl_as rfl rfl ?_; refine wl_ns ?_; refine wc_ret ?_
  exact we_ret1 rfl rfl ⟨_, rfl, rfl, hs.bel⟩
/-! #### Who doesn't wait is released -/
theorem rel_os {tb : Tb} (h : Wf tb) {x : Tx} (hx : x ∈ names tb) : (relT tb x).1.os.length < tb.os.length := by
  have h1 := (rel_names h x).1
  have h2 : (names (relT tb x).1).length = (relT tb x).1.os.length := names_len _
  have h3 : (names tb).length = tb.os.length := names_len _
  rw [h1] at h2
  have h4 : ((names tb).filter fun y => !decide (y = x)).length < (names tb).length := by
    rw [List.length_filter_lt_length_iff_exists]
    exact ⟨x, hx, by simp⟩
  omega
theorem rel_le {tb : Tb} (h : Wf tb) (x : Tx) : (relT tb x).1.os.length ≤ tb.os.length := by
  have h1 := (rel_names h x).1
  have h2 : (names (relT tb x).1).length = (relT tb x).1.os.length := names_len _
  have h3 : (names tb).length = tb.os.length := names_len _
  rw [h1] at h2
  have h4 := List.length_filter_le (fun y => !decide (y = x)) (names tb)
  omega
set_option maxRecDepth 8000 in
theorem ends_any {A : Option Addr} {n c : Nat} {l : List Ac} {w : World} (hr : RdR 4 w All A (l.map acEl)) (hn : l.length = n) (hc : n ≤ c) (_hx : ∀ a ∈ l, Tx64 a.x) (hl : sumB acB l ≤ 1048576) :
    CallsV Try.prog 3 #[.slice A n c] w fun v w' => v = .bool true ∧ Below w.heap.size w w' := by
  have hs := St.init w
  refine calls_in (N := _) Try.func3 rfl Try.ntmps3 rfl ?_; show WC _ _ _ _ _ _
  refine wc_sr ?_; refine wl_as rfl rfl ?_; refine wl_ns ?_; refine wc_seq ?_; refine wc_sr ?_
  refine wl_call ok_caissonlaw16_awake (awake_any _) trivial rfl ?_; rintro _ _ ⟨rfl, hbx⟩; replace hs := hs.below hbx; try dsimp only [List.cons_append, List.nil_append, setC, delC] at hs
  apply wl_val; apply opv_not; exact rfl; exact rfl; refine wl_ns ?_; apply wc_condFb; exact rfl; exact Bool.not_true; refine wc_skip ?_; refine we_seq ?_; refine wc_sr ?_; refine wl_mv rfl rfl ?_
  refine wl_call ok_caissonlaw16_calls (calls_any (hr.below hs.bel) hn hc hl) ⟨rfl, trivial⟩ rfl ?_
  rintro _ w2 ⟨t, gp0, rfl, hsx⟩
  replace hs := hs.call hsx
  clear hsx
  dsimp only [List.cons_append, List.nil_append] at hs
  obtain ⟨hI, hS0⟩ := run_ok (l.take 40)
  have htk : (l.take 40).length ≤ 40 := by rw [List.length_take]; omega
  replace hS0 := hS0.mono htk
  obtain ⟨tb0, htb0⟩ : ∃ q, runT (l.take 40) = q := ⟨_, rfl⟩
  rw [htb0] at hs hI hS0
  clear htb0 hr hl
  have hos0 := hS0.os
  unfold pN
  refine wl_as rfl rfl ?_; refine wl_ns ?_; refine wc_seq ?_; refine wc_sr ?_; refine wl_mv rfl rfl ?_
  refine wl_call ok_lock_Table_All (all_any (hs.rdT 0 rfl) (by omega)) ⟨rfl, trivial⟩ rfl ?_
  rintro _ w3 ⟨P0, cp0, rfl, hsx⟩
  replace hs := (hs.call hsx).drop 0 rfl
  clear hsx
  dsimp only [List.cons_append, List.nil_append, delC] at hs
  rw [names_len]
  apply wl_val; apply opv_len; exact rfl; exact tkTx.sl; exact rfl; refine wl_as rfl rfl ?_; refine wl_ns ?_; refine wc_block ?_
  refine wc_loop (fun L wr mm => ∃ (gp : Tx → Nat) (tb : Tb), L = [(3, .pointer (some ⟨t, 0, none⟩)), (4, .int .i64 (tb.os.length : Int))] ∧ LkI tb ∧ LkS 40 tb ∧ St NoB w wr [.ck (lkC t gp tb)] ∧ mm = tb.os.length)
    [(3, .pointer (some ⟨t, 0, none⟩)), (4, .int .i64 (tb0.os.length : Int))] tb0.os.length ⟨gp0, tb0, rfl, hI, hS0, hs, rfl⟩ ⟨rfl, rfl, trivial⟩ ?_
  clear hs hI hS0
  rintro _ w4 mm ⟨gp, tb, rfl, hI, hS, hs, rfl⟩
  have hos := hS.os
  have hqu := (hS.sz (by decide)).qu hI.wf
  have hnl := names_len tb
  refine wc_seq ?_; refine wc_sr ?_; refine wl_mv rfl rfl ?_; refine wl_bin rfl rfl bin_gtr rfl ?_; refine wl_ns ?_
  refine wc_cond rfl (fun h1 => ?_) (fun h1 => ?_)
  · refine wc_skip ?_; refine we_seq ?_; refine wc_seq ?_; refine wc_block ?_; refine wc_seq ?_; refine wc_sr ?_; refine wl_mv rfl rfl ?_
    refine wl_call ok_lock_Table_All (all_any (hs.rdT 0 rfl) (by omega)) ⟨rfl, trivial⟩ rfl ?_
    rintro _ w5 ⟨P, cp, rfl, hsx⟩
    replace hs := hs.call hsx
    clear hsx
    dsimp only [List.cons_append, List.nil_append] at hs
    apply wl_val; apply opv_len; exact rfl; exact tkTx.sl; exact rfl; refine wl_mv rfl rfl ?_; refine wl_ns ?_; refine wc_block ?_
    refine wc_loop (fun L wr mm => ∃ (i : Nat) (tbi : Tb), L = [(3, .pointer (some ⟨t, 0, none⟩)), (4, .int .i64 (tb.os.length : Int)), (20, .slice P (names tb).length cp), (21, .int .i64 ((names tb).length : Int)), (22, .int .i64 (i : Int))] ∧ i ≤ (names tb).length ∧ LkI tbi ∧ LkS 40 tbi ∧ (tbi.os.length < tb.os.length ∨ tbi = tb ∧ ∀ x ∈ (names tb).take i, x ∈ tb.qu) ∧ St NoB w wr [.rg 2 30 P cp (txEls (names tb)), .ck (lkC t gp tbi)] ∧ mm = (names tb).length - i)
      [(3, .pointer (some ⟨t, 0, none⟩)), (4, .int .i64 (tb.os.length : Int)), (20, .slice P (names tb).length cp), (21, .int .i64 ((names tb).length : Int)), (22, .int .i64 (0 : Nat))] (names tb).length ⟨0, tb, rfl, by omega, hI, hS, .inr ⟨rfl, by simp⟩, hs, rfl⟩ ⟨rfl, rfl, rfl, rfl, rfl, trivial⟩ ?_
    clear hs
    rintro _ w6 mm ⟨i, tbi, rfl, hi, hIi, hSi, hor, hs, rfl⟩
    have hosi := hSi.os
    have hqui := (hSi.sz (by decide)).qu hIi.wf
    refine wc_sr ?_; refine wl_bin rfl rfl bin_lss rfl ?_; refine wl_ns ?_; refine wc_seq ?_
    refine wc_cond rfl (fun h2 => ?_) (fun h2 => ?_)
    · obtain ⟨x, hx⟩ : ∃ x, (names tb)[i]? = some x := ⟨_, List.getElem?_eq_getElem (by omega)⟩
      obtain ⟨bb, o, cs, rfl, _, _, hp, i1⟩ := RdR.at (k := 2) (by decide) (OwR.rd (hs.rg 0 rfl)) (E := rawEl (txV x)) (i := i) (by rw [txEls, List.getElem?_map, hx]; rfl)
      obtain rfl : cs = txV x := hp
      refine wc_skip ?_; refine we_seq ?_; refine wc_seq ?_; refine wc_block ?_; refine wc_sr ?_; apply wl_val; apply opv_idxG tkTx; exact rfl; exact rfl; exact rfl; omega; exact rfl; apply wl_val; apply opv_ldG; exact rfl; assumption; exact sTx; exact rfl
      refine ws_var (cs := txV x) hs zeroTx sTx rfl (fun _ => rfl) (by first | rfl | simp [Value.oneCell']) rfl ?_; clear hs; intro g6 _ hs
      refine wl_ns ?_; refine wc_sr ?_; refine wl_mv rfl rfl ?_; apply wl_val; apply opv_loadX; exact rfl; exact hs.ar 0 rfl; exact sTx; exact rfl
      refine wl_call ok_lock_Table_Status (status_any (x := x) (hs.rdT 2 rfl) hIi.wf (by omega) (by omega)) ⟨rfl, rfl, trivial⟩ rfl ?_
      rintro _ w7 ⟨rfl, hbx⟩
      replace hs := hs.below hbx
      clear hbx
      refine wl_bin rfl rfl bin_eql rfl ?_; refine wl_ns ?_
      refine wc_cond rfl (fun h3 => ?_) (fun h3 => ?_)
      · have hst : x ∈ names tbi ∧ x ∉ tbi.qu := by
          unfold statT at h3
          split at h3
          · split at h3
            · omega
            · exact ⟨by assumption, by assumption⟩
          · omega
        refine wc_region ?_; refine wl_mv rfl rfl ?_; apply wl_val; apply opv_loadX; exact rfl; exact hs.ar 0 rfl; exact sTx; exact rfl
        obtain ⟨S2, hS2, _, _, _, hB⟩ := St.lend (H1 := [.ck (lkC t gp tbi)]) (H2 := [_, _]) (hs.front 2 rfl)
        refine wl_call ok_lock_Table_Release (release_any (x := x) hS2 hIi.wf (hSi.sz (by decide))) ⟨rfl, rfl, trivial⟩ rfl ?_
        rintro _ w8 ⟨P3, cp3, rfl, hsx⟩
        replace hs := hB _ _ hsx
        clear hB hsx hS2
        dsimp only [List.cons_append, List.nil_append] at hs
        have hlt := rel_os hIi.wf hst.1
        refine wl_nil ?_; refine we_block_norm ?_; refine we_seq ?_; refine wc_region ?_; apply wl_val; apply opv_bin; exact rfl; exact rfl; exact bin_add64 (by omega); exact rfl; refine wl_mv rfl rfl ?_; refine wl_nil ?_
        refine we_loop _ ((names tb).length - (i + 1)) ⟨i + 1, (relT tbi x).1, rfl, by omega, hIi.rel x, hSi.rel x, .inl ?_, (((hs.drop 0 rfl).drop 1 rfl).front 1 rfl), rfl⟩ (by omega) ⟨rfl, rfl, rfl, rfl, by simp [lookT], trivial⟩
        rcases hor with h | ⟨rfl, _⟩ <;> omega
      · refine wc_skip ?_; refine we_block_norm ?_; refine we_seq ?_; refine wc_region ?_; apply wl_val; apply opv_bin; exact rfl; exact rfl; exact bin_add64 (by omega); exact rfl; refine wl_mv rfl rfl ?_; refine wl_nil ?_
        refine we_loop _ ((names tb).length - (i + 1)) ⟨i + 1, tbi, rfl, by omega, hIi, hSi, ?_, hs.drop 0 rfl, rfl⟩ (by omega) ⟨rfl, rfl, rfl, rfl, by simp [lookT], trivial⟩
        rcases hor with h | ⟨rfl, h⟩
        · exact .inl h
        · refine .inr ⟨rfl, fun y hy => ?_⟩
          rw [take_getR hx, List.mem_append, List.mem_singleton] at hy
          rcases hy with hy | rfl
          · exact h y hy
          · by_cases hq : y ∈ tbi.qu
            · exact hq
            · refine absurd ?_ h3
              rw [statT, if_pos (List.mem_of_getElem? hx), if_neg hq]; rfl
    · obtain rfl : i = (names tb).length := by omega
      have hlt : tbi.os.length < tb.os.length := by
        rcases hor with h | ⟨rfl, h⟩
        · exact h
        · rw [List.take_length] at h
          obtain ⟨o, ho, hq⟩ := free_one hI (by intro e; rw [e] at h1; simp at h1)
          exact absurd (h o.x (List.mem_map_of_mem ho)) hq
      refine wc_exit ?_; refine we_seq_exit ?_; refine we_loop_exit ?_; refine we_block_exit ?_; refine we_seq ?_; refine wc_sr ?_; refine wl_mv rfl rfl ?_
      refine wl_call ok_lock_Table_All (all_any (hs.rdT 1 rfl) (by omega)) ⟨rfl, trivial⟩ rfl ?_
      rintro _ w7 ⟨P2, cp2, rfl, hsx⟩
      replace hs := hs.call hsx
      clear hsx
      dsimp only [List.cons_append, List.nil_append] at hs
      rw [names_len]
      have h5 : ¬ ((tb.os.length : Int) ≤ (tbi.os.length : Int)) := by omega
      apply wl_val; apply opv_len; exact rfl; exact tkTx.sl; exact rfl; refine wl_mv rfl rfl ?_; refine wl_bin rfl rfl bin_geq rfl ?_; refine wl_ns ?_; apply wc_decF; exact rfl; (with_reducible assumption); refine wc_skip ?_; refine we_block_norm ?_; refine we_seq ?_; refine wc_region ?_; refine wl_mv rfl rfl ?_
      refine wl_call ok_lock_Table_All (all_any (hs.rdT 2 rfl) (by omega)) ⟨rfl, trivial⟩ rfl ?_
      rintro _ w8 ⟨P3, cp3, rfl, hsx⟩
      replace hs := hs.call hsx
      clear hsx
      dsimp only [List.cons_append, List.nil_append] at hs
      rw [names_len]
      apply wl_val; apply opv_len; exact rfl; exact tkTx.sl; exact rfl; refine wl_as rfl rfl ?_; refine wl_nil ?_
      refine we_loop _ tbi.os.length ⟨gp, tbi, rfl, hIi, hSi, ((hs.drop 0 rfl).drop 0 rfl).drop 0 rfl, rfl⟩ hlt ⟨rfl, rfl, trivial⟩
  · have hq : tb.qu = [] := by
      cases hq : tb.qu with
      | nil => rfl
      | cons x q =>
        have := hI.wf.sub x (by rw [hq]; simp)
        have h6 : 0 < (names tb).length := List.length_pos_of_mem this
        rw [names_len] at h6
        omega
    refine wc_exit ?_; refine we_seq_exit ?_; refine we_loop_exit ?_; refine we_block_exit ?_; refine we_seq ?_; refine wc_sr ?_; refine wl_mv rfl rfl ?_
    refine wl_call ok_lock_Table_Queue (queue_any (hs.rdT 0 rfl) hI.wf (by omega)) ⟨rfl, trivial⟩ rfl ?_
    rintro _ w7 ⟨P2, cp2, rfl, hsx⟩
    replace hs := hs.call hsx
    rw [hq]
    apply wl_val; apply opv_len; exact rfl; exact tkTx.sl; exact rfl; refine wl_bin rfl rfl bin_eql rfl ?_; refine wl_as rfl rfl ?_; refine wl_ns ?_; refine wc_ret ?_
    exact we_ret1 rfl rfl ⟨_, rfl, rfl, hs.bel⟩
end Go.Proofs.Ytmdbjeabifkimaa
