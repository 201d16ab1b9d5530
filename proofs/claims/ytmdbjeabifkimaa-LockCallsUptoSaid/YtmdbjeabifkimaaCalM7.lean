/-
  The texts of this proof, joined: Dm, Dn, Dp, Dq, Dr, Ds, Dt, Du, Dv.
-/
import Derived.Test.YtmdbjeabifkimaaCalM6
import Derived.Test.YtmdbjeabifkimaaCalM2
import Derived.Test.YtmdbjeabifkimaaCalM3

/-
  Walk over the law LockCodes.
-/
namespace Go.Proofs.Ytmdbjeabifkimaa
open Go.RowKit

theorem fold_len : ∀ {zs : List Tx} {r : Tb × List Tx}, (zs.foldl goStep r).2.length ≤ r.2.length + zs.length
  | [], _ => Nat.le_refl _
  | z :: zs, r => by
    have h := fold_len (zs := zs) (r := goStep r z)
    have h2 : (goStep r z).2.length ≤ r.2.length + 1 := by
      rcases step_out (r := r) (z := z) with e | e
      · rw [e]; simp
      · rw [e]; omega
    show (zs.foldl goStep (goStep r z)).2.length ≤ _
    rw [List.length_cons]; omega
theorem rel_len {tb : Tb} (x : Tx) : (relT tb x).2.length ≤ tb.qu.length := by
  unfold relT
  split
  · have := fold_len (zs := (dropO (leaveT tb x) x).qu) (r := (dropO (leaveT tb x) x, []))
    have h2 : (dropO (leaveT tb x) x).qu.length ≤ tb.qu.length := List.length_filter_le _ _
    show (goT _).2.length ≤ _
    simp only [List.length_nil, Nat.zero_add] at this
    exact Nat.le_trans this h2
  · have := fold_len (zs := tb.qu) (r := (tb, []))
    simp only [List.length_nil, Nat.zero_add] at this
    exact this
end Go.Proofs.Ytmdbjeabifkimaa

/-
  Twins of ranges whose bytes lie apart; pieces of bytes for the test of Apart.
-/
namespace Go.Proofs.Ytmdbjeabifkimaa
open Go.RowKit

/-- A piece that holds just the bytes of a slice. -/
def HdC (c : Cd) (A : Option Addr) (n d : Nat) : Prop := ∀ (w : World) (S : BS), c.P w S → (∀ a, A = some a → S a.block) ∧ ∀ base, (∀ b, S b → base ≤ b) → Hd w base A n d
inductive ByQ : List Cd → List Value → Prop
  | nil : ByQ [] []
  | cons {c : Cd} {A : Option Addr} {n d : Nat} {H : List Cd} {vs : List Value} : n ≤ 1099511627776 → HdC c A n d → ByQ H vs → ByQ (c :: H) (.slice A n d :: vs)
theorem ByQ.append {H H' : List Cd} {vs vs' : List Value} (h : ByQ H vs) (h' : ByQ H' vs') : ByQ (H ++ H') (vs ++ vs') := by
  induction h with
  | nil => exact h'
  | cons hn hc _ ih => exact .cons hn hc ih
/-! #### A copy with its spare room -/
/-! #### Ranges with memory of their own -/
structure RgA where
  x : Rg
  A : Option Addr
  c : Nat
  B : Option Addr
  d : Nat
def raV (a : RgA) : List Value := rgV a.x a.A a.c a.B a.d
def raM (a : RgA) : List Cd := [.ow 5 a.A a.x.fr.length a.c (bvs a.x.fr), .ow 5 a.B a.x.to.length a.d (bvs a.x.to)]
def RetRgS (w : World) (l : List Rg) (v : Value) (w' : World) : Prop := ∃ (A : Option Addr) (c : Nat) (es : List RgA), es.map (·.x) = l ∧ v = .slice A l.length c ∧ St NoB w w' [.rg 3 61 A c ((es.map raV).map rawEl), .ck (packC (es.flatMap raM))]
end Go.Proofs.Ytmdbjeabifkimaa

/-
  The document's lock tables in memory; walks over its find, place, Status and Held.
-/
namespace Go.Proofs.Ytmdbjeabifkimaa
open Go.RowKit

theorem sWT : StT Try.prog 67 2 := ⟨by kernel_rfl, by kernel_rfl⟩
theorem fa_WT0 : FieldAt Try.prog 67 0 0 := fieldAt_mk Try.underlying67 rfl rfl (by kernel_rfl)
theorem fa_WT1 : FieldAt Try.prog 67 1 1 := fieldAt_mk Try.underlying67 rfl rfl (by kernel_rfl)
theorem sWO : StT Try.prog 99 4 := ⟨by kernel_rfl, by kernel_rfl⟩
theorem fa_WO0 : FieldAt Try.prog 99 0 0 := fieldAt_mk Try.underlying99 rfl rfl (by kernel_rfl)
theorem fa_WO1 : FieldAt Try.prog 99 1 2 := fieldAt_mk Try.underlying99 rfl rfl (by kernel_rfl)
theorem fa_WO2 : FieldAt Try.prog 99 2 3 := fieldAt_mk Try.underlying99 rfl rfl (by kernel_rfl)
def zWT : List Value := [.slice none 0 0, .slice none 0 0]
theorem zeroWT : (Try.prog.info? 67).map (·.zero) = some (some (.agg zWT.toArray)) := by kernel_rfl
def zWO : List Value := [.int .u64 0, .int .u64 0, .slice none 0 0, .slice none 0 0]
theorem zeroWO : (Try.prog.info? 99).map (·.zero) = some (some (.agg zWO.toArray)) := by kernel_rfl
theorem tkWO : RowK Try.prog 65 99 4 (.agg zWO.toArray) 64 := ⟨Try.underlying65, by kernel_rfl, by simp [zWO, Value.cells], by decide⟩
theorem e1_wos : Cell1 Try.prog 65 := ⟨by kernel_rfl, by rw [Try.underlying65]⟩
abbrev tvV (A : Option Addr) (n c : Nat) (B : Option Addr) (m d : Nat) : List Value := [.slice A n c, .slice B m d]

/-- A row of ranges whose bytes lie in old memory; the row is old too, or it lies in blocks of S. -/
def RwO (w0 w : World) (S : BS) (H : Option Addr) (l : List Rg) : Prop := ∃ css, Grp 3 w0 All (l.map rgEl) css ∧ (RdR 3 w0 All H (css.map rawEl) ∨ RdR 3 w S H (css.map rawEl))
section
variable {w0 w w' : World} {S S' : BS} {A B H K : Option Addr} {l : List Rg} {tb : Tb} {css : List (List Value)}
theorem RwO.move (h : RwO w0 w S H l) (hz : w.heap.size ≤ w'.heap.size) (hm : ∀ b, b < w.heap.size → S b → S' b ∧ w'.heap[b]? = w.heap[b]?) : RwO w0 w' S' H l := by
  obtain ⟨css, h1, h2⟩ := h
  exact ⟨css, h1, h2.imp id fun h => h.move (by decide) hz hm⟩
theorem rdr_of_raw {k : Nat} {els : List El} (h : RdR k w S A (css.map rawEl)) (hg : Grp k w All els css) : RdR k w All A els := by
  obtain ⟨h1, _⟩ := RdR.raw h
  exact ⟨css, hg, by rw [← hg.1]; exact h1, fun _ _ _ => trivial⟩
theorem RwO.rd (h : RwO w0 w S H l) (hb : Below w0.heap.size w0 w) : RdR 3 w All H (l.map rgEl) := by
  obtain ⟨css, h1, h2 | h2⟩ := h
  · exact (rdr_of_raw h2 h1).below hb
  · exact rdr_of_raw h2 (h1.below hb)
theorem RwO.raw (h : RwO w0 w S H l) (hb : Below w0.heap.size w0 w) : ∃ css, Grp 3 w0 All (l.map rgEl) css ∧ RdR 3 w All H (css.map rawEl) := by
  obtain ⟨css, h1, h2 | h2⟩ := h
  · exact ⟨css, h1, h2.all.below hb⟩
  · exact ⟨css, h1, h2.all⟩
theorem RwO.old (h : RdR 3 w0 All H (l.map rgEl)) : RwO w0 w S H l := by
  obtain ⟨css, h1, h2⟩ := RdR.to_raw h
  exact ⟨css, h1, .inl h2⟩
theorem RwO.nil : RwO w0 w S none [] := ⟨[], Grp.nil _ _ _, .inl (RdR.nil none)⟩
end
/-- An owner of the document's. -/
def ownO' (w0 : World) (o : Ownr) : El where
  P w S cs := ∃ H hc K kc, cs = owV o H hc K kc ∧ RwO w0 w S H o.held ∧ RwO w0 w S K o.asks
  move := by
    rintro w w' S S' cs ⟨H, hc, K, kc, h, h1, h2⟩ hz hm
    exact ⟨H, hc, K, kc, h, h1.move hz hm, h2.move hz hm⟩
/-- The document's table, read in blocks of S. -/
def RfT (w0 w : World) (S : BS) (css : List (List Value)) (A B : Option Addr) (tb : Tb) : Prop := RdR 4 w S A (css.map rawEl) ∧ Grp 4 w S (tb.os.map (ownO' w0)) css ∧ RdR 2 w S B (txEls tb.qu)
theorem RfT.move {w0 w w' : World} {S S' : BS} {css : List (List Value)} {A B : Option Addr} {tb : Tb} (h : RfT w0 w S css A B tb) (hz : w.heap.size ≤ w'.heap.size) (hm : ∀ b, b < w.heap.size → S b → S' b ∧ w'.heap[b]? = w.heap[b]?) : RfT w0 w' S' css A B tb :=
  ⟨h.1.move (by decide) hz hm, h.2.1.move hz hm, h.2.2.move (by decide) hz hm⟩
/-- A name's place. -/
def plN (l : List Tx) (x : Tx) : Int := if x ∈ l then (l.idxOf x : Int) else -1
theorem plN_at {l : List Tx} {k : Nat} {x : Tx} (h : l[k]? = some x) (hn : x ∉ l.take k) : plN l x = k := by
  obtain ⟨p, r, e, h2, h3⟩ := idx_split (List.mem_of_getElem? h)
  rw [plN, if_pos (List.mem_of_getElem? h), h3]
  have hlt := (List.getElem?_eq_some_iff.1 h).1
  subst e
  by_cases h4 : k ≤ p.length
  · by_cases h5 : k = p.length
    · rw [h5]
    · exfalso
      rw [List.getElem?_append_left (by omega)] at h
      exact h2 (List.mem_of_getElem? h)
  · exfalso
    apply hn
    rw [List.take_append]
    refine List.mem_append_right _ ?_
    obtain ⟨j, hj⟩ : ∃ j, k - p.length = j + 1 := ⟨k - p.length - 1, by omega⟩
    rw [hj, List.take_succ_cons]
    exact List.mem_cons_self
theorem plN_some {l : List Tx} {x : Tx} (h : x ∈ l) : ∃ k : Nat, plN l x = k ∧ l[k]? = some x ∧ k < l.length := by
  have hl := List.idxOf_lt_length_of_mem h
  exact ⟨l.idxOf x, if_pos h, by rw [List.getElem?_eq_getElem hl, List.getElem_idxOf], hl⟩
theorem plN_none {l : List Tx} {x : Tx} (h : x ∉ l) : plN l x = -1 := if_neg h
section
variable {w0 w w' : World} {S S' : BS} {A B : Option Addr} {tb : Tb} {css : List (List Value)}
theorem RfT.below (h : RfT w0 w S css A B tb) (hb : Below w.heap.size w w') : RfT w0 w' S css A B tb := ⟨h.1.below hb, h.2.1.below hb, h.2.2.below hb⟩
theorem RfT.mono (h : RfT w0 w S css A B tb) (hs : ∀ b, b < w.heap.size → S b → S' b) : RfT w0 w S' css A B tb := h.move (Nat.le_refl _) fun b hb h => ⟨hs b hb h, rfl⟩
theorem RfT.len (h : RfT w0 w S css A B tb) : css.length = tb.os.length := by rw [h.2.1.1, List.length_map]
/-- One owner's cells. -/
theorem RfT.at (h : RfT w0 w S css A B tb) {k : Nat} {o : Ownr} (hk : tb.os[k]? = some o) : ∃ b f H hc K kc, A = some ⟨b, f, none⟩ ∧ S b ∧ css[k]? = some (owV o H hc K kc) ∧ Wi w b (f + k * 4) (owV o H hc K kc) ∧ RwO w0 w S H o.held ∧ RwO w0 w S K o.asks := by
  obtain ⟨cs, h1, h2, H, hc, K, kc, rfl, h3, h4⟩ := h.2.1.at (i := k) (E := ownO' w0 o) (by rw [List.getElem?_map, hk]; rfl)
  obtain ⟨b, f, cs', rfl, hS, _, hp, hw⟩ := RdR.at (k := 4) (by decide) h.1 (i := k) (E := rawEl (owV o H hc K kc)) (by rw [List.getElem?_map, h1]; rfl)
  obtain rfl : cs' = owV o H hc K kc := hp
  exact ⟨b, f, H, hc, K, kc, rfl, hS, h1, hw, h3, h4⟩
theorem wi_nm {b f : Nat} {o : Ownr} {H K : Option Addr} {hc kc : Nat} (h : Wi w b f (owV o H hc K kc)) : Wi w b (f + 0) (txV o.x) := ⟨h.1, fun j u hu => by
  rw [Nat.add_zero]
  refine h.2 j u ?_
  match j, hu with
  | 0, hu => exact hu
  | 1, hu => exact hu
  | j + 2, hu => simp [txV] at hu⟩
theorem RfT.qat (h : RfT w0 w S css A B tb) {k : Nat} {x : Tx} (hk : tb.qu[k]? = some x) : ∃ b f, B = some ⟨b, f, none⟩ ∧ Wi w b (f + k * 2) (txV x) := by
  obtain ⟨b, f, cs, rfl, _, _, hp, hw⟩ := RdR.at (k := 2) (by decide) h.2.2 (i := k) (E := rawEl (txV x)) (by rw [txEls, List.getElem?_map, hk]; rfl)
  obtain rfl : cs = txV x := hp
  exact ⟨b, f, rfl, hw⟩
end
set_option maxRecDepth 8000 in
theorem rfind_any {w0 w : World} {S : BS} {css : List (List Value)} {A B : Option Addr} {n c m d : Nat} {tb : Tb} {x : Tx} (hT : RfT w0 w S css A B tb) (hn : tb.os.length = n) (hl : tb.os.length ≤ 4294967296) :
    CallsV Try.prog 56 #[.agg (tvV A n c B m d).toArray, .agg (txV x).toArray] w fun v w' => v = .int .i64 (plN (names tb) x) ∧ Below w.heap.size w w' := by
  subst hn
  have hs := St.init w
  refine calls_in (N := _) Try.func56 rfl Try.ntmps56 rfl ?_; show WC _ _ _ _ _ _
  refine wc_sr ?_
  refine ws_box (cs := tvV A tb.os.length c B m d) hs rfl rfl ?_; clear hs; intro g2 _ hs
  refine ws_box (cs := txV x) hs rfl rfl ?_; clear hs; intro g3 _ hs
  refine wl_as rfl rfl ?_; refine wl_ns ?_; refine wc_seq ?_; refine wc_sr ?_; refine wl_as rfl rfl ?_; refine wl_ns ?_; refine wc_block ?_
  refine wc_loop (fun L wr mm => ∃ k : Nat, L = [(2, .pointer (some ⟨g2, 0, none⟩)), (3, .pointer (some ⟨g3, 0, none⟩)), (5, .int .i64 (k : Int))] ∧ k ≤ tb.os.length ∧ x ∉ (names tb).take k ∧ St NoB w wr [.blk g3 30 (txV x), .blk g2 67 [.slice A tb.os.length c, .slice B m d]] ∧ mm = tb.os.length - k)
    [(2, .pointer (some ⟨g2, 0, none⟩)), (3, .pointer (some ⟨g3, 0, none⟩)), (5, .int .i64 (0 : Nat))] tb.os.length ⟨0, rfl, by omega, by simp, hs, rfl⟩ ⟨rfl, rfl, rfl, trivial⟩ ?_
  clear hs
  rintro _ w1 mm ⟨k, rfl, hk, hnot, hs, rfl⟩
  refine wc_seq ?_; refine wc_sr ?_; refine wl_mv rfl rfl ?_; apply wl_val; apply opv_fa; exact fa_WT0; exact rfl; exact rfl; apply wl_val; apply opv_ldX; exact rfl; exact hs.ar 1 rfl; exact e1_wos; exact rfl; exact rfl; apply wl_val; apply opv_len; exact rfl; exact tkWO.sl; exact rfl; refine wl_bin rfl rfl bin_lss rfl ?_; refine wl_ns ?_
  refine wc_cond rfl (fun h1 => ?_) (fun h1 => ?_)
  · obtain ⟨o, ho⟩ : ∃ o, tb.os[k]? = some o := ⟨_, List.getElem?_eq_getElem (by omega)⟩
    obtain ⟨bb, f, H, hc, K, kc, rfl, _, _, i1, _, _⟩ := hT.at ho
    replace i1 := (wi_nm i1).below hs.bel
    have hon := names_get ho
    refine wc_skip ?_; refine we_seq ?_; refine wc_seq ?_; refine wc_block ?_; refine wc_seq ?_
    refine wc_heldB mixed fun w2 hS => ?_
    apply wh_takeH 0; exact rfl; intro _ hw_; apply opv_fa; exact fa_WT0; exact rfl; exact rfl; kernel_rfl; exact hS; apply wh_takeH 1; exact rfl; intro _ hw_; apply opv_ldX; exact rfl; exact Ar.bel (hs.ar 1 rfl) hw_; exact e1_wos; exact rfl; exact rfl; kernel_rfl; exact hS; apply wh_takeH 2; exact rfl; intro _ hw_; apply opv_move; exact rfl; exact rfl; kernel_rfl; exact hS; apply wh_takeH 3; exact rfl; intro _ hw_; apply opv_idxG tkWO; exact rfl; exact rfl; exact rfl; omega; exact rfl; kernel_rfl; exact hS; apply wh_takeH 4; exact rfl; intro _ hw_; apply opv_fa; exact fa_WO0; exact rfl; exact rfl; kernel_rfl; exact hS; apply wh_takeH 5; exact rfl; intro _ hw_; apply opv_ldG; exact rfl; exact Wi.below (by assumption) hw_; exact sTx; exact rfl; kernel_rfl; exact hS; apply wh_takeH 6; exact rfl; intro _ hw_; apply opv_loadX; exact rfl; exact Ar.bel (hs.ar 0 rfl) hw_; exact sTx; exact rfl; kernel_rfl; exact hS; apply wh_takeH 7; exact rfl; intro _ hw_; apply opv_bin; exact rfl; exact rfl; exact (bin_eqlTx _ _); exact rfl; kernel_rfl; exact hS
    refine wh_done (by kernel_rfl) ?_
    replace hs := hs.below hS
    refine we_seq ?_
    by_cases hxy : o.x = x
    · rw [decide_eq_true hxy]
      apply wc_condTb; exact rfl; exact rfl; refine wc_sr ?_; refine wl_mv rfl rfl ?_; refine wl_as rfl rfl ?_; refine wl_ns ?_; refine wc_ret ?_; refine we_block_ret ?_; refine we_seq_ret ?_; refine we_loop_ret ?_; refine we_block_ret ?_; refine we_seq_ret ?_
      exact we_ret1 rfl rfl ⟨_, rfl, by rw [plN_at (by rw [hon, hxy]) hnot], hs.bel⟩
    · rw [decide_eq_false hxy]
      apply wc_condFb; exact rfl; exact rfl; refine wc_skip ?_; refine we_block_norm ?_; refine we_seq ?_; refine wc_region ?_; refine wl_mv rfl rfl ?_; apply wl_val; apply opv_bin; exact rfl; exact rfl; exact bin_add64 (by omega); exact rfl; refine wl_as rfl rfl ?_; refine wl_nil ?_
      exact we_loop _ (tb.os.length - (k + 1)) ⟨k + 1, rfl, by omega, by rw [take_getR hon]; simp [hnot, Ne.symm hxy], hs, rfl⟩ (by omega) ⟨rfl, rfl, by simp [lookT], trivial⟩
  · obtain rfl : k = tb.os.length := by omega
    rw [List.take_of_length_le (by rw [names_len]; omega)] at hnot
    refine wc_exit ?_; refine we_seq_exit ?_; refine we_loop_exit ?_; refine we_block_exit ?_; refine we_seq ?_; refine wc_sr ?_; refine wl_as rfl rfl ?_; refine wl_ns ?_; refine wc_ret ?_
    exact we_ret1 rfl rfl ⟨_, rfl, by rw [plN_none hnot], hs.bel⟩
theorem rplace_any {w0 w : World} {S : BS} {css : List (List Value)} {A B : Option Addr} {n c m d : Nat} {tb : Tb} {x : Tx} (hT : RfT w0 w S css A B tb) (hm : tb.qu.length = m) (hl : tb.qu.length ≤ 4294967296) :
    CallsV Try.prog 55 #[.agg (tvV A n c B m d).toArray, .agg (txV x).toArray] w fun v w' => v = .int .i64 (plN tb.qu x) ∧ Below w.heap.size w w' := by
  subst hm
  have hs := St.init w
  refine calls_in (N := _) Try.func55 rfl Try.ntmps55 rfl ?_; show WC _ _ _ _ _ _
  refine wc_sr ?_
  refine ws_box (cs := tvV A n c B tb.qu.length d) hs rfl rfl ?_; clear hs; intro g2 _ hs
  refine ws_box (cs := txV x) hs rfl rfl ?_; clear hs; intro g3 _ hs
  refine wl_as rfl rfl ?_; refine wl_ns ?_; refine wc_seq ?_; refine wc_sr ?_; refine wl_as rfl rfl ?_; refine wl_ns ?_; refine wc_block ?_
  refine wc_loop (fun L wr mm => ∃ k : Nat, L = [(2, .pointer (some ⟨g2, 0, none⟩)), (3, .pointer (some ⟨g3, 0, none⟩)), (5, .int .i64 (k : Int))] ∧ k ≤ tb.qu.length ∧ x ∉ tb.qu.take k ∧ St NoB w wr [.blk g3 30 (txV x), .blk g2 67 [.slice A n c, .slice B tb.qu.length d]] ∧ mm = tb.qu.length - k)
    [(2, .pointer (some ⟨g2, 0, none⟩)), (3, .pointer (some ⟨g3, 0, none⟩)), (5, .int .i64 (0 : Nat))] tb.qu.length ⟨0, rfl, by omega, by simp, hs, rfl⟩ ⟨rfl, rfl, rfl, trivial⟩ ?_
  clear hs
  rintro _ w1 mm ⟨k, rfl, hk, hnot, hs, rfl⟩
  refine wc_seq ?_; refine wc_sr ?_; refine wl_mv rfl rfl ?_; apply wl_val; apply opv_fa; exact fa_WT1; exact rfl; exact rfl; apply wl_val; apply opv_ldX; exact rfl; exact hs.ar 1 rfl; exact e1_txs; exact rfl; exact rfl; apply wl_val; apply opv_len; exact rfl; exact tkTx.sl; exact rfl; refine wl_bin rfl rfl bin_lss rfl ?_; refine wl_ns ?_
  refine wc_cond rfl (fun h1 => ?_) (fun h1 => ?_)
  · obtain ⟨y, hy⟩ : ∃ y, tb.qu[k]? = some y := ⟨_, List.getElem?_eq_getElem (by omega)⟩
    obtain ⟨bb, f, rfl, i1⟩ := hT.qat hy
    replace i1 := i1.below hs.bel
    refine wc_skip ?_; refine we_seq ?_; refine wc_seq ?_; refine wc_block ?_; refine wc_seq ?_
    refine wc_heldB mixed fun w2 hS => ?_
    apply wh_takeH 0; exact rfl; intro _ hw_; apply opv_fa; exact fa_WT1; exact rfl; exact rfl; kernel_rfl; exact hS; apply wh_takeH 1; exact rfl; intro _ hw_; apply opv_ldX; exact rfl; exact Ar.bel (hs.ar 1 rfl) hw_; exact e1_txs; exact rfl; exact rfl; kernel_rfl; exact hS; apply wh_takeH 2; exact rfl; intro _ hw_; apply opv_move; exact rfl; exact rfl; kernel_rfl; exact hS; apply wh_takeH 3; exact rfl; intro _ hw_; apply opv_idxG tkTx; exact rfl; exact rfl; exact rfl; omega; exact rfl; kernel_rfl; exact hS; apply wh_takeH 4; exact rfl; intro _ hw_; apply opv_ldG; exact rfl; exact Wi.below (by assumption) hw_; exact sTx; exact rfl; kernel_rfl; exact hS; apply wh_takeH 5; exact rfl; intro _ hw_; apply opv_loadX; exact rfl; exact Ar.bel (hs.ar 0 rfl) hw_; exact sTx; exact rfl; kernel_rfl; exact hS; apply wh_takeH 6; exact rfl; intro _ hw_; apply opv_bin; exact rfl; exact rfl; exact (bin_eqlTx _ _); exact rfl; kernel_rfl; exact hS
    refine wh_done (by kernel_rfl) ?_
    replace hs := hs.below hS
    refine we_seq ?_
    by_cases hxy : y = x
    · rw [decide_eq_true hxy]
      apply wc_condTb; exact rfl; exact rfl; refine wc_sr ?_; refine wl_mv rfl rfl ?_; refine wl_as rfl rfl ?_; refine wl_ns ?_; refine wc_ret ?_; refine we_block_ret ?_; refine we_seq_ret ?_; refine we_loop_ret ?_; refine we_block_ret ?_; refine we_seq_ret ?_
      exact we_ret1 rfl rfl ⟨_, rfl, by rw [plN_at (by rw [hy, hxy]) hnot], hs.bel⟩
    · rw [decide_eq_false hxy]
      apply wc_condFb; exact rfl; exact rfl; refine wc_skip ?_; refine we_block_norm ?_; refine we_seq ?_; refine wc_region ?_; refine wl_mv rfl rfl ?_; apply wl_val; apply opv_bin; exact rfl; exact rfl; exact bin_add64 (by omega); exact rfl; refine wl_as rfl rfl ?_; refine wl_nil ?_
      exact we_loop _ (tb.qu.length - (k + 1)) ⟨k + 1, rfl, by omega, by rw [take_getR hy]; simp [hnot, Ne.symm hxy], hs, rfl⟩ (by omega) ⟨rfl, rfl, by simp [lookT], trivial⟩
  · obtain rfl : k = tb.qu.length := by omega
    rw [List.take_length] at hnot
    refine wc_exit ?_; refine we_seq_exit ?_; refine we_loop_exit ?_; refine we_block_exit ?_; refine we_seq ?_; refine wc_sr ?_; refine wl_as rfl rfl ?_; refine wl_ns ?_; refine wc_ret ?_
    exact we_ret1 rfl rfl ⟨_, rfl, by rw [plN_none hnot], hs.bel⟩
theorem rstat_any {w0 w : World} {S : BS} {css : List (List Value)} {A B : Option Addr} {n c m d : Nat} {tb : Tb} {x : Tx} (hT : RfT w0 w S css A B tb) (hn : tb.os.length = n) (hm : tb.qu.length = m) (hl : tb.os.length ≤ 4294967296) (hlq : tb.qu.length ≤ 4294967296) :
    CallsV Try.prog 62 #[.agg (tvV A n c B m d).toArray, .agg (txV x).toArray] w fun v w' => v = .int .i64 (statT tb x) ∧ Below w.heap.size w w' := by
  subst hn hm
  have hs := St.init w
  refine calls_in (N := _) Try.func62 rfl Try.ntmps62 rfl ?_; show WC _ _ _ _ _ _
  refine wc_sr ?_
  refine ws_box (cs := tvV A tb.os.length c B tb.qu.length d) hs rfl rfl ?_; clear hs; intro g2 _ hs
  refine ws_box (cs := txV x) hs rfl rfl ?_; clear hs; intro g3 _ hs
  refine wl_as rfl rfl ?_; refine wl_ns ?_; refine wc_seq ?_; refine wc_sr ?_; apply wl_val; apply opv_loadX; exact rfl; exact hs.ar 1 rfl; exact sWT; exact rfl; apply wl_val; apply opv_loadX; exact rfl; exact hs.ar 0 rfl; exact sTx; exact rfl
  refine wl_call ok_caissonref16_find (rfind_any (hT.below hs.bel) rfl hl) ⟨rfl, rfl, trivial⟩ rfl ?_
  rintro _ w1 ⟨rfl, hbx⟩
  replace hs := hs.below hbx
  clear hbx
  by_cases hx : x ∈ names tb
  · obtain ⟨k, hk, _, _⟩ := plN_some hx
    rw [hk]
    refine wl_bin rfl rfl bin_lss rfl ?_; refine wl_ns ?_; apply wc_condFb; exact rfl; exact rfl; refine wc_skip ?_; refine we_seq ?_; refine wc_seq ?_; refine wc_sr ?_; apply wl_val; apply opv_loadX; exact rfl; exact hs.ar 1 rfl; exact sWT; exact rfl; apply wl_val; apply opv_loadX; exact rfl; exact hs.ar 0 rfl; exact sTx; exact rfl
    refine wl_call ok_caissonref16_place (rplace_any (hT.below hs.bel) rfl hlq) ⟨rfl, rfl, trivial⟩ rfl ?_
    rintro _ w2 ⟨rfl, hbx⟩
    replace hs := hs.below hbx
    clear hbx
    by_cases hq : x ∈ tb.qu
    · obtain ⟨j, hj, _, _⟩ := plN_some hq
      rw [hj]
      refine wl_bin rfl rfl bin_geq rfl ?_; refine wl_ns ?_; apply wc_condTb; exact rfl; exact rfl; refine wc_sr ?_; refine wl_as rfl rfl ?_; refine wl_ns ?_; refine wc_ret ?_; refine we_seq_ret ?_
      exact we_ret1 rfl rfl ⟨_, rfl, by rw [statT, if_pos hx, if_pos hq]; rfl, hs.bel⟩
    · rw [plN_none hq]
      refine wl_bin rfl rfl bin_geq rfl ?_; refine wl_ns ?_; apply wc_condFb; exact rfl; exact rfl; refine wc_skip ?_; refine we_seq ?_; refine wc_sr ?_; refine wl_as rfl rfl ?_; refine wl_ns ?_; refine wc_ret ?_
      exact we_ret1 rfl rfl ⟨_, rfl, by rw [statT, if_pos hx, if_neg hq]; rfl, hs.bel⟩
  · rw [plN_none hx]
    refine wl_bin rfl rfl bin_lss rfl ?_; refine wl_ns ?_; apply wc_condTb; exact rfl; exact rfl; refine wc_sr ?_; refine wl_as rfl rfl ?_; refine wl_ns ?_; refine wc_ret ?_; refine we_seq_ret ?_
    exact we_ret1 rfl rfl ⟨_, rfl, by rw [statT, if_neg hx]; rfl, hs.bel⟩
theorem own_pl {tb : Tb} (hn : (names tb).Nodup) {x : Tx} (hx : x ∈ names tb) : ∃ (k : Nat) (o : Ownr), plN (names tb) x = k ∧ tb.os[k]? = some o ∧ o.x = x ∧ ownO tb x = some o ∧ k < tb.os.length := by
  obtain ⟨k, h1, h2, h3⟩ := plN_some hx
  rw [names_len] at h3
  have h4 : tb.os[k]? = some tb.os[k] := List.getElem?_eq_getElem h3
  have h5 : (tb.os[k]).x = x := by rw [names_get h4] at h2; exact Option.some.inj h2
  exact ⟨k, tb.os[k], h1, h4, h5, by rw [← h5]; exact ownO_of hn (List.getElem_mem _), h3⟩
theorem rheld_any {w0 w : World} {S : BS} {css : List (List Value)} {A B : Option Addr} {n c m d : Nat} {tb : Tb} {x : Tx} (hT : RfT w0 w S css A B tb) (hn : tb.os.length = n) (hw : (names tb).Nodup) (hl : tb.os.length ≤ 4294967296) :
    CallsV Try.prog 63 #[.agg (tvV A n c B m d).toArray, .agg (txV x).toArray] w fun v w' => ∃ H hc, v = .slice H (heldT tb x).length hc ∧ RwO w0 w S H (heldT tb x) ∧ Below w.heap.size w w' := by
  subst hn
  have hs := St.init w
  refine calls_in (N := _) Try.func63 rfl Try.ntmps63 rfl ?_; show WC _ _ _ _ _ _
  refine wc_sr ?_
  refine ws_box (cs := tvV A tb.os.length c B m d) hs rfl rfl ?_; clear hs; intro g2 _ hs
  refine ws_box (cs := txV x) hs rfl rfl ?_; clear hs; intro g3 _ hs
  refine wl_as rfl rfl ?_; refine wl_ns ?_; refine wc_sr ?_; apply wl_val; apply opv_loadX; exact rfl; exact hs.ar 1 rfl; exact sWT; exact rfl; apply wl_val; apply opv_loadX; exact rfl; exact hs.ar 0 rfl; exact sTx; exact rfl
  refine wl_call ok_caissonref16_find (rfind_any (hT.below hs.bel) rfl hl) ⟨rfl, rfl, trivial⟩ rfl ?_
  rintro _ w1 ⟨rfl, hbx⟩
  replace hs := hs.below hbx
  clear hbx
  by_cases hx : x ∈ names tb
  · obtain ⟨k, o, hk, ho, _, hoo, hlt⟩ := own_pl hw hx
    rw [hk]
    have he : heldT tb x = o.held := by rw [heldT, hoo]
    rw [he]
    obtain ⟨bb, f, H, hc, K, kc, rfl, _, _, i1, r1, r2⟩ := hT.at ho
    replace i1 := i1.below hs.bel
    unfold owV at i1
    refine wl_as rfl rfl ?_; refine wl_ns ?_; refine wc_seq ?_; refine wc_sr ?_; refine wl_mv rfl rfl ?_; refine wl_bin rfl rfl bin_lss rfl ?_; refine wl_ns ?_; apply wc_condFb; exact rfl; exact rfl; refine wc_skip ?_; refine we_seq ?_; refine wc_sr ?_; apply wl_val; apply opv_fa; exact fa_WT0; exact rfl; exact rfl; apply wl_val; apply opv_ldX; exact rfl; exact hs.ar 1 rfl; exact e1_wos; exact rfl; exact rfl; refine wl_mv rfl rfl ?_; apply wl_val; apply opv_idxG tkWO; exact rfl; exact rfl; exact rfl; omega; exact rfl; apply wl_val; apply opv_fa; exact fa_WO1; exact rfl; exact rfl; apply wl_val; apply opv_ldW; exact rfl; assumption; exact e1_rgs; exact rfl; exact rfl; refine wl_as rfl rfl ?_; refine wl_ns ?_; refine wc_ret ?_
    exact we_ret1 rfl rfl ⟨_, rfl, H, hc, rfl, r1, hs.bel⟩
  · rw [plN_none hx]
    have he : heldT tb x = [] := by rw [heldT, ownO_none.2 hx]
    rw [he]
    refine wl_as rfl rfl ?_; refine wl_ns ?_; refine wc_seq ?_; refine wc_sr ?_; refine wl_mv rfl rfl ?_; refine wl_bin rfl rfl bin_lss rfl ?_; refine wl_ns ?_; apply wc_condTb; exact rfl; exact rfl; refine wc_sr ?_; refine wl_as rfl rfl ?_; refine wl_ns ?_; refine wc_ret ?_; refine we_seq_ret ?_
    exact we_ret1 rfl rfl ⟨_, rfl, none, 0, rfl, RwO.nil, hs.bel⟩
end Go.Proofs.Ytmdbjeabifkimaa

/-
  Walk over For of the document's lock tables.
-/
namespace Go.Proofs.Ytmdbjeabifkimaa
open Go.RowKit

theorem ahead_pl {q : List Tx} {x y : Tx} (hx : x ∈ q) : y ∈ aheadL q x ↔ (0 ≤ plN q y ∧ plN q y < plN q x) := by
  rw [aheadL, if_pos hx]
  unfold plN
  rw [if_pos hx]
  by_cases hy : y ∈ q
  · rw [if_pos hy]
    obtain ⟨l, r, e, h2, h3⟩ := idx_split hy
    rw [h3]
    obtain ⟨i, hi⟩ : ∃ i, q.idxOf x = i := ⟨_, rfl⟩
    rw [hi]
    clear hi h3 hx hy
    subst e
    constructor
    · intro h
      rcases Nat.lt_or_ge l.length i with h5 | h5
      · omega
      · rw [List.take_append_of_le_length h5] at h
        exact absurd (List.mem_of_mem_take h) h2
    · rintro ⟨_, h⟩
      obtain ⟨j, hj⟩ : ∃ j, i - l.length = j + 1 := ⟨i - l.length - 1, by omega⟩
      rw [List.take_append, hj, List.take_succ_cons]
      exact List.mem_append_right _ List.mem_cons_self
  · rw [if_neg hy]
    constructor
    · exact fun h => absurd (List.mem_of_mem_take h) hy
    · rintro ⟨h, _⟩; omega
theorem ar_wiWO {w : World} {g : Nat} {T : TypeId} {o : Ownr} {H K : Option Addr} {hc kc : Nat} (h : Ar w g T (owV o H hc K kc)) : Wi w g (0 + 0) (txV o.x) := ⟨h.lt, fun j u hu => (h.cell (0 + 0 + j)).trans (by
  match j, hu with
  | 0, hu => exact hu
  | 1, hu => exact hu
  | j + 2, hu => simp [txV] at hu)⟩
set_option maxRecDepth 8000 in
set_option maxHeartbeats 1000000 in
theorem rfor_any {w0 w : World} {S : BS} {css : List (List Value)} {A B : Option Addr} {n c m d : Nat} {tb : Tb} {x : Tx} (hT : RfT w0 w S css A B tb) (hb : Below w0.heap.size w0 w) (hn : tb.os.length = n) (hm : tb.qu.length = m) (hw : Wf tb) (hl : tb.os.length ≤ 1048576) (hq : tb.qu.length ≤ 1048576) (hh : ∀ o ∈ tb.os, o.held.length ≤ 1048576) :
    CallsV Try.prog 58 #[.agg (tvV A n c B m d).toArray, .agg (txV x).toArray] w (RetTx w (forT tb x)) := by
  subst hn hm
  have hs := St.init w
  refine calls_in (N := _) Try.func58 rfl Try.ntmps58 rfl ?_; show WC _ _ _ _ _ _
  refine wc_sr ?_
  refine ws_box (cs := tvV A tb.os.length c B tb.qu.length d) hs rfl rfl ?_; clear hs; intro g2 _ hs
  refine ws_box (cs := txV x) hs rfl rfl ?_; clear hs; intro g3 _ hs
  refine wl_as rfl rfl ?_; refine wl_ns ?_; refine wc_sr ?_; refine wl_as rfl rfl ?_; refine wl_ns ?_; refine wc_sr ?_; apply wl_val; apply opv_loadX; exact rfl; exact hs.ar 1 rfl; exact sWT; exact rfl; apply wl_val; apply opv_loadX; exact rfl; exact hs.ar 0 rfl; exact sTx; exact rfl
  refine wl_call ok_caissonref16_place (rplace_any (hT.below hs.bel) rfl (by omega)) ⟨rfl, rfl, trivial⟩ rfl ?_
  rintro _ w1 ⟨rfl, hbx⟩
  replace hs := hs.below hbx
  clear hbx
  by_cases hx : x ∈ tb.qu
  case neg =>
    have he : forT tb x = [] := by
      unfold forT
      cases ownO tb x with
      | none => rfl
      | some o => exact if_neg hx
    rw [plN_none hx, he]
    refine wl_as rfl rfl ?_; refine wl_ns ?_; refine wc_seq ?_; refine wc_sr ?_; refine wl_mv rfl rfl ?_; refine wl_bin rfl rfl bin_lss rfl ?_; refine wl_ns ?_; apply wc_condTb; exact rfl; exact rfl; refine wc_sr ?_; refine wl_mv rfl rfl ?_; refine wl_as rfl rfl ?_; refine wl_ns ?_; refine wc_ret ?_; refine we_seq_ret ?_
    exact we_ret1 rfl rfl ⟨_, rfl, none, 0, rfl, hs.nil.nilG _ _⟩
  obtain ⟨p, hp, _, hpl⟩ := plN_some hx
  have hap : ∀ y, y ∈ aheadL tb.qu x ↔ (0 ≤ plN tb.qu y ∧ plN tb.qu y < p) := fun y => by rw [ahead_pl hx, hp]
  rw [hp]
  obtain ⟨kx, me, hkx, hme, hmx, hown, hlx⟩ := own_pl hw.nd (hw.sub x hx)
  have hfo : forT tb x = bnames tb me := by unfold forT; rw [hown]; exact if_pos hx
  rw [hfo]
  clear hfo
  have hmem := List.mem_of_getElem? hme
  obtain ⟨bb, f, H, hc, K, kc, hA, _, _, i1, _, rK⟩ := hT.at hme
  replace rK := rK.rd hb
  subst hA
  have hasks := hw.few me hmem
  refine wl_as rfl rfl ?_; refine wl_ns ?_; refine wc_seq ?_; refine wc_sr ?_; refine wl_mv rfl rfl ?_; refine wl_bin rfl rfl bin_lss rfl ?_; refine wl_ns ?_; apply wc_condFb; exact rfl; exact rfl; refine wc_skip ?_; refine we_seq ?_; refine wc_seq ?_
  refine wc_cutE (fun L' w' => ∃ g7, L' = [(2, .pointer (some ⟨g2, 0, none⟩)), (3, .pointer (some ⟨g3, 0, none⟩)), (5, .slice none 0 0), (6, .int .i64 (p : Int)), (7, .pointer (some ⟨g7, 0, none⟩))] ∧ St NoB w w' [.blk g7 99 (owV me H hc K kc), .blk g3 30 (txV x), .blk g2 67 [.slice (some ⟨bb, f, none⟩) tb.os.length c, .slice B tb.qu.length d]]) ?_ ?_
  · refine wc_heldL (fun w' => St NoB w w' [.blk g3 30 (txV x), .blk g2 67 [.slice (some ⟨bb, f, none⟩) tb.os.length c, .slice B tb.qu.length d]]) 8 mixed ?_
    replace hs := hs.below (Below.refl _ _).drew
    apply wm_take 0; exact rfl; intro _ hw_; apply opv_fa; exact fa_WT0; exact rfl; exact rfl; kernel_rfl; exact hs; apply wm_take 1; exact rfl; intro _ hw_; apply opv_ldX; exact rfl; exact hw_.ar 1 rfl; exact e1_wos; exact rfl; exact rfl; kernel_rfl; exact hs; apply wm_take 2; exact rfl; intro _ hw_; apply opv_loadX; exact rfl; exact hw_.ar 1 rfl; exact sWT; exact rfl; kernel_rfl; exact hs; apply wm_take 3; exact rfl; intro _ hw_; apply opv_loadX; exact rfl; exact hw_.ar 0 rfl; exact sTx; exact rfl; kernel_rfl; exact hs
    refine wm_two 4 7 (by kernel_rfl) rfl rfl ?_ ?_ <;> dsimp only [List.getElem_toArray, List.getElem_cons_succ, List.getElem_cons_zero]
    · refine wl_call ok_caissonref16_find (rfind_any (hT.below hs.bel) rfl (by omega)) ⟨rfl, rfl, trivial⟩ rfl ?_
      rintro _ w2 ⟨rfl, hbx⟩
      replace hs := hs.below hbx
      clear hbx
      rw [hkx]
      refine wl_nil ?_
      refine we_heldM (fun _ => hs) ?_
      apply wm_take 5; exact rfl; intro _ hw_; apply opv_idxG tkWO; exact rfl; exact rfl; exact rfl; omega; exact rfl; kernel_rfl; exact hs; apply wm_take 6; exact rfl; intro _ hw_; apply opv_ldG; exact rfl; exact Wi.below (by assumption) hw_.bel; exact sWO; exact rfl; kernel_rfl; exact hs
      refine wm_one 7 (by kernel_rfl) rfl ?_; dsimp only [List.getElem_toArray, List.getElem_cons_succ, List.getElem_cons_zero]
      refine ws_new hs zeroWO rfl ?_; clear hs; intro g7 _ hs
      refine wl_nil ?_
      refine we_heldM (fun _ => hs.drop 0 rfl) ?_
      refine wm_one 8 (by kernel_rfl) rfl ?_; dsimp only [List.getElem_toArray, List.getElem_cons_succ, List.getElem_cons_zero]
      apply ws_stS hs 0; exact rfl; exact rfl; exact rfl; exact sWO; exact rfl; exact rfl; clear hs; intro _ hs; dsimp only [setC] at hs; refine wl_nil ?_
      refine we_heldM (fun h => absurd h (by decide)) ?_
      refine wm_done (by kernel_rfl) ?_
      exact we_cut _ ⟨g7, rfl, hs⟩ ⟨rfl, rfl, rfl, rfl, rfl, trivial⟩
    · refine ws_new hs zeroWO rfl ?_; clear hs; intro g7 _ hs
      refine wl_nil ?_
      refine we_heldM (fun _ => hs.drop 0 rfl) ?_
      refine wm_one 4 (by kernel_rfl) rfl ?_; dsimp only [List.getElem_toArray, List.getElem_cons_succ, List.getElem_cons_zero]
      refine wl_call ok_caissonref16_find (rfind_any (hT.below hs.bel) rfl (by omega)) ⟨rfl, rfl, trivial⟩ rfl ?_
      rintro _ w2 ⟨rfl, hbx⟩
      replace hs := hs.below hbx
      clear hbx
      rw [hkx]
      refine wl_nil ?_
      have hs' := hs.drop 0 rfl
      dsimp only [delC] at hs'
      refine we_heldM (fun _ => hs') ?_
      apply wm_take 5; exact rfl; intro _ hw_; apply opv_idxG tkWO; exact rfl; exact rfl; exact rfl; omega; exact rfl; kernel_rfl; exact hs'; apply wm_take 6; exact rfl; intro _ hw_; apply opv_ldG; exact rfl; exact Wi.below (by assumption) hw_.bel; exact sWO; exact rfl; kernel_rfl; exact hs'
      clear hs'
      refine wm_one 8 (by kernel_rfl) rfl ?_; dsimp only [List.getElem_toArray, List.getElem_cons_succ, List.getElem_cons_zero]
      apply ws_stS hs 0; exact rfl; exact rfl; exact rfl; exact sWO; exact rfl; exact rfl; clear hs; intro _ hs; dsimp only [setC] at hs; refine wl_nil ?_
      refine we_heldM (fun h => absurd h (by decide)) ?_
      refine wm_done (by kernel_rfl) ?_
      exact we_cut _ ⟨g7, rfl, hs⟩ ⟨rfl, rfl, rfl, rfl, rfl, trivial⟩
  clear hs i1
  rintro _ w3 ⟨g7, rfl, hs⟩
  replace hs := hs.nilG 2 30
  unfold owV at hs
  refine we_seq ?_; refine wc_seq ?_; refine wc_sr ?_; refine wl_as rfl rfl ?_; refine wl_ns ?_; refine wc_block ?_
  refine wc_loop (fun L wr mm => ∃ (k : Nat) (P : Option Addr) (cp : Nat), L = [(2, .pointer (some ⟨g2, 0, none⟩)), (3, .pointer (some ⟨g3, 0, none⟩)), (5, .slice P ((tb.os.take k).filter (blkP tb me)).length cp), (6, .int .i64 (p : Int)), (7, .pointer (some ⟨g7, 0, none⟩)), (8, .int .i64 (k : Int))] ∧ k ≤ tb.os.length ∧ St NoB w wr [.rg 2 30 P cp (txEls (((tb.os.take k).filter (blkP tb me)).map (·.x))), .blk g7 99 [.int .u64 (me.x.1 : Int), .int .u64 (me.x.2 : Int), .slice H me.held.length hc, .slice K me.asks.length kc], .blk g3 30 (txV x), .blk g2 67 [.slice (some ⟨bb, f, none⟩) tb.os.length c, .slice B tb.qu.length d]] ∧ mm = tb.os.length - k)
    [(2, .pointer (some ⟨g2, 0, none⟩)), (3, .pointer (some ⟨g3, 0, none⟩)), (5, .slice none 0 0), (6, .int .i64 (p : Int)), (7, .pointer (some ⟨g7, 0, none⟩)), (8, .int .i64 (0 : Nat))] tb.os.length ⟨0, none, 0, rfl, by omega, hs, rfl⟩ ⟨rfl, rfl, rfl, rfl, rfl, rfl, trivial⟩ ?_
  clear hs
  rintro _ w4 mm ⟨k, P, cp, rfl, hk, hs, rfl⟩
  refine wc_seq ?_; refine wc_sr ?_; refine wl_mv rfl rfl ?_; apply wl_val; apply opv_fa; exact fa_WT0; exact rfl; exact rfl; apply wl_val; apply opv_ldX; exact rfl; exact hs.ar 3 rfl; exact e1_wos; exact rfl; exact rfl; apply wl_val; apply opv_len; exact rfl; exact tkWO.sl; exact rfl; refine wl_bin rfl rfl bin_lss rfl ?_; refine wl_ns ?_
  refine wc_cond rfl (fun h1 => ?_) (fun h1 => ?_)
  · obtain ⟨o, ho⟩ : ∃ o, tb.os[k]? = some o := ⟨_, List.getElem?_eq_getElem (by omega)⟩
    have hom := List.mem_of_getElem? ho
    have hft := filter_takeS (f := blkP tb me) ho
    have hlen : ((tb.os.take k).filter (blkP tb me)).length ≤ k := Nat.le_trans (List.length_filter_le _ _) (by rw [List.length_take]; omega)
    obtain ⟨_, _, OH, ohc, OK, okc, hA, _, _, i2, oH, oK⟩ := hT.at ho
    cases hA
    replace i2 := i2.below hs.bel
    replace oH := oH.rd hb
    replace oK := oK.rd hb
    have hfo := hw.few o hom
    have hho := hh o hom
    have hkk : ((k + 1 : Nat) : Int) = (k : Int) + 1 := by omega
    have hcl : ∀ a b : List Rg, (∀ r ∈ a, okR r) → (∀ r ∈ b, okR r) → ∀ r ∈ a, r.fr.length ≤ 1048576 ∧ r.to.length ≤ 1048576 := fun a b ha _ r hr => by have := ha r hr; unfold okR at this; omega
    have hfH := fun r hr => hw.form o hom r (.inl hr)
    have hfK := fun r hr => hw.form o hom r (.inr hr)
    have hfM := fun r hr => hw.form me hmem r (.inr hr)
    refine wc_skip ?_; refine we_seq ?_; refine wc_seq ?_; refine wc_block ?_; refine wc_sr ?_; apply wl_val; apply opv_fa; exact fa_WT0; exact rfl; exact rfl; apply wl_val; apply opv_ldX; exact rfl; exact hs.ar 3 rfl; exact e1_wos; exact rfl; exact rfl; refine wl_mv rfl rfl ?_; apply wl_val; apply opv_idxG tkWO; exact rfl; exact rfl; exact rfl; omega; exact rfl; apply wl_val; apply opv_ldG; exact rfl; assumption; exact sWO; exact rfl
    refine ws_var (cs := owV o OH ohc OK okc) hs zeroWO sWO rfl (fun _ => rfl) (by first | rfl | simp [Value.oneCell']) rfl ?_; clear hs; intro g9 _ hs
    have i3 := ar_wiWO (hs.ar 0 rfl)
    unfold owV at hs
    refine wl_ns ?_; refine wc_seq ?_; refine wc_sr ?_; apply wl_val; apply opv_fa; exact fa_WO0; exact rfl; exact rfl; apply wl_val; apply opv_ldG; exact rfl; assumption; exact sTx; exact rfl; apply wl_val; apply opv_loadX; exact rfl; exact hs.ar 3 rfl; exact sTx; exact rfl; apply wl_val; apply opv_bin; exact rfl; exact rfl; exact (bin_eqlTx _ _); exact rfl; refine wl_ns ?_
    by_cases hpo : o.x = x
    · have hbf : blkP tb me o = false := by rw [blkP, hmx, decide_eq_true hpo]; rfl
      rw [hbf, if_neg (by decide), List.append_nil] at hft
      rw [decide_eq_true hpo]
      apply wc_condTb; exact rfl; exact rfl; refine wc_exit ?_; refine we_seq_exit ?_; refine we_block_exit ?_; refine we_seq ?_; refine wc_region ?_; refine wl_mv rfl rfl ?_; apply wl_val; apply opv_bin; exact rfl; exact rfl; exact bin_add64 (by omega); exact rfl; refine wl_as rfl rfl ?_; refine wl_nil ?_
      exact we_loop _ (tb.os.length - (k + 1)) ⟨k + 1, P, cp, rfl, by omega, by rw [hft]; exact hs.drop 0 rfl, rfl⟩ (by omega) ⟨rfl, rfl, by rw [hft]; rfl, rfl, rfl, by simp [lookT], trivial⟩
    · have hbr : blkP tb me o = (clashB o.held me.asks || (decide (o.x ∈ aheadL tb.qu x) && clashB o.asks me.asks)) := by rw [blkP, hmx, decide_eq_false hpo]; rfl
      rw [decide_eq_false hpo]
      apply wc_condFb; exact rfl; exact rfl; refine wc_skip ?_; refine we_seq ?_; refine wc_sr ?_; apply wl_val; apply opv_loadX; exact rfl; exact hs.ar 4 rfl; exact sWT; exact rfl; apply wl_val; apply opv_fa; exact fa_WO0; exact rfl; exact rfl; apply wl_val; apply opv_ldG; exact rfl; assumption; exact sTx; exact rfl
      refine wl_call ok_caissonref16_place (rplace_any (hT.below hs.bel) rfl (by omega)) ⟨rfl, rfl, trivial⟩ rfl ?_
      rintro _ w5 ⟨rfl, hbx⟩
      replace hs := hs.below hbx
      clear hbx i2 i3
      refine wl_as rfl rfl ?_; refine wl_ns ?_; refine wc_sr ?_; apply wl_val; apply opv_fa; exact fa_WO1; exact rfl; exact rfl; apply wl_val; apply opv_ldX; exact rfl; exact hs.ar 0 rfl; exact e1_rgs; exact rfl; exact rfl; apply wl_val; apply opv_fa; exact fa_WO2; exact rfl; exact rfl; apply wl_val; apply opv_ldX; exact rfl; exact hs.ar 2 rfl; exact e1_rgs; exact rfl; exact rfl
      refine wl_call ok_caissonref16_Clash (refClash_any (oH.below hs.bel) (rK.below hs.bel) rfl rfl (by omega) (by omega) (hcl _ _ hfH hfM) (hcl _ _ hfM hfH)) ⟨rfl, rfl, trivial⟩ rfl ?_
      rintro _ w6 ⟨rfl, hbx⟩
      replace hs := hs.below hbx
      clear hbx
      rw [rClash_eq hfH hfM]
      refine wl_cutE (fun L' w' => L' = [(2, .pointer (some ⟨g2, 0, none⟩)), (3, .pointer (some ⟨g3, 0, none⟩)), (5, .slice P ((tb.os.take k).filter (blkP tb me)).length cp), (6, .int .i64 (p : Int)), (7, .pointer (some ⟨g7, 0, none⟩)), (8, .int .i64 (k : Int)), (9, .pointer (some ⟨g9, 0, none⟩)), (64, .bool (blkP tb me o))] ∧ St NoB w w' [.blk g9 99 [.int .u64 (o.x.1 : Int), .int .u64 (o.x.2 : Int), .slice OH o.held.length ohc, .slice OK o.asks.length okc], .rg 2 30 P cp (txEls (((tb.os.take k).filter (blkP tb me)).map (·.x))), .blk g7 99 [.int .u64 (me.x.1 : Int), .int .u64 (me.x.2 : Int), .slice H me.held.length hc, .slice K me.asks.length kc], .blk g3 30 (txV x), .blk g2 67 [.slice (some ⟨bb, f, none⟩) tb.os.length c, .slice B tb.qu.length d]]) ?_ ?_
      · cases hc1 : clashB o.held me.asks with
        | true =>
          rw [hc1, Bool.true_or] at hbr
          refine wl_mv rfl rfl ?_; apply wl_skip; exact rfl; exact rfl; exact rfl; exact bR1; exact rfl; apply wl_skip; exact rfl; exact rfl; exact rfl; exact bR1; exact rfl; apply wl_skip; exact rfl; exact rfl; exact rfl; exact bR1; exact rfl; apply wl_skipU; exact rfl; exact rfl; exact rfl; exact rfl; apply wl_skipU; exact rfl; exact rfl; exact rfl; exact rfl; apply wl_skipU; exact rfl; exact rfl; exact rfl; exact rfl; apply wl_skip; exact rfl; exact rfl; exact rfl; exact bR1; exact rfl; apply wl_skip; exact rfl; exact rfl; exact rfl; exact bR1; exact rfl; apply wl_skipU; exact rfl; exact rfl; exact rfl; exact rfl; apply wl_skipU; exact rfl; exact rfl; exact rfl; exact rfl; apply wl_skipU; exact rfl; exact rfl; exact rfl; exact rfl; apply wl_skipU; exact rfl; exact rfl; exact rfl; exact rfl; apply wl_skipU; exact rfl; exact rfl; exact rfl; exact rfl; apply wl_skip; exact rfl; exact rfl; exact rfl; exact bR1; exact rfl; apply wl_val; apply opv_pickT; exact rfl; exact rfl; exact rfl; exact rfl; refine wl_nil ?_
          exact we_cut _ ⟨rfl, hs⟩ ⟨rfl, rfl, rfl, rfl, rfl, rfl, rfl, by rw [hbr]; rfl, trivial⟩
        | false =>
          rw [hc1, Bool.false_or] at hbr
          by_cases hin : o.x ∈ aheadL tb.qu x
          · obtain ⟨h2, h3⟩ := (hap o.x).1 hin
            rw [decide_eq_true hin, Bool.true_and] at hbr
            refine wl_mv rfl rfl ?_; apply wl_take; exact rfl; exact rfl; exact rfl; exact rfl; refine wl_mv rfl rfl ?_; apply wl_take; exact rfl; exact rfl; exact rfl; exact rfl; refine wl_bin rfl rfl bin_geq rfl ?_; apply wl_take; exact rfl; exact rfl; exact rfl; exact rfl; refine wl_mv rfl rfl ?_; apply wl_take; exact rfl; exact rfl; exact rfl; refine bT ?_; (with_reducible assumption); refine wl_mv rfl rfl ?_; apply wl_take; exact rfl; exact rfl; exact rfl; refine bT ?_; (with_reducible assumption); refine wl_mv rfl rfl ?_; apply wl_take; exact rfl; exact rfl; exact rfl; refine bT ?_; (with_reducible assumption); refine wl_bin rfl rfl bin_lss rfl ?_; apply wl_take; exact rfl; exact rfl; exact rfl; exact rfl; apply wl_val; apply opv_pickT; exact rfl; refine bT ?_; (with_reducible assumption); exact rfl; exact rfl; apply wl_take; exact rfl; exact rfl; exact rfl; exact rfl; refine wl_mv rfl rfl ?_; apply wl_take; exact rfl; exact rfl; exact rfl; refine bT ?_; (with_reducible assumption); apply wl_val; apply opv_fa; exact fa_WO2; exact rfl; exact rfl; apply wl_take; exact rfl; exact rfl; exact rfl; refine bT ?_; (with_reducible assumption); apply wl_val; apply opv_ldX; exact rfl; exact hs.ar 0 rfl; exact e1_rgs; exact rfl; exact rfl; apply wl_take; exact rfl; exact rfl; exact rfl; refine bT ?_; (with_reducible assumption); apply wl_val; apply opv_fa; exact fa_WO2; exact rfl; exact rfl; apply wl_take; exact rfl; exact rfl; exact rfl; refine bT ?_; (with_reducible assumption); apply wl_val; apply opv_ldX; exact rfl; exact hs.ar 2 rfl; exact e1_rgs; exact rfl; exact rfl; apply wl_take; exact rfl; exact rfl; exact rfl; refine bT ?_; (with_reducible assumption)
            refine wl_call ok_caissonref16_Clash (refClash_any (oK.below hs.bel) (rK.below hs.bel) rfl rfl (by omega) (by omega) (hcl _ _ hfK hfM) (hcl _ _ hfM hfK)) ⟨rfl, rfl, trivial⟩ rfl ?_
            rintro _ w7 ⟨rfl, hbx⟩
            replace hs := hs.below hbx
            clear hbx
            rw [rClash_eq hfK hfM]
            apply wl_take; exact rfl; exact rfl; exact rfl; exact rfl; apply wl_val; apply opv_pickT; exact rfl; refine bT ?_; (with_reducible assumption); exact rfl; exact rfl; apply wl_val; apply opv_pickF; exact rfl; exact rfl; exact rfl; exact rfl; refine wl_nil ?_
            exact we_cut _ ⟨rfl, hs⟩ ⟨rfl, rfl, rfl, rfl, rfl, rfl, rfl, by rw [hbr]; rfl, trivial⟩
          · rw [decide_eq_false hin, Bool.false_and] at hbr
            have h2 : ¬ (0 ≤ plN tb.qu o.x ∧ plN tb.qu o.x < p) := fun k => hin ((hap o.x).2 k)
            by_cases h3 : 0 ≤ plN tb.qu o.x
            · have h4 : ¬ plN tb.qu o.x < p := fun k => h2 ⟨h3, k⟩
              refine wl_mv rfl rfl ?_; apply wl_take; exact rfl; exact rfl; exact rfl; exact rfl; refine wl_mv rfl rfl ?_; apply wl_take; exact rfl; exact rfl; exact rfl; exact rfl; refine wl_bin rfl rfl bin_geq rfl ?_; apply wl_take; exact rfl; exact rfl; exact rfl; exact rfl; refine wl_mv rfl rfl ?_; apply wl_take; exact rfl; exact rfl; exact rfl; refine bT ?_; (with_reducible assumption); refine wl_mv rfl rfl ?_; apply wl_take; exact rfl; exact rfl; exact rfl; refine bT ?_; (with_reducible assumption); refine wl_mv rfl rfl ?_; apply wl_take; exact rfl; exact rfl; exact rfl; refine bT ?_; (with_reducible assumption); refine wl_bin rfl rfl bin_lss rfl ?_; apply wl_take; exact rfl; exact rfl; exact rfl; exact rfl; apply wl_val; apply opv_pickT; exact rfl; refine bT ?_; (with_reducible assumption); exact rfl; exact rfl; apply wl_take; exact rfl; exact rfl; exact rfl; exact rfl; refine wl_mv rfl rfl ?_; apply wl_skip; exact rfl; exact rfl; exact rfl; refine bFn ?_; (with_reducible assumption); exact rfl; apply wl_skip; exact rfl; exact rfl; exact rfl; refine bFn ?_; (with_reducible assumption); exact rfl; apply wl_skip; exact rfl; exact rfl; exact rfl; refine bFn ?_; (with_reducible assumption); exact rfl; apply wl_skip; exact rfl; exact rfl; exact rfl; refine bFn ?_; (with_reducible assumption); exact rfl; apply wl_skip; exact rfl; exact rfl; exact rfl; refine bFn ?_; (with_reducible assumption); exact rfl; apply wl_take; exact rfl; exact rfl; exact rfl; exact rfl; apply wl_val; apply opv_pickF; exact rfl; refine bF ?_; (with_reducible assumption); exact rfl; exact rfl; apply wl_val; apply opv_pickF; exact rfl; exact rfl; exact rfl; exact rfl; refine wl_nil ?_
              exact we_cut _ ⟨rfl, hs⟩ ⟨rfl, rfl, rfl, rfl, rfl, rfl, rfl, by rw [hbr]; rfl, trivial⟩
            · refine wl_mv rfl rfl ?_; apply wl_take; exact rfl; exact rfl; exact rfl; exact rfl; refine wl_mv rfl rfl ?_; apply wl_take; exact rfl; exact rfl; exact rfl; exact rfl; refine wl_bin rfl rfl bin_geq rfl ?_; apply wl_take; exact rfl; exact rfl; exact rfl; exact rfl; refine wl_mv rfl rfl ?_; apply wl_skip; exact rfl; exact rfl; exact rfl; refine bFn ?_; (with_reducible assumption); exact rfl; apply wl_skip; exact rfl; exact rfl; exact rfl; refine bFn ?_; (with_reducible assumption); exact rfl; apply wl_skip; exact rfl; exact rfl; exact rfl; refine bFn ?_; (with_reducible assumption); exact rfl; apply wl_take; exact rfl; exact rfl; exact rfl; exact rfl; apply wl_val; apply opv_pickF; exact rfl; refine bF ?_; (with_reducible assumption); exact rfl; exact rfl; apply wl_take; exact rfl; exact rfl; exact rfl; exact rfl; refine wl_mv rfl rfl ?_; apply wl_skip; exact rfl; exact rfl; exact rfl; exact bR2; exact rfl; apply wl_skip; exact rfl; exact rfl; exact rfl; exact bR2; exact rfl; apply wl_skip; exact rfl; exact rfl; exact rfl; exact bR2; exact rfl; apply wl_skip; exact rfl; exact rfl; exact rfl; exact bR2; exact rfl; apply wl_skip; exact rfl; exact rfl; exact rfl; exact bR2; exact rfl; apply wl_take; exact rfl; exact rfl; exact rfl; exact rfl; apply wl_val; apply opv_pickF; exact rfl; exact rfl; exact rfl; exact rfl; apply wl_val; apply opv_pickF; exact rfl; exact rfl; exact rfl; exact rfl; refine wl_nil ?_
              exact we_cut _ ⟨rfl, hs⟩ ⟨rfl, rfl, rfl, rfl, rfl, rfl, rfl, by rw [hbr]; rfl, trivial⟩
      clear hs
      rintro _ w8 ⟨rfl, hs⟩
      cases hbk : blkP tb me o with
      | false =>
        rw [hbk, if_neg (by decide), List.append_nil] at hft
        refine we_seq ?_; apply wc_condFb; exact rfl; exact rfl; refine wc_skip ?_; refine we_block_norm ?_; refine we_seq ?_; refine wc_region ?_; refine wl_mv rfl rfl ?_; apply wl_val; apply opv_bin; exact rfl; exact rfl; exact bin_add64 (by omega); exact rfl; refine wl_as rfl rfl ?_; refine wl_nil ?_
        exact we_loop _ (tb.os.length - (k + 1)) ⟨k + 1, P, cp, rfl, by omega, by rw [hft]; exact hs.drop 0 rfl, rfl⟩ (by omega) ⟨rfl, rfl, by rw [hft]; rfl, rfl, rfl, by simp [lookT], trivial⟩
      | true =>
        rw [hbk, if_pos rfl] at hft
        have i3 := ar_wiWO (hs.ar 0 rfl)
        refine we_seq ?_; apply wc_condTb; exact rfl; exact rfl; refine wc_region ?_; refine wl_mv rfl rfl ?_; apply wl_val; apply opv_fa; exact fa_WO0; exact rfl; exact rfl; apply wl_val; apply opv_ldG; exact rfl; assumption; exact sTx; exact rfl
        refine ws_pushR (cs := txV o.x) hs 1 (fun _ => rfl) rfl tkTx (by simp) ⟨_, rfl, rfl⟩ rfl rfl (by decide) (by omega) (by simp only [maxLen]; omega) rfl rfl ?_
        clear hs; intro _ P2 cp2 w9 hs; dsimp only [setC] at hs
        refine wl_as rfl rfl ?_; refine wl_nil ?_; refine we_block_norm ?_; refine we_seq ?_; refine wc_region ?_; refine wl_mv rfl rfl ?_; apply wl_val; apply opv_bin; exact rfl; exact rfl; exact bin_add64 (by omega); exact rfl; refine wl_as rfl rfl ?_; refine wl_nil ?_
        exact we_loop _ (tb.os.length - (k + 1)) ⟨k + 1, P2, cp2, rfl, by omega, by rw [hft]; simpa [txEls, delC] using hs.drop 0 rfl, rfl⟩ (by omega) ⟨rfl, rfl, by rw [hft, List.length_append]; rfl, rfl, rfl, by simp [lookT], trivial⟩
  · obtain rfl : k = tb.os.length := by omega
    rw [List.take_length] at hs
    refine wc_exit ?_; refine we_seq_exit ?_; refine we_loop_exit ?_; refine we_block_exit ?_; refine we_seq ?_; refine wc_sr ?_; refine wl_mv rfl rfl ?_; refine wl_as rfl rfl ?_; refine wl_ns ?_; refine wc_ret ?_
    exact we_ret1 rfl rfl ⟨_, rfl, P, cp, by rw [List.take_length, bnames, List.length_map]; rfl, hs.nil.1, by
      have h := hs.2
      obtain ⟨T, hT, hc, _⟩ := h
      exact ⟨T, hT, hc, trivial⟩⟩
end Go.Proofs.Ytmdbjeabifkimaa

/-
  The document's lock tables as pieces; walks over its with and leave.
-/
namespace Go.Proofs.Ytmdbjeabifkimaa
open Go.RowKit

/-- The owners' part of a table. -/
def RoT (w0 w : World) (S : BS) (css : List (List Value)) (A : Option Addr) (os : List Ownr) : Prop := RdR 4 w S A (css.map rawEl) ∧ Grp 4 w S (os.map (ownO' w0)) css
def roK (w0 : World) (css : List (List Value)) (A : Option Addr) (os : List Ownr) : Ck := ⟨fun w S => RoT w0 w S css A os, fun h hz hm => ⟨h.1.move (by decide) hz hm, h.2.move hz hm⟩⟩
/-- The same, with one owner more that is told by its cells. -/
def rooK (w0 : World) (css : List (List Value)) (A : Option Addr) (os : List Ownr) (o : Ownr) (cs : List Value) : Ck := ⟨fun w S => RoT w0 w S css A os ∧ (ownO' w0 o).P w S cs, fun h hz hm => ⟨⟨h.1.1.move (by decide) hz hm, h.1.2.move hz hm⟩, El.move _ h.2 hz hm⟩⟩
def rqK (B : Option Addr) (qu : List Tx) : Ck := ⟨fun w S => RdR 2 w S B (txEls qu), fun h hz hm => h.move (by decide) hz hm⟩
section
variable {w0 w w' wi : World} {S S' M : BS} {A B : Option Addr} {os : List Ownr} {qu : List Tx} {css : List (List Value)} {H : List Cd} {k : Nat} {e : TypeId}
theorem Grp.set' {els : List El} {cs : List Value} {E : El} {i : Nat} (h : Grp k w S els css) (hE : E.P w S cs) (hl : cs.length = k) : Grp k w S (els.set i E) (css.set i cs) := by
  refine ⟨by simp [h.1], fun j c hj => ?_⟩
  rw [List.getElem?_set] at hj ⊢
  split at hj
  · rename_i hij
    rw [if_pos hij]
    split at hj
    · rename_i hlt
      cases hj
      exact ⟨hl, E, by rw [if_pos (by rw [← h.1]; exact hlt)], hE⟩
    · cases hj
  · rename_i hij
    rw [if_neg hij]
    exact h.2 j c hj
theorem rg_rdS {c : Nat} {T : BS} (h : (Cd.rg k e A c (css.map rawEl)).P w T) : RdR k w T A (css.map rawEl) := by
  obtain ⟨ho, hk⟩ := OwR.raw h.2
  exact ⟨css, grp_raw hk, by rw [List.length_map]; exact own_rd ho, fun a ha _ => h.1 a ha⟩
theorem RoT.len (h : RoT w0 w S css A os) : css.length = os.length := by rw [h.2.1, List.length_map]
theorem RoT.mono (h : RoT w0 w S css A os) (hs : ∀ b, b < w.heap.size → S b → S' b) : RoT w0 w S' css A os := ⟨RdR.mono (by decide) h.1 hs, h.2.mono hs⟩
theorem RoT.rf (h : RoT w0 w S css A os) (hq : RdR 2 w S B (txEls qu)) : RfT w0 w S css A B ⟨os, qu⟩ := ⟨h.1, h.2, hq⟩
theorem RoT.one (h : RoT w0 w S css A os) : ∀ u ∈ css.flatten, u.oneCell' = true := by
  intro u hu
  obtain ⟨cs, hcs, hu⟩ := List.mem_flatten.1 hu
  obtain ⟨i, hi, rfl⟩ := List.getElem_of_mem hcs
  obtain ⟨_, E, h1, h2⟩ := h.2.2 i _ (List.getElem?_eq_getElem hi)
  rw [List.getElem?_map] at h1
  cases ho : os[i]? with
  | none => rw [ho] at h1; cases h1
  | some o =>
    rw [ho] at h1
    simp only [Option.map_some, Option.some.injEq] at h1
    subst h1
    obtain ⟨H, hc, K, kc, e, _⟩ := h2
    rw [e] at hu
    simp only [owV, List.mem_cons, List.not_mem_nil, or_false] at hu
    rcases hu with rfl | rfl | rfl | rfl <;> rfl
theorem RoT.row (h : RoT w0 w S css A os) {o : Ownr} {X Y : Option Addr} {xc yc : Nat} (ho : os[k]? = some o) (hcs : css[k]? = some (owV o X xc Y yc)) : RwO w0 w S X o.held ∧ RwO w0 w S Y o.asks := by
  obtain ⟨cs, h1, h2, X', xc', Y', yc', e, h3, h4⟩ := h.2.at (i := k) (E := ownO' w0 o) (by rw [List.getElem?_map, ho]; rfl)
  rw [hcs] at h1
  cases h1
  simp only [owV, List.cons.injEq, Value.slice.injEq, and_true, true_and] at e
  obtain ⟨⟨rfl, rfl⟩, rfl, rfl⟩ := e
  exact ⟨h3, h4⟩
theorem RoT.at (h : RoT w0 w S css A os) {o : Ownr} (hk : os[k]? = some o) : ∃ b f X xc Y yc, A = some ⟨b, f, none⟩ ∧ S b ∧ css[k]? = some (owV o X xc Y yc) ∧ Wi w b (f + k * 4) (owV o X xc Y yc) ∧ RwO w0 w S X o.held ∧ RwO w0 w S Y o.asks :=
  RfT.at (B := none) (tb := ⟨os, []⟩) (h.rf (qu := []) (RdR.nil none)) hk
theorem St.ro (hs : St M wi w H) (i : Nat) (hi : nthC H i = some (.ck (roK w0 css A os))) : RoT w0 w All css A os := by
  obtain ⟨T, hc, _⟩ := hs.get i hi
  exact RoT.mono hc fun _ _ _ => trivial
theorem St.roo {o : Ownr} {cs : List Value} (hs : St M wi w H) (i : Nat) (hi : nthC H i = some (.ck (rooK w0 css A os o cs))) : RoT w0 w All css A os := by
  obtain ⟨T, hc, _⟩ := hs.get i hi
  exact RoT.mono hc.1 fun _ _ _ => trivial
theorem St.rq (hs : St M wi w H) (i : Nat) (hi : nthC H i = some (.ck (rqK B qu))) : RdR 2 w All B (txEls qu) := by
  obtain ⟨T, hc, _⟩ := hs.get i hi
  exact RdR.all hc
theorem tx_raw {l : List Tx} : txEls l = (l.map txV).map rawEl := by rw [txEls, List.map_map]; rfl
theorem St.toRq {c : Nat} (hs : St M wi w (.rg 2 e B c (txEls qu) :: H)) : St M wi w (.ck (rqK B qu) :: H) := St.pack (H1 := [_]) hs _ fun w S ⟨T, hT, h1, _⟩ => by
  rw [tx_raw] at h1
  show RdR 2 w S B (txEls qu)
  rw [tx_raw]
  exact RdR.mono (by decide) (rg_rdS h1) fun b _ h => hT b h
/-- The owners, one of them set. -/
theorem roo_set {c : Nat} {A' : Option Addr} {o : Ownr} {cs : List Value} (hl : cs.length = 4) (h : Sat w [.rg 4 e A' c ((css.set k cs).map rawEl), .ck (rooK w0 css A os o cs)] S) : RoT w0 w S (css.set k cs) A' (os.set k o) := by
  obtain ⟨T1, hT1, h1, T2, hT2, ⟨h2, h3⟩, _⟩ := h
  refine ⟨RdR.mono (by decide) (rg_rdS h1) fun b _ h => hT1 b h, ?_⟩
  rw [List.map_set]
  exact Grp.set' (h2.2.mono fun b _ h => (hT2 b h).1) (El.mono h3 fun b _ h => (hT2 b h).1) hl
end
theorem owV_one (o : Ownr) (H : Option Addr) (hc : Nat) (K : Option Addr) (kc : Nat) : (owV o H hc K kc).all (·.oneCell') = true := rfl
set_option maxRecDepth 8000 in
theorem rwith_any {w0 w : World} {S : BS} {css : List (List Value)} {A B : Option Addr} {n c m d k : Nat} {os : List Ownr} {o : Ownr} {X Y : Option Addr} {xc yc : Nat} (h0 : Sat w [.ck (rooK w0 css A os o (owV o X xc Y yc))] S) (hn : os.length = n) (hk : k < os.length) (hl : os.length ≤ 1048576) :
    CallsV Try.prog 57 #[.agg (tvV A n c B m d).toArray, .int .i64 (k : Int), .agg (owV o X xc Y yc).toArray] w fun v w' => ∃ A' c', v = .agg (tvV A' n c' B m d).toArray ∧ n ≤ c' ∧ St S w w' [.ck (roK w0 (css.set k (owV o X xc Y yc)) A' (os.set k o))] := by
  subst hn
  have hs := St.start h0
  refine calls_in (N := _) Try.func57 rfl Try.ntmps57 rfl ?_; show WC _ _ _ _ _ _
  refine wc_sr ?_
  refine ws_box (cs := tvV A os.length c B m d) hs rfl rfl ?_; clear hs; intro g3 _ hs
  skip
  refine ws_box (cs := owV o X xc Y yc) hs rfl rfl ?_; clear hs; intro g5 _ hs
  refine ws_new hs zeroWT rfl ?_; clear hs; intro g6 _ hs
  unfold zWT at hs
  refine wl_ns ?_; refine wc_sr ?_
  refine ws_bsG0 (k := 4) hs (opv_bsG0 tkWO) rfl ?_
  clear hs; intro A1 w1 hs
  apply wl_val; apply opv_fa; exact fa_WT0; exact rfl; exact rfl; apply wl_val; apply opv_ldX; exact rfl; exact hs.ar 3 rfl; exact e1_wos; exact rfl; exact rfl
  have hro := hs.roo 4 rfl
  have hcl := hro.len
  refine ws_appR (css := css) (m := os.length) hs 0 rfl rfl tkWO rfl rfl hro.1 hcl hro.one (by omega) (by simp only [maxLen]; omega) rfl ?_
  clear hs; intro A2 c2 w2 hs; dsimp only [setC, List.nil_append] at hs
  obtain ⟨gA, rfl⟩ := OwR.form (hs.rg 0 rfl) (by rw [List.length_map, hcl]; omega)
  have hc2 := OwR.len_le (hs.rg 0 rfl)
  rw [List.length_map, hcl] at hc2
  rw [Nat.zero_add]
  refine wl_as rfl rfl ?_; refine wl_ns ?_; refine wc_sr ?_; refine wl_mv rfl rfl ?_; refine wl_mv rfl rfl ?_; apply wl_val; apply opv_loadX; exact rfl; exact hs.ar 2 rfl; exact sWO; exact rfl; apply wl_val; apply opv_idxG tkWO; exact rfl; exact rfl; exact rfl; omega; exact rfl
  refine ws_stRS (p := k) (cs' := owV o X xc Y yc) hs 0 rfl rfl rfl sWO (by omega) (by omega) rfl rfl (owV_one _ _ _ _ _) ?_
  clear hs; intro w3 hs; dsimp only [setC] at hs
  refine wl_ns ?_; refine wc_sr ?_; refine wl_mv rfl rfl ?_; apply wl_val; apply opv_fa; exact fa_WT0; exact rfl; exact rfl; apply ws_st hs 3; exact rfl; exact rfl; exact e1_wos; exact rfl; exact rfl; exact rfl; clear hs; intro _ hs; dsimp only [setC, List.set] at hs; refine wl_ns ?_; refine wc_sr ?_; apply wl_val; apply opv_loadX; exact rfl; exact hs.ar 3 rfl; exact sWT; exact rfl; apply ws_stS hs 1; exact rfl; exact rfl; exact rfl; exact sWT; exact rfl; exact rfl; clear hs; intro _ hs; dsimp only [setC] at hs; refine wl_ns ?_; refine wc_ret ?_
  have hs2 := (((hs.front 1 rfl).drop 2 rfl).drop 2 rfl)
  dsimp only [delC] at hs2
  have hs3 := St.pack (H1 := [_, _]) (hs2.drop 0 rfl) (.ck (roK w0 (css.set k (owV o X xc Y yc)) (some ⟨gA, 0, none⟩) (os.set k o))) fun w S h => roo_set rfl h
  exact we_retC rfl rfl (hs.ar 1 rfl) sWT ⟨_, rfl, _, c2, rfl, hc2, hs3⟩
theorem set_map {tb : Tb} (hn : (names tb).Nodup) (f : Ownr → Ownr) {k : Nat} {o : Ownr} (h : tb.os[k]? = some o) : (tb.os.map fun p => if p.x = o.x then f p else p) = tb.os.set k (f o) := by
  apply List.ext_getElem?
  intro i
  rw [List.getElem?_map, List.getElem?_set]
  by_cases hik : k = i
  · subst hik
    rw [if_pos rfl, h, if_pos (List.getElem?_eq_some_iff.1 h).1]
    simp
  · rw [if_neg hik]
    cases hi : tb.os[i]? with
    | none => rfl
    | some p =>
      have hne : p.x ≠ o.x := fun e => hik (by
        have h1 := names_get h
        have h2 := names_get hi
        have hlt : k < (names tb).length := (List.getElem?_eq_some_iff.1 h1).1
        exact (List.getElem?_inj hlt hn).1 (by rw [h1, h2, e]))
      simp [hne]
theorem leave_set {tb : Tb} (hn : (names tb).Nodup) {k : Nat} {o : Ownr} (h : tb.os[k]? = some o) : (leaveT tb o.x).os = tb.os.set k ⟨o.x, o.held, []⟩ := set_map hn (fun p => ⟨p.x, p.held, []⟩) h
theorem leave_none {tb : Tb} {x : Tx} (h : x ∉ names tb) : (leaveT tb x).os = tb.os := by
  show tb.os.map _ = tb.os
  conv => rhs; rw [← List.map_id tb.os]
  apply List.map_congr_left
  intro p hp
  have : p.x ≠ x := fun e => h (e ▸ List.mem_map_of_mem hp)
  simp [this]
theorem leave_len (tb : Tb) (x : Tx) : (leaveT tb x).os.length = tb.os.length := by simp [leaveT]
set_option maxRecDepth 8000 in
set_option maxHeartbeats 1000000 in
theorem rleave_any {w0 w : World} {S : BS} {css : List (List Value)} {A B : Option Addr} {n c m d : Nat} {tb : Tb} {x : Tx} (h0 : Sat w [.ck (roK w0 css A tb.os)] S) (hq : ∀ w', Mod S w w' → RdR 2 w' All B (txEls tb.qu)) (hn : tb.os.length = n) (hm : tb.qu.length = m) (hc : n ≤ c) (hw : (names tb).Nodup) (hl : tb.os.length ≤ 1048576) (hlq : tb.qu.length ≤ 1048576) :
    CallsV Try.prog 59 #[.agg (tvV A n c B m d).toArray, .agg (txV x).toArray] w fun v w' => ∃ css' A' c' B' d', v = .agg (tvV A' n c' B' (leaveT tb x).qu.length d').toArray ∧ n ≤ c' ∧ St S w w' [.ck (roK w0 css' A' (leaveT tb x).os), .ck (rqK B' (leaveT tb x).qu)] := by
  subst hn hm
  have hs := St.start h0
  refine calls_in (N := _) Try.func59 rfl Try.ntmps59 rfl ?_; show WC _ _ _ _ _ _
  refine wc_sr ?_
  refine ws_box (cs := tvV A tb.os.length c B tb.qu.length d) hs rfl rfl ?_; clear hs; intro g2 _ hs
  skip
  refine ws_box (cs := txV x) hs rfl rfl ?_; clear hs; intro g3 _ hs
  refine ws_new hs zeroWT rfl ?_; clear hs; intro g4 _ hs
  unfold zWT at hs
  replace hs := hs.nilG 2 30
  refine wl_ns ?_; refine wc_sr ?_; refine wl_as rfl rfl ?_; refine wl_ns ?_; refine wc_seq ?_; refine wc_sr ?_; refine wl_as rfl rfl ?_; refine wl_ns ?_; refine wc_block ?_
  refine wc_loop (fun L wr mm => ∃ (k : Nat) (P : Option Addr) (cp : Nat), L = [(2, .pointer (some ⟨g2, 0, none⟩)), (3, .pointer (some ⟨g3, 0, none⟩)), (4, .pointer (some ⟨g4, 0, none⟩)), (5, .slice P ((tb.qu.take k).filter fun y => !decide (y = x)).length cp), (6, .int .i64 (k : Int))] ∧ k ≤ tb.qu.length ∧ St S w wr [.rg 2 30 P cp (txEls ((tb.qu.take k).filter fun y => !decide (y = x))), .blk g4 67 [.slice none 0 0, .slice none 0 0], .blk g3 30 (txV x), .blk g2 67 [.slice A tb.os.length c, .slice B tb.qu.length d], .ck (roK w0 css A tb.os)] ∧ mm = tb.qu.length - k)
    [(2, .pointer (some ⟨g2, 0, none⟩)), (3, .pointer (some ⟨g3, 0, none⟩)), (4, .pointer (some ⟨g4, 0, none⟩)), (5, .slice none 0 0), (6, .int .i64 (0 : Nat))] tb.qu.length ⟨0, none, 0, rfl, by omega, hs, rfl⟩ ⟨rfl, rfl, rfl, rfl, rfl, trivial⟩ ?_
  clear hs
  rintro _ w1 mm ⟨k, P, cp, rfl, hk, hs, rfl⟩
  refine wc_seq ?_; refine wc_sr ?_; refine wl_mv rfl rfl ?_; apply wl_val; apply opv_fa; exact fa_WT1; exact rfl; exact rfl; apply wl_val; apply opv_ldX; exact rfl; exact hs.ar 3 rfl; exact e1_txs; exact rfl; exact rfl; apply wl_val; apply opv_len; exact rfl; exact tkTx.sl; exact rfl; refine wl_bin rfl rfl bin_lss rfl ?_; refine wl_ns ?_
  refine wc_cond rfl (fun h1 => ?_) (fun h1 => ?_)
  · obtain ⟨y, hy⟩ : ∃ y, tb.qu[k]? = some y := ⟨_, List.getElem?_eq_getElem (by omega)⟩
    have hft := filter_takeS (f := fun y => !decide (y = x)) hy
    have hlen : ((tb.qu.take k).filter fun y => !decide (y = x)).length ≤ k := Nat.le_trans (List.length_filter_le _ _) (by rw [List.length_take]; omega)
    obtain ⟨b, f, cs, rfl, _, _, hp, i1⟩ := RdR.at (k := 2) (by decide) (hq _ hs.1) (i := k) (E := rawEl (txV y)) (by rw [txEls, List.getElem?_map, hy]; rfl)
    obtain rfl : cs = txV y := hp
    have hkk : ((k + 1 : Nat) : Int) = (k : Int) + 1 := by omega
    refine wc_skip ?_; refine we_seq ?_; refine wc_seq ?_; refine wc_block ?_; refine wc_seq ?_
    refine wc_heldB mixed fun w2 hS => ?_
    apply wh_takeH 0; exact rfl; intro _ hw_; apply opv_fa; exact fa_WT1; exact rfl; exact rfl; kernel_rfl; exact hS; apply wh_takeH 1; exact rfl; intro _ hw_; apply opv_ldX; exact rfl; exact Ar.bel (hs.ar 3 rfl) hw_; exact e1_txs; exact rfl; exact rfl; kernel_rfl; exact hS; apply wh_takeH 2; exact rfl; intro _ hw_; apply opv_move; exact rfl; exact rfl; kernel_rfl; exact hS; apply wh_takeH 3; exact rfl; intro _ hw_; apply opv_idxG tkTx; exact rfl; exact rfl; exact rfl; omega; exact rfl; kernel_rfl; exact hS; apply wh_takeH 4; exact rfl; intro _ hw_; apply opv_ldG; exact rfl; exact Wi.below (by assumption) hw_; exact sTx; exact rfl; kernel_rfl; exact hS; apply wh_takeH 5; exact rfl; intro _ hw_; apply opv_loadX; exact rfl; exact Ar.bel (hs.ar 2 rfl) hw_; exact sTx; exact rfl; kernel_rfl; exact hS; apply wh_takeH 6; exact rfl; intro _ hw_; apply opv_bin; exact rfl; exact rfl; exact (bin_neqTx _ _); exact rfl; kernel_rfl; exact hS
    refine wh_done (by kernel_rfl) ?_
    replace hs := hs.below hS
    replace i1 := i1.below hS
    by_cases hyx : y = x
    · rw [decide_eq_true hyx]
      rw [decide_eq_true hyx, if_neg (by decide), List.append_nil] at hft
      refine we_seq ?_; apply wc_condFb; exact rfl; exact Bool.not_true; refine wc_skip ?_; refine we_block_norm ?_; refine we_seq ?_; refine wc_region ?_; refine wl_mv rfl rfl ?_; apply wl_val; apply opv_bin; exact rfl; exact rfl; exact bin_add64 (by omega); exact rfl; refine wl_as rfl rfl ?_; refine wl_nil ?_
      exact we_loop _ (tb.qu.length - (k + 1)) ⟨k + 1, P, cp, rfl, by omega, by rw [hft]; exact hs, rfl⟩ (by omega) ⟨rfl, rfl, rfl, by rw [hft]; rfl, by simp [lookT], trivial⟩
    · rw [decide_eq_false hyx]
      rw [decide_eq_false hyx, if_pos (by decide)] at hft
      refine we_seq ?_; apply wc_condTb; exact rfl; exact Bool.not_false; refine wc_region ?_; refine wl_mv rfl rfl ?_; apply wl_val; apply opv_fa; exact fa_WT1; exact rfl; exact rfl; apply wl_val; apply opv_ldX; exact rfl; exact hs.ar 3 rfl; exact e1_txs; exact rfl; exact rfl; refine wl_mv rfl rfl ?_; apply wl_val; apply opv_idxG tkTx; exact rfl; exact rfl; exact rfl; omega; exact rfl; apply wl_val; apply opv_ldG; exact rfl; assumption; exact sTx; exact rfl
      refine ws_pushR (cs := txV y) hs 0 (fun _ => rfl) rfl tkTx (by simp) ⟨_, rfl, rfl⟩ rfl rfl (by decide) (by omega) (by simp only [maxLen]; omega) rfl rfl ?_
      clear hs; intro _ P2 cp2 w9 hs; dsimp only [setC] at hs
      refine wl_as rfl rfl ?_; refine wl_nil ?_; refine we_block_norm ?_; refine we_seq ?_; refine wc_region ?_; refine wl_mv rfl rfl ?_; apply wl_val; apply opv_bin; exact rfl; exact rfl; exact bin_add64 (by omega); exact rfl; refine wl_as rfl rfl ?_; refine wl_nil ?_
      exact we_loop _ (tb.qu.length - (k + 1)) ⟨k + 1, P2, cp2, rfl, by omega, by rw [hft]; simpa [txEls] using hs, rfl⟩ (by omega) ⟨rfl, rfl, rfl, by rw [hft, List.length_append]; rfl, by simp [lookT], trivial⟩
  · obtain rfl : k = tb.qu.length := by omega
    rw [List.take_length] at hs
    rw [List.take_length]
    have hqe : (tb.qu.filter fun y => !decide (y = x)) = (leaveT tb x).qu := rfl
    rw [hqe] at hs
    rw [hqe]
    obtain ⟨q, hqd⟩ : ∃ q, (leaveT tb x).qu = q := ⟨_, rfl⟩
    rw [hqd] at hs
    rw [hqd]
    clear hqe h1
    refine wc_exit ?_; refine we_seq_exit ?_; refine we_loop_exit ?_; refine we_block_exit ?_; refine we_seq ?_; refine wc_sr ?_; refine wl_mv rfl rfl ?_; apply wl_val; apply opv_fa; exact fa_WT1; exact rfl; exact rfl; apply ws_st hs 3; exact rfl; exact rfl; exact e1_txs; exact rfl; exact rfl; exact rfl; clear hs; intro _ hs; dsimp only [setC, List.set] at hs; refine wl_ns ?_; refine wc_sr ?_; apply wl_val; apply opv_loadX; exact rfl; exact hs.ar 3 rfl; exact sWT; exact rfl; apply wl_val; apply opv_loadX; exact rfl; exact hs.ar 2 rfl; exact sTx; exact rfl
    refine wl_call ok_caissonref16_find (rfind_any (tb := ⟨tb.os, q⟩) ((hs.ro 4 rfl).rf (OwR.rd (hs.rg 0 rfl))) rfl (show tb.os.length ≤ 4294967296 by omega)) ⟨rfl, rfl, trivial⟩ rfl ?_
    rintro _ w2 ⟨rfl, hbx⟩
    replace hs := hs.below hbx
    clear hbx
    rw [show names ⟨tb.os, q⟩ = names tb from rfl]
    by_cases hx : x ∈ names tb
    · obtain ⟨k, o, hk2, ho, hox, _, hlt⟩ := own_pl hw hx
      subst hox
      have hos := leave_set hw ho
      rw [hk2, hos]
      obtain ⟨bb, f, X, xc, Y, yc, hA, _, hcs, i1, _, _⟩ := (hs.ro 4 rfl).at ho
      subst hA
      refine wl_as rfl rfl ?_; refine wl_ns ?_; refine wc_seq ?_; refine wc_sr ?_; refine wl_mv rfl rfl ?_; refine wl_bin rfl rfl bin_geq rfl ?_; refine wl_ns ?_; apply wc_condTb; exact rfl; exact rfl; refine wc_sr ?_; apply wl_val; apply opv_fa; exact fa_WT0; exact rfl; exact rfl; apply wl_val; apply opv_ldX; exact rfl; exact hs.ar 3 rfl; exact e1_wos; exact rfl; exact rfl; refine wl_mv rfl rfl ?_; apply wl_val; apply opv_idxG tkWO; exact rfl; exact rfl; exact rfl; omega; exact rfl; apply wl_val; apply opv_ldG; exact rfl; assumption; exact sWO; exact rfl
      refine ws_var (cs := owV o X xc Y yc) hs zeroWO sWO rfl (fun _ => rfl) (by first | rfl | simp [Value.oneCell']) rfl ?_; clear hs; intro g8 _ hs
      clear i1
      unfold owV at hs
      refine wl_ns ?_; refine wc_sr ?_; apply wl_val; apply opv_fa; exact fa_WO2; exact rfl; exact rfl; apply ws_st hs 0; exact rfl; exact rfl; exact e1_rgs; exact rfl; exact rfl; exact rfl; clear hs; intro _ hs; dsimp only [setC, List.set] at hs; refine wl_ns ?_; refine wc_region ?_; apply wl_val; apply opv_loadX; exact rfl; exact hs.ar 4 rfl; exact sWT; exact rfl; refine wl_mv rfl rfl ?_; apply wl_val; apply opv_loadX; exact rfl; exact hs.ar 0 rfl; exact sWO; exact rfl
      obtain ⟨S2, hS2, _, _, hH, hB⟩ := St.lend (H1 := [.ck (rooK w0 css (some ⟨bb, f, none⟩) tb.os ⟨o.x, o.held, []⟩ (owV ⟨o.x, o.held, []⟩ X xc none 0))]) (H2 := [_, _, _, _, _]) (St.pack (H1 := [_]) (hs.front 5 rfl) _ fun w S ⟨T, hT, h, _⟩ => by
        have h : RoT w0 w T css (some ⟨bb, f, none⟩) tb.os := h
        have h := RoT.mono h fun b _ k => hT b k
        exact ⟨h, X, xc, none, 0, rfl, (h.row ho hcs).1, RwO.nil⟩)
      refine wl_call ok_caissonref16_with (rwith_any hS2 rfl hlt hl) ⟨rfl, rfl, rfl, trivial⟩ rfl ?_
      rintro _ w3 ⟨A', c', rfl, hc', hsx⟩
      replace hs := hB _ _ hsx
      clear hB hsx hS2 hH
      dsimp only [List.cons_append, List.nil_append, delC] at hs
      apply ws_stS hs 5; exact rfl; exact rfl; exact rfl; exact sWT; exact rfl; exact rfl; clear hs; intro _ hs; dsimp only [setC] at hs; refine wl_ns ?_; refine wc_sr ?_; apply wl_val; apply opv_loadX; exact rfl; exact hs.ar 5 rfl; exact sWT; exact rfl; apply ws_stS hs 3; exact rfl; exact rfl; exact rfl; exact sWT; exact rfl; exact rfl; clear hs; intro _ hs; dsimp only [setC] at hs; refine wl_ns ?_; refine wc_ret ?_
      have hs2 := (((hs.drop 3 rfl).drop 3 rfl).drop 1 rfl)
      dsimp only [delC] at hs2
      have hs3 := ((hs2.drop 2 rfl).front 1 rfl).toRq.front 1 rfl
      exact we_retC rfl rfl (hs.ar 3 rfl) sWT ⟨_, rfl, _, _, c', P, cp, rfl, hc', hs3⟩
    · have hos := leave_none hx
      rw [plN_none hx, hos]
      refine wl_as rfl rfl ?_; refine wl_ns ?_; refine wc_seq ?_; refine wc_sr ?_; refine wl_mv rfl rfl ?_; refine wl_bin rfl rfl bin_geq rfl ?_; refine wl_ns ?_; apply wc_condFb; exact rfl; exact rfl; refine wc_skip ?_; refine we_seq ?_; refine wc_sr ?_; apply wl_val; apply opv_loadX; exact rfl; exact hs.ar 3 rfl; exact sWT; exact rfl; apply ws_stS hs 1; exact rfl; exact rfl; exact rfl; exact sWT; exact rfl; exact rfl; clear hs; intro _ hs; dsimp only [setC] at hs; refine wl_ns ?_; refine wc_ret ?_
      have hs2 := (((hs.drop 1 rfl).drop 1 rfl).drop 1 rfl)
      dsimp only [delC] at hs2
      have hs3 := hs2.toRq.front 1 rfl
      exact we_retC rfl rfl (hs.ar 1 rfl) sWT ⟨_, rfl, css, A, c, P, cp, rfl, hc, hs3⟩
end Go.Proofs.Ytmdbjeabifkimaa

/-
  Plain laws of reaching: what Warshall's way fills in. No program in sight.
-/
namespace Go.Proofs.Ytmdbjeabifkimaa

/-- From i one comes to j by way of places below k. -/
def Pk (E : Nat → Nat → Prop) : Nat → Nat → Nat → Prop
  | 0, i, j => E i j
  | k + 1, i, j => Pk E k i j ∨ (Pk E k i k ∧ Pk E k k j)
theorem Pk.via {E : Nat → Nat → Prop} : ∀ {k i m j : Nat}, Pk E k i m → Pk E k m j → m < k → Pk E k i j
  | k + 1, i, m, j, h1, h2, hm => by
    rcases Nat.lt_or_ge m k with hlt | hge
    · rcases h1 with h1 | ⟨h1, h1'⟩ <;> rcases h2 with h2 | ⟨h2, h2'⟩
      · exact .inl (Pk.via h1 h2 hlt)
      · exact .inr ⟨Pk.via h1 h2 hlt, h2'⟩
      · exact .inr ⟨h1, Pk.via h1' h2 hlt⟩
      · exact .inr ⟨h1, h2'⟩
    · obtain rfl : m = k := by omega
      have e1 : Pk E m i m := h1.elim id (·.1)
      have e2 : Pk E m m j := h2.elim id (·.2)
      exact .inr ⟨e1, e2⟩
theorem Pk.of {E : Nat → Nat → Prop} : ∀ {k i j : Nat}, E i j → Pk E k i j
  | 0, _, _, h => h
  | _ + 1, _, _, h => .inl (Pk.of h)
theorem Pk.trans {E : Nat → Nat → Prop} : ∀ {k i j : Nat}, Pk E k i j → Relation.TransGen E i j
  | 0, _, _, h => .single h
  | _ + 1, _, _, .inl h => h.trans
  | _ + 1, _, _, .inr ⟨h1, h2⟩ => Relation.TransGen.trans h1.trans h2.trans
theorem Pk.all {E : Nat → Nat → Prop} {n i j : Nat} (hE : ∀ a b, E a b → a < n) (h : Relation.TransGen E i j) : Pk E n i j := by
  induction h with
  | single h => exact Pk.of h
  | tail _ h2 ih => exact Pk.via ih (Pk.of h2) (hE _ _ h2)
/-- A square of bools. -/
def mg (m : List (List Bool)) (i j : Nat) : Bool := ((m[i]?.getD [])[j]?).getD false
def mset (m : List (List Bool)) (i j : Nat) : List (List Bool) := m.set i ((m[i]?.getD []).set j true)
structure Sq (n : Nat) (m : List (List Bool)) : Prop where
  len : m.length = n
  row : ∀ r ∈ m, r.length = n
theorem Sq.at {n : Nat} {m : List (List Bool)} (h : Sq n m) {i : Nat} (hi : i < n) : ∃ r, m[i]? = some r ∧ r.length = n := by
  have hl : i < m.length := by rw [h.len]; exact hi
  exact ⟨m[i], List.getElem?_eq_getElem hl, h.row _ (List.getElem_mem _)⟩
theorem mg_at {m : List (List Bool)} {i j : Nat} {r : List Bool} (h : m[i]? = some r) : mg m i j = (r[j]?).getD false := by rw [mg, h]; rfl
theorem mset_at {m : List (List Bool)} {i j : Nat} {r : List Bool} (h : m[i]? = some r) : mset m i j = m.set i (r.set j true) := by rw [mset, h]; rfl
theorem Sq.set {n : Nat} {m : List (List Bool)} (h : Sq n m) {i j : Nat} (hi : i < n) : Sq n (mset m i j) := by
  obtain ⟨r, hr, hl⟩ := h.at hi
  rw [mset_at hr]
  refine ⟨by rw [List.length_set]; exact h.len, fun r' hr' => ?_⟩
  rcases List.mem_or_eq_of_mem_set hr' with h' | rfl
  · exact h.row _ h'
  · rw [List.length_set]; exact hl
theorem mg_set {n : Nat} {m : List (List Bool)} (h : Sq n m) {i j a b : Nat} (hi : i < n) (hj : j < n) : mg (mset m i j) a b = (mg m a b || (decide (a = i) && decide (b = j))) := by
  obtain ⟨r, hr, hl⟩ := h.at hi
  have hlt : i < m.length := by rw [h.len]; exact hi
  rw [mset_at hr]
  unfold mg
  rw [List.getElem?_set]
  by_cases e : i = a
  · subst e
    rw [if_pos rfl, if_pos hlt, hr, Option.getD_some, Option.getD_some, List.getElem?_set]
    by_cases e2 : j = b
    · subst e2
      rw [if_pos rfl, if_pos (by omega)]
      simp
    · rw [if_neg e2]
      have : decide (b = j) = false := decide_eq_false (Ne.symm e2)
      rw [this]; simp
  · rw [if_neg e]
    have : decide (a = i) = false := decide_eq_false (Ne.symm e)
    rw [this]; simp
/-- What holds ahead of step k: it tells no way that isn't there, and all ways by places below k. -/
structure Wsh (n : Nat) (E : Nat → Nat → Prop) (k : Nat) (m : List (List Bool)) : Prop where
  sq : Sq n m
  snd : ∀ i j, i < n → j < n → mg m i j = true → Relation.TransGen E i j
  cmp : ∀ i j, i < n → j < n → Pk E k i j → mg m i j = true
/-- Within step k, where all pairs ahead of place (i, j) are done. -/
structure WshI (n : Nat) (E : Nat → Nat → Prop) (k i j : Nat) (m : List (List Bool)) : Prop where
  sq : Sq n m
  snd : ∀ a b, a < n → b < n → mg m a b = true → Relation.TransGen E a b
  old : ∀ a b, a < n → b < n → Pk E k a b → mg m a b = true
  new : ∀ a b, a < n → b < n → (a < i ∨ a = i ∧ b < j) → Pk E (k + 1) a b → mg m a b = true
section
variable {n : Nat} {E : Nat → Nat → Prop} {k i j : Nat} {m : List (List Bool)}
theorem Wsh.start (h : Wsh n E k m) : WshI n E k 0 0 m := ⟨h.sq, h.snd, h.cmp, fun a b _ _ h => by omega⟩
theorem WshI.row (h : WshI n E k i n m) : WshI n E k (i + 1) 0 m := ⟨h.sq, h.snd, h.old, fun a b ha hb h2 hp => h.new a b ha hb (by omega) hp⟩
theorem WshI.fin (h : WshI n E k n 0 m) : Wsh n E (k + 1) m := ⟨h.sq, h.snd, fun a b ha hb hp => h.new a b ha hb (.inl ha) hp⟩
theorem WshI.skip (h : WshI n E k i j m) (hk : k < n) (hi : i < n) (hj : j < n) (hn : ¬ (mg m i k = true ∧ mg m k j = true)) : WshI n E k i (j + 1) m :=
  ⟨h.sq, h.snd, h.old, fun a b ha hb h2 hp => by
    by_cases e : a = i ∧ b = j
    · obtain ⟨rfl, rfl⟩ := e
      rcases hp with hp | ⟨hp, hp'⟩
      · exact h.old a b ha hb hp
      · exact absurd ⟨h.old a k ha hk hp, h.old k b hk hb hp'⟩ hn
    · exact h.new a b ha hb (by omega) hp⟩
theorem WshI.put (h : WshI n E k i j m) (hk : k < n) (hi : i < n) (hj : j < n) (h1 : mg m i k = true) (h2 : mg m k j = true) : WshI n E k i (j + 1) (mset m i j) := by
  have hg := fun a b => mg_set h.sq (a := a) (b := b) hi hj
  refine ⟨h.sq.set hi, fun a b ha hb hm => ?_, fun a b ha hb hp => ?_, fun a b ha hb h3 hp => ?_⟩
  · rw [hg, Bool.or_eq_true, Bool.and_eq_true, decide_eq_true_eq, decide_eq_true_eq] at hm
    rcases hm with hm | ⟨rfl, rfl⟩
    · exact h.snd a b ha hb hm
    · exact Relation.TransGen.trans (h.snd a k ha hk h1) (h.snd k b hk hb h2)
  · rw [hg, h.old a b ha hb hp]; rfl
  · by_cases e : a = i ∧ b = j
    · obtain ⟨rfl, rfl⟩ := e
      rw [hg]; simp
    · rw [hg, h.new a b ha hb (by omega) hp]; rfl
theorem Wsh.iff (h : Wsh n E n m) (hE : ∀ a b, E a b → a < n) (hi : i < n) (hj : j < n) : mg m i j = true ↔ Relation.TransGen E i j := ⟨h.snd i j hi hj, fun k => h.cmp i j hi hj (Pk.all hE k)⟩
end
end Go.Proofs.Ytmdbjeabifkimaa

/-
  Walks over reach and Circle of the document's lock tables.
-/
namespace Go.Proofs.Ytmdbjeabifkimaa
open Go.RowKit

theorem tkBo : RowK Try.prog 121 4 1 (.bool false) 1 := ⟨Try.underlying121, by kernel_rfl, by simp [Value.cells], by decide⟩
theorem tyBs : Row1 Try.prog 119 121 (.slice none 0 0) 24 := ⟨Try.underlying119, by kernel_rfl, rfl, by rw [Try.underlying121]⟩
section
variable {P : Program} {N : Nat} {ops : Array Oper} {Q : Exit → Act → World → Prop} {rest : List Oper} {L : FL} {w0 w : World} {M : BS} {H : List Cd} {e : TypeId}
theorem ow_form' {w : World} {base n c : Nat} {e : TypeId} {A : Option Addr} {xs : List Value} (h : Ow w base e A n c xs) (hn : 0 < n) : ∃ g, A = some ⟨g, 0, none⟩ := by
  rcases h.2 with ⟨_, h0⟩ | ⟨g, cap, cur, hv, _⟩
  · omega
  · injection hv with hA
    exact ⟨g, hA⟩
theorem ws_stO' {g : Nat} {x y : Operand} {ty : TypeId} {pos : String} {aft : Array Edge} {e1 : TypeId} {A : Option Addr} {n c kk : Nat} {u : Value} {xs : List Value} (hs : St M w0 w H) (i : Nat) (hx : look L x = some (.pointer (some ⟨g, 0 + kk * 1, none⟩))) (hi : nthC H i = some (.ow e A n c xs)) (hA : A = some ⟨g, 0, none⟩) (E : Cell1 P e1)
    (hk : kk < n) (hy : look L y = some u) (h1 : u.oneCell' = true)
    (h : ∀ w', St M w0 w' (setC H i (.ow e A n c (xs.set kk u))) → WL P N ops Q rest L w') :
    WL P N ops Q (⟨none, .store e1 x y, ty, pos, aft, none⟩ :: rest) L w := by
  subst hA
  rw [Nat.zero_add, Nat.mul_one] at hx
  have ho := hs.ow i hi
  have hl : kk < xs.length := by have := ho.1; omega
  have hcell := World.ownsRow.cellAt ho kk (by omega)
  rw [List.getElem?_eq_getElem hl] at hcell
  have hst := World.ownsRow.stored ho kk u
  exact wl_unitN (opu_storeC E hx hy h1 (by simpa using hcell) (by simpa using World.ownsRow.frozenAt ho kk)) (by simpa using h _ (hs.updO i hi hst.1 hst.2 (.inl rfl)))
theorem nthC_eq : ∀ (l : List Cd) (k : Nat), nthC l k = l[k]?
  | [], _ => by simp [nthC]
  | _ :: _, 0 => by simp [nthC]
  | _ :: l, k + 1 => by simp [nthC, nthC_eq l k]
theorem setC_eq : ∀ (l : List Cd) (k : Nat) (d : Cd), setC l k d = l.set k d
  | [], _, _ => by simp [setC]
  | _ :: _, 0, _ => by simp [setC]
  | _ :: l, k + 1, d => by simp [setC, setC_eq l k d]
end
abbrev bvL (r : List Bool) : List Value := r.map .bool
abbrev BRow := Nat × List Bool
def browC (n : Nat) (p : BRow) : Cd := .ow 4 (some ⟨p.1, 0, none⟩) n n (bvL p.2)
abbrev browV (n : Nat) (p : BRow) : Value := .slice (some ⟨p.1, 0, none⟩) n n
abbrev bms (rs : List BRow) : List (List Bool) := rs.map (·.2)
def EdI (tb : Tb) (i j : Nat) : Prop := ∃ x y, (names tb)[i]? = some x ∧ (names tb)[j]? = some y ∧ Ed tb x y
def RetRch (w : World) (tb : Tb) (v : Value) (w' : World) : Prop := ∃ (P : Option Addr) (cp : Nat) (rs : List BRow), v = .slice P tb.os.length cp ∧ rs.length = tb.os.length ∧ Wsh tb.os.length (EdI tb) tb.os.length (bms rs) ∧ St NoB w w' (.ow 121 P tb.os.length cp (rs.map (browV tb.os.length)) :: rs.map (browC tb.os.length))
/-- A row of the square. -/
def rowB (tb : Tb) (l : List Tx) : List Bool := (names tb).map fun y => decide (y ∈ l)
theorem rowB_step {tb : Tb} (hn : (names tb).Nodup) {l : List Tx} {k p : Nat} {y : Tx} (hy : l[k]? = some y) (hp : (names tb)[p]? = some y) : (bvL (rowB tb (l.take k))).set p (.bool true) = bvL (rowB tb (l.take (k + 1))) := by
  apply List.ext_getElem?
  intro i
  rw [List.getElem?_set, bvL, bvL, rowB, rowB, List.map_map, List.map_map, List.getElem?_map, List.getElem?_map, List.length_map, take_getR hy]
  by_cases e : p = i
  · subst e
    rw [if_pos rfl, if_pos (List.getElem?_eq_some_iff.1 hp).1, hp]
    simp
  · rw [if_neg e]
    cases hi : (names tb)[i]? with
    | none => rfl
    | some z =>
      have hzy : z ≠ y := fun h => e ((List.getElem?_inj (List.getElem?_eq_some_iff.1 hp).1 hn).1 (by rw [hp, hi, h]))
      simp [hzy]
theorem rowB_nil (tb : Tb) : bvL (rowB tb []) = List.replicate tb.os.length (.bool false) := by
  rw [bvL, rowB, List.map_map]
  apply List.ext_getElem?
  intro i
  rw [List.getElem?_map, List.getElem?_replicate]
  by_cases h : i < tb.os.length
  · rw [if_pos h, List.getElem?_eq_getElem (by rw [names_len]; exact h)]; rfl
  · rw [if_neg h, List.getElem?_eq_none (by rw [names_len]; omega)]; rfl
theorem wsh_zero {tb : Tb} (hw : Wf tb) {rs : List BRow} (h : bms rs = (names tb).map fun x => rowB tb (forT tb x)) : Wsh tb.os.length (EdI tb) 0 (bms rs) := by
  rw [h]
  have hg : ∀ i j, i < tb.os.length → j < tb.os.length → (mg ((names tb).map fun x => rowB tb (forT tb x)) i j = true ↔ EdI tb i j) := fun i j hi hj => by
    have hi' : i < (names tb).length := by rw [names_len]; exact hi
    have hj' : j < (names tb).length := by rw [names_len]; exact hj
    have e : mg ((names tb).map fun x => rowB tb (forT tb x)) i j = decide ((names tb)[j] ∈ forT tb (names tb)[i]) := by
      rw [mg_at (r := rowB tb (forT tb (names tb)[i])) (by rw [List.getElem?_map, List.getElem?_eq_getElem hi']; rfl), rowB, List.getElem?_map, List.getElem?_eq_getElem hj']
      rfl
    rw [e, decide_eq_true_iff, for_ed hw]
    constructor
    · exact fun k => ⟨_, _, List.getElem?_eq_getElem hi', List.getElem?_eq_getElem hj', k⟩
    · rintro ⟨x, y, h1, h2, h3⟩
      rw [List.getElem?_eq_getElem hi'] at h1
      rw [List.getElem?_eq_getElem hj'] at h2
      cases h1; cases h2; exact h3
  refine ⟨⟨by rw [List.length_map, names_len], fun r hr => ?_⟩, fun i j hi hj k => .single ((hg i j hi hj).1 k), fun i j hi hj k => (hg i j hi hj).2 k⟩
  obtain ⟨x, _, rfl⟩ := List.mem_map.1 hr
  rw [rowB, List.length_map, names_len]
theorem edI_lt {tb : Tb} {a b : Nat} (h : EdI tb a b) : a < tb.os.length := by
  obtain ⟨x, _, h1, _⟩ := h
  rw [← names_len]
  exact (List.getElem?_eq_some_iff.1 h1).1
theorem edI_tr {tb : Tb} (hw : Wf tb) {i j : Nat} {x y : Tx} (hx : (names tb)[i]? = some x) (hy : (names tb)[j]? = some y) : Relation.TransGen (EdI tb) i j ↔ Relation.TransGen (Ed tb) x y := by
  have hin : ∀ {a b : Tx}, Ed tb a b → ∃ k, (names tb)[k]? = some b := fun h => by
    obtain ⟨k, hk⟩ := List.getElem?_of_mem (ed_name h)
    exact ⟨k, hk⟩
  constructor
  · intro h
    have key : ∀ {j : Nat}, Relation.TransGen (EdI tb) i j → ∃ y, (names tb)[j]? = some y ∧ Relation.TransGen (Ed tb) x y := by
      intro j h
      induction h with
      | single h =>
        obtain ⟨a, b, h1, h2, h3⟩ := h
        rw [hx] at h1; cases h1
        exact ⟨b, h2, .single h3⟩
      | tail _ h ih =>
        obtain ⟨b, hb, ht⟩ := ih
        obtain ⟨a, c, h1, h2, h3⟩ := h
        rw [hb] at h1; cases h1
        exact ⟨c, h2, .tail ht h3⟩
    obtain ⟨z, hz, ht⟩ := key h
    rw [hy] at hz; cases hz
    exact ht
  · intro h
    have key : ∀ {y : Tx}, Relation.TransGen (Ed tb) x y → ∀ j, (names tb)[j]? = some y → Relation.TransGen (EdI tb) i j := by
      intro y h
      induction h with
      | single h => exact fun j hj => .single ⟨_, _, hx, hj, h⟩
      | tail h1 h2 ih =>
        intro j hj
        obtain ⟨k, hk⟩ : ∃ k, (names tb)[k]? = some _ := by
          cases h1 with
          | single h => exact hin h
          | tail _ h => exact hin h
        exact .tail (ih k hk) ⟨_, _, hk, hj, h2⟩
    exact key h j hy
set_option maxRecDepth 8000 in
set_option maxHeartbeats 2000000 in
theorem rreach_any {w0 w : World} {S : BS} {css : List (List Value)} {A B : Option Addr} {n c m d : Nat} {tb : Tb} (hT : RfT w0 w S css A B tb) (hb : Below w0.heap.size w0 w) (hn : tb.os.length = n) (hm : tb.qu.length = m) (hw : Wf tb) (hl : tb.os.length ≤ 1048576) (hq : tb.qu.length ≤ 1048576) (hh : ∀ o ∈ tb.os, o.held.length ≤ 1048576) :
    CallsV Try.prog 76 #[.agg (tvV A n c B m d).toArray] w (RetRch w tb) := by
  subst hn hm
  have hs := (St.init w).nilO 121
  refine calls_in (N := _) Try.func76 rfl Try.ntmps76 rfl ?_; show WC _ _ _ _ _ _
  refine wc_sr ?_
  refine ws_box (cs := tvV A tb.os.length c B tb.qu.length d) hs rfl rfl ?_; clear hs; intro g1 _ hs
  replace hs := hs.front 1 rfl
  dsimp only [delC] at hs
  refine wl_as rfl rfl ?_; refine wl_ns ?_; refine wc_sr ?_; apply wl_val; apply opv_fa; exact fa_WT0; exact rfl; exact rfl; apply wl_val; apply opv_ldX; exact rfl; exact hs.ar 1 rfl; exact e1_wos; exact rfl; exact rfl; apply wl_val; apply opv_len; exact rfl; exact tkWO.sl; exact rfl; refine wl_as rfl rfl ?_; refine wl_ns ?_; refine wc_sr ?_; refine wl_as rfl rfl ?_; refine wl_ns ?_; refine wc_seq ?_; refine wc_sr ?_; refine wl_as rfl rfl ?_; refine wl_ns ?_; refine wc_block ?_
  refine wc_loop (fun L wr mm => ∃ (i : Nat) (P : Option Addr) (cp : Nat) (rs : List BRow), L = [(1, .pointer (some ⟨g1, 0, none⟩)), (3, .int .i64 (tb.os.length : Int)), (4, .slice P i cp), (5, .int .i64 (i : Int))] ∧ i ≤ tb.os.length ∧ rs.length = i ∧ bms rs = ((names tb).take i).map (fun x => rowB tb (forT tb x)) ∧ St NoB w wr (.ow 121 P i cp (rs.map (browV tb.os.length)) :: .blk g1 67 [.slice A tb.os.length c, .slice B tb.qu.length d] :: rs.map (browC tb.os.length)) ∧ mm = tb.os.length - i)
    [(1, .pointer (some ⟨g1, 0, none⟩)), (3, .int .i64 (tb.os.length : Int)), (4, .slice none 0 0), (5, .int .i64 (0 : Nat))] tb.os.length ⟨0, none, 0, [], rfl, by omega, rfl, rfl, hs, rfl⟩ ⟨rfl, rfl, rfl, rfl, trivial⟩ ?_
  clear hs
  rintro _ w1 mm ⟨i, P, cp, rs, rfl, hi, hrl, hrs, hs, rfl⟩
  refine wc_seq ?_; refine wc_sr ?_; refine wl_mv rfl rfl ?_; refine wl_mv rfl rfl ?_; refine wl_bin rfl rfl bin_lss rfl ?_; refine wl_ns ?_
  refine wc_cond rfl (fun h1 => ?_) (fun h1 => ?_)
  · obtain ⟨o, ho⟩ : ∃ o, tb.os[i]? = some o := ⟨_, List.getElem?_eq_getElem (by omega)⟩
    have hom := List.mem_of_getElem? ho
    have hon := names_get ho
    obtain ⟨bb, f, X, xc, Y, yc, hA, _, _, i1, _, _⟩ := hT.at ho
    subst hA
    replace i1 := wi_nm i1
    refine wc_skip ?_; refine we_seq ?_; refine wc_seq ?_; refine wc_block ?_; refine wc_sr ?_; refine wl_mv rfl rfl ?_
    refine ws_mk (n := tb.os.length) (c := tb.os.length) hs tyBo rfl rfl rfl rfl (Nat.le_refl _) (by omega) (by simp only [maxLen]; omega) rfl ?_
    clear hs; intro R w2 hs
    obtain ⟨gR, rfl⟩ := ow_form' (hs.ow 0 rfl) (by omega)
    rw [← rowB_nil] at hs
    refine wl_as rfl rfl ?_; refine wl_ns ?_; refine wc_seq ?_
    refine wc_held (fun w' => St NoB w w' [.blk g1 67 [.slice (some ⟨bb, f, none⟩) tb.os.length c, .slice B tb.qu.length d]]) mixed ?_
    replace hs := hs.below (Below.refl _ _).drew
    have hcl : ∀ {w' : World} {H : List Cd} (j : Nat), St NoB w w' H → nthC H j = some (.blk g1 67 [.slice (some ⟨bb, f, none⟩) tb.os.length c, .slice B tb.qu.length d]) → St NoB w w' [.blk g1 67 [.slice (some ⟨bb, f, none⟩) tb.os.length c, .slice B tb.qu.length d]] := fun {w' H} j h hj => by
      obtain ⟨T, hT, hc, _⟩ := h.2.front hj
      exact ⟨h.1, T, hT, hc, trivial⟩
    have hS := hcl 2 hs rfl
    apply wh_takeH 0; exact rfl; intro _ hw_; apply opv_loadX; exact rfl; exact hw_.ar 0 rfl; exact sWT; exact rfl; kernel_rfl; exact hS; apply wh_takeH 1; exact rfl; intro _ hw_; apply opv_fa; exact fa_WT0; exact rfl; exact rfl; kernel_rfl; exact hS; apply wh_takeH 2; exact rfl; intro _ hw_; apply opv_ldX; exact rfl; exact hw_.ar 0 rfl; exact e1_wos; exact rfl; exact rfl; kernel_rfl; exact hS; apply wh_takeH 3; exact rfl; intro _ hw_; apply opv_move; exact rfl; exact rfl; kernel_rfl; exact hS; apply wh_takeH 4; exact rfl; intro _ hw_; apply opv_idxG tkWO; exact rfl; exact rfl; exact rfl; omega; exact rfl; kernel_rfl; exact hS; apply wh_takeH 5; exact rfl; intro _ hw_; apply opv_fa; exact fa_WO0; exact rfl; exact rfl; kernel_rfl; exact hS; apply wh_takeH 6; exact rfl; intro _ hw_; apply opv_ldG; exact rfl; exact Wi.below (by assumption) hw_.bel; exact sTx; exact rfl; kernel_rfl; exact hS
    clear hS
    refine wh_one 7 (o := ⟨_, _, _, _, _, _⟩) (by kernel_rfl) rfl ?_
    refine wl_call ok_caissonref16_For (rfor_any (x := o.x) (hT.below hs.bel) (hb.trans (hs.bel.mono hb.size)) rfl rfl hw hl hq hh) ⟨rfl, rfl, trivial⟩ rfl ?_
    rintro _ w3 ⟨Q, cq, rfl, hsx⟩
    replace hs := hs.call hsx
    clear hsx
    dsimp only [List.cons_append, List.nil_append] at hs
    have hfl := for_len hw o.x
    have hfs : ∀ y ∈ forT tb o.x, y ∈ names tb := fun y hy => ed_name ((for_ed hw).1 hy)
    obtain ⟨l, hld⟩ : ∃ l, forT tb o.x = l := ⟨_, rfl⟩
    rw [hld] at hs hfl hfs
    rw [hld]
    refine wl_nil ?_
    have hS := hcl 3 hs rfl
    refine we_held hS ?_
    apply wh_takeH 8; exact rfl; intro _ hw_; apply opv_assign; exact rfl; exact rfl; kernel_rfl; exact hS
    clear hS
    refine wh_done (by kernel_rfl) ?_
    refine we_seq ?_; refine wc_seq ?_; refine wc_sr ?_; refine wl_as rfl rfl ?_; refine wl_ns ?_; refine wc_block ?_
    refine wc_loop (fun L wr mm => ∃ (k : Nat), L = [(1, .pointer (some ⟨g1, 0, none⟩)), (3, .int .i64 (tb.os.length : Int)), (4, .slice P i cp), (5, .int .i64 (i : Int)), (6, .slice (some ⟨gR, 0, none⟩) tb.os.length tb.os.length), (7, .slice Q l.length cq), (8, .int .i64 (k : Int))] ∧ k ≤ l.length ∧ St NoB w wr (.rg 2 30 Q cq (txEls l) :: .ow 4 (some ⟨gR, 0, none⟩) tb.os.length tb.os.length (bvL (rowB tb (l.take k))) :: .ow 121 P i cp (rs.map (browV tb.os.length)) :: .blk g1 67 [.slice (some ⟨bb, f, none⟩) tb.os.length c, .slice B tb.qu.length d] :: rs.map (browC tb.os.length)) ∧ mm = l.length - k)
      [(1, .pointer (some ⟨g1, 0, none⟩)), (3, .int .i64 (tb.os.length : Int)), (4, .slice P i cp), (5, .int .i64 (i : Int)), (6, .slice (some ⟨gR, 0, none⟩) tb.os.length tb.os.length), (7, .slice Q l.length cq), (8, .int .i64 (0 : Nat))] l.length ⟨0, rfl, by omega, hs, rfl⟩ ⟨rfl, rfl, rfl, rfl, rfl, rfl, rfl, trivial⟩ ?_
    clear hs
    rintro _ w4 mm ⟨k, rfl, hk, hs, rfl⟩
    refine wc_seq ?_; refine wc_sr ?_; refine wl_mv rfl rfl ?_; refine wl_mv rfl rfl ?_; apply wl_val; apply opv_len; exact rfl; exact tkTx.sl; exact rfl; refine wl_bin rfl rfl bin_lss rfl ?_; refine wl_ns ?_
    refine wc_cond rfl (fun h2 => ?_) (fun h2 => ?_)
    · obtain ⟨y, hy⟩ : ∃ y, l[k]? = some y := ⟨_, List.getElem?_eq_getElem (by omega)⟩
      obtain ⟨p, hpy, hpn, hpl⟩ := plN_some (hfs y (List.mem_of_getElem? hy))
      rw [names_len] at hpl
      obtain ⟨bq, fq, cs, rfl, _, _, hp, i2⟩ := RdR.at (k := 2) (by decide) (OwR.rd (hs.rg 0 rfl)) (i := k) (E := rawEl (txV y)) (by rw [txEls, List.getElem?_map, hy]; rfl)
      obtain rfl : cs = txV y := hp
      refine wc_skip ?_; refine we_seq ?_; refine wc_seq ?_; refine wc_block ?_
      refine wc_heldL (fun w' => Ar w' g1 67 [.slice (some ⟨bb, f, none⟩) tb.os.length c, .slice B tb.qu.length d] ∧ Wi w' bq (fq + k * 2) (txV y)) 8 mixed ?_
      replace hs := hs.below (Below.refl _ _).drew
      replace i2 := i2.below (Below.refl _ _).drew
      have hS := And.intro (hs.ar 3 rfl) i2
      apply wm_take 0; exact rfl; intro _ hw_; apply opv_move; exact rfl; exact rfl; kernel_rfl; exact hS; apply wm_take 1; exact rfl; intro _ hw_; apply opv_loadX; exact rfl; exact hw_.1; exact sWT; exact rfl; kernel_rfl; exact hS; apply wm_take 2; exact rfl; intro _ hw_; apply opv_move; exact rfl; exact rfl; kernel_rfl; exact hS; apply wm_take 3; exact rfl; intro _ hw_; apply opv_move; exact rfl; exact rfl; kernel_rfl; exact hS; apply wm_take 4; exact rfl; intro _ hw_; apply opv_idxG tkTx; exact rfl; exact rfl; exact rfl; omega; exact rfl; kernel_rfl; exact hS; apply wm_take 5; exact rfl; intro _ hw_; apply opv_ldG; exact rfl; exact hw_.2; exact sTx; exact rfl; kernel_rfl; exact hS
      clear hS
      refine wm_one 6 (by kernel_rfl) rfl ?_; dsimp only [List.getElem_toArray, List.getElem_cons_succ, List.getElem_cons_zero]
      refine wl_call ok_caissonref16_find (rfind_any (hT.below hs.bel) rfl (by omega)) ⟨rfl, rfl, trivial⟩ rfl ?_
      rintro _ w5 ⟨rfl, hbx⟩
      replace hs := hs.below hbx
      replace i2 := i2.below hbx
      clear hbx
      rw [hpy]
      refine wl_nil ?_
      have hS := And.intro (hs.ar 3 rfl) i2
      refine we_heldM (fun _ => hS) ?_
      refine wm_take 7 rfl (fun _ _ => opv_idxG (kk := p) tkBo rfl rfl rfl hpl) rfl (by kernel_rfl) hS ?_
      clear hS
      refine wm_one 8 (by kernel_rfl) rfl ?_; dsimp only [List.getElem_toArray, List.getElem_cons_succ, List.getElem_cons_zero]
      refine ws_stO' hs 1 rfl rfl rfl e1_bool hpl rfl rfl ?_
      clear hs; intro w6 hs; dsimp only [setC] at hs
      rw [rowB_step hw.nd hy hpn] at hs
      refine wl_nil ?_
      refine we_heldM (fun h => absurd h (by decide)) ?_
      refine wm_done (by kernel_rfl) ?_
      refine we_block_norm ?_; refine we_seq ?_; refine wc_region ?_; refine wl_mv rfl rfl ?_; apply wl_val; apply opv_bin; exact rfl; exact rfl; exact bin_add64 (by omega); exact rfl; refine wl_as rfl rfl ?_; refine wl_nil ?_
      exact we_loop _ (l.length - (k + 1)) ⟨k + 1, rfl, by omega, hs, rfl⟩ (by omega) ⟨rfl, rfl, rfl, rfl, rfl, rfl, by simp [lookT], trivial⟩
    · obtain rfl : k = l.length := by omega
      rw [List.take_length] at hs
      refine wc_exit ?_; refine we_seq_exit ?_; refine we_loop_exit ?_; refine we_block_exit ?_; refine we_seq ?_; refine wc_region ?_; refine wl_mv rfl rfl ?_; refine wl_mv rfl rfl ?_
      refine ws_push (vs := [.slice (some ⟨gR, 0, none⟩) tb.os.length tb.os.length]) hs 2 rfl rfl tyBs ⟨rfl, rfl, rfl, trivial⟩ rfl (by decide) rfl (by omega) (by simp only [maxLen]; omega) rfl rfl ?_
      clear hs; intro _ P2 cp2 w6 hs; dsimp only [setC] at hs
      refine wl_as rfl rfl ?_; refine wl_nil ?_; refine we_block_norm ?_; refine we_seq ?_; refine wc_region ?_; refine wl_mv rfl rfl ?_; apply wl_val; apply opv_bin; exact rfl; exact rfl; exact bin_add64 (by omega); exact rfl; refine wl_as rfl rfl ?_; refine wl_nil ?_
      refine we_loop _ (tb.os.length - (i + 1)) ⟨i + 1, P2, cp2, rs ++ [(gR, rowB tb l)], rfl, by omega, by simp [hrl], ?_, ?_, rfl⟩ (by omega) ⟨rfl, rfl, rfl, by simp [lookT], trivial⟩
      · rw [bms, List.map_append, take_getR hon, List.map_append]
        show bms rs ++ _ = _
        rw [hrs]
        simp [hld]
      · refine (hs.drop 0 rfl).map fun S h => ?_
        dsimp only [delC] at h
        refine Sat.permL ?_ h
        rw [List.map_append, List.map_append]
        exact (List.perm_append_comm (l₁ := [browC tb.os.length (gR, rowB tb l)]) (l₂ := .ow 121 P2 (i + 1) cp2 (rs.map (browV tb.os.length) ++ [browV tb.os.length (gR, rowB tb l)]) :: .blk g1 67 [.slice (some ⟨bb, f, none⟩) tb.os.length c, .slice B tb.qu.length d] :: rs.map (browC tb.os.length)))
  obtain rfl : i = tb.os.length := by omega
  have hw0 : Wsh tb.os.length (EdI tb) 0 (bms rs) := wsh_zero hw (by rw [hrs, List.take_of_length_le (by rw [names_len]; omega)])
  clear hrs
  obtain ⟨nn, hnn⟩ : ∃ q, tb.os.length = q := ⟨_, rfl⟩
  rw [hnn] at hs hrl hw0 hl
  rw [hnn]
  unfold RetRch
  rw [hnn]
  have hrd : ∀ {w' : World} {rs : List BRow}, St NoB w w' (.ow 121 P nn cp (rs.map (browV nn)) :: .blk g1 67 [.slice A nn c, .slice B tb.qu.length d] :: rs.map (browC nn)) → ∀ (i : Nat) (p : BRow), rs[i]? = some p → Rd w' (some ⟨p.1, 0, none⟩) nn (bvL p.2) ∧ (rs.map (browV nn))[i]? = some (.slice (some ⟨p.1, 0, none⟩) nn nn) ∧ nthC (.ow 121 P nn cp (rs.map (browV nn)) :: .blk g1 67 [.slice A nn c, .slice B tb.qu.length d] :: rs.map (browC nn)) (i + 2) = some (browC nn p) := fun {w' rs} hs i p hp => by
    have h2 : nthC (rs.map (browC nn)) i = some (browC nn p) := by rw [nthC_eq, List.getElem?_map, hp]; rfl
    have h3 : nthC (.ow 121 P nn cp (rs.map (browV nn)) :: .blk g1 67 [.slice A nn c, .slice B tb.qu.length d] :: rs.map (browC nn)) (i + 2) = some (browC nn p) := h2
    exact ⟨(hs.ow (i + 2) h3).rd, by rw [List.getElem?_map, hp]; rfl, h3⟩
  clear h1
  refine wc_exit ?_; refine we_seq_exit ?_; refine we_loop_exit ?_; refine we_block_exit ?_; refine we_seq ?_; refine wc_seq ?_; refine wc_sr ?_; refine wl_as rfl rfl ?_; refine wl_ns ?_; refine wc_block ?_
  refine wc_loop (fun L wr mm => ∃ (k : Nat) (rs : List BRow), L = [(3, .int .i64 (nn : Int)), (4, .slice P nn cp), (9, .int .i64 (k : Int))] ∧ k ≤ nn ∧ rs.length = nn ∧ Wsh nn (EdI tb) k (bms rs) ∧ St NoB w wr (.ow 121 P nn cp (rs.map (browV nn)) :: .blk g1 67 [.slice A nn c, .slice B tb.qu.length d] :: rs.map (browC nn)) ∧ mm = nn - k)
    [(3, .int .i64 (nn : Int)), (4, .slice P nn cp), (9, .int .i64 (0 : Nat))] nn ⟨0, rs, rfl, by omega, hrl, hw0, hs, rfl⟩ ⟨rfl, rfl, rfl, trivial⟩ ?_
  clear hs hw0 hrl
  rintro _ w5 mm ⟨k, rs, rfl, hk, hrl, hwk, hs, rfl⟩
  refine wc_seq ?_; refine wc_sr ?_; refine wl_mv rfl rfl ?_; refine wl_mv rfl rfl ?_; refine wl_bin rfl rfl bin_lss rfl ?_; refine wl_ns ?_
  refine wc_cond rfl (fun h1 => ?_) (fun h1 => ?_)
  rotate_left
  · obtain rfl : k = nn := by omega
    refine wc_exit ?_; refine we_seq_exit ?_; refine we_loop_exit ?_; refine we_block_exit ?_; refine we_seq ?_; refine wc_sr ?_; refine wl_mv rfl rfl ?_; refine wl_as rfl rfl ?_; refine wl_ns ?_; refine wc_ret ?_
    exact we_ret1 rfl rfl ⟨_, rfl, P, cp, rs, rfl, hrl, hwk, hs.map fun S h => by
      obtain ⟨T, hT, h1, U, hU, _, h2⟩ := h
      exact ⟨T, hT, h1, h2.mono fun b _ k => k.1⟩⟩
  have hkn : k < nn := by omega
  replace hwk := hwk.start
  refine wc_skip ?_; refine we_seq ?_; refine wc_seq ?_; refine wc_block ?_; refine wc_sr ?_; refine wl_as rfl rfl ?_; refine wl_ns ?_; refine wc_block ?_
  refine wc_loop (fun L wr mm => ∃ (i : Nat) (rs : List BRow), L = [(3, .int .i64 (nn : Int)), (4, .slice P nn cp), (9, .int .i64 (k : Int)), (10, .int .i64 (i : Int))] ∧ i ≤ nn ∧ rs.length = nn ∧ WshI nn (EdI tb) k i 0 (bms rs) ∧ St NoB w wr (.ow 121 P nn cp (rs.map (browV nn)) :: .blk g1 67 [.slice A nn c, .slice B tb.qu.length d] :: rs.map (browC nn)) ∧ mm = nn - i)
    [(3, .int .i64 (nn : Int)), (4, .slice P nn cp), (9, .int .i64 (k : Int)), (10, .int .i64 (0 : Nat))] nn ⟨0, rs, rfl, by omega, hrl, hwk, hs, rfl⟩ ⟨rfl, rfl, rfl, rfl, trivial⟩ ?_
  clear hs hwk hrl rs
  rintro _ w6 mm ⟨i, rs, rfl, hi, hrl, hwi, hs, rfl⟩
  refine wc_seq ?_; refine wc_sr ?_; refine wl_mv rfl rfl ?_; refine wl_mv rfl rfl ?_; refine wl_bin rfl rfl bin_lss rfl ?_; refine wl_ns ?_
  refine wc_cond rfl (fun h2 => ?_) (fun h2 => ?_)
  rotate_left
  · obtain rfl : i = nn := by omega
    refine wc_exit ?_; refine we_seq_exit ?_; refine we_loop_exit ?_; refine we_block_exit ?_; refine we_block_norm ?_; refine we_seq ?_; refine wc_region ?_; refine wl_mv rfl rfl ?_; apply wl_val; apply opv_bin; exact rfl; exact rfl; exact bin_add64 (by omega); exact rfl; refine wl_as rfl rfl ?_; refine wl_nil ?_
    exact we_loop _ (i - (k + 1)) ⟨k + 1, rs, rfl, by omega, hrl, hwi.fin, hs, rfl⟩ (by omega) ⟨rfl, rfl, by simp [lookT], trivial⟩
  have hin : i < nn := by omega
  refine wc_skip ?_; refine we_seq ?_; refine wc_seq ?_; refine wc_block ?_; refine wc_sr ?_; refine wl_as rfl rfl ?_; refine wl_ns ?_; refine wc_block ?_
  refine wc_loop (fun L wr mm => ∃ (j : Nat) (rs : List BRow), L = [(3, .int .i64 (nn : Int)), (4, .slice P nn cp), (9, .int .i64 (k : Int)), (10, .int .i64 (i : Int)), (11, .int .i64 (j : Int))] ∧ j ≤ nn ∧ rs.length = nn ∧ WshI nn (EdI tb) k i j (bms rs) ∧ St NoB w wr (.ow 121 P nn cp (rs.map (browV nn)) :: .blk g1 67 [.slice A nn c, .slice B tb.qu.length d] :: rs.map (browC nn)) ∧ mm = nn - j)
    [(3, .int .i64 (nn : Int)), (4, .slice P nn cp), (9, .int .i64 (k : Int)), (10, .int .i64 (i : Int)), (11, .int .i64 (0 : Nat))] nn ⟨0, rs, rfl, by omega, hrl, hwi, hs, rfl⟩ ⟨rfl, rfl, rfl, rfl, rfl, trivial⟩ ?_
  clear hs hwi hrl rs
  rintro _ w7 mm ⟨j, rs, rfl, hj, hrl, hwj, hs, rfl⟩
  refine wc_seq ?_; refine wc_sr ?_; refine wl_mv rfl rfl ?_; refine wl_mv rfl rfl ?_; refine wl_bin rfl rfl bin_lss rfl ?_; refine wl_ns ?_
  refine wc_cond rfl (fun h3 => ?_) (fun h3 => ?_)
  rotate_left
  · obtain rfl : j = nn := by omega
    refine wc_exit ?_; refine we_seq_exit ?_; refine we_loop_exit ?_; refine we_block_exit ?_; refine we_block_norm ?_; refine we_seq ?_; refine wc_region ?_; refine wl_mv rfl rfl ?_; apply wl_val; apply opv_bin; exact rfl; exact rfl; exact bin_add64 (by omega); exact rfl; refine wl_as rfl rfl ?_; refine wl_nil ?_
    exact we_loop _ (j - (i + 1)) ⟨i + 1, rs, rfl, by omega, hrl, hwj.row, hs, rfl⟩ (by omega) ⟨rfl, rfl, rfl, by simp [lookT], trivial⟩
  have hjn : j < nn := by omega
  obtain ⟨p, hp⟩ : ∃ p, rs[i]? = some p := ⟨_, List.getElem?_eq_getElem (by omega)⟩
  obtain ⟨q, hq'⟩ : ∃ p, rs[k]? = some p := ⟨_, List.getElem?_eq_getElem (by omega)⟩
  obtain ⟨rp, up, np⟩ := hrd hs i p hp
  obtain ⟨rq, uq, _⟩ := hrd hs k q hq'
  have ro := (hs.ow 0 rfl).rd
  have hpl : p.2.length = nn := hwj.sq.row _ (List.mem_map_of_mem (List.mem_of_getElem? hp))
  have hql : q.2.length = nn := hwj.sq.row _ (List.mem_map_of_mem (List.mem_of_getElem? hq'))
  have hpm : (bms rs)[i]? = some p.2 := by rw [List.getElem?_map, hp]; rfl
  have hqm : (bms rs)[k]? = some q.2 := by rw [List.getElem?_map, hq']; rfl
  obtain ⟨b1, hb1⟩ : ∃ b, p.2[k]? = some b := ⟨_, List.getElem?_eq_getElem (by omega)⟩
  obtain ⟨b2, hb2⟩ : ∃ b, q.2[j]? = some b := ⟨_, List.getElem?_eq_getElem (by omega)⟩
  have v1 : (bvL p.2)[k]? = some (.bool b1) := by rw [List.getElem?_map, hb1]; rfl
  have v2 : (bvL q.2)[j]? = some (.bool b2) := by rw [List.getElem?_map, hb2]; rfl
  have m1 : mg (bms rs) i k = b1 := by rw [mg_at hpm, hb1]; rfl
  have m2 : mg (bms rs) k j = b2 := by rw [mg_at hqm, hb2]; rfl
  cases b1 with
  | false =>
    refine wc_skip ?_; refine we_seq ?_; refine wc_seq ?_; refine wc_block ?_; refine wc_sr ?_; refine wl_mv rfl rfl ?_; refine wl_mv rfl rfl ?_; apply wl_elK (T := tyBs) (hr := ro) (hb := up); exact rfl; exact rfl; exact rfl; exact rfl; exact rfl; intro _; refine wl_mv rfl rfl ?_; apply wl_elK (T := tyBo) (hr := rp) (hb := v1); exact rfl; exact rfl; exact rfl; exact rfl; exact rfl; intro _; refine wl_mv rfl rfl ?_; apply wl_skip; exact rfl; exact rfl; exact rfl; exact bR2; exact rfl; apply wl_skip; exact rfl; exact rfl; exact rfl; exact bR2; exact rfl; apply wl_skip; exact rfl; exact rfl; exact rfl; exact bR2; exact rfl; apply wl_skip; exact rfl; exact rfl; exact rfl; exact bR2; exact rfl; apply wl_skip; exact rfl; exact rfl; exact rfl; exact bR2; exact rfl; apply wl_skip; exact rfl; exact rfl; exact rfl; exact bR2; exact rfl; apply wl_skip; exact rfl; exact rfl; exact rfl; exact bR2; exact rfl; apply wl_val; apply opv_pickF; exact rfl; exact rfl; exact rfl; exact rfl; refine wl_ns ?_; apply wc_condFb; exact rfl; exact rfl; refine wc_skip ?_; refine we_block_norm ?_; refine we_seq ?_; refine wc_region ?_; refine wl_mv rfl rfl ?_; apply wl_val; apply opv_bin; exact rfl; exact rfl; exact bin_add64 (by omega); exact rfl; refine wl_as rfl rfl ?_; refine wl_nil ?_
    exact we_loop _ (nn - (j + 1)) ⟨j + 1, rs, rfl, by omega, hrl, hwj.skip hkn hin hjn (fun h => by rw [m1] at h; cases h.1), hs, rfl⟩ (by omega) ⟨rfl, rfl, rfl, rfl, by simp [lookT], trivial⟩
  | true =>
    cases b2 with
    | false =>
      refine wc_skip ?_; refine we_seq ?_; refine wc_seq ?_; refine wc_block ?_; refine wc_sr ?_; refine wl_mv rfl rfl ?_; refine wl_mv rfl rfl ?_; apply wl_elK (T := tyBs) (hr := ro) (hb := up); exact rfl; exact rfl; exact rfl; exact rfl; exact rfl; intro _; refine wl_mv rfl rfl ?_; apply wl_elK (T := tyBo) (hr := rp) (hb := v1); exact rfl; exact rfl; exact rfl; exact rfl; exact rfl; intro _; refine wl_mv rfl rfl ?_; apply wl_take; exact rfl; exact rfl; exact rfl; exact rfl; refine wl_mv rfl rfl ?_; apply wl_take; exact rfl; exact rfl; exact rfl; exact rfl; refine wl_mv rfl rfl ?_; apply wl_elTK (T := tyBs) (hr := ro) (hb := uq); exact rfl; exact rfl; exact rfl; exact rfl; exact rfl; exact rfl; exact rfl; exact rfl; exact rfl; exact rfl; exact rfl; exact rfl; exact rfl; exact rfl; intro _; apply wl_take; exact rfl; exact rfl; exact rfl; exact rfl; refine wl_mv rfl rfl ?_; apply wl_elTK (T := tyBo) (hr := rq) (hb := v2); exact rfl; exact rfl; exact rfl; exact rfl; exact rfl; exact rfl; exact rfl; exact rfl; exact rfl; exact rfl; exact rfl; exact rfl; exact rfl; exact rfl; intro _; apply wl_val; apply opv_pickT; exact rfl; exact rfl; exact rfl; exact rfl; refine wl_ns ?_; apply wc_condFb; exact rfl; exact rfl; refine wc_skip ?_; refine we_block_norm ?_; refine we_seq ?_; refine wc_region ?_; refine wl_mv rfl rfl ?_; apply wl_val; apply opv_bin; exact rfl; exact rfl; exact bin_add64 (by omega); exact rfl; refine wl_as rfl rfl ?_; refine wl_nil ?_
      exact we_loop _ (nn - (j + 1)) ⟨j + 1, rs, rfl, by omega, hrl, hwj.skip hkn hin hjn (fun h => by rw [m2] at h; cases h.2), hs, rfl⟩ (by omega) ⟨rfl, rfl, rfl, rfl, by simp [lookT], trivial⟩
    | true =>
      have hwp := hwj.put hkn hin hjn m1 m2
      rw [mset_at hpm] at hwp
      refine wc_skip ?_; refine we_seq ?_; refine wc_seq ?_; refine wc_block ?_; refine wc_sr ?_; refine wl_mv rfl rfl ?_; refine wl_mv rfl rfl ?_; apply wl_elK (T := tyBs) (hr := ro) (hb := up); exact rfl; exact rfl; exact rfl; exact rfl; exact rfl; intro _; refine wl_mv rfl rfl ?_; apply wl_elK (T := tyBo) (hr := rp) (hb := v1); exact rfl; exact rfl; exact rfl; exact rfl; exact rfl; intro _; refine wl_mv rfl rfl ?_; apply wl_take; exact rfl; exact rfl; exact rfl; exact rfl; refine wl_mv rfl rfl ?_; apply wl_take; exact rfl; exact rfl; exact rfl; exact rfl; refine wl_mv rfl rfl ?_; apply wl_elTK (T := tyBs) (hr := ro) (hb := uq); exact rfl; exact rfl; exact rfl; exact rfl; exact rfl; exact rfl; exact rfl; exact rfl; exact rfl; exact rfl; exact rfl; exact rfl; exact rfl; exact rfl; intro _; apply wl_take; exact rfl; exact rfl; exact rfl; exact rfl; refine wl_mv rfl rfl ?_; apply wl_elTK (T := tyBo) (hr := rq) (hb := v2); exact rfl; exact rfl; exact rfl; exact rfl; exact rfl; exact rfl; exact rfl; exact rfl; exact rfl; exact rfl; exact rfl; exact rfl; exact rfl; exact rfl; intro _; apply wl_val; apply opv_pickT; exact rfl; exact rfl; exact rfl; exact rfl; refine wl_ns ?_; apply wc_condTb; exact rfl; exact rfl; refine wc_region ?_; refine wl_mv rfl rfl ?_; refine wl_mv rfl rfl ?_; apply wl_elK (T := tyBs) (hr := ro) (hb := up); exact rfl; exact rfl; exact rfl; exact rfl; exact rfl; intro _; refine wl_mv rfl rfl ?_
      refine ws_set (kk := j) hs (i + 2) rfl np tyBo rfl rfl hjn (fun _ => rfl) rfl rfl ?_
      clear hs; intro _ w8 hs
      have hset : setC (.ow 121 P nn cp (rs.map (browV nn)) :: .blk g1 67 [.slice A nn c, .slice B tb.qu.length d] :: rs.map (browC nn)) (i + 2) (.ow 4 (some ⟨p.1, 0, none⟩) nn nn ((bvL p.2).set j (.bool true))) = .ow 121 P nn cp ((rs.set i (p.1, p.2.set j true)).map (browV nn)) :: .blk g1 67 [.slice A nn c, .slice B tb.qu.length d] :: (rs.set i (p.1, p.2.set j true)).map (browC nn) := by
        have e1 : (rs.set i (p.1, p.2.set j true)).map (browV nn) = rs.map (browV nn) := by
          rw [List.map_set]
          apply List.ext_getElem?
          intro a
          rw [List.getElem?_set]
          by_cases e : i = a
          · subst e; rw [if_pos rfl, if_pos (by rw [List.length_map]; omega), up]
          · rw [if_neg e]
        have e2 : setC (rs.map (browC nn)) i (.ow 4 (some ⟨p.1, 0, none⟩) nn nn ((bvL p.2).set j (.bool true))) = (rs.set i (p.1, p.2.set j true)).map (browC nn) := by
          rw [setC_eq, List.map_set, browC, ← List.map_set]
        rw [e1, ← e2]; rfl
      rw [hset] at hs
      refine wl_nil ?_; refine we_block_norm ?_; refine we_seq ?_; refine wc_region ?_; refine wl_mv rfl rfl ?_; apply wl_val; apply opv_bin; exact rfl; exact rfl; exact bin_add64 (by omega); exact rfl; refine wl_as rfl rfl ?_; refine wl_nil ?_
      exact we_loop _ (nn - (j + 1)) ⟨j + 1, rs.set i (p.1, p.2.set j true), rfl, by omega, by rw [List.length_set]; exact hrl, by rw [bms, List.map_set]; exact hwp, hs, rfl⟩ (by omega) ⟨rfl, rfl, rfl, rfl, by simp [lookT], trivial⟩
/-- The place of the last that waits in a circle. -/
noncomputable def circI (tb : Tb) : Int := match victim tb with
  | none => -1
  | some v => plN (names tb) v
theorem victim_at {tb : Tb} {i : Nat} {o : Ownr} (ho : tb.os[i]? = some o) (hc : Circ tb o.x) (hn : ∀ (j : Nat) p, i < j → tb.os[j]? = some p → ¬ Circ tb p.x) : victim tb = some o.x := by
  unfold victim
  have hlt := (List.getElem?_eq_some_iff.1 ho).1
  have e : tb.os = tb.os.take i ++ o :: tb.os.drop (i + 1) := by
    conv => lhs; rw [← List.take_append_drop i tb.os, List.drop_eq_getElem_cons hlt]
    rw [List.getElem?_eq_getElem hlt] at ho
    injection ho with ho
    rw [ho]
  have h1 : tb.os.reverse = (tb.os.drop (i + 1)).reverse ++ (o :: (tb.os.take i).reverse) := by
    conv => lhs; rw [e]
    simp
  rw [h1, List.find?_append]
  have h2 : ((tb.os.drop (i + 1)).reverse.find? fun o => @decide (Circ tb o.x) (Classical.propDecidable _)) = none := by
    rw [List.find?_eq_none]
    intro p hp hd
    rw [List.mem_reverse] at hp
    obtain ⟨j, hj⟩ := List.getElem?_of_mem hp
    rw [List.getElem?_drop] at hj
    exact hn (i + 1 + j) p (by omega) hj (by simpa using hd)
  rw [h2, Option.none_or, List.find?_cons_of_pos (by simpa using hc)]
  rfl
theorem victim_no {tb : Tb} (hn : ∀ (j : Nat) p, tb.os[j]? = some p → ¬ Circ tb p.x) : victim tb = none := by
  unfold victim
  rw [Option.map_eq_none_iff, List.find?_eq_none]
  intro p hp hd
  rw [List.mem_reverse] at hp
  obtain ⟨j, hj⟩ := List.getElem?_of_mem hp
  exact hn j p hj (by simpa using hd)
set_option maxRecDepth 8000 in
theorem rcircle_any {w0 w : World} {S : BS} {css : List (List Value)} {A B : Option Addr} {n c m d : Nat} {tb : Tb} (hT : RfT w0 w S css A B tb) (hb : Below w0.heap.size w0 w) (hn : tb.os.length = n) (hm : tb.qu.length = m) (hw : Wf tb) (hl : tb.os.length ≤ 1048576) (hq : tb.qu.length ≤ 1048576) (hh : ∀ o ∈ tb.os, o.held.length ≤ 1048576) :
    CallsV Try.prog 60 #[.agg (tvV A n c B m d).toArray] w fun v w' => v = .int .i64 (circI tb) ∧ Below w.heap.size w w' := by
  subst hn hm
  have hs := St.init w
  refine calls_in (N := _) Try.func60 rfl Try.ntmps60 rfl ?_; show WC _ _ _ _ _ _
  refine wc_sr ?_
  refine ws_box (cs := tvV A tb.os.length c B tb.qu.length d) hs rfl rfl ?_; clear hs; intro g1 _ hs
  refine wl_as rfl rfl ?_; refine wl_ns ?_; refine wc_sr ?_; apply wl_val; apply opv_loadX; exact rfl; exact hs.ar 0 rfl; exact sWT; exact rfl
  refine wl_call ok_caissonref16_reach (rreach_any (hT.below hs.bel) (hb.trans (hs.bel.mono hb.size)) rfl rfl hw hl hq hh) ⟨rfl, trivial⟩ rfl ?_
  rintro _ w1 ⟨P, cp, rs, rfl, hrl, hwk, hsx⟩
  have hs2 := hs.call hsx
  obtain ⟨hs0, _⟩ := hs2
  replace hs := hs.below hsx.bel
  have hrd : ∀ (i : Nat) (p : BRow), rs[i]? = some p → Rd w1 (some ⟨p.1, 0, none⟩) tb.os.length (bvL p.2) ∧ (rs.map (browV tb.os.length))[i]? = some (.slice (some ⟨p.1, 0, none⟩) tb.os.length tb.os.length) := fun i p hp => by
    have h2 : nthC (rs.map (browC tb.os.length)) i = some (browC tb.os.length p) := by rw [nthC_eq, List.getElem?_map, hp]; rfl
    exact ⟨(hsx.ow (i + 1) h2).rd, by rw [List.getElem?_map, hp]; rfl⟩
  have ro := (hsx.ow 0 rfl).rd
  clear hsx hs0
  refine wl_as rfl rfl ?_; refine wl_ns ?_; refine wc_seq ?_; refine wc_sr ?_; apply wl_val; apply opv_fa; exact fa_WT0; exact rfl; exact rfl; apply wl_val; apply opv_ldX; exact rfl; exact hs.ar 0 rfl; exact e1_wos; exact rfl; exact rfl; apply wl_val; apply opv_len; exact rfl; exact tkWO.sl; exact rfl; apply wl_val; apply opv_bin; exact rfl; exact rfl; exact bin_sub64 (by omega); exact rfl; refine wl_as rfl rfl ?_; refine wl_ns ?_; refine wc_block ?_
  refine wc_loop (fun L wr mm => ∃ (j : Nat), L = [(3, .slice P tb.os.length cp), (4, .int .i64 ((j : Int) - 1))] ∧ j ≤ tb.os.length ∧ (∀ (q : Nat) p, j ≤ q → tb.os[q]? = some p → ¬ Circ tb p.x) ∧ wr = w1 ∧ mm = j + 1)
    [(3, .slice P tb.os.length cp), (4, .int .i64 ((tb.os.length : Int) - 1))] (tb.os.length + 1) ⟨tb.os.length, rfl, by omega, fun q p h1 h2 => by have := (List.getElem?_eq_some_iff.1 h2).1; omega, rfl, rfl⟩ ⟨rfl, rfl, trivial⟩ ?_
  rintro _ w2 mm ⟨j, rfl, hj, hno, rfl, rfl⟩
  refine wc_seq ?_; refine wc_sr ?_; refine wl_mv rfl rfl ?_; refine wl_bin rfl rfl bin_geq rfl ?_; refine wl_ns ?_
  refine wc_cond rfl (fun h1 => ?_) (fun h1 => ?_)
  · obtain ⟨i, rfl⟩ : ∃ i, j = i + 1 := ⟨j - 1, by omega⟩
    have hij : ((i + 1 : Nat) : Int) - 1 = (i : Int) := by omega
    rw [hij]
    obtain ⟨o, ho⟩ : ∃ o, tb.os[i]? = some o := ⟨_, List.getElem?_eq_getElem (by omega)⟩
    obtain ⟨p, hp⟩ : ∃ p, rs[i]? = some p := ⟨_, List.getElem?_eq_getElem (by omega)⟩
    obtain ⟨rp, up⟩ := hrd i p hp
    have hpm : (bms rs)[i]? = some p.2 := by rw [List.getElem?_map, hp]; rfl
    have hpl : p.2.length = tb.os.length := hwk.sq.row _ (List.mem_of_getElem? hpm)
    obtain ⟨b1, hb1⟩ : ∃ b, p.2[i]? = some b := ⟨_, List.getElem?_eq_getElem (by omega)⟩
    have v1 : (bvL p.2)[i]? = some (.bool b1) := by rw [List.getElem?_map, hb1]; rfl
    have m1 : mg (bms rs) i i = b1 := by rw [mg_at hpm, hb1]; rfl
    have hci : mg (bms rs) i i = true ↔ Circ tb o.x := (hwk.iff (fun a b h => edI_lt h) (by omega) (by omega)).trans (edI_tr hw (names_get ho) (names_get ho))
    rw [m1] at hci
    cases b1 with
    | true =>
      have hv := victim_at ho (hci.1 rfl) fun q p h1 h2 => hno q p h1 h2
      refine wc_skip ?_; refine we_seq ?_; refine wc_seq ?_; refine wc_block ?_; refine wc_sr ?_; refine wl_mv rfl rfl ?_; refine wl_mv rfl rfl ?_; apply wl_elK (T := tyBs) (hr := ro) (hb := up); exact rfl; exact rfl; exact rfl; exact rfl; exact rfl; intro _; refine wl_mv rfl rfl ?_; apply wl_elK (T := tyBo) (hr := rp) (hb := v1); exact rfl; exact rfl; exact rfl; exact rfl; exact rfl; intro _; refine wl_ns ?_; apply wc_condTb; exact rfl; exact rfl; refine wc_sr ?_; refine wl_mv rfl rfl ?_; refine wl_as rfl rfl ?_; refine wl_ns ?_; refine wc_ret ?_; refine we_block_ret ?_; refine we_seq_ret ?_; refine we_loop_ret ?_; refine we_block_ret ?_; refine we_seq_ret ?_
      refine we_ret1 rfl rfl ⟨_, rfl, ?_, hs.bel⟩
      rw [circI, hv]
      dsimp only
      obtain ⟨k, hk1, hk2, _⟩ := plN_some (l := names tb) (x := o.x) (List.mem_map_of_mem (List.mem_of_getElem? ho))
      rw [hk1]
      have := (List.getElem?_inj (List.getElem?_eq_some_iff.1 hk2).1 hw.nd).1 (by rw [hk2, names_get ho] : (names tb)[k]? = (names tb)[i]?)
      rw [this]
    | false =>
      refine wc_skip ?_; refine we_seq ?_; refine wc_seq ?_; refine wc_block ?_; refine wc_sr ?_; refine wl_mv rfl rfl ?_; refine wl_mv rfl rfl ?_; apply wl_elK (T := tyBs) (hr := ro) (hb := up); exact rfl; exact rfl; exact rfl; exact rfl; exact rfl; intro _; refine wl_mv rfl rfl ?_; apply wl_elK (T := tyBo) (hr := rp) (hb := v1); exact rfl; exact rfl; exact rfl; exact rfl; exact rfl; intro _; refine wl_ns ?_; apply wc_condFb; exact rfl; exact rfl; refine wc_skip ?_; refine we_block_norm ?_; refine we_seq ?_; refine wc_region ?_; refine wl_mv rfl rfl ?_; apply wl_val; apply opv_bin; exact rfl; exact rfl; exact bin_sub64 (by omega); exact rfl; refine wl_as rfl rfl ?_; refine wl_nil ?_
      refine we_loop _ (i + 1) ⟨i, rfl, by omega, fun q p' h1 h2 => ?_, rfl, rfl⟩ (by omega) ⟨rfl, by simp [lookT], trivial⟩
      rcases Nat.eq_or_lt_of_le h1 with h3 | h3
      · subst h3
        rw [ho] at h2; cases h2
        exact fun hc => by have := hci.2 hc; cases this
      · exact hno q p' h3 h2
  · obtain rfl : j = 0 := by omega
    refine wc_exit ?_; refine we_seq_exit ?_; refine we_loop_exit ?_; refine we_block_exit ?_; refine we_seq ?_; refine wc_sr ?_; refine wl_as rfl rfl ?_; refine wl_ns ?_; refine wc_ret ?_
    exact we_ret1 rfl rfl ⟨_, rfl, by rw [circI, victim_no fun q p h => hno q p (Nat.zero_le _) h], hs.bel⟩
end Go.Proofs.Ytmdbjeabifkimaa

/-
  Walk over Go of the document's lock tables.
-/
namespace Go.Proofs.Ytmdbjeabifkimaa
open Go.RowKit

/-- Two rows of names that may share memory. -/
def qqK (B : Option Addr) (q : List Tx) (C : Option Addr) (r : List Tx) : Ck := ⟨fun w S => RdR 2 w S B (txEls q) ∧ RdR 2 w S C (txEls r), fun h hz hm => ⟨h.1.move (by decide) hz hm, h.2.move (by decide) hz hm⟩⟩
theorem rg_ones {w : World} {S : BS} {l : List Rg} {css : List (List Value)} (h : Grp 3 w S (l.map rgEl) css) : ∀ u ∈ css.flatten, u.oneCell' = true := by
  intro u hu
  obtain ⟨cs, hcs, hu⟩ := List.mem_flatten.1 hu
  obtain ⟨i, hi, rfl⟩ := List.getElem_of_mem hcs
  obtain ⟨_, E, h1, h2⟩ := h.2 i _ (List.getElem?_eq_getElem hi)
  rw [List.getElem?_map] at h1
  cases ho : l[i]? with
  | none => rw [ho] at h1; cases h1
  | some o =>
    rw [ho] at h1
    simp only [Option.map_some, Option.some.injEq] at h1
    subst h1
    obtain ⟨A, a, B, b, e, _⟩ := h2
    rw [e] at hu
    simp only [rgV, List.mem_cons, List.not_mem_nil, or_false] at hu
    rcases hu with rfl | rfl | rfl <;> rfl
theorem RwO.raws {w0 w : World} {S : BS} {H : Option Addr} {l : List Rg} (h : RwO w0 w S H l) (hb : Below w0.heap.size w0 w) : ∃ css, Grp 3 w0 All (l.map rgEl) css ∧ RdR 3 w All H (css.map rawEl) ∧ css.length = l.length ∧ ∀ u ∈ css.flatten, u.oneCell' = true := by
  obtain ⟨css, h1, h2⟩ := h.raw hb
  exact ⟨css, h1, h2, by rw [h1.1, List.length_map], rg_ones h1⟩
theorem RoT.rows {w0 w : World} {S : BS} {css : List (List Value)} {A : Option Addr} {os : List Ownr} {k : Nat} (h : RoT w0 w S css A os) {o : Ownr} {X Y : Option Addr} {xc yc : Nat} (ho : os[k]? = some o) (hcs : css[k]? = some (owV o X xc Y yc)) : RwO w0 w S X o.held ∧ RwO w0 w S Y o.asks := h.row ho hcs
/-- An owner with a new row of what it holds, beside the others. -/
theorem roo_new {w0 w : World} {S : BS} {css c3 : List (List Value)} {A R X Y : Option Addr} {os : List Ownr} {o : Ownr} {hl : List Rg} {k rc xc yc : Nat} {e : TypeId} (ho : os[k]? = some o) (hcs : css[k]? = some (owV o X xc Y yc)) (hg : Grp 3 w0 All (hl.map rgEl) c3)
    (h : Sat w [.rg 3 e R rc (c3.map rawEl), .ck (roK w0 css A os)] S) : (rooK w0 css A os ⟨o.x, hl, o.asks⟩ (owV ⟨o.x, hl, o.asks⟩ R rc Y yc)).P w S := by
  obtain ⟨T1, hT1, h1, T2, hT2, h2, _⟩ := h
  have h2' : RoT w0 w S css A os := RoT.mono h2 fun b _ h => (hT2 b h).1
  exact ⟨h2', R, rc, Y, yc, rfl, ⟨c3, hg, .inr (RdR.mono (by decide) (rg_rdS h1) fun b _ h => hT1 b h)⟩, (h2'.row ho hcs).2⟩
theorem grant_set {tb : Tb} (hn : (names tb).Nodup) {k : Nat} {o : Ownr} (h : tb.os[k]? = some o) : (grantT tb o.x).os = tb.os.set k ⟨o.x, o.held ++ o.asks, o.asks⟩ := set_map hn (fun p => ⟨p.x, p.held ++ p.asks, p.asks⟩) h
set_option maxRecDepth 8000 in
set_option maxHeartbeats 2000000 in
theorem rgo_any {w0 w : World} {S : BS} {css : List (List Value)} {A B : Option Addr} {n c m d : Nat} {tb : Tb} (h0 : Sat w [.ck (roK w0 css A tb.os), .ck (rqK B tb.qu)] S) (hM : ∀ w', Mod S w w' → Below w0.heap.size w0 w') (hn : tb.os.length = n) (hm : tb.qu.length = m) (hc : n ≤ c) (hw : Wf tb) (hz : Sz tb) :
    CallsV Try.prog 61 #[.agg (tvV A n c B m d).toArray] w fun v w' => ∃ P cp css' A' c' B' d', v = .tuple #[.agg (tvV A' n c' B' (goT tb).1.qu.length d').toArray, .slice P (goT tb).2.length cp] ∧ n ≤ c' ∧ St S w w' [.rg 2 30 P cp (txEls (goT tb).2), .ck (roK w0 css' A' (goT tb).1.os), .ck (rqK B' (goT tb).1.qu)] := by
  subst hn hm
  have hs := St.start h0
  have hqu := hz.qu hw
  refine calls_in (N := _) Try.func61 rfl Try.ntmps61 rfl ?_; show WC _ _ _ _ _ _
  refine wc_sr ?_
  refine ws_box (cs := tvV A tb.os.length c B tb.qu.length d) hs rfl rfl ?_; clear hs; intro g1 _ hs
  skip
  refine ws_new hs zeroWT rfl ?_; clear hs; intro g2 _ hs
  unfold zWT at hs
  refine wl_as rfl rfl ?_; refine wl_ns ?_; refine wc_sr ?_; refine wl_as rfl rfl ?_; refine wl_ns ?_; refine wc_sr ?_; apply wl_val; apply opv_fa; exact fa_WT1; exact rfl; exact rfl; apply wl_val; apply opv_ldX; exact rfl; exact hs.ar 1 rfl; exact e1_txs; exact rfl; exact rfl; refine wl_as rfl rfl ?_; refine wl_ns ?_; refine wc_seq ?_; refine wc_sr ?_; refine wl_as rfl rfl ?_; refine wl_ns ?_; refine wc_block ?_
  replace hs := (St.pack (H1 := [_]) (hs.front 3 rfl) (.ck (qqK B tb.qu B tb.qu)) fun w S ⟨T, hT, h, _⟩ => ⟨RdR.mono (by decide) h fun b _ k => hT b k, RdR.mono (by decide) h fun b _ k => hT b k⟩)
  dsimp only [delC] at hs
  replace hs := (((hs.front 3 rfl).front 2 rfl).front 3 rfl).nilG 2 30
  dsimp only [delC] at hs
  refine wc_loop (fun L wr mm => ∃ (k : Nat) (P : Option Addr) (cp : Nat) (css' : List (List Value)) (A' : Option Addr) (c' : Nat) (C : Option Addr) (d' : Nat), L = [(1, .pointer (some ⟨g1, 0, none⟩)), (2, .pointer (some ⟨g2, 0, none⟩)), (4, .slice P (goK tb k).2.length cp), (5, .slice B tb.qu.length d), (6, .int .i64 (k : Int))] ∧ k ≤ tb.qu.length ∧ tb.os.length ≤ c' ∧ St S w wr [.rg 2 30 P cp (txEls (goK tb k).2), .blk g1 67 [.slice A' tb.os.length c', .slice C (goK tb k).1.qu.length d'], .blk g2 67 [.slice none 0 0, .slice none 0 0], .ck (roK w0 css' A' (goK tb k).1.os), .ck (qqK B tb.qu C (goK tb k).1.qu)] ∧ mm = tb.qu.length - k)
    [(1, .pointer (some ⟨g1, 0, none⟩)), (2, .pointer (some ⟨g2, 0, none⟩)), (4, .slice none 0 0), (5, .slice B tb.qu.length d), (6, .int .i64 (0 : Nat))] tb.qu.length ⟨0, none, 0, css, A, c, B, d, rfl, by omega, hc, hs, rfl⟩ ⟨rfl, rfl, rfl, rfl, rfl, trivial⟩ ?_
  clear hs
  rintro _ w2 mm ⟨k, P, cp, css', A', c', C, d', rfl, hk, hc', hs, rfl⟩
  refine wc_seq ?_; refine wc_sr ?_; refine wl_mv rfl rfl ?_; refine wl_mv rfl rfl ?_; apply wl_val; apply opv_len; exact rfl; exact tkTx.sl; exact rfl; refine wl_bin rfl rfl bin_lss rfl ?_; refine wl_ns ?_
  refine wc_cond rfl (fun h1 => ?_) (fun h1 => ?_)
  · obtain ⟨x, hx⟩ : ∃ x, tb.qu[k]? = some x := ⟨_, List.getElem?_eq_getElem (by omega)⟩
    have hgk := goK_succ hx
    have hI := goK_I hw hk
    have hzk : Sz (goK tb k).1 := goFold_sz hz
    have hlen : (goK tb k).2.length ≤ k := by
      have := goFold_len (l := tb.qu.take k) (r := (tb, []))
      rw [List.length_take] at this
      simp only [List.length_nil] at this
      unfold goK; omega
    rw [List.drop_eq_getElem_cons (show k < tb.qu.length by omega)] at hI
    have hosl : (goK tb k).1.os.length = tb.os.length := by
      have h2 := hI.nm
      rw [← names_len, h2, names_len]
    obtain ⟨r, hr⟩ : ∃ r, goK tb k = r := ⟨_, rfl⟩
    rw [hr] at hgk hI hzk hlen hs hosl
    rw [hr]
    have hxq : x ∈ r.1.qu := by
      rw [hI.qu]
      have : x = tb.qu[k] := by rw [List.getElem?_eq_getElem (by omega)] at hx; exact (Option.some.inj hx).symm
      rw [this]; exact List.mem_append_right _ List.mem_cons_self
    have hwk := hI.wf
    obtain ⟨o, ho, rfl⟩ := List.mem_map.1 (hwk.sub x hxq)
    have hbk := blk_of hwk.nd ho
    have hfo := for_of hwk ho hxq
    have hquk := hzk.qu hwk
    have hkk : ((k + 1 : Nat) : Int) = (k : Int) + 1 := by omega
    have hhk : ∀ o ∈ r.1.os, o.held.length ≤ 1048576 := fun o ho => by have := hzk.held o ho; omega
    obtain ⟨bq, fq, cs, hB, _, _, hp, i1⟩ := RdR.at (k := 2) (by decide) (show RdR 2 w2 All B (txEls tb.qu) by obtain ⟨T, h, _⟩ := hs.get 4 rfl; exact RdR.all h.1) (i := k) (E := rawEl (txV o.x)) (by rw [txEls, List.getElem?_map, hx]; rfl)
    obtain rfl : cs = txV o.x := hp
    subst hB
    have hWi : ∀ {w' : World} {H : List Cd} {C' : Option Addr} {q' : List Tx} (j : Nat), St S w w' H → nthC H j = some (.ck (qqK (some ⟨bq, fq, none⟩) tb.qu C' q')) → Wi w' bq (fq + k * 2) (txV o.x) := fun {w' H C' q'} j hs hj => by
      obtain ⟨T, h, _⟩ := hs.get j hj
      obtain ⟨_, _, cs, hB, _, _, hp, i1⟩ := RdR.at (k := 2) (by decide) h.1 (i := k) (E := rawEl (txV o.x)) (by rw [txEls, List.getElem?_map, hx]; rfl)
      obtain rfl : cs = txV o.x := hp
      cases hB
      exact i1
    have hrf : ∀ {w' : World} {H : List Cd} {css : List (List Value)} {A' C' : Option Addr} (i j : Nat), St S w w' H → nthC H i = some (.ck (roK w0 css A' r.1.os)) → nthC H j = some (.ck (qqK (some ⟨bq, fq, none⟩) tb.qu C' r.1.qu)) → RfT w0 w' All css A' C' r.1 := fun {w' H css A' C'} i j hs hi hj => by
      obtain ⟨T, h, _⟩ := hs.get j hj
      exact (hs.ro i hi).rf (RdR.all h.2)
    have hmem := ho
    refine wc_skip ?_; refine we_seq ?_; refine wc_seq ?_; refine wc_block ?_; refine wc_seq ?_
    refine wc_held (fun w' => Ar w' g1 67 [.slice A' tb.os.length c', .slice C r.1.qu.length d'] ∧ Wi w' bq (fq + k * 2) (txV o.x)) mixed ?_
    replace hs := hs.below (Below.refl _ _).drew
    have hS := And.intro (hs.ar 1 rfl) (hWi 4 hs rfl)
    apply wh_takeH 0; exact rfl; intro _ hw_; apply opv_loadX; exact rfl; exact hw_.1; exact sWT; exact rfl; kernel_rfl; exact hS; apply wh_takeH 1; exact rfl; intro _ hw_; apply opv_move; exact rfl; exact rfl; kernel_rfl; exact hS; apply wh_takeH 2; exact rfl; intro _ hw_; apply opv_move; exact rfl; exact rfl; kernel_rfl; exact hS; apply wh_takeH 3; exact rfl; intro _ hw_; apply opv_idxG tkTx; exact rfl; exact rfl; exact rfl; omega; exact rfl; kernel_rfl; exact hS; apply wh_takeH 4; exact rfl; intro _ hw_; apply opv_ldG; exact rfl; exact hw_.2; exact sTx; exact rfl; kernel_rfl; exact hS
    clear hS i1
    refine wh_one 5 (o := ⟨_, _, _, _, _, _⟩) (by kernel_rfl) rfl ?_
    refine wl_call ok_caissonref16_For (rfor_any (x := o.x) (hrf 3 4 hs rfl rfl) (hM _ hs.1) hosl rfl hwk hzk.os hquk hhk) ⟨rfl, rfl, trivial⟩ rfl ?_
    rintro _ w3 ⟨Q, cq, rfl, hsx⟩
    replace hs := (hs.call hsx).drop 0 rfl
    clear hsx
    dsimp only [List.cons_append, List.nil_append, delC] at hs
    rw [hfo]
    have hbl : (bnames r.1 o).length = (blockers r.1 o).length := by rw [bnames, List.length_map]
    refine wl_nil ?_
    have hS := And.intro (hs.ar 1 rfl) (hWi 4 hs rfl)
    refine we_held hS ?_
    apply wh_takeH 6; exact rfl; intro _ hw_; apply opv_len; exact rfl; exact tkTx.sl; exact rfl; kernel_rfl; exact hS; apply wh_takeH 7; exact rfl; intro _ hw_; apply opv_bin; exact rfl; exact rfl; exact bin_eql; exact rfl; kernel_rfl; exact hS
    clear hS
    refine wh_done (by kernel_rfl) ?_
    refine we_seq ?_
    by_cases hz0 : (blockers r.1 o) = []
    · have hgo : goStep r o.x = (goOne r.1 o.x, r.2 ++ [o.x]) := by rw [goStep, hbk, hz0]; rfl
      rw [hgo] at hgk
      have h0' : ((bnames r.1 o).length : Int) = 0 := by rw [hbl, hz0]; rfl
      obtain ⟨kx, o', hkx, hok, hox, _, hlx⟩ := own_pl hwk.nd (List.mem_map_of_mem ho)
      obtain rfl : o' = o := names_inj hwk.nd (List.mem_of_getElem? hok) ho hox
      clear hox
      apply wc_decT; exact rfl; (with_reducible assumption); refine wc_seq ?_
      refine wc_held (fun w' => Ar w' g1 67 [.slice A' tb.os.length c', .slice C r.1.qu.length d'] ∧ Wi w' bq (fq + k * 2) (txV o'.x)) mixed ?_
      replace hs := hs.below (Below.refl _ _).drew
      have hS := And.intro (hs.ar 1 rfl) (hWi 4 hs rfl)
      apply wh_takeH 0; exact rfl; intro _ hw_; apply opv_loadX; exact rfl; exact hw_.1; exact sWT; exact rfl; kernel_rfl; exact hS; apply wh_takeH 1; exact rfl; intro _ hw_; apply opv_move; exact rfl; exact rfl; kernel_rfl; exact hS; apply wh_takeH 2; exact rfl; intro _ hw_; apply opv_move; exact rfl; exact rfl; kernel_rfl; exact hS; apply wh_takeH 3; exact rfl; intro _ hw_; apply opv_idxG tkTx; exact rfl; exact rfl; exact rfl; omega; exact rfl; kernel_rfl; exact hS; apply wh_takeH 4; exact rfl; intro _ hw_; apply opv_ldG; exact rfl; exact hw_.2; exact sTx; exact rfl; kernel_rfl; exact hS
      clear hS
      refine wh_one 5 (o := ⟨_, _, _, _, _, _⟩) (by kernel_rfl) rfl ?_
      refine wl_call ok_caissonref16_find (rfind_any (x := o'.x) (hrf 3 4 hs rfl rfl) hosl (by have := hzk.os; omega)) ⟨rfl, rfl, trivial⟩ rfl ?_
      rintro _ w4 ⟨rfl, hbx⟩
      replace hs := hs.below hbx
      clear hbx
      rw [hkx]
      refine wl_nil ?_
      have hS := And.intro (hs.ar 1 rfl) (hWi 4 hs rfl)
      refine we_held hS ?_
      apply wh_takeH 6; exact rfl; intro _ hw_; apply opv_assign; exact rfl; exact rfl; kernel_rfl; exact hS
      clear hS
      refine wh_done (by kernel_rfl) ?_
      refine we_seq ?_; refine wc_sr ?_; apply wl_val; apply opv_fa; exact fa_WT0; exact rfl; exact rfl; apply wl_val; apply opv_ldX; exact rfl; exact hs.ar 1 rfl; exact e1_wos; exact rfl; exact rfl; refine wl_mv rfl rfl ?_
      obtain ⟨bb, f, X, xc, Y, yc, hA, _, hcs, i2, _, _⟩ := (hs.ro 3 rfl).at hok
      subst hA
      apply wl_val; apply opv_idxG tkWO; exact rfl; exact rfl; exact rfl; omega; exact rfl; apply wl_val; apply opv_ldG; exact rfl; assumption; exact sWO; exact rfl
      refine ws_var (cs := owV o' X xc Y yc) hs zeroWO sWO rfl (fun _ => rfl) (by first | rfl | simp [Value.oneCell']) rfl ?_; clear hs; intro g8 _ hs
      clear i2
      unfold owV at hs
      refine wl_ns ?_; refine wc_seq ?_
      refine wc_heldL (fun w' => Ar w' g8 99 [.int .u64 (o'.x.1 : Int), .int .u64 (o'.x.2 : Int), .slice X o'.held.length xc, .slice Y o'.asks.length yc]) 8 mixed ?_
      replace hs := hs.below (Below.refl _ _).drew
      have hS := hs.ar 0 rfl
      apply wm_take 1; exact rfl; intro _ hw_; apply opv_fa; exact fa_WO1; exact rfl; exact rfl; kernel_rfl; exact hS; apply wm_take 2; exact rfl; intro _ hw_; apply opv_ldX; exact rfl; assumption; exact e1_rgs; exact rfl; exact rfl; kernel_rfl; exact hS; apply wm_take 4; exact rfl; intro _ hw_; apply opv_fa; exact fa_WO2; exact rfl; exact rfl; kernel_rfl; exact hS; apply wm_take 5; exact rfl; intro _ hw_; apply opv_ldX; exact rfl; assumption; exact e1_rgs; exact rfl; exact rfl; kernel_rfl; exact hS
      clear hS
      have hho := hzk.held o' ho
      refine wm_one 0 (by kernel_rfl) rfl ?_; dsimp only [List.getElem_toArray, List.getElem_cons_succ, List.getElem_cons_zero]
      refine ws_bsG0 (k := 3) hs (opv_bsG0 tkR) rfl ?_
      clear hs; intro R0 w6 hs
      refine wl_nil ?_
      refine we_heldM (fun _ => hs.ar 1 rfl) ?_
      refine wm_one 3 (by kernel_rfl) rfl ?_; dsimp only [List.getElem_toArray, List.getElem_cons_succ, List.getElem_cons_zero]
      obtain ⟨c1, hg1, r1, l1, u1⟩ := ((hs.ro 5 rfl).row hok hcs).1.raws (hM _ hs.1)
      refine ws_appR (css := c1) (m := o'.held.length) hs 0 rfl rfl tkR rfl rfl r1 l1 u1 (by omega) (by simp only [maxLen]; omega) rfl ?_
      clear hs r1; intro R1 rc1 w7 hs; dsimp only [setC, List.nil_append] at hs
      rw [Nat.zero_add]
      refine wl_nil ?_
      refine we_heldM (fun _ => hs.ar 1 rfl) ?_
      refine wm_one 6 (by kernel_rfl) rfl ?_; dsimp only [List.getElem_toArray, List.getElem_cons_succ, List.getElem_cons_zero]
      obtain ⟨c2, hg2, r2, l2, u2⟩ := ((hs.ro 5 rfl).row hok hcs).2.raws (hM _ hs.1)
      refine ws_appR (css := c2) (m := o'.asks.length) hs 0 rfl rfl tkR (by rw [List.length_map, l1]) rfl r2 l2 u2 (by omega) (by simp only [maxLen]; omega) rfl ?_
      clear hs r2; intro R2 rc2 w8 hs; dsimp only [setC] at hs
      rw [← List.length_append]
      refine wl_nil ?_
      have hS := hs.ar 1 rfl
      refine we_heldM (fun _ => hS) ?_
      apply wm_take 7; exact rfl; intro _ hw_; apply opv_fa; exact fa_WO1; exact rfl; exact rfl; kernel_rfl; exact hS
      clear hS
      refine wm_one 8 (by kernel_rfl) rfl ?_; dsimp only [List.getElem_toArray, List.getElem_cons_succ, List.getElem_cons_zero]
      apply ws_st hs 1; exact rfl; exact rfl; exact e1_rgs; exact rfl; exact rfl; exact rfl; clear hs; intro _ hs; dsimp only [setC, List.set] at hs; refine wl_nil ?_
      refine we_heldM (fun h => absurd h (by decide)) ?_
      refine wm_done (by kernel_rfl) ?_
      refine we_seq ?_; refine wc_seq ?_
      have hg3 := hg1.append hg2
      rw [← List.map_append] at hg3
      rw [← List.map_append] at hs
      refine wc_heldL (fun w' => Ar w' g1 67 [.slice (some ⟨bb, f, none⟩) tb.os.length c', .slice C r.1.qu.length d'] ∧ Ar w' g8 99 [.int .u64 (o'.x.1 : Int), .int .u64 (o'.x.2 : Int), .slice R2 (o'.held ++ o'.asks).length rc2, .slice Y o'.asks.length yc] ∧ Wi w' bq (fq + k * 2) (txV o'.x)) 9 mixed ?_
      replace hs := hs.below (Below.refl _ _).drew
      have hS := And.intro (hs.ar 3 rfl) (And.intro (hs.ar 1 rfl) (hWi 6 hs rfl))
      apply wm_take 0; exact rfl; intro _ hw_; apply opv_loadX; exact rfl; exact hw_.1; exact sWT; exact rfl; kernel_rfl; exact hS; apply wm_take 1; exact rfl; intro _ hw_; apply opv_move; exact rfl; exact rfl; kernel_rfl; exact hS; apply wm_take 2; exact rfl; intro _ hw_; apply opv_loadX; exact rfl; exact hw_.2.1; exact sWO; exact rfl; kernel_rfl; exact hS; apply wm_take 4; exact rfl; intro _ hw_; apply opv_move; exact rfl; exact rfl; kernel_rfl; exact hS; apply wm_take 5; exact rfl; intro _ hw_; apply opv_move; exact rfl; exact rfl; kernel_rfl; exact hS; apply wm_take 6; exact rfl; intro _ hw_; apply opv_idxG tkTx; exact rfl; exact rfl; exact rfl; omega; exact rfl; kernel_rfl; exact hS; apply wm_take 7; exact rfl; intro _ hw_; apply opv_ldG; exact rfl; exact hw_.2.2; exact sTx; exact rfl; kernel_rfl; exact hS
      clear hS
      refine wm_one 3 (by kernel_rfl) rfl ?_; dsimp only [List.getElem_toArray, List.getElem_cons_succ, List.getElem_cons_zero]
      obtain ⟨S2, hS2, _, _, hH, hB⟩ := St.lend (H1 := [.ck (rooK w0 css' (some ⟨bb, f, none⟩) r.1.os ⟨o'.x, o'.held ++ o'.asks, o'.asks⟩ (owV ⟨o'.x, o'.held ++ o'.asks, o'.asks⟩ R2 rc2 Y yc))]) (H2 := [_, _, _, _, _]) (St.pack (H1 := [_, _]) ((hs.front 5 rfl).front 1 rfl) _ fun w S h => roo_new hok hcs hg3 h)
      refine wl_call ok_caissonref16_with (rwith_any hS2 hosl hlx hzk.os) ⟨rfl, rfl, rfl, trivial⟩ rfl ?_
      rintro _ w9 ⟨A2, c3, rfl, hc3, hsx⟩
      replace hs := hB _ _ hsx
      clear hB hsx hS2 hH
      dsimp only [List.cons_append, List.nil_append, delC] at hs
      rw [← grant_set hwk.nd hok] at hs
      refine wl_nil ?_
      refine we_heldM (fun _ => And.intro (hs.ar 3 rfl) (And.intro (hs.ar 1 rfl) (hWi 5 hs rfl))) ?_
      refine wm_one 8 (by kernel_rfl) rfl ?_; dsimp only [List.getElem_toArray, List.getElem_cons_succ, List.getElem_cons_zero]
      obtain ⟨S2, hS2, _, _, hH, hB⟩ := St.lend (H1 := [.ck (roK w0 _ A2 (grantT r.1 o'.x).os)]) (H2 := [_, _, _, _, _]) hs
      have hgl : (grantT r.1 o'.x).os.length = tb.os.length := by rw [← names_len, names_grant, names_len]; exact hosl
      refine wl_call ok_caissonref16_leave (rleave_any (x := o'.x) hS2 (fun w' hm => by
        obtain ⟨_, _, _, _, _, _, _, _, _, _, _, _, T5, _, h5, _⟩ := hH w' hm
        exact RdR.all h5.2) hgl rfl hc3 (by rw [names_grant]; exact hwk.nd) (by rw [hgl]; exact hz.os) hquk) ⟨rfl, rfl, trivial⟩ rfl ?_
      rintro _ w10 ⟨css4, A4, c4, C4, d4, rfl, hc4, hsx⟩
      replace hs := hB _ _ hsx
      clear hB hsx hS2 hH
      dsimp only [List.cons_append, List.nil_append, delC] at hs
      rw [show leaveT (grantT r.1 o'.x) o'.x = goOne r.1 o'.x from rfl] at hs
      rw [show leaveT (grantT r.1 o'.x) o'.x = goOne r.1 o'.x from rfl]
      replace hs := St.pack (H1 := [_, _]) ((hs.front 6 rfl).front 2 rfl) (.ck (qqK (some ⟨bq, fq, none⟩) tb.qu C4 (goOne r.1 o'.x).qu)) fun w S ⟨T1, hT1, h1, T2, hT2, h2, _⟩ => ⟨RdR.mono (by decide) h2.1 fun b _ k => (hT2 b k).1, RdR.mono (by decide) h1 fun b _ k => hT1 b k⟩
      dsimp only [delC] at hs
      refine wl_nil ?_
      refine we_heldM (fun _ => And.intro (hs.ar 4 rfl) (And.intro (hs.ar 2 rfl) (hWi 0 hs rfl))) ?_
      refine wm_one 9 (by kernel_rfl) rfl ?_; dsimp only [List.getElem_toArray, List.getElem_cons_succ, List.getElem_cons_zero]
      apply ws_stS hs 4; exact rfl; exact rfl; exact rfl; exact sWT; exact rfl; exact rfl; clear hs; intro _ hs; dsimp only [setC] at hs; refine wl_nil ?_
      refine we_heldM (fun h => absurd h (by decide)) ?_
      refine wm_done (by kernel_rfl) ?_
      have i2 := hWi 0 hs rfl
      refine we_seq ?_; refine wc_region ?_; refine wl_mv rfl rfl ?_; refine wl_mv rfl rfl ?_; refine wl_mv rfl rfl ?_; apply wl_val; apply opv_idxG tkTx; exact rfl; exact rfl; exact rfl; omega; exact rfl; apply wl_val; apply opv_ldG; exact rfl; assumption; exact sTx; exact rfl
      refine ws_pushR (cs := txV o'.x) hs 3 (fun _ => rfl) rfl tkTx (by simp) ⟨_, rfl, rfl⟩ rfl rfl (by decide) (by omega) (by simp only [maxLen]; omega) rfl rfl ?_
      clear hs i2; intro _ P2 cp2 w12 hs; dsimp only [setC] at hs
      refine wl_as rfl rfl ?_; refine wl_nil ?_; refine we_block_norm ?_; refine we_seq ?_; refine wc_region ?_; refine wl_mv rfl rfl ?_; apply wl_val; apply opv_bin; exact rfl; exact rfl; exact bin_add64 (by omega); exact rfl; refine wl_as rfl rfl ?_; refine wl_nil ?_
      replace hs := (((((hs.drop 2 rfl).front 1 rfl).front 4 rfl).front 4 rfl).front 4 rfl)
      dsimp only [delC] at hs
      have hl2 : (r.2 ++ [o'.x]).length = r.2.length + 1 := by simp
      exact we_loop _ (tb.qu.length - (k + 1)) ⟨k + 1, P2, cp2, css4, A4, c4, C4, d4, rfl, by omega, hc4, by rw [hgk]; simpa [txEls] using hs, rfl⟩ (by omega) ⟨rfl, rfl, by rw [hgk]; show _ = some (Value.slice P2 (r.2 ++ [o'.x]).length cp2); rw [hl2]; rfl, rfl, by simp [lookT], trivial⟩
    · have hgo : goStep r o.x = r := by
        rw [goStep, hbk]
        cases hc : blockers r.1 o with
        | nil => exact absurd hc hz0
        | cons => rfl
      rw [hgo] at hgk
      have h0' : ¬ ((bnames r.1 o).length : Int) = 0 := by
        rw [hbl]
        have := List.length_pos_iff.2 hz0
        omega
      apply wc_decF; exact rfl; (with_reducible assumption); refine wc_skip ?_; refine we_block_norm ?_; refine we_seq ?_; refine wc_region ?_; refine wl_mv rfl rfl ?_; apply wl_val; apply opv_bin; exact rfl; exact rfl; exact bin_add64 (by omega); exact rfl; refine wl_as rfl rfl ?_; refine wl_nil ?_
      exact we_loop _ (tb.qu.length - (k + 1)) ⟨k + 1, P, cp, css', A', c', C, d', rfl, by omega, hc', by rw [hgk]; exact hs, rfl⟩ (by omega) ⟨rfl, rfl, by rw [hgk]; rfl, rfl, by simp [lookT], trivial⟩
  · obtain rfl : k = tb.qu.length := by omega
    have hgk : goK tb tb.qu.length = goT tb := by unfold goK; rw [List.take_length]; rfl
    rw [hgk] at hs
    rw [hgk]
    refine wc_exit ?_; refine we_seq_exit ?_; refine we_loop_exit ?_; refine we_block_exit ?_; refine we_seq ?_; refine wc_sr ?_; apply wl_val; apply opv_loadX; exact rfl; exact hs.ar 1 rfl; exact sWT; exact rfl; refine wl_mv rfl rfl ?_; apply ws_stS hs 2; exact rfl; exact rfl; exact rfl; exact sWT; exact rfl; exact rfl; clear hs; intro _ hs; dsimp only [setC] at hs; refine wl_as rfl rfl ?_; refine wl_ns ?_; refine wc_ret ?_
    have hs2 := St.pack (H1 := [_]) (((hs.drop 1 rfl).drop 1 rfl).front 2 rfl) (.ck (rqK C (goT tb).1.qu)) fun w S ⟨T, hT, h, _⟩ => RdR.mono (by decide) h.2 fun b _ k => hT b k
    dsimp only [delC] at hs2
    have hs3 := (hs2.front 2 rfl).front 2 rfl
    dsimp only [delC] at hs3
    exact we_retC1 rfl rfl rfl (hs.ar 2 rfl) sWT ⟨_, rfl, P, cp, css', A', c', C, d', rfl, hc', hs3⟩
end Go.Proofs.Ytmdbjeabifkimaa

/-
  Walk over Release of the document's lock tables.
-/
namespace Go.Proofs.Ytmdbjeabifkimaa
open Go.RowKit

theorem rdr_cutRaw {k n c l h : Nat} {w : World} {S : BS} {A : Option Addr} {css : List (List Value)} (hr : RdR k w S A (css.map rawEl)) (hn : css.length = n) (h1 : l ≤ h) (h2 : h ≤ n) (hc : n ≤ c) : RdR k w S (cutK A c l k) (((css.take h).drop l).map rawEl) := by
  have := hr.cut (n := n) (l := l) (h := h) (c := c) (by rw [List.length_map]; exact hn) h1 h2 hc
  rwa [← List.map_take, ← List.map_drop] at this
theorem cells_sub {css css' : List (List Value)} (h : ∀ u ∈ css.flatten, u.oneCell' = true) (hs : ∀ cs ∈ css', cs ∈ css) : ∀ u ∈ css'.flatten, u.oneCell' = true := fun u hu => by
  obtain ⟨cs, h1, h2⟩ := List.mem_flatten.1 hu
  exact h u (List.mem_flatten.2 ⟨cs, hs cs h1, h2⟩)
theorem drop_os {tb : Tb} (hn : (names tb).Nodup) {k : Nat} {o : Ownr} (h : tb.os[k]? = some o) : (dropO tb o.x).os = tb.os.take k ++ tb.os.drop (k + 1) := by
  have hlt := (List.getElem?_eq_some_iff.1 h).1
  have e : tb.os = tb.os.take k ++ o :: tb.os.drop (k + 1) := by
    conv => lhs; rw [← List.take_append_drop k tb.os, List.drop_eq_getElem_cons hlt]
    rw [List.getElem?_eq_getElem hlt] at h
    injection h with h
    rw [h]
  have hk : ∀ i p, tb.os[i]? = some p → i ≠ k → p.x ≠ o.x := fun i p hi hik e => hik (by
    have h1 := names_get h
    have h2 := names_get hi
    exact (List.getElem?_inj (List.getElem?_eq_some_iff.1 h2).1 hn).1 (by rw [h1, h2, e]))
  show tb.os.filter _ = _
  conv => lhs; rw [e]
  rw [List.filter_append, List.filter_cons_of_neg (by simp), List.filter_eq_self.2, List.filter_eq_self.2]
  · intro p hp
    obtain ⟨i, hi⟩ := List.getElem?_of_mem hp
    rw [List.getElem?_drop] at hi
    simpa using hk _ p hi (by omega)
  · intro p hp
    obtain ⟨i, hi⟩ := List.getElem?_of_mem hp
    have hil : i < k := by
      have := (List.getElem?_eq_some_iff.1 hi).1
      rw [List.length_take] at this; omega
    rw [List.getElem?_take_of_lt hil] at hi
    simpa using hk i p hi (by omega)
theorem leave_id {tb : Tb} (hw : Wf tb) {x : Tx} (hx : x ∉ names tb) : leaveT tb x = tb := by
  have h1 := leave_none hx
  have h2 : (leaveT tb x).qu = tb.qu := List.filter_eq_self.2 fun y hy => by
    have : y ≠ x := fun e => hx (e ▸ hw.sub y hy)
    simpa using this
  cases tb with
  | mk os qu =>
    cases hl : leaveT ⟨os, qu⟩ x with
    | mk os' qu' =>
      rw [hl] at h1 h2
      dsimp only at h1 h2
      rw [h1, h2]
/-- What Release of the document hands back. -/
def RetGo (w0 : World) (S : BS) (w : World) (r : Tb × List Tx) (v : Value) (w' : World) : Prop := ∃ P cp css' A' c' B' d', v = .tuple #[.agg (tvV A' r.1.os.length c' B' r.1.qu.length d').toArray, .slice P r.2.length cp] ∧ r.1.os.length ≤ c' ∧ St S w w' [.rg 2 30 P cp (txEls r.2), .ck (roK w0 css' A' r.1.os), .ck (rqK B' r.1.qu)]
theorem go_len {tb : Tb} (hw : Wf tb) : (goT tb).1.os.length = tb.os.length := by rw [← names_len, (goT_wf hw).2.1, names_len]
set_option maxRecDepth 8000 in
set_option maxHeartbeats 1000000 in
theorem rrel_any {w0 w : World} {S : BS} {css : List (List Value)} {A B : Option Addr} {n c m d : Nat} {tb : Tb} {x : Tx} (h0 : Sat w [.ck (roK w0 css A tb.os), .ck (rqK B tb.qu)] S) (hM : ∀ w', Mod S w w' → Below w0.heap.size w0 w') (hn : tb.os.length = n) (hm : tb.qu.length = m) (hc : n ≤ c) (hw : Wf tb) (hz : Sz tb) :
    CallsV Try.prog 33 #[.agg (tvV A n c B m d).toArray, .agg (txV x).toArray] w (RetGo w0 S w (relT tb x)) := by
  subst hn hm
  have hs := St.start h0
  have hqu := hz.qu hw
  have hos := hz.os
  refine calls_in (N := _) Try.func33 rfl Try.ntmps33 rfl ?_; show WC _ _ _ _ _ _
  refine wc_sr ?_
  refine ws_box (cs := tvV A tb.os.length c B tb.qu.length d) hs rfl rfl ?_; clear hs; intro g2 _ hs
  skip
  refine ws_box (cs := txV x) hs rfl rfl ?_; clear hs; intro g3 _ hs
  refine ws_new hs zeroWT rfl ?_; clear hs; intro g4 _ hs
  unfold zWT at hs
  refine wl_as rfl rfl ?_; refine wl_ns ?_; refine wc_sr ?_; apply wl_val; apply opv_loadX; exact rfl; exact hs.ar 2 rfl; exact sWT; exact rfl; apply wl_val; apply opv_loadX; exact rfl; exact hs.ar 1 rfl; exact sTx; exact rfl
  obtain ⟨S2, hS2, _, _, hH, hB⟩ := St.lend (H1 := [.ck (roK w0 css A tb.os)]) (H2 := [_, _, _, _]) (hs.front 3 rfl)
  refine wl_call ok_caissonref16_leave (rleave_any (x := x) hS2 (fun w' hm => by
    obtain ⟨_, _, _, _, _, _, _, _, _, T4, _, h4, _⟩ := hH w' hm
    exact RdR.all h4) rfl rfl hc hw.nd hos hqu) ⟨rfl, rfl, trivial⟩ rfl ?_
  rintro _ w3 ⟨css2, A2, c2, C, d2, rfl, hc2, hsx⟩
  replace hs := (hB _ _ hsx).drop 5 rfl
  clear hB hsx hS2 hH
  dsimp only [List.cons_append, List.nil_append, delC] at hs
  have hll := leave_len tb x
  have hwl := hw.leave x
  have hzl := hz.leave x
  have hnl := names_leave tb x
  have hquL := hzl.qu hwl
  have hrel : relT tb x = if x ∈ names tb then goT (dropO (leaveT tb x) x) else goT (leaveT tb x) := by
    unfold relT
    by_cases h : x ∈ names tb
    · rw [if_pos h, if_pos h]
    · rw [if_neg h, if_neg h, leave_id hw h]
  rw [hrel]
  have hwd := hw.drop x
  have hzd := hzl.drop x
  obtain ⟨tl, htl⟩ : ∃ q, leaveT tb x = q := ⟨_, rfl⟩
  rw [htl] at hs hll hwl hzl hnl hquL hwd hzd
  rw [htl]
  rw [← hnl]
  rw [← hll] at hc2
  rw [← hll]
  clear hrel htl hnl
  apply ws_stS hs 4; exact rfl; exact rfl; exact rfl; exact sWT; exact rfl; exact rfl; clear hs; intro _ hs; dsimp only [setC] at hs; refine wl_ns ?_; refine wc_sr ?_; apply wl_val; apply opv_loadX; exact rfl; exact hs.ar 4 rfl; exact sWT; exact rfl; apply wl_val; apply opv_loadX; exact rfl; exact hs.ar 3 rfl; exact sTx; exact rfl
  refine wl_call ok_caissonref16_find (rfind_any (x := x) (tb := tl) ((hs.ro 0 rfl).rf (hs.rq 1 rfl)) rfl (by have := hzl.os; omega)) ⟨rfl, rfl, trivial⟩ rfl ?_
  rintro _ w4 ⟨rfl, hbx⟩
  replace hs := hs.below hbx
  clear hbx
  refine wl_as rfl rfl (wl_nil (we_seq ?_))
  refine wc_cut (fun L' w' => ∃ (tk : Tb) (css3 : List (List Value)) (A3 : Option Addr) (c3 : Nat), L' = [(2, .pointer (some ⟨g2, 0, none⟩)), (4, .pointer (some ⟨g4, 0, none⟩))] ∧ tk.os.length ≤ c3 ∧ Wf tk ∧ Sz tk ∧ (if x ∈ names tl then goT (dropO tl x) else goT tl) = goT tk ∧ St S w w' [.ck (roK w0 css3 A3 tk.os), .ck (rqK C tk.qu), .blk g4 67 [.slice none 0 0, .slice none 0 0], .blk g3 30 (txV x), .blk g2 67 [.slice A3 tk.os.length c3, .slice C tk.qu.length d2]]) ?_ ?_
  · by_cases hx : x ∈ names tl
    · obtain ⟨k, o, hk, ho, hox, _, hlt⟩ := own_pl hwl.nd hx
      subst hox
      have hdo := drop_os hwl.nd ho
      have hosl := hzl.os
      have hro := hs.ro 0 rfl
      have hcl := hro.len
      have hone := hro.one
      have hkk : ((k + 1 : Nat) : Int) = (k : Int) + 1 := by omega
      rw [hk]
      refine wc_sr ?_; refine wl_mv rfl rfl ?_; refine wl_bin rfl rfl bin_geq rfl ?_; refine wl_ns ?_; apply wc_condTb; exact rfl; exact rfl; refine wc_sr ?_
      refine ws_bsG0 (k := 4) hs (opv_bsG0 tkWO) rfl ?_
      clear hs hro; intro A4 w5 hs
      apply wl_val; apply opv_fa; exact fa_WT0; exact rfl; exact rfl; apply wl_val; apply opv_ldX; exact rfl; exact hs.ar 5 rfl; exact e1_wos; exact rfl; exact rfl; refine wl_mv rfl rfl ?_
      refine wl_slK (l := 0) (h := k) tkWO rfl rfl ⟨_, rfl⟩ (Nat.zero_le _) (by omega) rfl ?_
      rw [Nat.sub_zero, Nat.sub_zero]
      have r1 := rdr_cutRaw (l := 0) (h := k) (c := c2) (hs.ro 1 rfl).1 hcl (Nat.zero_le _) (by omega) hc2
      refine ws_appR (css := (css2.take k).drop 0) (m := k) hs 0 rfl rfl tkWO rfl rfl r1 (by simp; omega) (cells_sub hone fun cs h => List.mem_of_mem_take (List.mem_of_mem_drop h)) (by omega) (by simp only [maxLen]; omega) rfl ?_
      clear hs r1; intro A5 c5 w6 hs; dsimp only [setC, List.nil_append] at hs
      rw [Nat.zero_add]
      refine wl_as rfl rfl ?_; refine wl_ns ?_; refine wc_region ?_; refine wl_mv rfl rfl ?_; apply wl_val; apply opv_fa; exact fa_WT0; exact rfl; exact rfl; apply wl_val; apply opv_ldX; exact rfl; exact hs.ar 5 rfl; exact e1_wos; exact rfl; exact rfl; refine wl_mv rfl rfl ?_; apply wl_val; apply opv_bin; exact rfl; exact rfl; exact bin_add64 (by omega); exact rfl
      rw [← hkk]
      refine wl_slK (l := k + 1) (h := tl.os.length) tkWO rfl ⟨_, rfl⟩ rfl (by omega) hc2 rfl ?_
      have r1 := rdr_cutRaw (l := k + 1) (h := tl.os.length) (c := c2) (hs.ro 1 rfl).1 hcl (by omega) (Nat.le_refl _) hc2
      refine ws_appR (css := (css2.take tl.os.length).drop (k + 1)) (m := tl.os.length - (k + 1)) hs 0 rfl rfl tkWO (by simp; omega) rfl r1 (by simp; omega) (cells_sub hone fun cs h => List.mem_of_mem_take (List.mem_of_mem_drop h)) (by omega) (by simp only [maxLen]; omega) rfl ?_
      clear hs r1; intro A6 c6 w7 hs; dsimp only [setC] at hs
      have hc6 := OwR.len_le (hs.rg 0 rfl)
      rw [List.drop_zero, List.take_of_length_le (show css2.length ≤ tl.os.length by omega)] at hs hc6
      rw [← List.map_append] at hs hc6
      have hdl : (dropO tl o.x).os.length = k + (tl.os.length - (k + 1)) := by rw [hdo]; simp; omega
      rw [List.length_map, List.length_append, List.length_take, List.length_drop, hcl] at hc6
      rw [← hdl]
      apply wl_val; apply opv_fa; exact fa_WT0; exact rfl; exact rfl; apply ws_st hs 5; exact rfl; exact rfl; exact e1_wos; exact rfl; exact rfl; exact rfl; clear hs; intro _ hs; dsimp only [setC, List.set] at hs; refine wl_nil ?_
      have hs2 := St.pack (H1 := [_, _]) hs (.ck (roK w0 (css2.take k ++ css2.drop (k + 1)) A6 (dropO tl o.x).os)) fun w S ⟨T1, hT1, h1, T2, hT2, h2, _⟩ => by
        refine ⟨RdR.mono (by decide) (rg_rdS h1) fun b _ h => hT1 b h, ?_⟩
        rw [hdo, List.map_append, List.map_take, List.map_drop]
        have h3 : Grp 4 w S (tl.os.map (ownO' w0)) css2 := Grp.mono h2.2 fun b _ h => (hT2 b h).1
        exact (h3.take k).append (h3.drop (k + 1))
      exact we_cut _ ⟨dropO tl o.x, _, A6, c6, rfl, by rw [hdl]; omega, hwd, hzd, if_pos hx, hs2⟩ ⟨rfl, rfl, trivial⟩
    · rw [plN_none hx]
      refine wc_sr ?_; refine wl_mv rfl rfl ?_; refine wl_bin rfl rfl bin_geq rfl ?_; refine wl_ns ?_; apply wc_condFb; exact rfl; exact rfl; refine wc_skip ?_
      exact we_cut _ ⟨tl, css2, A2, c2, rfl, hc2, hwl, hzl, if_neg hx, hs⟩ ⟨rfl, rfl, trivial⟩
  clear hs
  rintro _ w8 ⟨tk, css3, A3, c3, rfl, hc3, hwk, hzk, hgk, hs⟩
  rw [hgk]
  have hgl := go_len hwk
  refine wc_sr ?_; apply wl_val; apply opv_loadX; exact rfl; exact hs.ar 4 rfl; exact sWT; exact rfl
  obtain ⟨S2, hS2, _, hM2, hH, hB⟩ := St.lend (H1 := [.ck (roK w0 css3 A3 tk.os), .ck (rqK C tk.qu)]) (H2 := [_, _, _]) hs
  refine wl_call ok_caissonref16_Go (rgo_any hS2 (fun w' hm => hM _ (hM2 w' hm)) rfl rfl hc3 hwk hzk) ⟨rfl, trivial⟩ rfl ?_
  rintro _ w9 ⟨P, cp, css4, A4, c4, B4, d4, rfl, hc4, hsx⟩
  replace hs := hB _ _ hsx
  clear hB hsx hS2 hH
  dsimp only [List.cons_append, List.nil_append] at hs
  rw [← hgl] at hc4
  rw [← hgl]
  apply wl_val; apply opv_extract; exact rfl; exact rfl; exact rfl; apply wl_val; apply opv_extract; exact rfl; exact rfl; exact rfl; apply ws_stS hs 3; exact rfl; exact rfl; exact rfl; exact sWT; exact rfl; exact rfl; clear hs; intro _ hs; dsimp only [setC] at hs; refine wl_as rfl rfl ?_; refine wl_ns ?_; refine wc_ret ?_
  exact we_retC1 rfl rfl rfl (hs.ar 3 rfl) sWT ⟨_, rfl, P, cp, css4, A4, c4, B4, d4, rfl, hc4, ((hs.drop 3 rfl).drop 3 rfl).drop 3 rfl⟩
end Go.Proofs.Ytmdbjeabifkimaa
