/-
  The texts of this proof, joined: Dw, Dx, Dy, Dz.
-/
import Derived.Test.YtmdbjeabifkimaaCalM7

/-
  Walk over Ask of the document's lock tables.
-/
namespace Go.Proofs.Ytmdbjeabifkimaa
open Go.RowKit

theorem we_retC4 {P : Program} {N : Nat} {L : FL} {w : World} {t : TypeId} {g : Nat} {cs : List Value} {fn : Func} {R : Ending → World → Prop} {p q1 q2 q3 q4 : Nat} {T : TypeId} {v1 v2 v3 v4 : Value} (hr : fn.results = #[.cell p t, .tmp q1, .tmp q2, .tmp q3, .tmp q4]) (hx : lookT L p = some (.pointer (some ⟨g, 0, none⟩))) (h1 : lookT L q1 = some v1) (h2 : lookT L q2 = some v2) (h3 : lookT L q3 = some v3) (h4 : lookT L q4 = some v4) (ha : Ar w g T cs) (S : StT P t cs.length)
    (h : R (.returned (.tuple #[.agg cs.toArray, v1, v2, v3, v4])) w) : WE N (bodyPost P fn R) .ret L w := fun a hA =>
  ⟨hA.nodefer, _, by
    obtain ⟨fs, hu⟩ := S.get
    have := run_loadVar_row (P := P) w g T t cs.toArray (0, 0) _ ha hu rfl (by simpa using S.size)
    have e := hA.get p _ hx
    have e1 := hA.get q1 _ h1
    have e2 := hA.get q2 _ h2
    have e3 := hA.get q3 _ h3
    have e4 := hA.get q4 _ h4
    rw [Array.getD_eq_getD_getElem?] at e e1 e2 e3 e4
    simp [results, hr, e, e1, e2, e3, e4, asAddr, this], h⟩
/-- What Ask of the document hands back. -/
def RetAskW (w0 : World) (S : BS) (w : World) (r : AskR) (v : Value) (w' : World) : Prop := ∃ P cp Q cq css' A' c' B' d', v = .tuple #[.agg (tvV A' r.t.os.length c' B' r.t.qu.length d').toArray, .int .i64 (r.st : Int), .slice P r.vi.length cp, .slice Q r.gr.length cq, .int .i64 (r.e : Int)] ∧ r.t.os.length ≤ c' ∧ St S w w' [.rg 2 30 P cp (txEls r.vi), .rg 2 30 Q cq (txEls r.gr), .ck (roK w0 css' A' r.t.os), .ck (rqK B' r.t.qu)]
/-- An owner more. -/
theorem ro_push {w0 w : World} {S : BS} {css : List (List Value)} {A A' X Y : Option Addr} {os : List Ownr} {o : Ownr} {c xc yc : Nat} {e : TypeId} (hX : o.held = []) (hY : o.asks = []) (hXn : X = none) (hYn : Y = none)
    (h : Sat w [.rg 4 e A' c ((css ++ [owV o X xc Y yc]).map rawEl), .ck (roK w0 css A os)] S) : RoT w0 w S (css ++ [owV o X xc Y yc]) A' (os ++ [o]) := by
  obtain ⟨T1, hT1, h1, T2, hT2, h2, _⟩ := h
  refine ⟨RdR.mono (by decide) (rg_rdS h1) fun b _ h => hT1 b h, ?_⟩
  rw [List.map_append]
  subst hXn hYn
  have hg : Grp 4 w S [ownO' w0 o] [owV o none xc none yc] := Grp.one ⟨none, xc, none, yc, rfl, by rw [hX]; exact RwO.nil, by rw [hY]; exact RwO.nil⟩ rfl
  exact (Grp.mono h2.2 fun b _ h => (hT2 b h).1).append hg
theorem roo_asks {w0 w : World} {S : BS} {css : List (List Value)} {A X Y R : Option Addr} {os : List Ownr} {o : Ownr} {l : List Rg} {k xc yc lc : Nat} (ho : os[k]? = some o) (hcs : css[k]? = some (owV o X xc Y yc)) (hl : RdR 3 w0 All R (l.map rgEl)) (h : RoT w0 w S css A os) :
    (rooK w0 css A os ⟨o.x, o.held, l⟩ (owV ⟨o.x, o.held, l⟩ X xc R lc)).P w S := ⟨h, X, xc, R, lc, rfl, (h.row ho hcs).1, .old hl⟩
theorem askQ_set {tb : Tb} (hn : (names tb).Nodup) (x : Tx) (l : List Rg) {k : Nat} {o : Ownr} (hw : (names (addO tb x)).Nodup) (h : (addO tb x).os[k]? = some o) (hx : o.x = x) : (askQ tb x l).os = (addO tb x).os.set k ⟨o.x, o.held, l⟩ := by
  subst hx
  exact set_map hw (fun p => ⟨p.x, p.held, l⟩) h
theorem circ_none {tb : Tb} (h : victim tb = none) : circI tb = -1 := by rw [circI, h]
theorem circ_some {tb : Tb} {v : Tx} (h : victim tb = some v) : circI tb = plN (names tb) v := by rw [circI, h]
theorem tx_ones (l : List Tx) : ∀ u ∈ (l.map txV).flatten, u.oneCell' = true := by
  intro u hu
  obtain ⟨cs, h1, h2⟩ := List.mem_flatten.1 hu
  obtain ⟨x, _, rfl⟩ := List.mem_map.1 h1
  simp only [txV, List.mem_cons, List.not_mem_nil, or_false] at h2
  rcases h2 with rfl | rfl <;> rfl
set_option maxRecDepth 8000 in
set_option maxHeartbeats 4000000 in
theorem rask_any {w0 w : World} {S : BS} {css : List (List Value)} {A B R : Option Addr} {n c m d ln lc : Nat} {tb : Tb} {x : Tx} {l : List Rg} (h0 : Sat w [.ck (roK w0 css A tb.os), .ck (rqK B tb.qu)] S) (hM : ∀ w', Mod S w w' → Below w0.heap.size w0 w') (hn : tb.os.length = n) (hm : tb.qu.length = m) (hc : n ≤ c) (hw : Wf tb)
    (hl0 : RdR 3 w0 All R (l.map rgEl)) (hln : l.length = ln) (hll : l.length ≤ 4294967296) (hos : tb.os.length + 1 ≤ 1048576) (hh : ∀ o ∈ tb.os, o.held.length + o.asks.length + 64 ≤ 1048576) :
    CallsV Try.prog 32 #[.agg (tvV A n c B m d).toArray, .agg (txV x).toArray, .slice R ln lc] w (RetAskW w0 S w (askT tb x l)) := by
  subst hn hm hln
  have hs := St.start h0
  have hz : Sz tb := ⟨by omega, fun o ho => by have := hh o ho; omega⟩
  have hqu := hz.qu hw
  refine calls_in (N := _) Try.func32 rfl Try.ntmps32 rfl ?_; show WC _ _ _ _ _ _
  refine wc_sr ?_
  refine ws_box (cs := tvV A tb.os.length c B tb.qu.length d) hs rfl rfl ?_; clear hs; intro g3 _ hs
  skip
  refine ws_box (cs := txV x) hs rfl rfl ?_; clear hs; intro g4 _ hs
  skip
  refine ws_new hs zeroWT rfl ?_; clear hs; intro g6 _ hs
  unfold zWT at hs
  refine wl_as rfl rfl ?_; refine wl_as rfl rfl ?_; refine wl_as rfl rfl ?_; refine wl_as rfl rfl ?_; refine wl_ns ?_; refine wc_sr ?_; refine wl_mv rfl rfl ?_
  refine wl_call ok_caissonref16_Check (refCheckR_any (hl0.below (hM _ hs.1)) rfl hll) ⟨rfl, trivial⟩ rfl ?_
  rintro _ w1 ⟨rfl, hbx⟩
  replace hs := hs.below hbx
  clear hbx
  by_cases hck : checkR l = 0
  case neg =>
    have hck' : ¬ ((checkR l : Nat) : Int) = 0 := by omega
    have ha : askT tb x l = ⟨tb, 0, [], [], checkR l⟩ := by rw [askT, if_pos hck]
    rw [ha]
    refine wl_as rfl rfl ?_; refine wl_ns ?_; refine wc_seq ?_; refine wc_sr ?_; refine wl_mv rfl rfl ?_; refine wl_bin rfl rfl bin_eql rfl ?_; refine wl_mv rfl rfl ?_; apply wl_skip; exact rfl; exact rfl; exact rfl; refine bFn ?_; (with_reducible assumption); exact rfl; apply wl_skip; exact rfl; exact rfl; exact rfl; refine bFn ?_; (with_reducible assumption); exact rfl; apply wl_skip; exact rfl; exact rfl; exact rfl; refine bFn ?_; (with_reducible assumption); exact rfl; apply wl_skip; exact rfl; exact rfl; exact rfl; refine bFn ?_; (with_reducible assumption); exact rfl; apply wl_val; apply opv_pickF; exact rfl; refine bF ?_; (with_reducible assumption); exact rfl; exact rfl; refine wl_ns ?_; apply wc_condFb; exact rfl; exact rfl; refine wc_skip ?_; refine we_seq ?_; refine wc_seq ?_; refine wc_sr ?_; refine wl_mv rfl rfl ?_; refine wl_bin rfl rfl bin_neq rfl ?_; refine wl_ns ?_; apply wc_decT; exact rfl; (with_reducible assumption); refine wc_sr ?_; apply wl_val; apply opv_loadX; exact rfl; exact hs.ar 2 rfl; exact sWT; exact rfl; refine wl_mv rfl rfl ?_; apply ws_stS hs 0; exact rfl; exact rfl; exact rfl; exact sWT; exact rfl; exact rfl; clear hs; intro _ hs; dsimp only [setC] at hs; refine wl_as rfl rfl ?_; refine wl_as rfl rfl ?_; refine wl_as rfl rfl ?_; refine wl_as rfl rfl ?_; refine wl_ns ?_; refine wc_ret ?_; refine we_seq_ret ?_
    exact we_retC4 rfl rfl rfl rfl rfl rfl (hs.ar 0 rfl) sWT ⟨_, rfl, none, 0, none, 0, css, A, c, B, d, rfl, hc, ((((hs.drop 0 rfl).drop 0 rfl).drop 0 rfl).nilG _ _).nilG _ _⟩
  have h64 := (checkR_ok hck).1
  have hck0 : ((checkR l : Nat) : Int) = 0 := by omega
  refine wl_as rfl rfl ?_; refine wl_ns ?_; refine wc_seq ?_; refine wc_sr ?_; refine wl_mv rfl rfl ?_; refine wl_bin rfl rfl bin_eql rfl ?_; refine wl_mv rfl rfl ?_; apply wl_take; exact rfl; exact rfl; exact rfl; refine bT ?_; (with_reducible assumption); apply wl_val; apply opv_loadX; exact rfl; exact hs.ar 2 rfl; exact sWT; exact rfl; apply wl_take; exact rfl; exact rfl; exact rfl; refine bT ?_; (with_reducible assumption); apply wl_val; apply opv_loadX; exact rfl; exact hs.ar 1 rfl; exact sTx; exact rfl; apply wl_take; exact rfl; exact rfl; exact rfl; refine bT ?_; (with_reducible assumption)
  refine wl_call ok_caissonref16_place (rplace_any (x := x) ((hs.ro 3 rfl).rf (hs.rq 4 rfl)) rfl (show tb.qu.length ≤ 4294967296 by omega)) ⟨rfl, rfl, trivial⟩ rfl ?_
  rintro _ w2 ⟨rfl, hbx⟩
  replace hs := hs.below hbx
  clear hbx
  rw [show plN (Tb.mk tb.os tb.qu).qu x = plN tb.qu x from rfl]
  by_cases hxq : x ∈ tb.qu
  · obtain ⟨j, hj, _, _⟩ := plN_some hxq
    have ha : askT tb x l = ⟨tb, 0, [], [], 7⟩ := by rw [askT, if_neg (by omega), if_pos hxq]
    rw [ha, hj]
    apply wl_take; exact rfl; exact rfl; exact rfl; refine bT ?_; (with_reducible assumption); refine wl_bin rfl rfl bin_geq rfl ?_; apply wl_val; apply opv_pickT; exact rfl; refine bT ?_; (with_reducible assumption); exact rfl; exact rfl; refine wl_ns ?_; apply wc_condTb; exact rfl; exact rfl; refine wc_region ?_; refine wl_as rfl rfl ?_; refine wl_ns ?_; refine wc_seq ?_; refine wc_sr ?_; refine wl_mv rfl rfl ?_; refine wl_bin rfl rfl bin_neq rfl ?_; refine wl_ns ?_; apply wc_condTb; exact rfl; exact rfl; refine wc_sr ?_; apply wl_val; apply opv_loadX; exact rfl; exact hs.ar 2 rfl; exact sWT; exact rfl; refine wl_mv rfl rfl ?_; apply ws_stS hs 0; exact rfl; exact rfl; exact rfl; exact sWT; exact rfl; exact rfl; clear hs; intro _ hs; dsimp only [setC] at hs; refine wl_as rfl rfl ?_; refine wl_as rfl rfl ?_; refine wl_as rfl rfl ?_; refine wl_as rfl rfl ?_; refine wl_ns ?_; refine wc_ret ?_; refine we_seq_ret ?_
    exact we_retC4 rfl rfl rfl rfl rfl rfl (hs.ar 0 rfl) sWT ⟨_, rfl, none, 0, none, 0, css, A, c, B, d, rfl, hc, ((((hs.drop 0 rfl).drop 0 rfl).drop 0 rfl).nilG _ _).nilG _ _⟩
  rw [plN_none hxq]
  apply wl_take; exact rfl; exact rfl; exact rfl; refine bT ?_; (with_reducible assumption); refine wl_bin rfl rfl bin_geq rfl ?_; apply wl_val; apply opv_pickT; exact rfl; refine bT ?_; (with_reducible assumption); exact rfl; exact rfl; refine wl_ns ?_; apply wc_condFb; exact rfl; exact rfl; refine wc_skip ?_; refine we_seq ?_; refine wc_seq ?_; refine wc_sr ?_; refine wl_mv rfl rfl ?_; refine wl_bin rfl rfl bin_neq rfl ?_; refine wl_ns ?_; apply wc_decF; exact rfl; omega; refine wc_skip ?_; refine we_seq ?_; refine wc_seq ?_; refine wc_sr ?_; apply wl_val; apply opv_loadX; exact rfl; exact hs.ar 2 rfl; exact sWT; exact rfl; apply wl_val; apply opv_loadX; exact rfl; exact hs.ar 1 rfl; exact sTx; exact rfl
  refine wl_call ok_caissonref16_find (rfind_any (x := x) ((hs.ro 3 rfl).rf (hs.rq 4 rfl)) rfl (show tb.os.length ≤ 4294967296 by omega)) ⟨rfl, rfl, trivial⟩ rfl ?_
  rintro _ w3 ⟨rfl, hbx⟩
  replace hs := hs.below hbx
  clear hbx
  rw [show plN (names (Tb.mk tb.os tb.qu)) x = plN (names tb) x from rfl]
  have hwA := hw.addO x
  have hwQ := hw.askQ hxq hck
  have hzQ := Sz.askQ (x := x) hw hos hh hxq hck
  refine wl_bin rfl rfl bin_lss rfl (wl_nil (we_seq ?_))
  refine wc_cutE (fun L' w' => ∃ (css1 : List (List Value)) (A1 : Option Addr) (c1 : Nat), L' = [(2, .slice R l.length lc), (3, .pointer (some ⟨g3, 0, none⟩)), (4, .pointer (some ⟨g4, 0, none⟩)), (6, .pointer (some ⟨g6, 0, none⟩))] ∧ (addO tb x).os.length ≤ c1 ∧ St S w w' [.ck (roK w0 css1 A1 (addO tb x).os), .blk g6 67 [.slice none 0 0, .slice none 0 0], .blk g4 30 (txV x), .blk g3 67 [.slice A1 (addO tb x).os.length c1, .slice B tb.qu.length d], .ck (rqK B tb.qu)]) ?_ ?_
  · by_cases hxn : x ∈ names tb
    · obtain ⟨j, hj, _, _⟩ := plN_some hxn
      have hos2 : (addO tb x) = tb := by rw [addO, if_pos hxn]
      rw [hj]
      apply wc_condFb; exact rfl; exact rfl; refine wc_skip ?_
      exact we_cut _ ⟨css, A, c, rfl, by rw [hos2]; exact hc, by rw [hos2]; exact hs.front 3 rfl⟩ ⟨rfl, rfl, rfl, rfl, trivial⟩
    · have hos2 : (addO tb x).os = tb.os ++ [⟨x, [], []⟩] := by rw [addO, if_neg hxn]
      have hol : (tb.os ++ [(Ownr.mk x [] [])]).length = tb.os.length + 1 := by simp
      have hcl := (hs.ro 3 rfl).len
      rw [plN_none hxn]
      apply wc_condTb; exact rfl; exact rfl
      refine wc_heldL (fun w' => St S w w' [.blk g6 67 [.slice none 0 0, .slice none 0 0], .blk g4 30 (txV x), .blk g3 67 [.slice A tb.os.length c, .slice B tb.qu.length d], .ck (roK w0 css A tb.os), .ck (rqK B tb.qu)]) 9 mixed ?_
      replace hs := hs.below (Below.refl _ _).drew
      apply wm_take 1; exact rfl; intro _ hw_; apply opv_fa; exact fa_WT0; exact rfl; exact rfl; kernel_rfl; exact hs; apply wm_take 2; exact rfl; intro _ hw_; apply opv_ldX; exact rfl; exact hw_.ar 2 rfl; exact e1_wos; exact rfl; exact rfl; kernel_rfl; exact hs; apply wm_take 4; exact rfl; intro _ hw_; apply opv_loadX; exact rfl; exact hw_.ar 1 rfl; exact sTx; exact rfl; kernel_rfl; exact hs
      refine wm_take 5 rfl (fun _ _ => opv_build (vs := [(0, .agg (txV x).toArray)]) (cs := owV ⟨x, [], []⟩ none 0 none 0) ⟨rfl, rfl, trivial⟩ (by kernel_rfl)) rfl (by kernel_rfl) hs ?_
      refine wm_two 0 6 (by kernel_rfl) rfl rfl ?_ ?_ <;> dsimp only [List.getElem_toArray, List.getElem_cons_succ, List.getElem_cons_zero]
      · refine ws_bsG0 (k := 4) hs (opv_bsG0 tkWO) rfl ?_
        clear hs; intro Ar0 wr0 hs
        refine wl_nil ?_
        refine we_heldM (fun _ => hs.drop 0 rfl) ?_
        refine wm_two 3 6 (by kernel_rfl) rfl rfl ?_ ?_ <;> dsimp only [List.getElem_toArray, List.getElem_cons_succ, List.getElem_cons_zero]
        · have hro := hs.ro 4 rfl
          refine ws_appR (css := css) (m := tb.os.length) hs 0 rfl rfl tkWO rfl rfl hro.1 hro.len hro.one (by omega) (by simp only [maxLen]; omega) rfl ?_
          clear hs hro; intro Ar1 cr1 wr1 hs; dsimp only [setC, List.nil_append] at hs
          rw [Nat.zero_add]
          refine wl_nil ?_
          refine we_heldM (fun _ => hs.drop 0 rfl) ?_
          refine wm_one 6 (by kernel_rfl) rfl ?_; dsimp only [List.getElem_toArray, List.getElem_cons_succ, List.getElem_cons_zero]
          refine wl_bsG (css := [owV ⟨x, [], []⟩ none 0 none 0]) tkWO ⟨rfl, ⟨_, rfl, rfl⟩, rfl, trivial⟩ (els := [owV ⟨x, [], []⟩ none 0 none 0].map rawEl) (S := NoB) rfl (by decide) (by decide) (grp_raw (by simp [owV])) rfl fun Br0 wr2 hR hbx _ => ?_
          replace hs := hs.newG hbx hR (Nat.le_refl _) fun _ _ h => h.elim
          clear hR hbx
          refine wl_nil ?_
          refine we_heldM (fun _ => (hs.drop 0 rfl).drop 0 rfl) ?_
          refine wm_one 7 (by kernel_rfl) rfl ?_; dsimp only [List.getElem_toArray, List.getElem_cons_succ, List.getElem_cons_zero]
          refine ws_appR (css := [owV ⟨x, [], []⟩ none 0 none 0]) (m := 1) hs 1 rfl rfl tkWO (by rw [List.length_map, hcl]) rfl (OwR.rd (hs.rg 0 rfl)) rfl (by simp [owV, Value.oneCell']) (by omega) (by simp only [maxLen]; omega) rfl ?_
          clear hs; intro Ar2 cr2 wr3 hs; dsimp only [setC] at hs
          rw [← List.map_append] at hs
          have hcr2 := OwR.len_le (hs.rg 1 rfl)
          rw [List.length_map, List.length_append, hcl] at hcr2
          refine wl_nil ?_
          have hS := (hs.drop 0 rfl).drop 0 rfl
          refine we_heldM (fun _ => hS) ?_
          apply wm_take 8; exact rfl; intro _ hw_; apply opv_fa; exact fa_WT0; exact rfl; exact rfl; kernel_rfl; exact hS
          clear hS
          refine wm_one 9 (by kernel_rfl) rfl ?_; dsimp only [List.getElem_toArray, List.getElem_cons_succ, List.getElem_cons_zero]
          apply ws_st hs 4; exact rfl; exact rfl; exact e1_wos; exact rfl; exact rfl; exact rfl; clear hs; intro _ hs; dsimp only [setC, List.set] at hs; refine wl_nil ?_
          refine we_heldM (fun h => absurd h (by decide)) ?_
          refine wm_done (by kernel_rfl) ?_
          replace hs := St.pack (H1 := [_, _]) (((hs.drop 0 rfl).front 4 rfl).front 1 rfl) (.ck (roK w0 (css ++ [owV ⟨x, [], []⟩ none 0 none 0]) Ar2 (tb.os ++ [(Ownr.mk x [] [])]))) fun w S h => ro_push (o := Ownr.mk x [] []) rfl rfl rfl rfl h
          dsimp only [delC] at hs
          exact we_cut _ ⟨_, Ar2, cr2, rfl, by rw [hos2, hol]; exact hcr2, by rw [hos2, hol]; exact hs⟩ ⟨rfl, rfl, rfl, rfl, trivial⟩
        · refine wl_bsG (css := [owV ⟨x, [], []⟩ none 0 none 0]) tkWO ⟨rfl, ⟨_, rfl, rfl⟩, rfl, trivial⟩ (els := [owV ⟨x, [], []⟩ none 0 none 0].map rawEl) (S := NoB) rfl (by decide) (by decide) (grp_raw (by simp [owV])) rfl fun Br0 wr2 hR hbx _ => ?_
          replace hs := hs.newG hbx hR (Nat.le_refl _) fun _ _ h => h.elim
          clear hR hbx
          refine wl_nil ?_
          refine we_heldM (fun _ => (hs.drop 0 rfl).drop 0 rfl) ?_
          refine wm_one 3 (by kernel_rfl) rfl ?_; dsimp only [List.getElem_toArray, List.getElem_cons_succ, List.getElem_cons_zero]
          have hro := hs.ro 5 rfl
          refine ws_appR (css := css) (m := tb.os.length) hs 1 rfl rfl tkWO rfl rfl hro.1 hro.len hro.one (by omega) (by simp only [maxLen]; omega) rfl ?_
          clear hs hro; intro Ar1 cr1 wr1 hs; dsimp only [setC, List.nil_append] at hs
          rw [Nat.zero_add]
          refine wl_nil ?_
          refine we_heldM (fun _ => (hs.drop 0 rfl).drop 0 rfl) ?_
          refine wm_one 7 (by kernel_rfl) rfl ?_; dsimp only [List.getElem_toArray, List.getElem_cons_succ, List.getElem_cons_zero]
          refine ws_appR (css := [owV ⟨x, [], []⟩ none 0 none 0]) (m := 1) hs 1 rfl rfl tkWO (by rw [List.length_map, hcl]) rfl (OwR.rd (hs.rg 0 rfl)) rfl (by simp [owV, Value.oneCell']) (by omega) (by simp only [maxLen]; omega) rfl ?_
          clear hs; intro Ar2 cr2 wr3 hs; dsimp only [setC] at hs
          rw [← List.map_append] at hs
          have hcr2 := OwR.len_le (hs.rg 1 rfl)
          rw [List.length_map, List.length_append, hcl] at hcr2
          refine wl_nil ?_
          have hS := (hs.drop 0 rfl).drop 0 rfl
          refine we_heldM (fun _ => hS) ?_
          apply wm_take 8; exact rfl; intro _ hw_; apply opv_fa; exact fa_WT0; exact rfl; exact rfl; kernel_rfl; exact hS
          clear hS
          refine wm_one 9 (by kernel_rfl) rfl ?_; dsimp only [List.getElem_toArray, List.getElem_cons_succ, List.getElem_cons_zero]
          apply ws_st hs 4; exact rfl; exact rfl; exact e1_wos; exact rfl; exact rfl; exact rfl; clear hs; intro _ hs; dsimp only [setC, List.set] at hs; refine wl_nil ?_
          refine we_heldM (fun h => absurd h (by decide)) ?_
          refine wm_done (by kernel_rfl) ?_
          replace hs := St.pack (H1 := [_, _]) (((hs.drop 0 rfl).front 4 rfl).front 1 rfl) (.ck (roK w0 (css ++ [owV ⟨x, [], []⟩ none 0 none 0]) Ar2 (tb.os ++ [(Ownr.mk x [] [])]))) fun w S h => ro_push (o := Ownr.mk x [] []) rfl rfl rfl rfl h
          dsimp only [delC] at hs
          exact we_cut _ ⟨_, Ar2, cr2, rfl, by rw [hos2, hol]; exact hcr2, by rw [hos2, hol]; exact hs⟩ ⟨rfl, rfl, rfl, rfl, trivial⟩
      · refine wl_bsG (css := [owV ⟨x, [], []⟩ none 0 none 0]) tkWO ⟨rfl, ⟨_, rfl, rfl⟩, rfl, trivial⟩ (els := [owV ⟨x, [], []⟩ none 0 none 0].map rawEl) (S := NoB) rfl (by decide) (by decide) (grp_raw (by simp [owV])) rfl fun Br0 wr2 hR hbx _ => ?_
        replace hs := hs.newG hbx hR (Nat.le_refl _) fun _ _ h => h.elim
        clear hR hbx
        refine wl_nil ?_
        refine we_heldM (fun _ => hs.drop 0 rfl) ?_
        refine wm_one 0 (by kernel_rfl) rfl ?_; dsimp only [List.getElem_toArray, List.getElem_cons_succ, List.getElem_cons_zero]
        refine ws_bsG0 (k := 4) hs (opv_bsG0 tkWO) rfl ?_
        clear hs; intro Ar0 wr0 hs
        refine wl_nil ?_
        refine we_heldM (fun _ => (hs.drop 0 rfl).drop 0 rfl) ?_
        refine wm_one 3 (by kernel_rfl) rfl ?_; dsimp only [List.getElem_toArray, List.getElem_cons_succ, List.getElem_cons_zero]
        have hro := hs.ro 5 rfl
        refine ws_appR (css := css) (m := tb.os.length) hs 0 rfl rfl tkWO rfl rfl hro.1 hro.len hro.one (by omega) (by simp only [maxLen]; omega) rfl ?_
        clear hs hro; intro Ar1 cr1 wr1 hs; dsimp only [setC, List.nil_append] at hs
        rw [Nat.zero_add]
        refine wl_nil ?_
        refine we_heldM (fun _ => (hs.drop 0 rfl).drop 0 rfl) ?_
        refine wm_one 7 (by kernel_rfl) rfl ?_; dsimp only [List.getElem_toArray, List.getElem_cons_succ, List.getElem_cons_zero]
        refine ws_appR (css := [owV ⟨x, [], []⟩ none 0 none 0]) (m := 1) hs 0 rfl rfl tkWO (by rw [List.length_map, hcl]) rfl (OwR.rd (hs.rg 1 rfl)) rfl (by simp [owV, Value.oneCell']) (by omega) (by simp only [maxLen]; omega) rfl ?_
        clear hs; intro Ar2 cr2 wr3 hs; dsimp only [setC] at hs
        rw [← List.map_append] at hs
        have hcr2 := OwR.len_le (hs.rg 0 rfl)
        rw [List.length_map, List.length_append, hcl] at hcr2
        refine wl_nil ?_
        have hS := (hs.drop 0 rfl).drop 0 rfl
        refine we_heldM (fun _ => hS) ?_
        apply wm_take 8; exact rfl; intro _ hw_; apply opv_fa; exact fa_WT0; exact rfl; exact rfl; kernel_rfl; exact hS
        clear hS
        refine wm_one 9 (by kernel_rfl) rfl ?_; dsimp only [List.getElem_toArray, List.getElem_cons_succ, List.getElem_cons_zero]
        apply ws_st hs 4; exact rfl; exact rfl; exact e1_wos; exact rfl; exact rfl; exact rfl; clear hs; intro _ hs; dsimp only [setC, List.set] at hs; refine wl_nil ?_
        refine we_heldM (fun h => absurd h (by decide)) ?_
        refine wm_done (by kernel_rfl) ?_
        replace hs := St.pack (H1 := [_, _]) (((hs.drop 1 rfl).front 4 rfl).front 1 rfl) (.ck (roK w0 (css ++ [owV ⟨x, [], []⟩ none 0 none 0]) Ar2 (tb.os ++ [(Ownr.mk x [] [])]))) fun w S h => ro_push (o := Ownr.mk x [] []) rfl rfl rfl rfl h
        dsimp only [delC] at hs
        exact we_cut _ ⟨_, Ar2, cr2, rfl, by rw [hos2, hol]; exact hcr2, by rw [hos2, hol]; exact hs⟩ ⟨rfl, rfl, rfl, rfl, trivial⟩
  clear hs
  rintro _ w4 ⟨css1, A1, c1, rfl, hc1, hs⟩
  obtain ⟨kx, o, hkx, hok, hox, _, hlx⟩ := own_pl hwA.nd (addO_mem tb x)
  subst hox
  have hlA : (addO tb o.x).os.length ≤ tb.os.length + 1 := by
    rw [← names_len, names_addO]
    split
    · rw [names_len]; omega
    · rw [List.length_append, names_len]; simp
  have hosQ := askQ_set hw.nd o.x l hwA.nd hok rfl
  have hlQ : (askQ tb o.x l).os.length = (addO tb o.x).os.length := by rw [hosQ, List.length_set]
  have hquQ : (askQ tb o.x l).qu = tb.qu ++ [o.x] := rfl
  have hoQ : (askQ tb o.x l).os[kx]? = some ⟨o.x, o.held, l⟩ := by rw [hosQ, List.getElem?_set, if_pos rfl, if_pos hlx]
  refine we_seq ?_; refine wc_sr ?_; apply wl_val; apply opv_loadX; exact rfl; exact hs.ar 3 rfl; exact sWT; exact rfl; apply wl_val; apply opv_loadX; exact rfl; exact hs.ar 2 rfl; exact sTx; exact rfl
  refine wl_call ok_caissonref16_find (rfind_any (x := o.x) (tb := ⟨(addO tb o.x).os, tb.qu⟩) ((hs.ro 0 rfl).rf (hs.rq 4 rfl)) rfl (show (addO tb o.x).os.length ≤ 4294967296 by omega)) ⟨rfl, rfl, trivial⟩ rfl ?_
  rintro _ w5 ⟨rfl, hbx⟩
  replace hs := hs.below hbx
  clear hbx
  rw [show plN (names ⟨(addO tb o.x).os, tb.qu⟩) o.x = plN (names (addO tb o.x)) o.x from rfl, hkx]
  obtain ⟨bb, f, X, xc, Y, yc, hA, _, hcs, i2, _, _⟩ := (hs.ro 0 rfl).at hok
  subst hA
  refine wl_as rfl rfl ?_; refine wl_ns ?_; refine wc_sr ?_; apply wl_val; apply opv_fa; exact fa_WT0; exact rfl; exact rfl; apply wl_val; apply opv_ldX; exact rfl; exact hs.ar 3 rfl; exact e1_wos; exact rfl; exact rfl; refine wl_mv rfl rfl ?_; apply wl_val; apply opv_idxG tkWO; exact rfl; exact rfl; exact rfl; omega; exact rfl; apply wl_val; apply opv_ldG; exact rfl; assumption; exact sWO; exact rfl
  refine ws_var (cs := owV o X xc Y yc) hs zeroWO sWO rfl (fun _ => rfl) (by first | rfl | simp [Value.oneCell']) rfl ?_; clear hs; intro g13 _ hs
  clear i2
  unfold owV at hs
  refine wl_ns ?_; refine wc_sr ?_; refine wl_mv rfl rfl ?_; apply wl_val; apply opv_fa; exact fa_WO2; exact rfl; exact rfl; apply ws_st hs 0; exact rfl; exact rfl; exact e1_rgs; exact rfl; exact rfl; exact rfl; clear hs; intro _ hs; dsimp only [setC, List.set] at hs; refine wl_ns ?_; refine wc_sr ?_; apply wl_val; apply opv_loadX; exact rfl; exact hs.ar 4 rfl; exact sWT; exact rfl; refine wl_mv rfl rfl ?_; apply wl_val; apply opv_loadX; exact rfl; exact hs.ar 0 rfl; exact sWO; exact rfl
  obtain ⟨S2, hS2, _, _, hH, hB⟩ := St.lend (H1 := [.ck (rooK w0 css1 (some ⟨bb, f, none⟩) (addO tb o.x).os ⟨o.x, o.held, l⟩ (owV ⟨o.x, o.held, l⟩ X xc R lc))]) (H2 := [_, _, _, _, _]) (St.pack (H1 := [_]) (hs.front 1 rfl) _ fun w S ⟨T, hT, h, _⟩ => by
    have h : RoT w0 w T css1 (some ⟨bb, f, none⟩) (addO tb o.x).os := h
    exact roo_asks hok hcs hl0 (RoT.mono h fun b _ k => hT b k))
  refine wl_call ok_caissonref16_with (rwith_any hS2 rfl hlx (by omega)) ⟨rfl, rfl, rfl, trivial⟩ rfl ?_
  rintro _ w6 ⟨A3, c3, rfl, hc3, hsx⟩
  replace hs := hB _ _ hsx
  clear hB hsx hS2 hH
  dsimp only [List.cons_append, List.nil_append, delC] at hs
  rw [← hosQ] at hs
  rw [← hlQ] at hc3
  rw [← hlQ]
  have hcs3 : (css1.set kx (owV ⟨o.x, o.held, l⟩ X xc R lc))[kx]? = some (owV ⟨o.x, o.held, l⟩ X xc R lc) := by
    rw [List.getElem?_set, if_pos rfl, if_pos (List.getElem?_eq_some_iff.1 hcs).1]
  obtain ⟨css3, hcss3⟩ : ∃ q, css1.set kx (owV ⟨o.x, o.held, l⟩ X xc R lc) = q := ⟨_, rfl⟩
  rw [hcss3] at hs hcs3
  clear hcss3 hcs
  have hblk : blk (askQ tb o.x l) o.x = blockers (askQ tb o.x l) ⟨o.x, o.held, l⟩ := blk_of hwQ.nd (List.mem_of_getElem? hoQ)
  have hask : askT tb o.x l = if (blockers (askQ tb o.x l) ⟨o.x, o.held, l⟩).isEmpty then ⟨goOne (askQ tb o.x l) o.x, 1, [], [], 0⟩ else ⟨(goT (victs (tb.qu.length + 2) (askQ tb o.x l)).1).1, if o.x ∈ (goT (victs (tb.qu.length + 2) (askQ tb o.x l)).1).2 then 1 else if o.x ∈ (victs (tb.qu.length + 2) (askQ tb o.x l)).2 then 3 else 2, (victs (tb.qu.length + 2) (askQ tb o.x l)).2, (goT (victs (tb.qu.length + 2) (askQ tb o.x l)).1).2, 0⟩ := by
    rw [askT, if_neg (by omega), if_neg hxq, hblk]
  rw [hask]
  have hquq : (askQ tb o.x l).qu.length = tb.qu.length + 1 := by simp [askQ]
  obtain ⟨tQ, htQ⟩ : ∃ q, askQ tb o.x l = q := ⟨_, rfl⟩
  rw [htQ] at hs hwQ hzQ hlQ hquQ hoQ hquq hc3
  rw [htQ]
  clear hask hblk htQ hosQ hwA hok hkx
  have hquk := hzQ.qu hwQ
  have hosk := hzQ.os
  have hhk : ∀ o ∈ tQ.os, o.held.length ≤ 1048576 := fun o ho => by have := hzQ.held o ho; omega
  have hoQm := List.mem_of_getElem? hoQ
  have hxQ : o.x ∈ tQ.qu := by rw [hquQ]; simp
  have hqq : (tb.qu.map txV).map rawEl ++ [txV o.x].map rawEl = txEls tQ.qu := by rw [hquQ, txEls]; simp
  apply ws_stS hs 4; exact rfl; exact rfl; exact rfl; exact sWT; exact rfl; exact rfl; clear hs; intro _ hs; dsimp only [setC] at hs; refine wl_ns ?_; refine wc_seq ?_
  replace hs := (((hs.front 4 rfl).front 4 rfl).front 4 rfl).front 4 rfl
  dsimp only [delC] at hs
  refine wc_cutE (fun L' w' => ∃ (C : Option Addr) (dq : Nat), L' = [(2, .slice R l.length lc), (3, .pointer (some ⟨g3, 0, none⟩)), (4, .pointer (some ⟨g4, 0, none⟩)), (6, .pointer (some ⟨g6, 0, none⟩)), (12, .int .i64 (kx : Int)), (13, .pointer (some ⟨g13, 0, none⟩))] ∧ St S w w' [.ck (roK w0 css3 A3 tQ.os), .ck (rqK C tQ.qu), .blk g13 99 [.int .u64 (o.x.1 : Int), .int .u64 (o.x.2 : Int), .slice X o.held.length xc, .slice R l.length lc], .blk g6 67 [.slice none 0 0, .slice none 0 0], .blk g4 30 (txV o.x), .blk g3 67 [.slice A3 tQ.os.length c3, .slice C (tb.qu.length + 1) dq]]) ?_ ?_
  · refine wc_heldL (fun w' => St S w w' [.blk g13 99 [.int .u64 (o.x.1 : Int), .int .u64 (o.x.2 : Int), .slice X o.held.length xc, .slice R l.length lc], .blk g6 67 [.slice none 0 0, .slice none 0 0], .blk g4 30 (txV o.x), .blk g3 67 [.slice A3 tQ.os.length c3, .slice B tb.qu.length d], .ck (roK w0 css3 A3 tQ.os), .ck (rqK B tb.qu)]) 8 mixed ?_
    replace hs := hs.below (Below.refl _ _).drew
    apply wm_take 1; exact rfl; intro _ hw_; apply opv_fa; exact fa_WT1; exact rfl; exact rfl; kernel_rfl; exact hs; apply wm_take 2; exact rfl; intro _ hw_; apply opv_ldX; exact rfl; exact hw_.ar 3 rfl; exact e1_txs; exact rfl; exact rfl; kernel_rfl; exact hs; apply wm_take 4; exact rfl; intro _ hw_; apply opv_loadX; exact rfl; exact hw_.ar 2 rfl; exact sTx; exact rfl; kernel_rfl; exact hs
    refine wm_two 0 5 (by kernel_rfl) rfl rfl ?_ ?_ <;> dsimp only [List.getElem_toArray, List.getElem_cons_succ, List.getElem_cons_zero]
    · refine ws_bsG0 (k := 2) hs (opv_bsG0 tkTx) rfl ?_
      clear hs; intro Qr0 wq0 hs
      refine wl_nil ?_
      refine we_heldM (fun _ => hs.drop 0 rfl) ?_
      refine wm_two 3 5 (by kernel_rfl) rfl rfl ?_ ?_ <;> dsimp only [List.getElem_toArray, List.getElem_cons_succ, List.getElem_cons_zero]
      · have hrq := hs.rq 6 rfl
        rw [tx_raw] at hrq
        refine ws_appR (css := tb.qu.map txV) (m := tb.qu.length) hs 0 rfl rfl tkTx rfl rfl hrq (by simp) (tx_ones _) (by omega) (by simp only [maxLen]; omega) rfl ?_
        clear hs hrq; intro Qr1 cq1 wq1 hs; dsimp only [setC, List.nil_append] at hs
        rw [Nat.zero_add]
        refine wl_nil ?_
        refine we_heldM (fun _ => hs.drop 0 rfl) ?_
        refine wm_one 5 (by kernel_rfl) rfl ?_; dsimp only [List.getElem_toArray, List.getElem_cons_succ, List.getElem_cons_zero]
        refine wl_bsG (css := [txV o.x]) tkTx ⟨rfl, ⟨_, rfl, rfl⟩, rfl, trivial⟩ (els := [txV o.x].map rawEl) (S := NoB) rfl (by decide) (by decide) (grp_raw (by simp [txV])) rfl fun Br0 wq2 hR hbx _ => ?_
        replace hs := hs.newG hbx hR (Nat.le_refl _) fun _ _ h => h.elim
        clear hR hbx
        refine wl_nil ?_
        refine we_heldM (fun _ => (hs.drop 0 rfl).drop 0 rfl) ?_
        refine wm_one 6 (by kernel_rfl) rfl ?_; dsimp only [List.getElem_toArray, List.getElem_cons_succ, List.getElem_cons_zero]
        refine ws_appR (css := [txV o.x]) (m := 1) hs 1 rfl rfl tkTx (by simp) rfl (OwR.rd (hs.rg 0 rfl)) rfl (by simp [txV, Value.oneCell']) (by omega) (by simp only [maxLen]; omega) rfl ?_
        clear hs; intro Qr2 cq2 wq3 hs; dsimp only [setC] at hs
        rw [hqq] at hs
        refine wl_nil ?_
        have hS := (hs.drop 0 rfl).drop 0 rfl
        refine we_heldM (fun _ => hS) ?_
        apply wm_take 7; exact rfl; intro _ hw_; apply opv_fa; exact fa_WT1; exact rfl; exact rfl; kernel_rfl; exact hS
        clear hS
        refine wm_one 8 (by kernel_rfl) rfl ?_; dsimp only [List.getElem_toArray, List.getElem_cons_succ, List.getElem_cons_zero]
        apply ws_st hs 5; exact rfl; exact rfl; exact e1_txs; exact rfl; exact rfl; exact rfl; clear hs; intro _ hs; dsimp only [setC, List.set] at hs; refine wl_nil ?_
        refine we_heldM (fun h => absurd h (by decide)) ?_
        refine wm_done (by kernel_rfl) ?_
        replace hs := ((hs.drop 0 rfl).drop 6 rfl).toRq.front 5 rfl
        dsimp only [delC] at hs
        exact we_cut _ ⟨Qr2, cq2, rfl, hs⟩ ⟨rfl, rfl, rfl, rfl, rfl, rfl, trivial⟩
      · refine wl_bsG (css := [txV o.x]) tkTx ⟨rfl, ⟨_, rfl, rfl⟩, rfl, trivial⟩ (els := [txV o.x].map rawEl) (S := NoB) rfl (by decide) (by decide) (grp_raw (by simp [txV])) rfl fun Br0 wq2 hR hbx _ => ?_
        replace hs := hs.newG hbx hR (Nat.le_refl _) fun _ _ h => h.elim
        clear hR hbx
        refine wl_nil ?_
        refine we_heldM (fun _ => (hs.drop 0 rfl).drop 0 rfl) ?_
        refine wm_one 3 (by kernel_rfl) rfl ?_; dsimp only [List.getElem_toArray, List.getElem_cons_succ, List.getElem_cons_zero]
        have hrq := hs.rq 7 rfl
        rw [tx_raw] at hrq
        refine ws_appR (css := tb.qu.map txV) (m := tb.qu.length) hs 1 rfl rfl tkTx rfl rfl hrq (by simp) (tx_ones _) (by omega) (by simp only [maxLen]; omega) rfl ?_
        clear hs hrq; intro Qr1 cq1 wq1 hs; dsimp only [setC, List.nil_append] at hs
        rw [Nat.zero_add]
        refine wl_nil ?_
        refine we_heldM (fun _ => (hs.drop 0 rfl).drop 0 rfl) ?_
        refine wm_one 6 (by kernel_rfl) rfl ?_; dsimp only [List.getElem_toArray, List.getElem_cons_succ, List.getElem_cons_zero]
        refine ws_appR (css := [txV o.x]) (m := 1) hs 1 rfl rfl tkTx (by simp) rfl (OwR.rd (hs.rg 0 rfl)) rfl (by simp [txV, Value.oneCell']) (by omega) (by simp only [maxLen]; omega) rfl ?_
        clear hs; intro Qr2 cq2 wq3 hs; dsimp only [setC] at hs
        rw [hqq] at hs
        refine wl_nil ?_
        have hS := (hs.drop 0 rfl).drop 0 rfl
        refine we_heldM (fun _ => hS) ?_
        apply wm_take 7; exact rfl; intro _ hw_; apply opv_fa; exact fa_WT1; exact rfl; exact rfl; kernel_rfl; exact hS
        clear hS
        refine wm_one 8 (by kernel_rfl) rfl ?_; dsimp only [List.getElem_toArray, List.getElem_cons_succ, List.getElem_cons_zero]
        apply ws_st hs 5; exact rfl; exact rfl; exact e1_txs; exact rfl; exact rfl; exact rfl; clear hs; intro _ hs; dsimp only [setC, List.set] at hs; refine wl_nil ?_
        refine we_heldM (fun h => absurd h (by decide)) ?_
        refine wm_done (by kernel_rfl) ?_
        replace hs := ((hs.drop 0 rfl).drop 6 rfl).toRq.front 5 rfl
        dsimp only [delC] at hs
        exact we_cut _ ⟨Qr2, cq2, rfl, hs⟩ ⟨rfl, rfl, rfl, rfl, rfl, rfl, trivial⟩
    · refine wl_bsG (css := [txV o.x]) tkTx ⟨rfl, ⟨_, rfl, rfl⟩, rfl, trivial⟩ (els := [txV o.x].map rawEl) (S := NoB) rfl (by decide) (by decide) (grp_raw (by simp [txV])) rfl fun Br0 wq2 hR hbx _ => ?_
      replace hs := hs.newG hbx hR (Nat.le_refl _) fun _ _ h => h.elim
      clear hR hbx
      refine wl_nil ?_
      refine we_heldM (fun _ => hs.drop 0 rfl) ?_
      refine wm_one 0 (by kernel_rfl) rfl ?_; dsimp only [List.getElem_toArray, List.getElem_cons_succ, List.getElem_cons_zero]
      refine ws_bsG0 (k := 2) hs (opv_bsG0 tkTx) rfl ?_
      clear hs; intro Qr0 wq0 hs
      refine wl_nil ?_
      refine we_heldM (fun _ => (hs.drop 0 rfl).drop 0 rfl) ?_
      refine wm_one 3 (by kernel_rfl) rfl ?_; dsimp only [List.getElem_toArray, List.getElem_cons_succ, List.getElem_cons_zero]
      have hrq := hs.rq 7 rfl
      rw [tx_raw] at hrq
      refine ws_appR (css := tb.qu.map txV) (m := tb.qu.length) hs 0 rfl rfl tkTx rfl rfl hrq (by simp) (tx_ones _) (by omega) (by simp only [maxLen]; omega) rfl ?_
      clear hs hrq; intro Qr1 cq1 wq1 hs; dsimp only [setC, List.nil_append] at hs
      rw [Nat.zero_add]
      refine wl_nil ?_
      refine we_heldM (fun _ => (hs.drop 0 rfl).drop 0 rfl) ?_
      refine wm_one 6 (by kernel_rfl) rfl ?_; dsimp only [List.getElem_toArray, List.getElem_cons_succ, List.getElem_cons_zero]
      refine ws_appR (css := [txV o.x]) (m := 1) hs 0 rfl rfl tkTx (by simp) rfl (OwR.rd (hs.rg 1 rfl)) rfl (by simp [txV, Value.oneCell']) (by omega) (by simp only [maxLen]; omega) rfl ?_
      clear hs; intro Qr2 cq2 wq3 hs; dsimp only [setC] at hs
      rw [hqq] at hs
      refine wl_nil ?_
      have hS := (hs.drop 0 rfl).drop 0 rfl
      refine we_heldM (fun _ => hS) ?_
      apply wm_take 7; exact rfl; intro _ hw_; apply opv_fa; exact fa_WT1; exact rfl; exact rfl; kernel_rfl; exact hS
      clear hS
      refine wm_one 8 (by kernel_rfl) rfl ?_; dsimp only [List.getElem_toArray, List.getElem_cons_succ, List.getElem_cons_zero]
      apply ws_st hs 5; exact rfl; exact rfl; exact e1_txs; exact rfl; exact rfl; exact rfl; clear hs; intro _ hs; dsimp only [setC, List.set] at hs; refine wl_nil ?_
      refine we_heldM (fun h => absurd h (by decide)) ?_
      refine wm_done (by kernel_rfl) ?_
      replace hs := ((hs.drop 1 rfl).drop 6 rfl).toRq.front 5 rfl
      dsimp only [delC] at hs
      exact we_cut _ ⟨Qr2, cq2, rfl, hs⟩ ⟨rfl, rfl, rfl, rfl, rfl, rfl, trivial⟩
  clear hs
  rintro _ w7 ⟨C, dq, rfl, hs⟩
  rw [← hquq] at hs
  refine we_seq ?_; refine wc_seq ?_; refine wc_sr ?_; apply wl_val; apply opv_loadX; exact rfl; exact hs.ar 5 rfl; exact sWT; exact rfl; apply wl_val; apply opv_loadX; exact rfl; exact hs.ar 4 rfl; exact sTx; exact rfl
  refine wl_call ok_caissonref16_For (rfor_any (x := o.x) (tb := tQ) ((hs.ro 0 rfl).rf (hs.rq 1 rfl)) (hM _ hs.1) rfl rfl hwQ hosk hquk hhk) ⟨rfl, rfl, trivial⟩ rfl ?_
  rintro _ w8 ⟨Q, cq, rfl, hsx⟩
  replace hs := (hs.call hsx).drop 0 rfl
  clear hsx
  dsimp only [List.cons_append, List.nil_append, delC] at hs
  rw [for_of (o := ⟨o.x, o.held, l⟩) hwQ hoQm hxQ]
  have hbl : (bnames tQ ⟨o.x, o.held, l⟩).length = (blockers tQ ⟨o.x, o.held, l⟩).length := by rw [bnames, List.length_map]
  by_cases hz0 : (blockers tQ ⟨o.x, o.held, l⟩) = []
  · have h0' : ((bnames tQ ⟨o.x, o.held, l⟩).length : Int) = 0 := by rw [hbl, hz0]; rfl
    rw [hz0, if_pos (show ([] : List Ownr).isEmpty = true from rfl)]
    have hho := hzQ.held _ hoQm
    dsimp only at hho
    apply wl_val; apply opv_len; exact rfl; exact tkTx.sl; exact rfl; refine wl_bin rfl rfl bin_eql rfl ?_; refine wl_ns ?_; apply wc_decT; exact rfl; (with_reducible assumption); refine wc_sr ?_
    refine ws_bsG0 (k := 3) hs (opv_bsG0 tkR) rfl ?_
    clear hs; intro R0 w9 hs
    apply wl_val; apply opv_fa; exact fa_WO1; exact rfl; exact rfl; apply wl_val; apply opv_ldX; exact rfl; exact hs.ar 3 rfl; exact e1_rgs; exact rfl; exact rfl
    obtain ⟨c1, hg1, r1, l1, u1⟩ := ((hs.ro 1 rfl).row hoQ hcs3).1.raws (hM _ hs.1)
    refine ws_appR (css := c1) (m := o.held.length) hs 0 rfl rfl tkR rfl rfl r1 l1 u1 (by omega) (by simp only [maxLen]; omega) rfl ?_
    clear hs r1; intro R1 rc1 w10 hs; dsimp only [setC, List.nil_append] at hs
    rw [Nat.zero_add]
    refine wl_mv rfl rfl ?_
    obtain ⟨c2, hg2, r2⟩ := RdR.to_raw hl0
    have l2 : c2.length = l.length := by rw [hg2.1, List.length_map]
    refine ws_appR (css := c2) (m := l.length) hs 0 rfl rfl tkR (by rw [List.length_map, l1]) rfl (r2.all.below (hM _ hs.1)) l2 (rg_ones hg2) (by omega) (by simp only [maxLen]; omega) rfl ?_
    clear hs r2; intro R2 rc2 w11 hs; dsimp only [setC] at hs
    rw [← List.length_append]
    have hg3 := hg1.append hg2
    rw [← List.map_append] at hg3
    rw [← List.map_append] at hs
    apply wl_val; apply opv_fa; exact fa_WO1; exact rfl; exact rfl; apply ws_st hs 3; exact rfl; exact rfl; exact e1_rgs; exact rfl; exact rfl; exact rfl; clear hs; intro _ hs; dsimp only [setC, List.set] at hs; refine wl_ns ?_; refine wc_seq ?_
    refine wc_heldL (fun w' => Ar w' g3 67 [.slice A3 tQ.os.length c3, .slice C tQ.qu.length dq] ∧ Ar w' g13 99 [.int .u64 (o.x.1 : Int), .int .u64 (o.x.2 : Int), .slice R2 (o.held ++ l).length rc2, .slice R l.length lc] ∧ Ar w' g4 30 (txV o.x)) 6 mixed ?_
    replace hs := hs.below (Below.refl _ _).drew
    have hS := And.intro (hs.ar 6 rfl) (And.intro (hs.ar 3 rfl) (hs.ar 5 rfl))
    apply wm_take 0; exact rfl; intro _ hw_; apply opv_loadX; exact rfl; exact hw_.1; exact sWT; exact rfl; kernel_rfl; exact hS; apply wm_take 1; exact rfl; intro _ hw_; apply opv_move; exact rfl; exact rfl; kernel_rfl; exact hS; apply wm_take 2; exact rfl; intro _ hw_; apply opv_loadX; exact rfl; exact hw_.2.1; exact sWO; exact rfl; kernel_rfl; exact hS; apply wm_take 4; exact rfl; intro _ hw_; apply opv_loadX; exact rfl; exact hw_.2.2; exact sTx; exact rfl; kernel_rfl; exact hS
    clear hS
    have hkl := (List.getElem?_eq_some_iff.1 hoQ).1
    refine wm_one 3 (by kernel_rfl) rfl ?_; dsimp only [List.getElem_toArray, List.getElem_cons_succ, List.getElem_cons_zero]
    obtain ⟨S2, hS2, _, _, hH, hB⟩ := St.lend (H1 := [.ck (rooK w0 css3 A3 tQ.os ⟨o.x, o.held ++ l, l⟩ (owV ⟨o.x, o.held ++ l, l⟩ R2 rc2 R lc))]) (H2 := [_, _, _, _, _]) (St.pack (H1 := [_, _]) hs _ fun w S h => roo_new (o := ⟨o.x, o.held, l⟩) hoQ hcs3 hg3 h)
    refine wl_call ok_caissonref16_with (rwith_any hS2 rfl hkl hosk) ⟨rfl, rfl, rfl, trivial⟩ rfl ?_
    rintro _ w12 ⟨A4, c4, rfl, hc4, hsx⟩
    replace hs := hB _ _ hsx
    clear hB hsx hS2 hH
    dsimp only [List.cons_append, List.nil_append, delC] at hs
    rw [← grant_set hwQ.nd hoQ] at hs
    refine wl_nil ?_
    refine we_heldM (fun _ => And.intro (hs.ar 5 rfl) (And.intro (hs.ar 2 rfl) (hs.ar 4 rfl))) ?_
    refine wm_one 5 (by kernel_rfl) rfl ?_; dsimp only [List.getElem_toArray, List.getElem_cons_succ, List.getElem_cons_zero]
    obtain ⟨S2, hS2, _, _, hH, hB⟩ := St.lend (H1 := [.ck (roK w0 _ A4 (grantT tQ o.x).os)]) (H2 := [_, _, _, _, _]) hs
    have hgl : (grantT tQ o.x).os.length = tQ.os.length := by rw [← names_len, names_grant, names_len]
    have hgl2 : (goOne tQ o.x).os.length = tQ.os.length := by rw [← names_len, names_go, names_len]
    refine wl_call ok_caissonref16_leave (rleave_any (x := o.x) hS2 (fun w' hm => by
      obtain ⟨T1, _, h1, _⟩ := hH w' hm
      exact RdR.all h1) hgl rfl hc4 (by rw [names_grant]; exact hwQ.nd) (by rw [hgl]; exact hosk) hquk) ⟨rfl, rfl, trivial⟩ rfl ?_
    rintro _ w13 ⟨css5, A5, c5, C5, d5, rfl, hc5, hsx⟩
    replace hs := (hB _ _ hsx).drop 2 rfl
    clear hB hsx hS2 hH
    dsimp only [List.cons_append, List.nil_append, delC] at hs
    rw [show leaveT (grantT tQ o.x) o.x = goOne tQ o.x from rfl] at hs
    rw [show leaveT (grantT tQ o.x) o.x = goOne tQ o.x from rfl]
    rw [← hgl2] at hc5
    refine wl_nil ?_
    refine we_heldM (fun _ => And.intro (hs.ar 5 rfl) (And.intro (hs.ar 2 rfl) (hs.ar 4 rfl))) ?_
    refine wm_one 6 (by kernel_rfl) rfl ?_; dsimp only [List.getElem_toArray, List.getElem_cons_succ, List.getElem_cons_zero]
    apply ws_stS hs 3; exact rfl; exact rfl; exact rfl; exact sWT; exact rfl; exact rfl; clear hs; intro _ hs; dsimp only [setC] at hs; refine wl_nil ?_
    refine we_heldM (fun h => absurd h (by decide)) ?_
    apply wm_takeP 7; exact rfl; intro _; apply opv_assign; exact rfl; exact rfl; kernel_rfl; exact fun h => absurd h (by decide); apply wm_takeP 8; exact rfl; intro _; apply opv_assign; exact rfl; exact rfl; kernel_rfl; exact fun h => absurd h (by decide); apply wm_takeP 9; exact rfl; intro _; apply opv_assign; exact rfl; exact rfl; kernel_rfl; exact fun h => absurd h (by decide); apply wm_takeP 10; exact rfl; intro _; apply opv_assign; exact rfl; exact rfl; kernel_rfl; exact fun h => absurd h (by decide)
    refine wm_done (by kernel_rfl) ?_
    refine we_seq ?_; refine wc_ret ?_; refine we_seq_ret ?_
    exact we_retC4 rfl rfl rfl rfl rfl rfl (hs.ar 3 rfl) sWT ⟨_, rfl, none, 0, none, 0, css5, A5, c5, C5, d5, by rw [hgl2]; rfl, hc5, (((((hs.drop 2 rfl).drop 2 rfl).drop 2 rfl).drop 2 rfl).nilG _ _).nilG _ _⟩
  have h0' : ¬ ((bnames tQ ⟨o.x, o.held, l⟩).length : Int) = 0 := by
    have := List.length_pos_iff.2 hz0
    omega
  have hz1 : ¬ (blockers tQ ⟨o.x, o.held, l⟩).isEmpty = true := fun h => hz0 (List.isEmpty_iff.1 h)
  rw [if_neg hz1]
  have hxn := hwQ.sub o.x hxQ
  apply wl_val; apply opv_len; exact rfl; exact tkTx.sl; exact rfl; refine wl_bin rfl rfl bin_eql rfl ?_; refine wl_ns ?_; apply wc_decF; exact rfl; (with_reducible assumption); refine wc_skip ?_; refine we_seq ?_; refine wc_sr ?_; refine wl_as rfl rfl ?_; refine wl_ns ?_; refine wc_sr ?_; refine wl_as rfl rfl ?_; refine wl_ns ?_; refine wc_seq ?_; refine wc_sr ?_; apply wl_val; apply opv_loadX; exact rfl; exact hs.ar 5 rfl; exact sWT; exact rfl
  refine wl_call ok_caissonref16_Circle (rcircle_any (tb := tQ) ((hs.ro 0 rfl).rf (hs.rq 1 rfl)) (hM _ hs.1) rfl rfl hwQ hosk hquk hhk) ⟨rfl, trivial⟩ rfl ?_
  rintro _ w9 ⟨rfl, hbx⟩
  replace hs := ((hs.below hbx).drop 2 rfl).nilG 2 30
  clear hbx
  dsimp only [delC] at hs
  refine wl_as rfl rfl ?_; refine wl_ns ?_; refine wc_block ?_
  refine wc_loop (fun L wr mm => ∃ (m st : Nat) (tk : Tb) (vs : List Tx) (P : Option Addr) (cp : Nat) (cssk : List (List Value)) (Ak : Option Addr) (ck : Nat) (Ck : Option Addr) (dk : Nat), L = [(3, .pointer (some ⟨g3, 0, none⟩)), (4, .pointer (some ⟨g4, 0, none⟩)), (6, .pointer (some ⟨g6, 0, none⟩)), (14, .int .i64 (st : Int)), (15, .slice P vs.length cp), (16, .int .i64 (circI tk))] ∧ victs (tb.qu.length + 2) tQ = ((victs m tk).1, vs ++ (victs m tk).2) ∧ tk.qu.length < m ∧ Wf tk ∧ Sz tk ∧ names tk = names tQ ∧ st = (if o.x ∈ vs then 3 else 2) ∧ vs.length + m ≤ tb.qu.length + 2 ∧ tk.os.length ≤ ck ∧ St S w wr [.rg 2 30 P cp (txEls vs), .ck (roK w0 cssk Ak tk.os), .ck (rqK Ck tk.qu), .blk g6 67 [.slice none 0 0, .slice none 0 0], .blk g4 30 (txV o.x), .blk g3 67 [.slice Ak tk.os.length ck, .slice Ck tk.qu.length dk]] ∧ mm = m)
    [(3, .pointer (some ⟨g3, 0, none⟩)), (4, .pointer (some ⟨g4, 0, none⟩)), (6, .pointer (some ⟨g6, 0, none⟩)), (14, .int .i64 (2 : Nat)), (15, .slice none 0 0), (16, .int .i64 (circI tQ))] (tb.qu.length + 2) ⟨tb.qu.length + 2, 2, tQ, [], none, 0, css3, A3, c3, C, dq, rfl, by simp, by omega, hwQ, hzQ, rfl, rfl, by simp, hc3, hs, rfl⟩ ⟨rfl, rfl, rfl, rfl, rfl, rfl, trivial⟩ ?_
  clear hs hcs3 hz0 hz1 hbl h0'
  rintro _ w11 mm ⟨m, st, tk, vs, P, cp, cssk, Ak, ck, Ck, dk, rfl, hvs, hlt, hwk, hzk, hnk, hst, hvl, hck', hs, rfl⟩
  obtain ⟨m, rfl⟩ : ∃ m', mm = m' + 1 := ⟨mm - 1, by omega⟩
  have hqk := hzk.qu hwk
  have hok := hzk.os
  cases hv : victim tk with
  | some v =>
    have hvq := circ_qu (victim_some hv)
    have hvn := hwk.sub v hvq
    have hvt : victs (m + 1) tk = ((victs m (leaveT tk v)).1, v :: (victs m (leaveT tk v)).2) := by rw [victs, hv]
    have hqlt := len_unq hvq
    obtain ⟨kv, ov, hkv, hov, hovx, _, hlv⟩ := own_pl hwk.nd hvn
    rw [circ_some hv, hkv]
    subst hovx
    have hll := leave_len tk ov.x
    have hwl := hwk.leave ov.x
    have hzl := hzk.leave ov.x
    have hnl : names (leaveT tk ov.x) = names tk := names_leave tk ov.x
    have hnl2 : names (leaveT tk ov.x) = names tQ := hnl.trans hnk
    have hvs2 : victs (tb.qu.length + 2) tQ = ((victs m (leaveT tk ov.x)).1, (vs ++ [ov.x]) ++ (victs m (leaveT tk ov.x)).2) := by rw [hvs, hvt]; simp
    have hql2 : (leaveT tk ov.x).qu.length < m := by rw [qu_leave]; omega
    have hvl2 : (vs ++ [ov.x]).length = vs.length + 1 := by simp
    obtain ⟨bb2, f2, X2, xc2, Y2, yc2, hA, _, _, i2, _, _⟩ := (hs.ro 1 rfl).at hov
    subst hA
    replace i2 := wi_nm i2
    refine wc_seq ?_; refine wc_sr ?_; refine wl_mv rfl rfl ?_; refine wl_bin rfl rfl bin_geq rfl ?_; refine wl_ns ?_; apply wc_condTb; exact rfl; exact rfl; refine wc_skip ?_; refine we_seq ?_; refine wc_seq ?_; refine wc_block ?_; refine wc_sr ?_; apply wl_val; apply opv_fa; exact fa_WT0; exact rfl; exact rfl; apply wl_val; apply opv_ldX; exact rfl; exact hs.ar 5 rfl; exact e1_wos; exact rfl; exact rfl; refine wl_mv rfl rfl ?_; apply wl_val; apply opv_idxG tkWO; exact rfl; exact rfl; exact rfl; omega; exact rfl; apply wl_val; apply opv_fa; exact fa_WO0; exact rfl; exact rfl; apply wl_val; apply opv_ldG; exact rfl; assumption; exact sTx; exact rfl
    refine ws_var (cs := txV ov.x) hs zeroTx sTx rfl (fun _ => rfl) (by first | rfl | simp [Value.oneCell']) rfl ?_; clear hs; intro g17 _ hs
    clear i2
    refine wl_ns ?_; refine wc_sr ?_; apply wl_val; apply opv_loadX; exact rfl; exact hs.ar 6 rfl; exact sWT; exact rfl; apply wl_val; apply opv_loadX; exact rfl; exact hs.ar 0 rfl; exact sTx; exact rfl
    obtain ⟨S2, hS2, _, _, hH, hB⟩ := St.lend (H1 := [.ck (roK w0 cssk (some ⟨bb2, f2, none⟩) tk.os)]) (H2 := [_, _, _, _, _, _]) (hs.front 2 rfl)
    refine wl_call ok_caissonref16_leave (rleave_any (x := ov.x) hS2 (fun w' hm => by
      obtain ⟨_, _, _, _, _, _, T1, _, h1, _⟩ := hH w' hm
      exact RdR.all h1) rfl rfl hck' hwk.nd hok hqk) ⟨rfl, rfl, trivial⟩ rfl ?_
    rintro _ w12 ⟨css5, A5, c5, C5, d5, rfl, hc5, hsx⟩
    replace hs := (hB _ _ hsx).drop 4 rfl
    clear hB hsx hS2 hH
    dsimp only [List.cons_append, List.nil_append, delC] at hs
    rw [← hll] at hc5
    rw [← hll]
    apply ws_stS hs 6; exact rfl; exact rfl; exact rfl; exact sWT; exact rfl; exact rfl; clear hs; intro _ hs; dsimp only [setC] at hs; refine wl_ns ?_; refine wc_sr ?_; refine wl_mv rfl rfl ?_; apply wl_val; apply opv_loadX; exact rfl; exact hs.ar 2 rfl; exact sTx; exact rfl
    refine ws_pushR (cs := txV ov.x) hs 3 (fun _ => rfl) rfl tkTx (by simp) ⟨_, rfl, rfl⟩ rfl rfl (by decide) (by omega) (by simp only [maxLen]; omega) rfl rfl ?_
    clear hs; intro _ P2 cp2 w13 hs; dsimp only [setC] at hs
    have e1 : txEls vs ++ [rawEl (txV ov.x)] = txEls (vs ++ [ov.x]) := by simp [txEls]
    rw [e1] at hs
    have hqL := hzl.qu hwl
    refine wl_as rfl rfl ?_; refine wl_ns ?_; refine wc_sr ?_; apply wl_val; apply opv_loadX; exact rfl; exact hs.ar 2 rfl; exact sTx; exact rfl; apply wl_val; apply opv_loadX; exact rfl; exact hs.ar 5 rfl; exact sTx; exact rfl; apply wl_val; apply opv_bin; exact rfl; exact rfl; exact (bin_eqlTx _ _); exact rfl; refine wl_ns ?_
    by_cases hvo : ov.x = o.x
    · have hmem : (if o.x ∈ vs ++ [ov.x] then 3 else 2) = 3 := by simp [hvo]
      rw [decide_eq_true hvo]
      apply wc_condTb; exact rfl; exact rfl; refine wc_region ?_; refine wl_as rfl rfl ?_; refine wl_nil ?_; refine we_block_norm ?_; refine we_seq ?_; refine wc_region ?_; apply wl_val; apply opv_loadX; exact rfl; exact hs.ar 6 rfl; exact sWT; exact rfl
      refine wl_call ok_caissonref16_Circle (rcircle_any (tb := leaveT tk ov.x) ((hs.ro 0 rfl).rf (hs.rq 1 rfl)) (hM _ hs.1) rfl rfl hwl hzl.os hqL fun o ho => by have := hzl.held o ho; omega) ⟨rfl, trivial⟩ rfl ?_
      rintro _ w15 ⟨rfl, hbx⟩
      replace hs := ((hs.below hbx).drop 2 rfl).front 2 rfl
      clear hbx
      dsimp only [delC] at hs
      refine wl_as rfl rfl ?_; refine wl_nil ?_
      exact we_loop _ m ⟨m, 3, leaveT tk ov.x, vs ++ [ov.x], P2, cp2, css5, A5, c5, C5, d5, rfl, hvs2, hql2, hwl, hzl, hnl2, hmem.symm, by omega, hc5, hs, rfl⟩ (by omega) ⟨rfl, rfl, rfl, rfl, by rw [hvl2]; rfl, rfl, trivial⟩
    · have hmem : (if o.x ∈ vs ++ [ov.x] then 3 else 2) = st := by
        rw [hst]
        have : (o.x ∈ vs ++ [ov.x]) = (o.x ∈ vs) := by simp [show ¬ o.x = ov.x from fun e => hvo e.symm]
        simp only [this]
      rw [decide_eq_false hvo]
      apply wc_condFb; exact rfl; exact rfl; refine wc_skip ?_; refine we_block_norm ?_; refine we_seq ?_; refine wc_region ?_; apply wl_val; apply opv_loadX; exact rfl; exact hs.ar 6 rfl; exact sWT; exact rfl
      refine wl_call ok_caissonref16_Circle (rcircle_any (tb := leaveT tk ov.x) ((hs.ro 0 rfl).rf (hs.rq 1 rfl)) (hM _ hs.1) rfl rfl hwl hzl.os hqL fun o ho => by have := hzl.held o ho; omega) ⟨rfl, trivial⟩ rfl ?_
      rintro _ w15 ⟨rfl, hbx⟩
      replace hs := ((hs.below hbx).drop 2 rfl).front 2 rfl
      clear hbx
      dsimp only [delC] at hs
      refine wl_as rfl rfl ?_; refine wl_nil ?_
      exact we_loop _ m ⟨m, st, leaveT tk ov.x, vs ++ [ov.x], P2, cp2, css5, A5, c5, C5, d5, rfl, hvs2, hql2, hwl, hzl, hnl2, hmem.symm, by omega, hc5, hs, rfl⟩ (by omega) ⟨rfl, rfl, rfl, rfl, by rw [hvl2]; rfl, rfl, trivial⟩
  | none =>
    have hvt : victs (m + 1) tk = (tk, []) := by rw [victs, hv]
    rw [hvt, List.append_nil] at hvs
    rw [hvs, circ_none hv]
    dsimp only
    have hgo := go_len hwk
    refine wc_seq ?_; refine wc_sr ?_; refine wl_mv rfl rfl ?_; refine wl_bin rfl rfl bin_geq rfl ?_; refine wl_ns ?_; apply wc_condFb; exact rfl; exact rfl; refine wc_exit ?_; refine we_seq_exit ?_; refine we_loop_exit ?_; refine we_block_exit ?_; refine we_seq ?_; refine wc_sr ?_; apply wl_val; apply opv_loadX; exact rfl; exact hs.ar 5 rfl; exact sWT; exact rfl
    obtain ⟨S2, hS2, _, hM2, _, hB⟩ := St.lend (H1 := [.ck (roK w0 cssk Ak tk.os), .ck (rqK Ck tk.qu)]) (H2 := [_, _, _, _]) ((hs.front 2 rfl).front 2 rfl)
    refine wl_call ok_caissonref16_Go (rgo_any hS2 (fun w' hm => hM _ (hM2 w' hm)) rfl rfl hck' hwk hzk) ⟨rfl, trivial⟩ rfl ?_
    rintro _ w12 ⟨Q, cq, css5, A5, c5, B5, d5, rfl, hc5, hsx⟩
    replace hs := hB _ _ hsx
    clear hB hsx hS2
    dsimp only [List.cons_append, List.nil_append] at hs
    have hgl : (goT tk).2.length ≤ tk.qu.length := by
      have := fold_len (zs := tk.qu) (r := (tk, []))
      simp only [List.length_nil, Nat.zero_add] at this
      exact this
    rw [← hgo] at hc5
    rw [← hgo]
    obtain ⟨⟨tg, gr⟩, hgr⟩ : ∃ q, goT tk = q := ⟨_, rfl⟩
    rw [hgr] at hs hc5 hgl
    rw [hgr]
    dsimp only at hs hc5 hgl ⊢
    refine wl_mv rfl rfl ?_; apply wl_val; apply opv_extract; exact rfl; exact rfl; exact rfl; apply wl_val; apply opv_extract; exact rfl; exact rfl; exact rfl; apply ws_stS hs 6; exact rfl; exact rfl; exact rfl; exact sWT; exact rfl; exact rfl; clear hs; intro _ hs; dsimp only [setC] at hs; refine wl_as rfl rfl ?_; refine wl_ns ?_; refine wc_seq ?_; refine wc_sr ?_; refine wl_as rfl rfl ?_; refine wl_ns ?_; refine wc_block ?_
    refine wc_loop (fun L wr mm => ∃ (i : Nat), L = [(3, .pointer (some ⟨g3, 0, none⟩)), (4, .pointer (some ⟨g4, 0, none⟩)), (6, .pointer (some ⟨g6, 0, none⟩)), (14, .int .i64 ((if o.x ∈ gr.take i then 1 else st : Nat) : Int)), (15, .slice P vs.length cp), (18, .slice Q gr.length cq), (19, .int .i64 (i : Int))] ∧ i ≤ gr.length ∧ St S w wr [.rg 2 30 Q cq (txEls gr), .ck (roK w0 css5 A5 tg.os), .ck (rqK B5 tg.qu), .rg 2 30 P cp (txEls vs), .blk g6 67 [.slice none 0 0, .slice none 0 0], .blk g4 30 (txV o.x), .blk g3 67 [.slice A5 tg.os.length c5, .slice B5 tg.qu.length d5]] ∧ mm = gr.length - i)
      [(3, .pointer (some ⟨g3, 0, none⟩)), (4, .pointer (some ⟨g4, 0, none⟩)), (6, .pointer (some ⟨g6, 0, none⟩)), (14, .int .i64 (st : Int)), (15, .slice P vs.length cp), (18, .slice Q gr.length cq), (19, .int .i64 (0 : Nat))] gr.length ⟨0, by simp, by omega, hs, rfl⟩ ⟨rfl, rfl, rfl, rfl, rfl, rfl, rfl, trivial⟩ ?_
    clear hs
    rintro _ w13 mm ⟨i, rfl, hi, hs, rfl⟩
    refine wc_seq ?_; refine wc_sr ?_; refine wl_mv rfl rfl ?_; refine wl_mv rfl rfl ?_; apply wl_val; apply opv_len; exact rfl; exact tkTx.sl; exact rfl; refine wl_bin rfl rfl bin_lss rfl ?_; refine wl_ns ?_
    refine wc_cond rfl (fun h1 => ?_) (fun h1 => ?_)
    · obtain ⟨y, hy⟩ : ∃ y, gr[i]? = some y := ⟨_, List.getElem?_eq_getElem (by omega)⟩
      obtain ⟨bq, fq, cs, rfl, _, _, hp, i1⟩ := RdR.at (k := 2) (by decide) (OwR.rd (hs.rg 0 rfl)) (i := i) (E := rawEl (txV y)) (by rw [txEls, List.getElem?_map, hy]; rfl)
      obtain rfl : cs = txV y := hp
      have htk := take_getR hy
      refine wc_skip ?_; refine we_seq ?_; refine wc_seq ?_; refine wc_block ?_; refine wc_seq ?_
      refine wc_heldB mixed fun w14 hS => ?_
      apply wh_takeH 0; exact rfl; intro _ hw_; apply opv_move; exact rfl; exact rfl; kernel_rfl; exact hS; apply wh_takeH 1; exact rfl; intro _ hw_; apply opv_move; exact rfl; exact rfl; kernel_rfl; exact hS; apply wh_takeH 2; exact rfl; intro _ hw_; apply opv_idxG tkTx; exact rfl; exact rfl; exact rfl; omega; exact rfl; kernel_rfl; exact hS; apply wh_takeH 3; exact rfl; intro _ hw_; apply opv_ldG; exact rfl; exact Wi.below (by assumption) hw_; exact sTx; exact rfl; kernel_rfl; exact hS; apply wh_takeH 4; exact rfl; intro _ hw_; apply opv_loadX; exact rfl; exact Ar.bel (hs.ar 5 rfl) hw_; exact sTx; exact rfl; kernel_rfl; exact hS; apply wh_takeH 5; exact rfl; intro _ hw_; apply opv_bin; exact rfl; exact rfl; exact (bin_eqlTx _ _); exact rfl; kernel_rfl; exact hS
      refine wh_done (by kernel_rfl) ?_
      replace hs := hs.below hS
      refine we_seq ?_
      by_cases hyx : y = o.x
      · rw [decide_eq_true hyx]
        have e : (if o.x ∈ gr.take (i + 1) then 1 else st) = 1 := by rw [htk]; simp [hyx]
        apply wc_condTb; exact rfl; exact rfl; refine wc_region ?_; refine wl_as rfl rfl ?_; refine wl_nil ?_; refine we_block_norm ?_; refine we_seq ?_; refine wc_region ?_; refine wl_mv rfl rfl ?_; apply wl_val; apply opv_bin; exact rfl; exact rfl; exact bin_add64 (by omega); exact rfl; refine wl_as rfl rfl ?_; refine wl_nil ?_
        exact we_loop _ (gr.length - (i + 1)) ⟨i + 1, rfl, by omega, hs, rfl⟩ (by omega) ⟨rfl, rfl, rfl, by rw [e]; rfl, rfl, rfl, by simp [lookT], trivial⟩
      · rw [decide_eq_false hyx]
        have e : (if o.x ∈ gr.take (i + 1) then 1 else st) = (if o.x ∈ gr.take i then 1 else st) := by
          have : (o.x ∈ gr.take i ++ [y]) = (o.x ∈ gr.take i) := by simp [show ¬ o.x = y from fun e => hyx e.symm]
          rw [htk]; simp only [this]
        apply wc_condFb; exact rfl; exact rfl; refine wc_skip ?_; refine we_block_norm ?_; refine we_seq ?_; refine wc_region ?_; refine wl_mv rfl rfl ?_; apply wl_val; apply opv_bin; exact rfl; exact rfl; exact bin_add64 (by omega); exact rfl; refine wl_as rfl rfl ?_; refine wl_nil ?_
        exact we_loop _ (gr.length - (i + 1)) ⟨i + 1, rfl, by omega, hs, rfl⟩ (by omega) ⟨rfl, rfl, rfl, by rw [e]; rfl, rfl, rfl, by simp [lookT], trivial⟩
    · obtain rfl : i = gr.length := by omega
      rw [List.take_length]
      have est : (if o.x ∈ gr then 1 else st) = (if o.x ∈ gr then 1 else if o.x ∈ vs then 3 else 2) := by rw [hst]
      rw [est]
      refine wc_exit ?_; refine we_seq_exit ?_; refine we_loop_exit ?_; refine we_block_exit ?_; refine we_seq ?_; refine wc_sr ?_; apply wl_val; apply opv_loadX; exact rfl; exact hs.ar 6 rfl; exact sWT; exact rfl; refine wl_mv rfl rfl ?_; refine wl_mv rfl rfl ?_; refine wl_mv rfl rfl ?_; apply ws_stS hs 4; exact rfl; exact rfl; exact rfl; exact sWT; exact rfl; exact rfl; clear hs; intro _ hs; dsimp only [setC] at hs; refine wl_as rfl rfl ?_; refine wl_as rfl rfl ?_; refine wl_as rfl rfl ?_; refine wl_as rfl rfl ?_; refine wl_ns ?_; refine wc_ret ?_
      exact we_retC4 rfl rfl rfl rfl rfl rfl (hs.ar 4 rfl) sWT ⟨_, rfl, P, cp, Q, cq, css5, A5, c5, B5, d5, rfl, hc5, (((hs.drop 4 rfl).drop 4 rfl).drop 4 rfl).front 3 rfl⟩
end Go.Proofs.Ytmdbjeabifkimaa

/-
  Bytes of one's own that are turned over; the law's twins, in memory that lies apart.
-/
namespace Go.Proofs.Ytmdbjeabifkimaa
open Go.RowKit

theorem bvs_setO (l : List UInt8) (i : Nat) (b : UInt8) : (bvs l).set i (bv b) = bvs (l.set i b) := by rw [bvs, bvs, List.map_set]
theorem overO_any {A : Option Addr} {n c base : Nat} {l : List UInt8} {w : World} (ho : OwB w base A c l) (hn : l.length = n) (hl : l.length ≤ 2199023255552) :
    CallsV Try.prog 31 #[.slice A n c] w fun v w' => v = .tuple #[] ∧ ∃ l' : List UInt8, l'.length = l.length ∧ OwB w' base A c l' ∧ Gr w w' A := by
  subst hn
  refine calls_in (N := _) Try.func31 rfl Try.ntmps31 rfl ?_; show WC _ _ _ _ _ _
  refine wc_sr ?_; refine wl_as rfl rfl ?_; refine wl_ns ?_; refine wc_block ?_
  refine wc_loop (fun L wr m => ∃ (i : Nat) (l' : List UInt8), L = [(0, .slice A l.length c), (2, .int .i64 (i : Int))] ∧ i ≤ l.length ∧ l'.length = l.length ∧ OwB wr base A c l' ∧ Gr w wr A ∧ m = l.length - i)
    [(0, .slice A l.length c), (2, .int .i64 (0 : Nat))] l.length ⟨0, l, rfl, by omega, rfl, ho, Gr.refl _ _, rfl⟩ ⟨rfl, rfl, trivial⟩ ?_
  rintro _ w1 m ⟨i, l', rfl, hi, hl', o1, g1, rfl⟩
  have o1' : Ow w1 base 5 A l.length c (bvs l') := by rw [← hl']; exact o1
  have r1 : Rd w1 A l.length (bvs l') := by rw [← hl']; exact o1.rd
  refine wc_seq ?_; refine wc_sr ?_; refine wl_mv rfl rfl ?_; refine wl_mv rfl rfl ?_; apply wl_val; apply opv_len; exact rfl; exact tyB.sl; exact rfl; refine wl_bin rfl rfl bin_lss rfl ?_; refine wl_ns ?_
  refine wc_cond rfl (fun h1 => ?_) (fun h1 => ?_)
  · obtain ⟨x, hx⟩ : ∃ x, l'[i]? = some x := ⟨_, List.getElem?_eq_getElem (by omega)⟩
    have hxl := x.toNat_lt
    have hxx : x.toNat ^^^ 90 < 256 := Nat.xor_lt_two_pow (n := 8) hxl (by decide)
    refine wc_skip ?_; refine we_seq ?_; refine wc_seq ?_; refine wc_block ?_; refine wc_region ?_; refine wl_mv rfl rfl ?_; refine wl_mv rfl rfl ?_; refine wl_mv rfl rfl ?_; refine wl_mv rfl rfl ?_; apply wl_byK (T := tyB) (hr := r1) (hb := hx); exact rfl; exact rfl; exact rfl; exact rfl; exact rfl; intro _
    refine wl_val (opv_bin (b := .int .u8 (90 : Nat)) rfl rfl (bin_xor rfl hxl (by decide))) rfl ?_
    refine wl_set (n := l.length) (kk := i) tyB rfl rfl o1' rfl (by omega) (fun _ => rfl) rfl rfl fun p w2 o2 g2 _ => ?_
    have eu : Value.int .u8 ((x.toNat ^^^ 90 : Nat) : Int) = bv (UInt8.ofNat (x.toNat ^^^ 90)) := by
      unfold bv; rw [UInt8.toNat_ofNat', Nat.mod_eq_of_lt hxx]
    rw [eu, bvs_setO] at o2
    have o2' : OwB w2 base A c (l'.set i (UInt8.ofNat (x.toNat ^^^ 90))) := by unfold OwB; rw [List.length_set, hl']; exact o2
    refine wl_nil ?_; refine we_block_norm ?_; refine we_seq ?_; refine wc_region ?_; refine wl_mv rfl rfl ?_; apply wl_val; apply opv_bin; exact rfl; exact rfl; exact bin_add64 (by omega); exact rfl; refine wl_as rfl rfl ?_; refine wl_nil ?_
    refine we_loop [(0, .slice A l.length c), (2, .int .i64 ((i + 1 : Nat) : Int))] (l.length - (i + 1)) ⟨i + 1, _, rfl, by omega, by rw [List.length_set]; exact hl', o2', g1.trans g2, rfl⟩ (by omega) ⟨rfl, by simp [lookT], trivial⟩
  · refine wc_exit ?_; refine we_seq_exit ?_; refine we_loop_exit ?_; refine we_block_exit ?_
    exact we_end0 rfl ⟨_, rfl, rfl, l', hl', o1, g1⟩
/-- Bytes of one's own, whatever they are. -/
def jk (A : Option Addr) (n c : Nat) : Ck := ⟨fun w S => ∃ xs : List UInt8, xs.length = n ∧ (Cd.ow 5 A n c (bvs xs)).P w S, fun ⟨xs, h, h2⟩ hz hm => ⟨xs, h, Cd.move (c := .ow 5 _ _ _ (bvs xs)) h2 hz hm⟩⟩
theorem jk_of {A : Option Addr} {c : Nat} {xs : List UInt8} {w : World} {S : BS} (h : (Cd.ow 5 A xs.length c (bvs xs)).P w S) : (jk A xs.length c).P w S := ⟨xs, rfl, h⟩
theorem over_jk {S : BS} {A : Option Addr} {n c : Nat} {w : World} (h0 : Sat w [.ck (jk A n c)] S) (hl : n ≤ 2199023255552) :
    CallsV Try.prog 31 #[.slice A n c] w fun v w' => v = .tuple #[] ∧ St S w w' [.ck (jk A n c)] := by
  obtain ⟨T, hT, ⟨xs, hx, hc⟩, _⟩ := h0
  subst hx
  refine (overO_any (base := 0) hc.2 rfl hl).mono fun v w' ⟨hv, l', hl', ho, hg⟩ => ⟨hv, Mod.of_gr hg fun a ha => hT _ (hc.1 a ha), T, fun b h => .inl (hT b h), ⟨l', hl', hc.1, ?_⟩, trivial⟩
  rw [← hl']; exact ho
theorem mem_perm {α : Type} {a : α} {l : List α} (h : a ∈ l) : ∃ r, l.Perm (a :: r) := by
  obtain ⟨s, t, rfl⟩ := List.append_of_mem h
  exact ⟨s ++ t, List.perm_middle⟩
/-- One of many pieces is turned over. -/
theorem over_in {S : BS} {A : Option Addr} {n c : Nat} {H : List Cd} {w : World} (h0 : Sat w [.ck (packC H)] S) (hm : Cd.ck (jk A n c) ∈ H) (hl : n ≤ 2199023255552) :
    CallsV Try.prog 31 #[.slice A n c] w fun v w' => v = .tuple #[] ∧ St S w w' [.ck (packC H)] := by
  obtain ⟨r, hp⟩ := mem_perm hm
  have hs : St S w w ([.ck (jk A n c)] ++ r) := (St.start h0).unpk.map fun _ h => Sat.permL (by simpa using hp) h
  obtain ⟨S2, hS2, _, _, _, hB⟩ := St.lend hs
  refine (over_jk hS2 hl).mono fun v w' ⟨hv, hsx⟩ => ⟨hv, ?_⟩
  have hs2 := hB _ _ hsx
  refine St.pk (H := []) ?_
  rw [List.append_nil]
  exact hs2.map fun _ h => Sat.permL hp.symm h
theorem twinsLS_any {A : Option Addr} {n c : Nat} {l : List Rg} {w : World} (hr : RdR 3 w All A (l.map rgEl)) (hn : l.length = n) (hl : l.length ≤ 4294967296) (hok : ∀ x ∈ l, x.fr.length ≤ 1048576 ∧ x.to.length ≤ 1048576) :
    CallsV Try.prog 19 #[.slice A n c] w (RetRgS w l) := by
  subst hn
  have hs := ((St.init w).pack (H1 := []) (.ck (packC [])) fun w S h => h).nilG 3 61
  refine calls_in (N := _) Try.func19 rfl Try.ntmps19 rfl ?_; show WC _ _ _ _ _ _
  refine wc_sr ?_; refine wl_as rfl rfl ?_; refine wl_ns ?_; refine wc_sr ?_; refine wl_as rfl rfl ?_; refine wl_ns ?_; refine wc_seq ?_; refine wc_sr ?_; refine wl_mv rfl rfl ?_; apply wl_val; apply opv_len; exact rfl; exact tkR.sl; exact rfl; refine wl_mv rfl rfl ?_; refine wl_ns ?_; refine wc_block ?_
  refine wc_loop (fun L wr mm => ∃ (k : Nat) (P : Option Addr) (cp : Nat) (es : List RgA), L = [(6, .slice A l.length c), (7, .int .i64 (l.length : Int)), (3, .slice P k cp), (8, .int .i64 (k : Int))] ∧ k ≤ l.length ∧ St NoB w wr [.rg 3 61 P cp ((es.map raV).map rawEl), .ck (packC (es.flatMap raM))] ∧ es.map (·.x) = l.take k ∧ mm = l.length - k)
    [(6, .slice A l.length c), (7, .int .i64 (l.length : Int)), (3, .slice none 0 0), (8, .int .i64 (0 : Nat))] l.length ⟨0, none, 0, [], rfl, by omega, hs, rfl, rfl⟩ ⟨rfl, rfl, rfl, rfl, trivial⟩ ?_
  clear hs
  rintro _ w1 mm ⟨k, P, cp, es, rfl, hk, hs, hes, rfl⟩
  have hel : es.length = k := by have := congrArg List.length hes; rw [List.length_map, List.length_take] at this; omega
  refine wc_sr ?_; refine wl_bin rfl rfl bin_lss rfl ?_; refine wl_ns ?_; refine wc_seq ?_
  refine wc_cond rfl (fun h1 => ?_) (fun h1 => ?_)
  · obtain ⟨x, hx⟩ : ∃ x, l[k]? = some x := ⟨_, List.getElem?_eq_getElem (by omega)⟩
    have hox := hok x (List.mem_of_getElem? hx)
    obtain ⟨bb, o, cs, rfl, _, _, hp, i1⟩ := RdR.at (k := 3) (by decide) hr (E := rgEl x) (i := k) (by rw [List.getElem?_map, hx]; rfl)
    obtain ⟨X, cx, Y, cy, rfl, rx, _, ry, _⟩ := rgEl.rd hp
    replace i1 := i1.below hs.bel
    refine wc_skip ?_; refine we_seq ?_; refine wc_seq ?_; refine wc_block ?_; refine wc_sr ?_; apply wl_val; apply opv_idxG tkR; exact rfl; exact rfl; exact rfl; omega; exact rfl; apply wl_val; apply opv_ldG; exact rfl; assumption; exact sR; exact rfl
    refine ws_var (cs := rgV x X cx Y cy) hs zeroRg sR rfl (fun _ => rfl) (by first | rfl | simp [Value.oneCell']) rfl ?_; clear hs; intro g5 _ hs
    unfold rgV at hs
    refine wl_ns ?_
    replace hs := hs.below (Below.refl _ _).drew
    refine wc_held (fun w => Ar w g5 61 [.slice X x.fr.length cx, .slice Y x.to.length cy, .bool x.ex]) mixed ?_
    have hS := hs.ar 0 rfl
    apply wh_takeH 0; exact rfl; intro _ hw_; apply opv_move; exact rfl; exact rfl; kernel_rfl; exact hS; apply wh_takeH 1; exact rfl; intro _ hw_; apply opv_fa; exact fa_sR (by decide); exact rfl; exact rfl; kernel_rfl; exact hS; apply wh_takeH 2; exact rfl; intro _ hw_; apply opv_ldX; exact rfl; assumption; exact e1_by; exact rfl; exact rfl; kernel_rfl; exact hS; apply wh_takeH 4; exact rfl; intro _ hw_; apply opv_fa; exact fa_sR (by decide); exact rfl; exact rfl; kernel_rfl; exact hS; apply wh_takeH 5; exact rfl; intro _ hw_; apply opv_ldX; exact rfl; assumption; exact e1_by; exact rfl; exact rfl; kernel_rfl; exact hS; apply wh_takeH 7; exact rfl; intro _ hw_; apply opv_fa; exact fa_sR (by decide); exact rfl; exact rfl; kernel_rfl; exact hS; apply wh_takeH 8; exact rfl; intro _ hw_; apply opv_ldX; exact rfl; assumption; exact e1_bool; exact rfl; exact rfl; kernel_rfl; exact hS
    clear hS
    refine wh_one 3 (o := ⟨_, _, _, _, _, _⟩) (by kernel_rfl) rfl ?_
    refine wl_call ok_caissonref01_Copy (copy_any (rx.below hs.bel) rfl (by omega)) ⟨rfl, trivial⟩ rfl ?_; rintro _ _ ⟨C, e, rfl, o_, hbx⟩; replace hs := hs.newO hbx o_ (Nat.le_refl _); try dsimp only [List.cons_append, List.nil_append, setC, delC] at hs
    refine wl_nil ?_
    refine we_held (hs.ar 1 rfl) ?_
    refine wh_one 6 (o := ⟨_, _, _, _, _, _⟩) (by kernel_rfl) rfl ?_
    refine wl_call ok_caissonref01_Copy (copy_any (ry.below hs.bel) rfl (by omega)) ⟨rfl, trivial⟩ rfl ?_; rintro _ _ ⟨D, f, rfl, o_, hbx⟩; replace hs := hs.newO hbx o_ (Nat.le_refl _); try dsimp only [List.cons_append, List.nil_append, setC, delC] at hs
    refine wl_nil ?_
    refine we_held (hs.ar 2 rfl) ?_
    refine wh_one 9 (o := ⟨_, _, _, _, _, _⟩) (by kernel_rfl) rfl ?_
    refine wl_val (opv_build (vs := [(0, .slice C x.fr.length e), (1, .slice D x.to.length f), (2, .bool x.ex)]) (cs := rgV x C e D f) ⟨rfl, rfl, rfl, rfl, rfl, rfl, trivial⟩ (by kernel_rfl)) rfl ?_
    refine wl_nil ?_
    refine we_held (hs.ar 2 rfl) ?_
    refine wh_one 10 (o := ⟨_, _, _, _, _, _⟩) (by kernel_rfl) rfl ?_
    refine wl_bsG (css := [rgV x C e D f]) tkR ⟨rfl, ⟨_, rfl, rfl⟩, rfl, trivial⟩ (els := [rgV x C e D f].map rawEl) (S := NoB) rfl (by decide) (by decide) (grp_raw (by simp [rgV])) rfl fun R w7 hR hbx _ => ?_
    replace hs := (hs.front 1 rfl).newG hbx hR (Nat.le_refl _) fun _ _ h => h.elim
    clear hR hbx
    refine wl_nil ?_
    refine we_held (hs.ar 3 rfl) ?_
    refine wh_one 11 (o := ⟨_, _, _, _, _, _⟩) (by kernel_rfl) rfl ?_
    refine ws_appR (css := [rgV x C e D f]) (m := 1) hs 4 rfl rfl tkR (by simp; omega) rfl (OwR.rd (hs.rg 0 rfl)) rfl (rgV_all _ _ _ _ _) (by omega) (by simp only [maxLen]; omega) rfl ?_
    clear hs; intro P2 cp2 w8 hs; dsimp only [setC] at hs
    refine wl_nil ?_
    refine we_held (hs.ar 3 rfl) ?_
    refine wh_one 12 (o := ⟨_, _, _, _, _, _⟩) (by kernel_rfl) rfl ?_
    refine wl_as rfl rfl ?_; refine wl_nil ?_
    refine we_held (hs.ar 3 rfl) ?_
    refine wh_done (by kernel_rfl) ?_
    refine we_block_norm ?_; refine we_seq ?_; refine wc_region ?_; apply wl_val; apply opv_bin; exact rfl; exact rfl; exact bin_add64 (by omega); exact rfl; refine wl_mv rfl rfl ?_; refine wl_nil ?_
    replace hs := ((hs.drop 0 rfl).drop 2 rfl).front 2 rfl
    dsimp only [delC] at hs
    replace hs := ((hs.front 3 rfl).front 3 rfl).front 3 rfl
    dsimp only [delC] at hs
    replace hs := (St.pack (H1 := [_, _, _]) hs (.ck (packC ((es ++ [RgA.mk x C e D f]).flatMap raM))) fun w S h => by
      have h1 := Sat.swap (H1 := [_, _]) (H2 := [_]) h
      have h2 := Sat.split (H1 := es.flatMap raM) h1 fun T h => h
      rw [List.flatMap_append]
      exact h2).front 1 rfl
    dsimp only [delC] at hs
    refine we_loop _ (l.length - (k + 1)) ⟨k + 1, P2, cp2, es ++ [RgA.mk x C e D f], rfl, by omega, by rw [List.map_append, List.map_append]; exact hs, by rw [List.map_append, hes, take_getR hx]; rfl, rfl⟩ (by omega) ⟨rfl, rfl, rfl, by simp [lookT], trivial⟩
  · obtain rfl : k = l.length := by omega
    rw [List.take_length] at hes
    refine wc_exit ?_; refine we_seq_exit ?_; refine we_loop_exit ?_; refine we_block_exit ?_; refine we_seq ?_; refine wc_sr ?_; refine wl_mv rfl rfl ?_; refine wl_as rfl rfl ?_; refine wl_ns ?_; refine wc_ret ?_
    exact we_ret1 rfl rfl ⟨_, rfl, P, cp, es, hes, rfl, hs⟩
end Go.Proofs.Ytmdbjeabifkimaa

/-
  Walk over same of the law's: a table and the document's, told to be the same.
-/
namespace Go.Proofs.Ytmdbjeabifkimaa
open Go.RowKit

set_option maxRecDepth 8000 in
set_option maxHeartbeats 4000000 in
theorem same16_any {w0 w : World} {css : List (List Value)} {A B : Option Addr} {t n c m d : Nat} {gp : Tx → Nat} {tb : Tb} (hT : RdT w t gp tb) (hR : RfT w0 w All css A B tb) (hb : Below w0.heap.size w0 w) (hn : tb.os.length = n) (hm : tb.qu.length = m) (hw : Wf tb) (hz : Sz tb) :
    CallsV Try.prog 34 #[pN t, .agg (tvV A n c B m d).toArray] w fun v w' => v = .bool true ∧ Below w.heap.size w w' := by
  subst hn hm
  have hos := hz.os
  have hqu := hz.qu hw
  have hhe : ∀ o ∈ tb.os, o.held.length ≤ 1048576 := fun o ho => by have := hz.held o ho; omega
  have hs := (St.init w).nilG 2 30
  unfold pN
  refine calls_in (N := _) Try.func34 rfl Try.ntmps34 rfl ?_; show WC _ _ _ _ _ _
  refine wc_sr ?_
  refine ws_box (cs := tvV A tb.os.length c B tb.qu.length d) hs rfl rfl ?_; clear hs; intro g3 _ hs
  replace hs := hs.front 1 rfl
  dsimp only [delC] at hs
  refine wl_as rfl rfl ?_; refine wl_ns ?_; refine wc_sr ?_; refine wl_as rfl rfl ?_; refine wl_ns ?_; refine wc_seq ?_; refine wc_sr ?_; apply wl_val; apply opv_fa; exact fa_WT0; exact rfl; exact rfl; apply wl_val; apply opv_ldX; exact rfl; exact hs.ar 1 rfl; exact e1_wos; exact rfl; exact rfl; apply wl_val; apply opv_len; exact rfl; exact tkWO.sl; exact rfl; refine wl_mv rfl rfl ?_; refine wl_ns ?_; refine wc_block ?_
  refine wc_loop (fun L wr mm => ∃ (k : Nat) (P : Option Addr) (cp : Nat), L = [(0, .pointer (some ⟨t, 0, none⟩)), (3, .pointer (some ⟨g3, 0, none⟩)), (5, .slice P k cp), (11, .slice A tb.os.length c), (12, .int .i64 (tb.os.length : Int)), (13, .int .i64 (k : Int))] ∧ k ≤ tb.os.length ∧ St NoB w wr [.rg 2 30 P cp (txEls ((names tb).take k)), .blk g3 67 [.slice A tb.os.length c, .slice B tb.qu.length d]] ∧ mm = tb.os.length - k)
    [(0, .pointer (some ⟨t, 0, none⟩)), (3, .pointer (some ⟨g3, 0, none⟩)), (5, .slice none 0 0), (11, .slice A tb.os.length c), (12, .int .i64 (tb.os.length : Int)), (13, .int .i64 (0 : Nat))] tb.os.length ⟨0, none, 0, rfl, by omega, hs, rfl⟩ ⟨rfl, rfl, rfl, rfl, rfl, rfl, trivial⟩ ?_
  clear hs
  rintro _ w1 mm ⟨k, P, cp, rfl, hk, hs, rfl⟩
  refine wc_sr ?_; refine wl_bin rfl rfl bin_lss rfl ?_; refine wl_ns ?_; refine wc_seq ?_
  refine wc_cond rfl (fun h1 => ?_) (fun h1 => ?_)
  · obtain ⟨o, ho⟩ : ∃ o, tb.os[k]? = some o := ⟨_, List.getElem?_eq_getElem (by omega)⟩
    obtain ⟨bb, f, X, xc, Y, yc, hA, _, _, i1, _, _⟩ := hR.at ho
    subst hA
    replace i1 := i1.below hs.bel
    have htk := take_getR (names_get ho)
    refine wc_skip ?_; refine we_seq ?_; refine wc_seq ?_; refine wc_block ?_; refine wc_sr ?_; apply wl_val; apply opv_idxG tkWO; exact rfl; exact rfl; exact rfl; omega; exact rfl; apply wl_val; apply opv_ldG; exact rfl; assumption; exact sWO; exact rfl
    refine ws_var (cs := owV o X xc Y yc) hs zeroWO sWO rfl (fun _ => rfl) (by first | rfl | simp [Value.oneCell']) rfl ?_; clear hs; intro g7 _ hs
    clear i1
    have i3 := ar_wiWO (hs.ar 0 rfl)
    refine wl_ns ?_; refine wc_region ?_; refine wl_mv rfl rfl ?_; apply wl_val; apply opv_fa; exact fa_WO0; exact rfl; exact rfl; apply wl_val; apply opv_ldG; exact rfl; assumption; exact sTx; exact rfl
    refine ws_pushR (cs := txV o.x) hs 1 (fun _ => rfl) rfl tkTx (by simp [names_len]; omega) ⟨_, rfl, rfl⟩ rfl rfl (by decide) (by omega) (by simp only [maxLen]; omega) rfl rfl ?_
    clear hs i3; intro _ P2 cp2 w9 hs; dsimp only [setC] at hs
    replace hs := hs.drop 0 rfl
    dsimp only [delC] at hs
    refine wl_as rfl rfl ?_; refine wl_nil ?_; refine we_block_norm ?_; refine we_seq ?_; refine wc_region ?_; apply wl_val; apply opv_bin; exact rfl; exact rfl; exact bin_add64 (by omega); exact rfl; refine wl_mv rfl rfl ?_; refine wl_nil ?_
    exact we_loop _ (tb.os.length - (k + 1)) ⟨k + 1, P2, cp2, rfl, by omega, by rw [htk]; simpa [txEls] using hs, rfl⟩ (by omega) ⟨rfl, rfl, rfl, rfl, rfl, by simp [lookT], trivial⟩
  obtain rfl : k = tb.os.length := by omega
  rw [List.take_of_length_le (by rw [names_len]; omega)] at hs
  refine wc_exit ?_; refine we_seq_exit ?_; refine we_loop_exit ?_; refine we_block_exit ?_; refine we_seq ?_; refine wc_seq ?_; refine wc_seq ?_
  have hcl : ∀ {w' : World} {H : List Cd} (j : Nat), St NoB w w' H → nthC H j = some (.blk g3 67 [.slice A tb.os.length c, .slice B tb.qu.length d]) → St NoB w w' [.blk g3 67 [.slice A tb.os.length c, .slice B tb.qu.length d]] := fun {w' H} j h hj => by
    obtain ⟨T, hT, hc, _⟩ := h.2.front hj
    exact ⟨h.1, T, hT, hc, trivial⟩
  refine wc_held (fun w' => St NoB w w' [.blk g3 67 [.slice A tb.os.length c, .slice B tb.qu.length d]]) mixed ?_
  replace hs := hs.below (Below.refl _ _).drew
  have hS := hcl 1 hs rfl
  apply wh_takeH 0; exact rfl; intro _ hw_; apply opv_move; exact rfl; exact rfl; kernel_rfl; exact hS; apply wh_takeH 2; exact rfl; intro _ hw_; apply opv_move; exact rfl; exact rfl; kernel_rfl; exact hS
  clear hS
  refine wh_one 1 (o := ⟨_, _, _, _, _, _⟩) (by kernel_rfl) rfl ?_
  refine wl_call ok_lock_Table_All (all_any (hT.below hs.bel) (by omega)) ⟨rfl, trivial⟩ rfl ?_
  rintro _ w2 ⟨P2, cp2, rfl, hsx⟩
  replace hs := hs.call hsx
  clear hsx
  dsimp only [List.cons_append, List.nil_append] at hs
  refine wl_nil ?_
  refine we_held (hcl 2 hs rfl) ?_
  refine wh_one 3 (o := ⟨_, _, _, _, _, _⟩) (by kernel_rfl) rfl ?_
  refine wl_call ok_caissonref16_SameTxns (sameTx_any (OwR.rd (hs.rg 0 rfl)) (OwR.rd (hs.rg 1 rfl)) rfl (names_len tb) (by rw [names_len]; omega)) ⟨rfl, rfl, trivial⟩ rfl ?_
  rintro _ w3 ⟨rfl, hbx⟩
  replace hs := (hs.below hbx).drop 0 rfl
  clear hbx
  dsimp only [delC] at hs
  rw [decide_eq_true (rfl : names tb = names tb)]
  refine wl_nil ?_
  have hS := hcl 1 hs rfl
  refine we_held hS ?_
  apply wh_takeH 4; exact rfl; intro _ hw_; apply opv_not; exact rfl; exact rfl; kernel_rfl; exact hS; apply wh_takeH 5; exact rfl; intro _ hw_; apply opv_move; exact rfl; exact rfl; kernel_rfl; exact hS; apply wh_takeGH 6; exact rfl; exact rfl; exact rfl; exact rfl; exact Bool.not_true; intro _ hw_; apply opv_move; exact rfl; exact rfl; kernel_rfl; exact hS; apply wh_takeGH 8; exact rfl; exact rfl; exact rfl; exact rfl; exact Bool.not_true; intro _ hw_; apply opv_fa; exact fa_WT1; exact rfl; exact rfl; kernel_rfl; exact hS; apply wh_takeGH 9; exact rfl; exact rfl; exact rfl; exact rfl; exact Bool.not_true; intro _ hw_; apply opv_ldX; exact rfl; exact hw_.ar 0 rfl; exact e1_txs; exact rfl; exact rfl; kernel_rfl; exact hS
  clear hS
  refine wh_one 7 (o := ⟨_, _, _, _, _, _⟩) (by kernel_rfl) rfl ?_
  apply wl_take; exact rfl; exact rfl; exact rfl; exact Bool.not_true
  refine wl_call ok_lock_Table_Queue (queue_any (hT.below hs.bel) hw (by omega)) ⟨rfl, trivial⟩ rfl ?_
  rintro _ w4 ⟨P3, cp3, rfl, hsx⟩
  replace hs := hs.call hsx
  clear hsx
  dsimp only [List.cons_append, List.nil_append] at hs
  refine wl_nil ?_
  refine we_held (hcl 2 hs rfl) ?_
  refine wh_one 10 (o := ⟨_, _, _, _, _, _⟩) (by kernel_rfl) rfl ?_
  apply wl_take; exact rfl; exact rfl; exact rfl; exact Bool.not_true
  refine wl_call ok_caissonref16_SameTxns (sameTx_any (OwR.rd (hs.rg 0 rfl)) (hR.2.2.below hs.bel) rfl rfl (by omega)) ⟨rfl, rfl, trivial⟩ rfl ?_
  rintro _ w5 ⟨rfl, hbx⟩
  replace hs := (hs.below hbx).drop 0 rfl
  clear hbx
  dsimp only [delC] at hs
  rw [decide_eq_true (rfl : tb.qu = tb.qu)]
  refine wl_nil ?_
  have hS := hcl 1 hs rfl
  refine we_held hS ?_
  apply wh_takeGH 11; exact rfl; exact rfl; exact rfl; exact rfl; exact Bool.not_true; intro _ hw_; apply opv_not; exact rfl; exact rfl; kernel_rfl; exact hS; apply wh_takeH 12; exact rfl; intro _ hw_; apply opv_pickF; exact rfl; exact Bool.not_true; exact rfl; exact rfl; kernel_rfl; exact hS
  clear hS
  refine wh_done (by kernel_rfl) ?_
  refine we_seq ?_; apply wc_condFb; exact rfl; exact Bool.not_true; refine wc_skip ?_; refine we_seq ?_; refine wc_seq ?_; refine wc_sr ?_; refine wl_mv rfl rfl ?_
  refine wl_val (opv_build (vs := [(0, .int .u64 99), (1, .int .u64 99)]) (cs := txV (99, 99)) ⟨rfl, rfl, rfl, rfl, trivial⟩ (by kernel_rfl)) rfl ?_
  refine ws_pushR (cs := txV (99, 99)) hs 0 (fun _ => rfl) rfl tkTx (by simp [names_len]) ⟨_, rfl, rfl⟩ rfl rfl (by decide) (by omega) (by simp only [maxLen]; omega) rfl rfl ?_
  clear hs; intro _ P4 cp4 w6 hs; dsimp only [setC] at hs
  have el : txEls (names tb) ++ [rawEl (txV (99, 99))] = txEls (names tb ++ [(99, 99)]) := by simp [txEls]
  rw [el] at hs
  have hll : (names tb ++ [(99, 99)]).length = tb.os.length + 1 := by rw [List.length_append, names_len]; rfl
  rw [← hll]
  obtain ⟨l, hl⟩ : ∃ q, names tb ++ [(99, 99)] = q := ⟨_, rfl⟩
  rw [hl] at hs hll
  rw [hl]
  clear hl el
  apply wl_val; apply opv_len; exact rfl; exact tkTx.sl; exact rfl; refine wl_mv rfl rfl ?_; refine wl_ns ?_; refine wc_block ?_
  refine wc_loop (fun L wr mm => ∃ (k : Nat), L = [(0, .pointer (some ⟨t, 0, none⟩)), (3, .pointer (some ⟨g3, 0, none⟩)), (39, .slice P4 l.length cp4), (40, .int .i64 (l.length : Int)), (41, .int .i64 (k : Int))] ∧ k ≤ l.length ∧ St NoB w wr [.rg 2 30 P4 cp4 (txEls l), .blk g3 67 [.slice A tb.os.length c, .slice B tb.qu.length d]] ∧ mm = l.length - k)
    [(0, .pointer (some ⟨t, 0, none⟩)), (3, .pointer (some ⟨g3, 0, none⟩)), (39, .slice P4 l.length cp4), (40, .int .i64 (l.length : Int)), (41, .int .i64 (0 : Nat))] l.length ⟨0, rfl, by omega, hs, rfl⟩ ⟨rfl, rfl, rfl, rfl, rfl, trivial⟩ ?_
  clear hs
  rintro _ w7 mm ⟨k, rfl, hk, hs, rfl⟩
  refine wc_sr ?_; refine wl_bin rfl rfl bin_lss rfl ?_; refine wl_ns ?_; refine wc_seq ?_
  refine wc_cond rfl (fun h2 => ?_) (fun h2 => ?_)
  · obtain ⟨x, hx⟩ : ∃ y, l[k]? = some y := ⟨_, List.getElem?_eq_getElem (by omega)⟩
    obtain ⟨bq, fq, cs, rfl, _, _, hp, i1⟩ := RdR.at (k := 2) (by decide) (OwR.rd (hs.rg 0 rfl)) (i := k) (E := rawEl (txV x)) (by rw [txEls, List.getElem?_map, hx]; rfl)
    obtain rfl : cs = txV x := hp
    refine wc_skip ?_; refine we_seq ?_; refine wc_seq ?_; refine wc_block ?_; refine wc_sr ?_; apply wl_val; apply opv_idxG tkTx; exact rfl; exact rfl; exact rfl; omega; exact rfl; apply wl_val; apply opv_ldG; exact rfl; assumption; exact sTx; exact rfl
    refine ws_var (cs := txV x) hs zeroTx sTx rfl (fun _ => rfl) (by first | rfl | simp [Value.oneCell']) rfl ?_; clear hs; intro g9 _ hs
    clear i1
    have hhl : (heldT tb x).length ≤ 4294967296 := by
      unfold heldT
      cases ho : ownO tb x with
      | none => exact Nat.zero_le _
      | some o => have := hhe o (ownO_some ho).1; dsimp only; omega
    have hhf : ∀ r ∈ heldT tb x, r.fr.length ≤ 1048576 ∧ r.to.length ≤ 1048576 := by
      unfold heldT
      cases ho : ownO tb x with
      | none => intro r hr; cases hr
      | some o => exact fun r hr => by have := hw.form o (ownO_some ho).1 r (.inl hr); unfold okR at this; omega
    have hfl := for_len hw x
    refine wl_ns ?_; refine wc_seq ?_
    refine wc_held (fun w' => Ar w' g9 30 (txV x) ∧ Ar w' g3 67 [.slice A tb.os.length c, .slice B tb.qu.length d]) mixed ?_
    replace hs := hs.below (Below.refl _ _).drew
    have hS := And.intro (hs.ar 0 rfl) (hs.ar 2 rfl)
    apply wh_takeH 0; exact rfl; intro _ hw_; apply opv_move; exact rfl; exact rfl; kernel_rfl; exact hS; apply wh_takeH 1; exact rfl; intro _ hw_; apply opv_loadX; exact rfl; exact hw_.1; exact sTx; exact rfl; kernel_rfl; exact hS; apply wh_takeH 3; exact rfl; intro _ hw_; apply opv_loadX; exact rfl; exact hw_.2; exact sWT; exact rfl; kernel_rfl; exact hS; apply wh_takeH 4; exact rfl; intro _ hw_; apply opv_loadX; exact rfl; exact hw_.1; exact sTx; exact rfl; kernel_rfl; exact hS
    clear hS
    refine wh_one 2 (o := ⟨_, _, _, _, _, _⟩) (by kernel_rfl) rfl ?_
    refine wl_call ok_lock_Table_Status (status_any (x := x) (hT.below hs.bel) hw (by omega) (by omega)) ⟨rfl, rfl, trivial⟩ rfl ?_
    rintro _ w8 ⟨rfl, hbx⟩
    replace hs := hs.below hbx
    clear hbx
    refine wl_nil ?_
    refine we_held (And.intro (hs.ar 0 rfl) (hs.ar 2 rfl)) ?_
    refine wh_one 5 (o := ⟨_, _, _, _, _, _⟩) (by kernel_rfl) rfl ?_
    refine wl_call ok_caissonref16_Status (rstat_any (x := x) (hR.below hs.bel) rfl rfl (by omega) (by omega)) ⟨rfl, rfl, trivial⟩ rfl ?_
    rintro _ w9 ⟨rfl, hbx⟩
    replace hs := hs.below hbx
    clear hbx
    refine wl_nil ?_
    have hS := And.intro (hs.ar 0 rfl) (hs.ar 2 rfl)
    refine we_held hS ?_
    apply wh_takeH 6; exact rfl; intro _ hw_; apply opv_bin; exact rfl; exact rfl; exact bin_neq; exact rfl; kernel_rfl; exact hS; apply wh_takeH 7; exact rfl; intro _ hw_; apply opv_move; exact rfl; exact rfl; kernel_rfl; exact hS; apply wh_takeGH 8; exact rfl; exact rfl; exact rfl; exact rfl; refine bF ?_; (with_reducible exact nne); intro _ hw_; apply opv_move; exact rfl; exact rfl; kernel_rfl; exact hS; apply wh_takeGH 9; exact rfl; exact rfl; exact rfl; exact rfl; refine bF ?_; (with_reducible exact nne); intro _ hw_; apply opv_loadX; exact rfl; exact hw_.1; exact sTx; exact rfl; kernel_rfl; exact hS; apply wh_takeGH 11; exact rfl; exact rfl; exact rfl; exact rfl; refine bF ?_; (with_reducible exact nne); intro _ hw_; apply opv_loadX; exact rfl; exact hw_.2; exact sWT; exact rfl; kernel_rfl; exact hS; apply wh_takeGH 12; exact rfl; exact rfl; exact rfl; exact rfl; refine bF ?_; (with_reducible exact nne); intro _ hw_; apply opv_loadX; exact rfl; exact hw_.1; exact sTx; exact rfl; kernel_rfl; exact hS
    clear hS
    refine wh_one 10 (o := ⟨_, _, _, _, _, _⟩) (by kernel_rfl) rfl ?_
    apply wl_take; exact rfl; exact rfl; exact rfl; refine bF ?_; (with_reducible exact nne)
    refine wl_call ok_lock_Table_Held (held_any (x := x) (hT.below hs.bel) hw (by omega) fun o ho => by have := hhe o ho; omega) ⟨rfl, rfl, trivial⟩ rfl ?_
    rintro _ w10 ⟨R1, c1, rfl, hsx⟩
    replace hs := hs.call hsx
    clear hsx
    dsimp only [List.cons_append, List.nil_append] at hs
    refine wl_nil ?_
    refine we_held (And.intro (hs.ar 1 rfl) (hs.ar 3 rfl)) ?_
    refine wh_one 13 (o := ⟨_, _, _, _, _, _⟩) (by kernel_rfl) rfl ?_
    apply wl_take; exact rfl; exact rfl; exact rfl; refine bF ?_; (with_reducible exact nne)
    refine wl_call ok_caissonref16_Held (rheld_any (x := x) (hR.below hs.bel) rfl hw.nd (by omega)) ⟨rfl, rfl, trivial⟩ rfl ?_
    rintro _ w11 ⟨R2, c2, rfl, hrw, hbx⟩
    have r2 := (hrw.rd (hb.trans (hs.bel.mono hb.size))).below hbx
    replace hs := hs.below hbx
    clear hbx hrw
    refine wl_nil ?_
    refine we_held (And.intro (hs.ar 1 rfl) (hs.ar 3 rfl)) ?_
    refine wh_one 14 (o := ⟨_, _, _, _, _, _⟩) (by kernel_rfl) rfl ?_
    apply wl_take; exact rfl; exact rfl; exact rfl; refine bF ?_; (with_reducible exact nne)
    refine wl_call ok_caissonref16_SameRanges (sameRg_any (OwR.rd (hs.rg 0 rfl)) r2 rfl rfl hhl hhf) ⟨rfl, rfl, trivial⟩ rfl ?_
    rintro _ w12 ⟨rfl, hbx⟩
    replace hs := (hs.below hbx).drop 0 rfl
    clear hbx r2
    dsimp only [delC] at hs
    rw [decide_eq_true (rfl : heldT tb x = heldT tb x)]
    refine wl_nil ?_
    have hS := And.intro (hs.ar 0 rfl) (hs.ar 2 rfl)
    refine we_held hS ?_
    apply wh_takeGH 15; exact rfl; exact rfl; exact rfl; exact rfl; refine bF ?_; (with_reducible exact nne); intro _ hw_; apply opv_not; exact rfl; exact rfl; kernel_rfl; exact hS; apply wh_takeH 16; exact rfl; intro _ hw_; apply opv_pickF; exact rfl; refine bF ?_; (with_reducible exact nne); exact rfl; exact rfl; kernel_rfl; exact hS; apply wh_takeH 17; exact rfl; intro _ hw_; apply opv_move; exact rfl; exact rfl; kernel_rfl; exact hS; apply wh_takeGH 18; exact rfl; exact rfl; exact rfl; exact rfl; exact Bool.not_true; intro _ hw_; apply opv_move; exact rfl; exact rfl; kernel_rfl; exact hS; apply wh_takeGH 19; exact rfl; exact rfl; exact rfl; exact rfl; exact Bool.not_true; intro _ hw_; apply opv_loadX; exact rfl; exact hw_.1; exact sTx; exact rfl; kernel_rfl; exact hS; apply wh_takeGH 21; exact rfl; exact rfl; exact rfl; exact rfl; exact Bool.not_true; intro _ hw_; apply opv_loadX; exact rfl; exact hw_.2; exact sWT; exact rfl; kernel_rfl; exact hS; apply wh_takeGH 22; exact rfl; exact rfl; exact rfl; exact rfl; exact Bool.not_true; intro _ hw_; apply opv_loadX; exact rfl; exact hw_.1; exact sTx; exact rfl; kernel_rfl; exact hS
    clear hS
    refine wh_one 20 (o := ⟨_, _, _, _, _, _⟩) (by kernel_rfl) rfl ?_
    apply wl_take; exact rfl; exact rfl; exact rfl; exact Bool.not_true
    refine wl_call ok_lock_Table_For (for_any (x := x) (hT.below hs.bel) hw hz) ⟨rfl, rfl, trivial⟩ rfl ?_
    rintro _ w13 ⟨R3, c3, rfl, hsx⟩
    replace hs := hs.call hsx
    clear hsx
    dsimp only [List.cons_append, List.nil_append] at hs
    refine wl_nil ?_
    refine we_held (And.intro (hs.ar 1 rfl) (hs.ar 3 rfl)) ?_
    refine wh_one 23 (o := ⟨_, _, _, _, _, _⟩) (by kernel_rfl) rfl ?_
    apply wl_take; exact rfl; exact rfl; exact rfl; exact Bool.not_true
    refine wl_call ok_caissonref16_For (rfor_any (x := x) (hR.below hs.bel) (hb.trans (hs.bel.mono hb.size)) rfl rfl hw hos hqu hhe) ⟨rfl, rfl, trivial⟩ rfl ?_
    rintro _ w14 ⟨R4, c4, rfl, hsx⟩
    replace hs := hs.call hsx
    clear hsx
    dsimp only [List.cons_append, List.nil_append] at hs
    refine wl_nil ?_
    refine we_held (And.intro (hs.ar 2 rfl) (hs.ar 4 rfl)) ?_
    refine wh_one 24 (o := ⟨_, _, _, _, _, _⟩) (by kernel_rfl) rfl ?_
    apply wl_take; exact rfl; exact rfl; exact rfl; exact Bool.not_true
    refine wl_call ok_caissonref16_SameTxns (sameTx_any (OwR.rd (hs.rg 1 rfl)) (OwR.rd (hs.rg 0 rfl)) rfl rfl (by omega)) ⟨rfl, rfl, trivial⟩ rfl ?_
    rintro _ w15 ⟨rfl, hbx⟩
    replace hs := ((hs.below hbx).drop 0 rfl).drop 0 rfl
    clear hbx
    dsimp only [delC] at hs
    rw [decide_eq_true (rfl : forT tb x = forT tb x)]
    refine wl_nil ?_
    have hS := And.intro (hs.ar 0 rfl) (hs.ar 2 rfl)
    refine we_held hS ?_
    apply wh_takeGH 25; exact rfl; exact rfl; exact rfl; exact rfl; exact Bool.not_true; intro _ hw_; apply opv_not; exact rfl; exact rfl; kernel_rfl; exact hS; apply wh_takeH 26; exact rfl; intro _ hw_; apply opv_pickF; exact rfl; exact Bool.not_true; exact rfl; exact rfl; kernel_rfl; exact hS
    clear hS
    refine wh_done (by kernel_rfl) ?_
    refine we_seq ?_; apply wc_condFb; exact rfl; exact Bool.not_true; refine wc_skip ?_; refine we_block_norm ?_; refine we_seq ?_; refine wc_region ?_; apply wl_val; apply opv_bin; exact rfl; exact rfl; exact bin_add64 (by omega); exact rfl; refine wl_mv rfl rfl ?_; refine wl_nil ?_
    exact we_loop _ (l.length - (k + 1)) ⟨k + 1, rfl, by omega, hs.drop 0 rfl, rfl⟩ (by omega) ⟨rfl, rfl, rfl, rfl, by simp [lookT], trivial⟩
  · obtain rfl : k = l.length := by omega
    refine wc_exit ?_; refine we_seq_exit ?_; refine we_loop_exit ?_; refine we_block_exit ?_; refine we_seq ?_; refine wc_sr ?_; refine wl_as rfl rfl ?_; refine wl_ns ?_; refine wc_ret ?_
    exact we_ret1 rfl rfl ⟨_, rfl, rfl, hs.bel⟩
end Go.Proofs.Ytmdbjeabifkimaa

/-
  Walk over the law LockCalls.
-/
namespace Go.Proofs.Ytmdbjeabifkimaa
open Go.RowKit

theorem ra_grp {w : World} : ∀ {es : List RgA} {S : BS}, Sat w (es.flatMap raM) S → Grp 3 w All ((es.map (·.x)).map rgEl) (es.map raV)
  | [], _, _ => Grp.nil _ _ _
  | a :: es, S, h => by
    rw [List.flatMap_cons] at h
    obtain ⟨T, hT, h1, h2⟩ := Sat.append h
    have hE : (Cd.ce (rgEl a.x) (raV a)).P w T := rgEl_of w T h1
    have h3 := ra_grp h2
    exact (Grp.one (El.mono hE fun _ _ _ => trivial) rfl).append h3
theorem rg_of {w : World} {T1 T2 : BS} {e : TypeId} {R : Option Addr} {rc : Nat} {es : List RgA} {l : List Rg} (hes : es.map (·.x) = l) (h1 : (Cd.rg 3 e R rc ((es.map raV).map rawEl)).P w T1) (h2 : (Cd.ck (packC (es.flatMap raM))).P w T2) : RdR 3 w All R (l.map rgEl) := by
  rw [← hes]
  exact rdr_of_raw (RdR.all (rg_rdS h1)) (ra_grp h2)
def raJ (a : RgA) : List Cd := [.ck (jk a.A a.x.fr.length a.c), .ck (jk a.B a.x.to.length a.d)]
theorem ra_jk {w : World} : ∀ {es : List RgA} {S : BS}, Sat w (es.flatMap raM) S → Sat w (es.flatMap raJ) S
  | [], _, _ => trivial
  | a :: es, S, ⟨T, hT, h1, U, hU, h2, h3⟩ => ⟨T, hT, jk_of h1, U, hU, jk_of h2, ra_jk h3⟩
theorem victs_len : ∀ {n : Nat} {t : Tb}, (victs n t).2.length ≤ n ∧ (victs n t).1.qu.length ≤ t.qu.length
  | 0, _ => ⟨Nat.le_refl _, Nat.le_refl _⟩
  | n + 1, t => by
    unfold victs
    cases victim t with
    | none => exact ⟨Nat.zero_le _, Nat.le_refl _⟩
    | some v =>
      have h := victs_len (n := n) (t := leaveT t v)
      have h2 : (leaveT t v).qu.length ≤ t.qu.length := List.length_filter_le _ _
      exact ⟨by dsimp only; rw [List.length_cons]; omega, Nat.le_trans h.2 h2⟩
theorem go_out (t : Tb) : (goT t).2.length ≤ t.qu.length := by
  have := fold_len (zs := t.qu) (r := (t, []))
  simp only [List.length_nil, Nat.zero_add] at this
  exact this
theorem ask_lens (tb : Tb) (x : Tx) (l : List Rg) : (askT tb x l).vi.length ≤ tb.qu.length + 2 ∧ (askT tb x l).gr.length ≤ tb.qu.length + 2 := by
  unfold askT
  split
  · exact ⟨Nat.zero_le _, Nat.zero_le _⟩
  · split
    · exact ⟨Nat.zero_le _, Nat.zero_le _⟩
    · split
      · exact ⟨Nat.zero_le _, Nat.zero_le _⟩
      · have h := victs_len (n := tb.qu.length + 2) (t := askQ tb x l)
        have h2 := go_out (victs (tb.qu.length + 2) (askQ tb x l)).1
        have h3 : (askQ tb x l).qu.length = tb.qu.length + 1 := by simp [askQ]
        exact ⟨h.1, by dsimp only; omega⟩
theorem St.roNil {M : BS} {w0 w wi : World} {H : List Cd} (hs : St M wi w H) : St M wi w (.ck (roK w0 [] none []) :: H) := St.pack (H1 := []) hs _ fun w S _ => ⟨RdR.nil none, Grp.nil _ _ _⟩
theorem St.rqNil {M : BS} {w wi : World} {H : List Cd} (hs : St M wi w H) : St M wi w (.ck (rqK none []) :: H) := St.pack (H1 := []) hs _ fun w S _ => RdR.nil none
theorem raw8' {k c j : Nat} {w : World} {e : TypeId} {A : Option Addr} {css : List (List Value)} {cs : List Value} (hk : 0 < k) (h : OwR k e w 0 All A c (css.map rawEl)) (hcs : css[j]? = some cs) : ∃ b o, A = some ⟨b, o, none⟩ ∧ Wi w b (o + j * k) cs := by
  obtain ⟨b, o, _, rfl, _, _, rfl, i0⟩ := RdR.at (k := k) hk (OwR.rd h) (E := rawEl cs) (i := j) (by rw [List.getElem?_map, hcs]; rfl)
  exact ⟨b, o, rfl, i0⟩
set_option maxRecDepth 8000 in
set_option maxHeartbeats 4000000 in
theorem calls16_any {A : Option Addr} {n c : Nat} {l : List Ac} {w : World} (hr : RdR 4 w All A (l.map acEl)) (hn : l.length = n) (hc : n ≤ c) (hx : ∀ a ∈ l, Tx64 a.x) (hl : sumB acB l ≤ 1048576) :
    CallsV Try.prog 8 #[.slice A n c] w fun v w' => v = .bool true ∧ Below w.heap.size w w' := by
  obtain ⟨hl1, hok1⟩ := acs_small hl
  have hs := St.init w
  refine calls_in (N := _) Try.func8 rfl Try.ntmps8 rfl ?_; show WC _ _ _ _ _ _
  refine wc_sr ?_; refine wl_as rfl rfl ?_; refine wl_ns ?_; refine wc_seq ?_; refine wc_sr ?_
  refine wl_call ok_caissonlaw16_awake (awake_any _) trivial rfl ?_; rintro _ _ ⟨rfl, hbx⟩; replace hs := hs.below hbx; try dsimp only [List.cons_append, List.nil_append, setC, delC] at hs
  apply wl_val; apply opv_not; exact rfl; exact rfl; refine wl_ns ?_; apply wc_condFb; exact rfl; exact Bool.not_true; refine wc_skip ?_; refine we_seq ?_; refine wc_sr ?_
  refine wl_val (opv_build (vs := []) (cs := zTb) trivial (by kernel_rfl)) rfl ?_
  refine ws_box (cs := zTb) hs rfl rfl ?_
  clear hs; intro t0 w1 hs
  replace hs := hs.lkNil
  refine wl_as rfl rfl ?_; refine wl_ns ?_; refine wc_sr ?_
  refine ws_new hs zeroWT rfl ?_; clear hs; intro g4 _ hs
  unfold zWT at hs
  replace hs := ((St.roNil (w0 := w) (St.rqNil hs)).front 2 rfl).front 3 rfl
  dsimp only [delC] at hs
  refine wl_ns ?_; refine wc_seq ?_; refine wc_sr ?_; refine wl_mv rfl rfl ?_
  refine wl_call ok_caissonlaw16_few (few_any (m := 40) hn hc) ⟨rfl, rfl, trivial⟩ rfl ?_; rintro _ _ ⟨rfl, rfl⟩
  have hr2 := take_rdA (m := 40) hr (by omega)
  have hok : ∀ a ∈ l.take 40, (a.l.length ≤ 1048576 ∧ ∀ x ∈ a.l, x.fr.length ≤ 1048576 ∧ x.to.length ≤ 1048576) ∧ Tx64 a.x := fun a ha => ⟨hok1 a (List.mem_of_mem_take ha), hx a (List.mem_of_mem_take ha)⟩
  have hlen : (l.take 40).length ≤ 40 := by rw [List.length_take]; omega
  have hlc : (l.take 40).length ≤ c := by rw [List.length_take]; omega
  obtain ⟨k, hk⟩ : ∃ q, l.take 40 = q := ⟨_, rfl⟩
  rw [hk] at hr2 hok hlen hlc
  rw [hk]
  clear hr hok1 hl hx
  apply wl_val; apply opv_len; exact rfl; exact tkAc.sl; exact rfl; refine wl_mv rfl rfl ?_; refine wl_ns ?_; refine wc_block ?_
  refine wc_loop (fun L wr mm => ∃ (i t : Nat) (gp : Tx → Nat) (tb : Tb) (css : List (List Value)) (RA : Option Addr) (ra : Nat) (RB : Option Addr) (rb : Nat), L = [(3, .pointer (some ⟨t, 0, none⟩)), (4, .pointer (some ⟨g4, 0, none⟩)), (25, .slice A k.length c), (26, .int .i64 (k.length : Int)), (27, .int .i64 (i : Int))] ∧ i ≤ k.length ∧ LkI tb ∧ LkS i tb ∧ (∀ y ∈ names tb, Tx64 y) ∧ tb.os.length ≤ ra ∧ St NoB w wr [.ck (lkC t gp tb), .blk g4 67 [.slice RA tb.os.length ra, .slice RB tb.qu.length rb], .ck (roK w css RA tb.os), .ck (rqK RB tb.qu)] ∧ mm = k.length - i)
    [(3, .pointer (some ⟨t0, 0, none⟩)), (4, .pointer (some ⟨g4, 0, none⟩)), (25, .slice A k.length c), (26, .int .i64 (k.length : Int)), (27, .int .i64 (0 : Nat))] k.length ⟨0, t0, _, ⟨[], []⟩, [], none, 0, none, 0, rfl, by omega, LkI.empty, LkS.empty, fun y hy => (by cases hy), Nat.le_refl _, hs, rfl⟩ ⟨rfl, rfl, rfl, rfl, rfl, trivial⟩ ?_
  clear hs
  rintro _ w2 mm ⟨i, t, gp, tb, css, RA, ra, RB, rb, rfl, hi, hI, hS0, h64, hra, hs, rfl⟩
  have hos := hS0.os
  have hz := (hS0.mono (show i ≤ 40 by omega)).sz (by decide)
  have hqu := hz.qu hI.wf
  refine wc_sr ?_; refine wl_bin rfl rfl bin_lss rfl ?_; refine wl_ns ?_; refine wc_seq ?_
  refine wc_cond rfl (fun h1 => ?_) (fun h1 => ?_)
  rotate_left
  · refine wc_exit ?_; refine we_seq_exit ?_; refine we_loop_exit ?_; refine we_block_exit ?_; refine we_seq ?_; refine wc_sr ?_; refine wl_as rfl rfl ?_; refine wl_ns ?_; refine wc_ret ?_
    exact we_ret1 rfl rfl ⟨_, rfl, rfl, hs.bel⟩
  obtain ⟨a, ha⟩ : ∃ a, k[i]? = some a := ⟨_, List.getElem?_eq_getElem (by omega)⟩
  obtain ⟨hoa, ha64⟩ := hok a (List.mem_of_getElem? ha)
  obtain ⟨bb, o, cs, rfl, _, _, hp, i1⟩ := RdR.at (k := 4) (by decide) hr2 (E := acEl a) (i := i) (by rw [List.getElem?_map, ha]; rfl)
  obtain ⟨X, cx, rfl, hxc, rx⟩ := acEl.rd hp
  replace i1 := i1.below hs.bel
  refine wc_skip ?_; refine we_seq ?_; refine wc_seq ?_; refine wc_block ?_; refine wc_sr ?_; apply wl_val; apply opv_idxG tkAc; exact rfl; exact rfl; exact rfl; omega; exact rfl; apply wl_val; apply opv_ldG; exact rfl; assumption; exact sAc; exact rfl
  refine ws_var (cs := acV a X cx) hs zeroAc sAc rfl (fun _ => rfl) (by first | rfl | simp [Value.oneCell']) rfl ?_; clear hs; intro g6 _ hs
  have i2 := ar_wiA (hs.ar 0 rfl)
  have hi2 : ∀ {w' : World} {H : List Cd} (j : Nat), St NoB w w' H → nthC H j = some (.blk g6 50 (acV a X cx)) → Wi w' g6 (0 + 1) (txV a.x) := fun {w' H} j h hj => ar_wiA (h.ar j hj)
  clear i1
  unfold acV at hs hi2
  refine wl_ns ?_; refine wc_seq ?_; refine wc_sr ?_; apply wl_val; apply opv_fa; exact fa_Ac0; exact rfl; exact rfl; apply wl_val; apply opv_ldX; exact rfl; exact hs.ar 0 rfl; exact e1_i64; exact rfl; exact rfl; refine wl_ns ?_; refine wc_block ?_; refine wc_sr ?_; refine wl_bin rfl rfl bin_eql rfl ?_; refine wl_as rfl rfl ?_; refine wl_ns ?_
  refine wc_cutE (fun L' w' => ∃ (t : Nat) (gp : Tx → Nat) (tb : Tb) (css : List (List Value)) (RA : Option Addr) (ra : Nat) (RB : Option Addr) (rb : Nat), L' = [(3, .pointer (some ⟨t, 0, none⟩)), (4, .pointer (some ⟨g4, 0, none⟩)), (25, .slice (some ⟨bb, o, none⟩) k.length c), (26, .int .i64 (k.length : Int)), (27, .int .i64 (i : Int))] ∧ LkI tb ∧ LkS (i + 1) tb ∧ (∀ y ∈ names tb, Tx64 y) ∧ tb.os.length ≤ ra ∧ St NoB w w' [.ck (lkC t gp tb), .blk g4 67 [.slice RA tb.os.length ra, .slice RB tb.qu.length rb], .ck (roK w css RA tb.os), .ck (rqK RB tb.qu)]) ?_ ?_
  · by_cases hk1 : a.k = 1
    · have hIa := hI.ask a.x a.l
      have hSa := hS0.ask a.x a.l
      have hna : ∀ y ∈ names (askT tb a.x a.l).t, Tx64 y := fun y hy => (ask_names hI a.x a.l y hy).elim (h64 y) fun e => e ▸ ha64
      have hal := ask_lens tb a.x a.l
      apply wc_decT; exact rfl; (with_reducible assumption); refine wc_sr ?_; apply wl_val; apply opv_fa; exact fa_Ac2; exact rfl; exact rfl; apply wl_val; apply opv_ldX; exact rfl; exact hs.ar 0 rfl; exact e1_rgs; exact rfl; exact rfl
      refine wl_call ok_caissonlaw16_twins (twinsLS_any (rx.below hs.bel) rfl (by omega) hoa.2) ⟨rfl, trivial⟩ rfl ?_
      rintro _ w3 ⟨R, rc, es, hes, rfl, hsx⟩
      replace hs := hs.call hsx
      clear hsx i2
      dsimp only [List.cons_append, List.nil_append] at hs
      have i2 := hi2 2 hs rfl
      refine wl_as rfl rfl ?_; refine wl_ns ?_; refine wc_sr ?_; refine wl_mv rfl rfl ?_; apply wl_val; apply opv_fa; exact fa_Ac1; exact rfl; exact rfl; apply wl_val; apply opv_ldG; exact rfl; assumption; exact sTx; exact rfl; refine wl_mv rfl rfl ?_
      obtain ⟨S2, hS2, _, _, hH, hB⟩ := St.lend (H1 := [.ck (lkC t gp tb)]) (H2 := [_, _, _, _, _, _]) (hs.front 3 rfl)
      refine wl_call ok_lock_Table_Ask (ask_any (x := a.x) (l := a.l) (n := a.l.length) hS2 (fun w' hm => ?_) rfl (by omega) hI.wf (by omega) fun o ho => by have := hS0.held o ho; omega) ⟨rfl, rfl, rfl, trivial⟩ rfl ?_
      · obtain ⟨T1, _, k1, T2, _, k2, _⟩ := hH w' hm
        exact rg_of hes k1 k2
      rintro _ w4 ⟨gp2, P, cp, Q, cq, rfl, hsx⟩
      replace hs := hB _ _ hsx
      clear hB hsx hS2 hH i2
      dsimp only [List.cons_append, List.nil_append, delC] at hs
      obtain ⟨r, hrd⟩ : ∃ q, askT tb a.x a.l = q := ⟨_, rfl⟩
      rw [hrd] at hs hIa hSa hna hal
      rw [hrd]
      have hsr := hSa.os
      refine wl_mv rfl rfl ?_; apply wl_val; apply opv_extract; exact rfl; exact rfl; exact rfl; apply wl_val; apply opv_extract; exact rfl; exact rfl; exact rfl
      refine ws_var (cs := rsV r.st P r.vi.length cp Q r.gr.length cq) hs zeroRs sRs rfl (fun _ => rfl) (by first | rfl | simp [Value.oneCell']) rfl ?_; clear hs; intro g8 _ hs
      unfold rsV at hs
      replace hs := St.pack (H1 := [_]) (hs.front 5 rfl) (.ck (packC (es.flatMap raJ))) fun w S ⟨T, hT, h, _⟩ => (ra_jk h).mono fun b _ k => hT b k
      replace hs := hs.front 5 rfl
      dsimp only [delC] at hs
      have hel : es.length = a.l.length := by rw [← hes, List.length_map]
      refine wl_as rfl rfl ?_; refine wl_ns ?_; refine wc_seq ?_; refine wc_sr ?_; refine wl_mv rfl rfl ?_; apply wl_val; apply opv_len; exact rfl; exact tkR.sl; exact rfl; refine wl_mv rfl rfl ?_; refine wl_ns ?_; refine wc_block ?_
      refine wc_loop (fun L wr mm => ∃ (j : Nat), L = [(3, .pointer (some ⟨t, 0, none⟩)), (4, .pointer (some ⟨g4, 0, none⟩)), (6, .pointer (some ⟨g6, 0, none⟩)), (7, .slice R a.l.length rc), (8, .pointer (some ⟨g8, 0, none⟩)), (9, .int .i64 (r.e : Int)), (25, .slice (some ⟨bb, o, none⟩) k.length c), (26, .int .i64 (k.length : Int)), (27, .int .i64 (i : Int)), (47, .int .i64 (a.l.length : Int)), (48, .int .i64 (j : Int))] ∧ j ≤ a.l.length ∧ St NoB w wr [.rg 3 61 R rc ((es.map raV).map rawEl), .ck (packC (es.flatMap raJ)), .blk g8 39 [.int .i64 (r.st : Int), .slice P r.vi.length cp, .slice Q r.gr.length cq], .rg 2 30 P cp (txEls r.vi), .rg 2 30 Q cq (txEls r.gr), .ck (lkC t gp2 r.t), .blk g6 50 [.int .i64 a.k, .int .u64 (a.x.1 : Int), .int .u64 (a.x.2 : Int), .slice X a.l.length cx], .blk g4 67 [.slice RA tb.os.length ra, .slice RB tb.qu.length rb], .ck (roK w css RA tb.os), .ck (rqK RB tb.qu)] ∧ mm = a.l.length - j)
        [(3, .pointer (some ⟨t, 0, none⟩)), (4, .pointer (some ⟨g4, 0, none⟩)), (6, .pointer (some ⟨g6, 0, none⟩)), (7, .slice R a.l.length rc), (8, .pointer (some ⟨g8, 0, none⟩)), (9, .int .i64 (r.e : Int)), (25, .slice (some ⟨bb, o, none⟩) k.length c), (26, .int .i64 (k.length : Int)), (27, .int .i64 (i : Int)), (47, .int .i64 (a.l.length : Int)), (48, .int .i64 (0 : Nat))] a.l.length ⟨0, rfl, by omega, hs, rfl⟩ ⟨rfl, rfl, rfl, rfl, rfl, rfl, rfl, rfl, rfl, rfl, rfl, trivial⟩ ?_
      clear hs
      rintro _ w5 mm ⟨j, rfl, hj, hs, rfl⟩
      have hja : ((a.l.length : Nat) : Int) = (a.l.length : Int) := rfl
      have hj48 := hoa.1
      refine wc_sr ?_; refine wl_bin rfl rfl bin_lss rfl ?_; refine wl_ns ?_; refine wc_seq ?_
      refine wc_cond rfl (fun h2 => ?_) (fun h2 => ?_)
      · obtain ⟨e, he⟩ : ∃ e, es[j]? = some e := ⟨_, List.getElem?_eq_getElem (by omega)⟩
        have hem := List.mem_of_getElem? he
        have hex := hoa.2 e.x (by rw [← hes]; exact List.mem_map_of_mem hem)
        have hrw : ∀ {w' : World} {H : List Cd} (q : Nat), St NoB w w' H → nthC H q = some (.rg 3 61 R rc ((es.map raV).map rawEl)) → ∃ b f, R = some ⟨b, f, none⟩ ∧ Wi w' b (f + j * 3) (raV e) := fun {w' H} q h hq => raw8' (k := 3) (css := es.map raV) (by decide) (h.rg q hq) (by rw [List.getElem?_map, he]; rfl)
        obtain ⟨b3, f3, rfl, i3⟩ := hrw 0 hs rfl
        unfold raV rgV at i3
        refine wc_skip ?_; refine we_seq ?_; refine wc_seq ?_; refine wc_block ?_; refine wc_sr ?_; refine wl_mv rfl rfl ?_; refine wl_as rfl rfl ?_; refine wl_ns ?_; refine wc_sr ?_; refine wl_mv rfl rfl ?_; refine wl_mv rfl rfl ?_; apply wl_val; apply opv_idxG tkR; exact rfl; exact rfl; exact rfl; omega; exact rfl; apply wl_val; apply opv_fa; exact fa_sR (by decide); exact rfl; exact rfl; apply wl_val; apply opv_ldW; exact rfl; assumption; exact e1_by; exact rfl; exact rfl
        obtain ⟨S2, hS2, _, _, _, hB⟩ := St.lend (H1 := [.ck (packC (es.flatMap raJ))]) (H2 := [_, _, _, _, _, _, _, _, _]) (hs.front 1 rfl)
        refine wl_call ok_caissonref01_Over (over_in (A := e.A) (n := e.x.fr.length) (c := e.c) hS2 (List.mem_flatMap.2 ⟨e, hem, by simp [raJ]⟩) (by omega)) ⟨rfl, trivial⟩ rfl ?_
        rintro _ w6 ⟨rfl, hsx⟩
        replace hs := (hB _ _ hsx).front 1 rfl
        clear hB hsx hS2 i3
        dsimp only [List.cons_append, List.nil_append, delC] at hs
        obtain ⟨_, _, hb3, i3⟩ := hrw 0 hs rfl
        cases hb3
        unfold raV rgV at i3
        refine wl_ns ?_; refine wc_region ?_; refine wl_mv rfl rfl ?_; refine wl_mv rfl rfl ?_; apply wl_val; apply opv_idxG tkR; exact rfl; exact rfl; exact rfl; omega; exact rfl; apply wl_val; apply opv_fa; exact fa_sR (by decide); exact rfl; exact rfl; apply wl_val; apply opv_ldW; exact rfl; assumption; exact e1_by; exact rfl; exact rfl
        obtain ⟨S2, hS2, _, _, _, hB⟩ := St.lend (H1 := [.ck (packC (es.flatMap raJ))]) (H2 := [_, _, _, _, _, _, _, _, _]) (hs.front 1 rfl)
        refine wl_call ok_caissonref01_Over (over_in (A := e.B) (n := e.x.to.length) (c := e.d) hS2 (List.mem_flatMap.2 ⟨e, hem, by simp [raJ]⟩) (by omega)) ⟨rfl, trivial⟩ rfl ?_
        rintro _ w7 ⟨rfl, hsx⟩
        replace hs := (hB _ _ hsx).front 1 rfl
        clear hB hsx hS2 i3
        dsimp only [List.cons_append, List.nil_append, delC] at hs
        refine wl_nil ?_; refine we_block_norm ?_; refine we_seq ?_; refine wc_region ?_; apply wl_val; apply opv_bin; exact rfl; exact rfl; exact bin_add64 (by omega); exact rfl; refine wl_mv rfl rfl ?_; refine wl_nil ?_
        exact we_loop _ (a.l.length - (j + 1)) ⟨j + 1, rfl, by omega, hs, rfl⟩ (by omega) ⟨rfl, rfl, rfl, rfl, rfl, rfl, rfl, rfl, rfl, rfl, by simp [lookT], trivial⟩
      · have i2 := hi2 6 hs rfl
        refine wc_exit ?_; refine we_seq_exit ?_; refine we_loop_exit ?_; refine we_block_exit ?_; refine we_seq ?_; refine wc_sr ?_; apply wl_val; apply opv_loadX; exact rfl; exact hs.ar 7 rfl; exact sWT; exact rfl; apply wl_val; apply opv_fa; exact fa_Ac1; exact rfl; exact rfl; apply wl_val; apply opv_ldG; exact rfl; assumption; exact sTx; exact rfl; apply wl_val; apply opv_fa; exact fa_Ac2; exact rfl; exact rfl; apply wl_val; apply opv_ldX; exact rfl; exact hs.ar 6 rfl; exact e1_rgs; exact rfl; exact rfl
        obtain ⟨S2, hS2, _, hM2, _, hB⟩ := St.lend (H1 := [.ck (roK w css RA tb.os), .ck (rqK RB tb.qu)]) (H2 := [_, _, _, _, _, _, _, _]) ((hs.front 9 rfl).front 9 rfl)
        refine wl_call ok_caissonref16_Ask (rask_any (x := a.x) (l := a.l) hS2 (fun w' hm => (hM2 w' hm).below) rfl rfl hra hI.wf rx rfl (by omega) (by omega) fun o ho => by have := hS0.held o ho; omega) ⟨rfl, rfl, rfl, trivial⟩ rfl ?_
        rw [hrd]
        rintro _ w6 ⟨P2, cp2, Q2, cq2, css2, A2, ra2, B2, rb2, rfl, hra2, hsx⟩
        replace hs := hB _ _ hsx
        clear hB hsx hS2 i2
        dsimp only [List.cons_append, List.nil_append, delC] at hs
        replace hs := (hs.drop 4 rfl).drop 4 rfl
        dsimp only [delC] at hs
        replace hs := ((((hs.front 9 rfl).front 8 rfl).front 6 rfl).front 7 rfl)
        dsimp only [delC] at hs
        refine wl_mv rfl rfl ?_; apply wl_val; apply opv_extract; exact rfl; exact rfl; exact rfl; apply wl_val; apply opv_extract; exact rfl; exact rfl; exact rfl; apply wl_val; apply opv_extract; exact rfl; exact rfl; exact rfl; apply wl_val; apply opv_extract; exact rfl; exact rfl; exact rfl; apply wl_val; apply opv_extract; exact rfl; exact rfl; exact rfl
        refine ws_var (cs := tvV A2 r.t.os.length ra2 B2 r.t.qu.length rb2) hs zeroWT sWT rfl (fun _ => rfl) (by first | rfl | simp [Value.oneCell']) rfl ?_; clear hs; intro g11 _ hs
        refine wl_as rfl rfl ?_; refine wl_as rfl rfl ?_; refine wl_as rfl rfl ?_; refine wl_as rfl rfl ?_; refine wl_ns ?_; refine wc_sr ?_; apply wl_val; apply opv_loadX; exact rfl; exact hs.ar 0 rfl; exact sWT; exact rfl; apply ws_stS hs 4; exact rfl; exact rfl; exact rfl; exact sWT; exact rfl; exact rfl; clear hs; intro _ hs; dsimp only [setC] at hs; refine wl_ns ?_; refine wc_sr ?_; refine wl_mv rfl rfl ?_; refine wl_mv rfl rfl ?_; refine wl_bin rfl rfl bin_neq rfl ?_; refine wl_mv rfl rfl ?_; apply wl_take; exact rfl; exact rfl; exact rfl; refine bF ?_; (with_reducible exact nne); apply wl_val; apply opv_fa; exact fa_Rs0; exact rfl; exact rfl; apply wl_take; exact rfl; exact rfl; exact rfl; refine bF ?_; (with_reducible exact nne); apply wl_val; apply opv_ldX; exact rfl; exact hs.ar 2 rfl; exact e1_i64; exact rfl; exact rfl; apply wl_take; exact rfl; exact rfl; exact rfl; refine bF ?_; (with_reducible exact nne); refine wl_mv rfl rfl ?_; apply wl_take; exact rfl; exact rfl; exact rfl; refine bF ?_; (with_reducible exact nne); refine wl_bin rfl rfl bin_neq rfl ?_; apply wl_val; apply opv_pickF; exact rfl; refine bF ?_; (with_reducible exact nne); exact rfl; exact rfl; refine wl_mv rfl rfl ?_; apply wl_take; exact rfl; exact rfl; exact rfl; refine bF ?_; (with_reducible exact nne); apply wl_val; apply opv_fa; exact fa_Rs1; exact rfl; exact rfl; apply wl_take; exact rfl; exact rfl; exact rfl; refine bF ?_; (with_reducible exact nne); apply wl_val; apply opv_ldX; exact rfl; exact hs.ar 2 rfl; exact e1_txs; exact rfl; exact rfl; apply wl_take; exact rfl; exact rfl; exact rfl; refine bF ?_; (with_reducible exact nne); refine wl_mv rfl rfl ?_; apply wl_take; exact rfl; exact rfl; exact rfl; refine bF ?_; (with_reducible exact nne)
        refine wl_call ok_caissonref16_SameTxns (sameTx_any (OwR.rd (hs.rg 1 rfl)) (OwR.rd (hs.rg 5 rfl)) rfl rfl (by omega)) ⟨rfl, rfl, trivial⟩ rfl ?_
        rintro _ w7 ⟨rfl, hbx⟩
        replace hs := hs.below hbx
        clear hbx
        rw [decide_eq_true (rfl : r.vi = r.vi)]
        apply wl_take; exact rfl; exact rfl; exact rfl; refine bF ?_; (with_reducible exact nne); apply wl_val; apply opv_not; exact rfl; exact rfl; apply wl_val; apply opv_pickF; exact rfl; refine bF ?_; (with_reducible exact nne); exact rfl; exact rfl; refine wl_mv rfl rfl ?_; apply wl_take; exact rfl; exact rfl; exact rfl; exact Bool.not_true; apply wl_val; apply opv_fa; exact fa_Rs2; exact rfl; exact rfl; apply wl_take; exact rfl; exact rfl; exact rfl; exact Bool.not_true; apply wl_val; apply opv_ldX; exact rfl; exact hs.ar 2 rfl; exact e1_txs; exact rfl; exact rfl; apply wl_take; exact rfl; exact rfl; exact rfl; exact Bool.not_true; refine wl_mv rfl rfl ?_; apply wl_take; exact rfl; exact rfl; exact rfl; exact Bool.not_true
        refine wl_call ok_caissonref16_SameTxns (sameTx_any (OwR.rd (hs.rg 9 rfl)) (OwR.rd (hs.rg 6 rfl)) rfl rfl (by omega)) ⟨rfl, rfl, trivial⟩ rfl ?_
        rintro _ w8 ⟨rfl, hbx⟩
        replace hs := hs.below hbx
        clear hbx
        rw [decide_eq_true (rfl : r.gr = r.gr)]
        apply wl_take; exact rfl; exact rfl; exact rfl; exact Bool.not_true; apply wl_val; apply opv_not; exact rfl; exact rfl; apply wl_val; apply opv_pickF; exact rfl; exact Bool.not_true; exact rfl; exact rfl; refine wl_ns ?_; apply wc_condFb; exact rfl; exact Bool.not_true; refine wc_skip ?_
        replace hs := ((((((hs.drop 10 rfl).drop 9 rfl).drop 6 rfl).drop 5 rfl).drop 2 rfl).drop 1 rfl).drop 0 rfl
        dsimp only [delC] at hs
        exact we_cut _ ⟨t, gp2, r.t, css2, A2, ra2, B2, rb2, rfl, hIa, hSa, hna, hra2, hs⟩ ⟨rfl, rfl, rfl, rfl, rfl, trivial⟩
    by_cases hk2 : a.k = 2
    · have hIr := hI.rel a.x
      have hSr := (hS0.rel a.x).mono (show i ≤ i + 1 by omega)
      have hrn := (rel_names hI.wf a.x).1
      have hnr : ∀ y ∈ names (relT tb a.x).1, Tx64 y := fun y hy => by rw [hrn] at hy; exact h64 y (List.mem_filter.1 hy).1
      have hrl := rel_len (tb := tb) a.x
      apply wc_decF; exact rfl; (with_reducible assumption); refine wc_sr ?_; refine wl_bin rfl rfl bin_eql rfl ?_; refine wl_as rfl rfl ?_; refine wl_ns ?_; apply wc_decT; exact rfl; (with_reducible assumption); refine wc_sr ?_; apply wl_val; apply opv_loadX; exact rfl; exact hs.ar 2 rfl; exact sWT; exact rfl; apply wl_val; apply opv_fa; exact fa_Ac1; exact rfl; exact rfl; apply wl_val; apply opv_ldG; exact rfl; assumption; exact sTx; exact rfl
      obtain ⟨S2, hS2, _, hM2, _, hB⟩ := St.lend (H1 := [.ck (roK w css RA tb.os), .ck (rqK RB tb.qu)]) (H2 := [_, _, _]) ((hs.front 4 rfl).front 4 rfl)
      refine wl_call ok_caissonref16_Release (rrel_any (x := a.x) hS2 (fun w' hm => (hM2 w' hm).below) rfl rfl hra hI.wf hz) ⟨rfl, rfl, trivial⟩ rfl ?_
      obtain ⟨⟨tr, gr⟩, hrd⟩ : ∃ q, relT tb a.x = q := ⟨_, rfl⟩
      rw [hrd] at hIr hSr hnr hrl
      rw [hrd]
      dsimp only at hIr hSr hnr hrl
      rintro _ w6 ⟨P2, cp2, css2, A2, ra2, B2, rb2, rfl, hra2, hsx⟩
      replace hs := hB _ _ hsx
      clear hB hsx hS2 i2
      dsimp only [List.cons_append, List.nil_append, delC] at hs hra2 ⊢
      refine wl_mv rfl rfl ?_; apply wl_val; apply opv_extract; exact rfl; exact rfl; exact rfl; apply wl_val; apply opv_extract; exact rfl; exact rfl; exact rfl
      refine ws_var (cs := tvV A2 tr.os.length ra2 B2 tr.qu.length rb2) hs zeroWT sWT rfl (fun _ => rfl) (by first | rfl | simp [Value.oneCell']) rfl ?_; clear hs; intro g16 _ hs
      have i2 := hi2 4 hs rfl
      refine wl_as rfl rfl ?_; refine wl_ns ?_; refine wc_sr ?_; apply wl_val; apply opv_loadX; exact rfl; exact hs.ar 0 rfl; exact sWT; exact rfl; apply ws_stS hs 6; exact rfl; exact rfl; exact rfl; exact sWT; exact rfl; exact rfl; clear hs; intro _ hs; dsimp only [setC] at hs; refine wl_ns ?_; refine wc_sr ?_; refine wl_mv rfl rfl ?_; apply wl_val; apply opv_fa; exact fa_Ac1; exact rfl; exact rfl
      have i2 := hi2 4 hs rfl
      apply wl_val; apply opv_ldG; exact rfl; assumption; exact sTx; exact rfl
      obtain ⟨S2, hS2, _, _, _, hB⟩ := St.lend (H1 := [.ck (lkC t gp tb)]) (H2 := [_, _, _, _, _, _]) (hs.front 5 rfl)
      refine wl_call ok_lock_Table_Release (release_any (x := a.x) hS2 hI.wf hz) ⟨rfl, rfl, trivial⟩ rfl ?_
      rw [hrd]
      rintro _ w7 ⟨P3, cp3, rfl, hsx⟩
      replace hs := hB _ _ hsx
      clear hB hsx hS2 i2
      dsimp only [List.cons_append, List.nil_append, delC] at hs ⊢
      refine wl_mv rfl rfl ?_
      refine wl_call ok_caissonref16_SameTxns (sameTx_any (OwR.rd (hs.rg 0 rfl)) (OwR.rd (hs.rg 3 rfl)) rfl rfl (by omega)) ⟨rfl, rfl, trivial⟩ rfl ?_
      rintro _ w8 ⟨rfl, hbx⟩
      replace hs := hs.below hbx
      clear hbx
      rw [decide_eq_true (rfl : gr = gr)]
      apply wl_val; apply opv_not; exact rfl; exact rfl; refine wl_ns ?_; apply wc_condFb; exact rfl; exact Bool.not_true; refine wc_skip ?_
      replace hs := (((((hs.drop 6 rfl).drop 3 rfl).drop 2 rfl).drop 0 rfl).front 3 rfl).front 1 rfl
      dsimp only [delC] at hs
      exact we_cut _ ⟨t, gp, tr, css2, A2, ra2, B2, rb2, rfl, hIr, hSr, hnr, hra2, hs⟩ ⟨rfl, rfl, rfl, rfl, rfl, trivial⟩
    by_cases hk3 : a.k = 3
    · have hS41 := hS0.mono (show i ≤ 41 by omega)
      have hok2 := enc_ok hI hS41 h64
      have hel := enc_len hS41 hok2 hqu
      have hdr := decT_enc hI.wf hok2 hqu
      apply wc_decF; exact rfl; (with_reducible assumption); refine wc_sr ?_; refine wl_bin rfl rfl bin_eql rfl ?_; refine wl_as rfl rfl ?_; refine wl_ns ?_; apply wc_decF; exact rfl; (with_reducible assumption); refine wc_sr ?_; refine wl_bin rfl rfl bin_eql rfl ?_; refine wl_as rfl rfl ?_; refine wl_ns ?_; apply wc_decT; exact rfl; (with_reducible assumption); refine wc_sr ?_; refine wl_mv rfl rfl ?_
      refine wl_call ok_lock_Table_Encode (encode_any (hs.rdT 1 rfl) hI.wf hok2 (by omega)) ⟨rfl, trivial⟩ rfl ?_
      rintro _ w3 ⟨E, ec, rfl, ho, hbx⟩
      have hE := OwB.rd ho
      have hec := OwB.cap ho
      replace hs := hs.newO hbx ho (Nat.le_refl _)
      clear hbx ho
      refine wl_call ok_lock_Decode (decode_any hE rfl hec hel) ⟨rfl, trivial⟩ rfl ?_
      rw [hdr]
      rintro _ w4 (⟨h, _⟩ | ⟨_, d, gp2, rfl, hsx⟩)
      · exact absurd rfl h
      replace hs := hs.call hsx
      clear hsx hE hec
      dsimp only [List.cons_append, List.nil_append] at hs
      unfold pN
      refine wl_mv rfl rfl ?_; apply wl_val; apply opv_extract; exact rfl; exact rfl; exact rfl; apply wl_val; apply opv_extract; exact rfl; exact rfl; exact rfl; refine wl_as rfl rfl ?_; refine wl_as rfl rfl ?_; refine wl_ns ?_; refine wc_seq ?_; refine wc_sr ?_; refine wl_mv rfl rfl ?_; refine wl_bin rfl rfl bin_neq rfl ?_; refine wl_mv rfl rfl ?_; apply wl_take; exact rfl; exact rfl; exact rfl; refine bF ?_; (with_reducible exact nne); refine wl_mv rfl rfl ?_; apply wl_take; exact rfl; exact rfl; exact rfl; refine bF ?_; (with_reducible exact nne); apply wl_val; apply opv_bin; exact rfl; exact rfl; exact bin_eqlPtrNil Try.underlying24; exact rfl; apply wl_val; apply opv_pickF; exact rfl; refine bF ?_; (with_reducible exact nne); exact rfl; exact rfl; refine wl_ns ?_; apply wc_condFb; exact rfl; exact rfl; refine wc_skip ?_; refine we_seq ?_; refine wc_region ?_; refine wl_mv rfl rfl ?_; refine wl_as rfl rfl ?_; refine wl_nil ?_
      replace hs := ((hs.drop 3 rfl).drop 2 rfl).drop 1 rfl
      dsimp only [delC] at hs
      exact we_cut _ ⟨d, gp2, tb, css, RA, ra, RB, rb, rfl, hI, hS0.mono (by omega), h64, hra, hs⟩ ⟨rfl, rfl, rfl, rfl, rfl, trivial⟩
    · apply wc_decF; exact rfl; (with_reducible assumption); refine wc_sr ?_; refine wl_bin rfl rfl bin_eql rfl ?_; refine wl_as rfl rfl ?_; refine wl_ns ?_; apply wc_decF; exact rfl; (with_reducible assumption); refine wc_sr ?_; refine wl_bin rfl rfl bin_eql rfl ?_; refine wl_as rfl rfl ?_; refine wl_ns ?_; apply wc_decF; exact rfl; (with_reducible assumption); refine wc_skip ?_
      exact we_cut _ ⟨t, gp, tb, css, RA, ra, RB, rb, rfl, hI, hS0.mono (by omega), h64, hra, hs.drop 0 rfl⟩ ⟨rfl, rfl, rfl, rfl, rfl, trivial⟩
  clear hs hI hS0 h64 hra hos hz hqu hi2 i2
  rintro _ w9 ⟨t, gp, tb, css, RA, ra, RB, rb, rfl, hI, hS, h64, hra, hs⟩
  have hz := (hS.mono (show i + 1 ≤ 41 by omega)).sz (by decide)
  refine we_block_norm ?_; refine we_seq ?_; refine wc_sr ?_; refine wl_mv rfl rfl ?_; apply wl_val; apply opv_loadX; exact rfl; exact hs.ar 1 rfl; exact sWT; exact rfl
  refine wl_call ok_caissonlaw16_same (same16_any (hs.rdT 0 rfl) ((hs.ro 2 rfl).rf (hs.rq 3 rfl)) hs.bel rfl rfl hI.wf hz) ⟨rfl, rfl, trivial⟩ rfl ?_
  rintro _ w10 ⟨rfl, hbx⟩
  replace hs := hs.below hbx
  clear hbx
  apply wl_val; apply opv_not; exact rfl; exact rfl; refine wl_ns ?_; apply wc_condFb; exact rfl; exact Bool.not_true; refine wc_skip ?_; refine we_block_norm ?_; refine we_seq ?_; refine wc_region ?_; apply wl_val; apply opv_bin; exact rfl; exact rfl; exact bin_add64 (by omega); exact rfl; refine wl_mv rfl rfl ?_; refine wl_nil ?_
  exact we_loop _ (k.length - (i + 1)) ⟨i + 1, t, gp, tb, css, RA, ra, RB, rb, rfl, by omega, hI, hS, h64, hra, hs, rfl⟩ (by omega) ⟨rfl, rfl, rfl, rfl, by simp [lookT], trivial⟩
end Go.Proofs.Ytmdbjeabifkimaa
