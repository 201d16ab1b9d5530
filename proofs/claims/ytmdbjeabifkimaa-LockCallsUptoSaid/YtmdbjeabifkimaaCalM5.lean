/-
  The texts of this proof, joined: Nq, Ns, Zd, Nt, Nu, Nv, Nw, Nx, Ny.
-/
import Derived.Test.YtmdbjeabifkimaaCalM4
import Derived.Test.YtmdbjeabifkimaaCalM2

/-
  Walk over Ask.
-/
namespace Go.Proofs.Ytmdbjeabifkimaa
open Go.RowKit

def rsV (st : Nat) (P : Option Addr) (p cp : Nat) (Q : Option Addr) (q cq : Nat) : List Value := [.int .i64 (st : Int), .slice P p cp, .slice Q q cq]
/-- What Ask hands back. -/
def RetAsk (t : Nat) (S : BS) (w : World) (r : AskR) (v : Value) (w' : World) : Prop := ∃ (gp : Tx → Nat) (P : Option Addr) (cp : Nat) (Q : Option Addr) (cq : Nat), v = .tuple #[.agg (rsV r.st P r.vi.length cp Q r.gr.length cq).toArray, .int .i64 (r.e : Int)] ∧ St S w w' [.rg 2 30 P cp (txEls r.vi), .rg 2 30 Q cq (txEls r.gr), .ck (lkC t gp r.t)]
/-- One's name's cells, in its owner. -/
theorem wi_own {w : World} {t : Nat} {gp : Tx → Nat} {tb : Tb} (hT : RdT w t gp tb) {x : Tx} (hx : x ∈ names tb) : Wi w (gp x) (0 + 0) (txV x) := by
  obtain ⟨o, ho, rfl⟩ := List.mem_map.1 hx
  obtain ⟨H, hc, K, kc, a1, _⟩ := hT.own o ho
  exact ar_wiO a1
theorem victs_names : ∀ {n : Nat} {tb : Tb}, Wf tb → names (victs n tb).1 = names tb
  | 0, _, _ => rfl
  | n + 1, tb, h => by
    unfold victs
    cases hv : victim tb with
    | none => rfl
    | some v => exact (victs_names (h.leave v)).trans (names_leave tb v)
theorem ask_any {S : BS} {t n c : Nat} {gp : Tx → Nat} {tb : Tb} {x : Tx} {l : List Rg} {A : Option Addr} {w : World} (h0 : Sat w [.ck (lkC t gp tb)] S) (hr : ∀ w', Mod S w w' → RdR 3 w' All A (l.map rgEl)) (hn : l.length = n) (hl : l.length ≤ 4294967296) (hw : Wf tb) (hos : tb.os.length + 1 ≤ 1048576) (hh : ∀ o ∈ tb.os, o.held.length + o.asks.length + 64 ≤ 1048576) :
    CallsV Try.prog 18 #[pN t, .agg (txV x).toArray, .slice A n c] w (RetAsk t S w (askT tb x l)) := by
  subst hn
  have hs := St.start h0
  have hz : Sz tb := ⟨by omega, fun o ho => by have := hh o ho; omega⟩
  have hqu := hz.qu hw
  unfold pN
  refine calls_in (N := _) Try.func18 rfl Try.ntmps18 rfl ?_; show WC _ _ _ _ _ _
  refine wc_sr ?_
  refine ws_box (cs := txV x) hs rfl rfl ?_; clear hs; intro g4 _ hs
  refine ws_new hs zeroRs rfl ?_; clear hs; intro g6 _ hs
  unfold zRs at hs
  refine wl_as rfl rfl ?_; refine wl_ns ?_; refine wc_seq ?_; refine wc_sr ?_; refine wl_mv rfl rfl ?_
  refine wl_call ok_lock_check (check_any (hr _ hs.1) rfl hl) ⟨rfl, trivial⟩ rfl ?_
  rintro _ w1 ⟨rfl, hbx⟩
  replace hs := hs.below hbx
  clear hbx
  by_cases hck : checkR l = 0
  case neg =>
    have hck' : ¬ ((checkR l : Nat) : Int) = 0 := by omega
    have ha : askT tb x l = ⟨tb, 0, [], [], checkR l⟩ := by rw [askT, if_pos hck]
    rw [ha]
    refine wl_as rfl rfl ?_; refine wl_ns ?_; refine wc_sr ?_; refine wl_mv rfl rfl ?_; refine wl_bin rfl rfl bin_neq rfl ?_; refine wl_ns ?_; apply wc_decT; exact rfl; (with_reducible assumption); refine wc_sr ?_
    refine wl_val (opv_build (vs := []) (cs := zRs) trivial (by kernel_rfl)) rfl ?_
    unfold zRs
    refine wl_mv rfl rfl ?_; apply ws_stS hs 0; exact rfl; exact rfl; exact rfl; exact sRs; exact rfl; exact rfl; clear hs; intro _ hs; dsimp only [setC] at hs; refine wl_as rfl rfl ?_; refine wl_ns ?_; refine wc_ret ?_; refine we_seq_ret ?_
    exact we_retC1 rfl rfl rfl (hs.ar 0 rfl) sRs ⟨_, rfl, gp, none, 0, none, 0, rfl, (((hs.drop 0 rfl).drop 0 rfl).nilG _ _).nilG _ _⟩
  have h64 := (checkR_ok hck).1
  rw [hck]
  refine wl_as rfl rfl ?_; refine wl_ns ?_; refine wc_sr ?_; refine wl_mv rfl rfl ?_; refine wl_bin rfl rfl bin_neq rfl ?_; refine wl_ns ?_; apply wc_condFb; exact rfl; exact rfl; refine wc_skip ?_; refine we_seq ?_; refine wc_sr ?_; refine wl_mv rfl rfl ?_; apply wl_val; apply opv_loadX; exact rfl; exact hs.ar 1 rfl; exact sTx; exact rfl
  refine wl_call ok_lock_Table_find (find_any (hs.rdT 2 rfl) (by omega)) ⟨rfl, rfl, trivial⟩ rfl ?_
  rintro _ w2 ⟨rfl, hbx⟩
  replace hs := hs.below hbx
  clear hbx
  refine wl_as rfl rfl (wl_nil (we_seq ?_))
  refine wc_cut (fun L' w' => L' = [(0, .pointer (some ⟨t, 0, none⟩)), (2, .slice A l.length c), (4, .pointer (some ⟨g4, 0, none⟩)), (6, .pointer (some ⟨g6, 0, none⟩)), (9, ptrO gp tb x)] ∧ w' = w2 ∧ x ∉ tb.qu) ?_ ?_
  · by_cases hxn : x ∈ names tb
    · rw [ptrO, if_pos hxn]
      unfold pN
      refine wc_sr ?_; refine wl_mv rfl rfl ?_; apply wl_val; apply opv_bin; exact rfl; exact rfl; exact bin_neqPtrNil tyPPO; exact rfl; refine wl_mv rfl rfl ?_; apply wl_take; exact rfl; exact rfl; exact rfl; exact rfl; refine wl_mv rfl rfl ?_; apply wl_take; exact rfl; exact rfl; exact rfl; exact rfl; refine wl_mv rfl rfl ?_; apply wl_take; exact rfl; exact rfl; exact rfl; exact rfl
      refine wl_call ok_lock_Table_waits (waits_any (hs.rdT 2 rfl) hw hxn (by omega)) ⟨rfl, rfl, trivial⟩ rfl ?_
      rintro _ w0 ⟨rfl, e0⟩
      obtain rfl : w2 = w0 := e0.symm
      by_cases hxq : x ∈ tb.qu
      · have ha : askT tb x l = ⟨tb, 0, [], [], 7⟩ := by rw [askT, if_neg (by omega), if_pos hxq]
        rw [ha]
        apply wl_val; apply opv_pickT; exact rfl; exact rfl; exact rfl; exact rfl; refine wl_ns ?_; apply wc_decT; exact rfl; (with_reducible assumption); refine wc_sr ?_
        refine wl_val (opv_build (vs := []) (cs := zRs) trivial (by kernel_rfl)) rfl ?_
        unfold zRs
        apply ws_stS hs 0; exact rfl; exact rfl; exact rfl; exact sRs; exact rfl; exact rfl; clear hs; intro _ hs; dsimp only [setC] at hs; refine wl_as rfl rfl ?_; refine wl_ns ?_; refine wc_ret ?_; refine we_cut_ret ?_
        exact we_retC1 rfl rfl rfl (hs.ar 0 rfl) sRs ⟨_, rfl, gp, none, 0, none, 0, rfl, (((hs.drop 0 rfl).drop 0 rfl).nilG _ _).nilG _ _⟩
      · apply wl_val; apply opv_pickT; exact rfl; exact rfl; exact rfl; exact rfl; refine wl_ns ?_; apply wc_decF; exact rfl; (with_reducible assumption); refine wc_skip ?_
        exact we_cut _ ⟨rfl, rfl, hxq⟩ ⟨rfl, rfl, rfl, rfl, rfl, trivial⟩
    · rw [ptrO, if_neg hxn]
      refine wc_sr ?_; refine wl_mv rfl rfl ?_; apply wl_val; apply opv_bin; exact rfl; exact rfl; exact bin_neqNilNil tyPPO; exact rfl; refine wl_mv rfl rfl ?_; apply wl_skip; exact rfl; exact rfl; exact rfl; exact bR2; exact rfl; apply wl_skip; exact rfl; exact rfl; exact rfl; exact bR2; exact rfl; apply wl_skip; exact rfl; exact rfl; exact rfl; exact bR2; exact rfl; apply wl_val; apply opv_pickF; exact rfl; exact rfl; exact rfl; exact rfl; refine wl_ns ?_; apply wc_condFb; exact rfl; exact rfl; refine wc_skip ?_
      exact we_cut _ ⟨rfl, rfl, fun h => hxn (hw.sub x h)⟩ ⟨rfl, rfl, rfl, rfl, rfl, trivial⟩
  rintro _ _ ⟨rfl, rfl, hxq⟩
  have hwA := hw.addO x
  have hwQ := hw.askQ hxq hck
  have hzQ := Sz.askQ (x := x) hw hos hh hxq hck
  refine wc_cut (fun L' w' => ∃ gp1 : Tx → Nat, L' = [(0, .pointer (some ⟨t, 0, none⟩)), (2, .slice A l.length c), (4, .pointer (some ⟨g4, 0, none⟩)), (6, .pointer (some ⟨g6, 0, none⟩)), (9, .pointer (some ⟨gp1 x, 0, none⟩))] ∧ St S w w' [.blk g6 39 zRs, .blk g4 30 (txV x), .ck (lkC t gp1 (addO tb x))]) ?_ ?_
  · by_cases hxn : x ∈ names tb
    · rw [ptrO, if_pos hxn]
      unfold pN
      refine wc_sr ?_; refine wl_mv rfl rfl ?_; apply wl_val; apply opv_bin; exact rfl; exact rfl; exact bin_eqlPtrNil Try.underlying75; exact rfl; refine wl_ns ?_; apply wc_condFb; exact rfl; exact rfl; refine wc_skip ?_
      exact we_cut _ ⟨gp, rfl, by rw [addO, if_pos hxn]; exact hs⟩ ⟨rfl, rfl, rfl, rfl, rfl, trivial⟩
    · rw [ptrO, if_neg hxn]
      refine wc_sr ?_; refine wl_mv rfl rfl ?_; apply wl_val; apply opv_bin; exact rfl; exact rfl; exact bin_eqlNilNil Try.underlying75; exact rfl; refine wl_ns ?_; apply wc_condTb; exact rfl; exact rfl; refine wc_sr ?_; apply wl_val; apply opv_loadX; exact rfl; exact hs.ar 1 rfl; exact sTx; exact rfl
      refine wl_val (opv_build (vs := [(0, .agg (txV x).toArray)]) (cs := owV ⟨x, [], []⟩ none 0 none 0) ⟨rfl, rfl, trivial⟩ (by kernel_rfl)) rfl ?_
      refine ws_box (cs := owV ⟨x, [], []⟩ none 0 none 0) hs rfl rfl ?_
      clear hs; intro gx w3 hs
      obtain ⟨QA, qc, QB, qd, hs⟩ := (hs.front 3 rfl).lk
      unfold lkQ at hs
      dsimp only [List.cons_append, List.nil_append, delC] at hs
      have hnl := names_len tb
      refine wl_as rfl rfl ?_; refine wl_ns ?_; refine wc_region ?_; refine wl_mv rfl rfl ?_; refine wl_mv rfl rfl ?_; apply wl_val; apply opv_nilOk; exact rfl; exact rfl; apply wl_val; apply opv_fa; exact fa_Tb0; exact rfl; exact rfl; apply wl_val; apply opv_ldX; exact rfl; exact hs.ar 0 rfl; exact e1_pos; exact rfl; exact rfl; refine wl_mv rfl rfl ?_
      refine ws_push (vs := [pN gx]) hs 1 rfl rfl tyPO ⟨rfl, rfl, rfl, trivial⟩ rfl (by decide) rfl (by omega) (by simp only [maxLen]; omega) rfl rfl ?_
      clear hs; intro _ A2 c2 w4 hs; dsimp only [setC] at hs
      apply wl_val; apply opv_nilOk; exact rfl; exact rfl; apply wl_val; apply opv_fa; exact fa_Tb0; exact rfl; exact rfl; apply ws_st hs 0; exact rfl; exact rfl; exact e1_pos; exact rfl; exact rfl; exact rfl; clear hs; intro _ hs; dsimp only [setC, List.set] at hs; refine wl_nil ?_
      obtain ⟨gp1, hgp⟩ : ∃ g : Tx → Nat, g = fun y => if y = x then gx else gp y := ⟨_, rfl⟩
      have hgx : gp1 x = gx := by rw [hgp]; exact if_pos rfl
      have hgo : ∀ y ∈ names tb, gp y = gp1 y := fun y hy => by rw [hgp]; exact (if_neg (show ¬ y = x from fun e => hxn (e ▸ hy))).symm
      have e1 : ptrs gp (names tb) = ptrs gp1 (names tb) := List.map_congr_left fun y hy => by rw [hgo y hy]
      have e2 : ptrs gp tb.qu = ptrs gp1 tb.qu := List.map_congr_left fun y hy => by rw [hgo y (hw.sub y hy)]
      have e3 : ownCs gp tb.os = ownCs gp1 (tb.os ++ []) := by
        rw [List.append_nil]
        exact List.map_congr_left fun o ho => by rw [hgo o.x (List.mem_map_of_mem ho)]
      rw [e1, e2, e3, ← hgx] at hs
      replace hs := ((((((hs.front 4 rfl).nilG 3 61).nilG 3 61).front 6 rfl).front 1 rfl).front 2 rfl).front 3 rfl
      dsimp only [delC] at hs
      have hs4 := (((St.ownB (gp := gp1) (pre := tb.os) (post := []) (o := ⟨x, [], []⟩) (Hh := none) (hc := 0) (K := none) (kc := 0) (H := [_, _, _, _, _]) hs).front 3 rfl).front 3 rfl).front 3 rfl
      have hos2 : (addO tb x).os = tb.os ++ [⟨x, [], []⟩] := by rw [addO, if_neg hxn]
      have hs5 := St.lkMk (gp := gp1) (tb := addO tb x) (H := [_, _]) hs4 (by rw [hos2]; simp) (by rw [addO_qu]) (by rw [names_addO, if_neg hxn]; simp [ptrs]) (by rw [addO_qu]) (by rw [hos2])
      refine we_cut _ ⟨gp1, rfl, (hs5.front 2 rfl).front 2 rfl⟩ ⟨rfl, rfl, rfl, rfl, by rw [hgx]; rfl, trivial⟩
  clear hs
  rintro _ w5 ⟨gp1, rfl, hs⟩
  obtain ⟨⟨ox, oh, oa⟩, ho, hox⟩ := List.mem_map.1 (addO_mem tb x)
  replace hox : ox = x := hox
  subst hox
  obtain ⟨pre, post, hpp⟩ := split_of ho
  obtain ⟨QA, qc, QB, qd, Hh, hc, K0, kc0, hs⟩ := (hs.front 2 rfl).goOut hpp
  have hasks : oa = [] := hwA.idle _ ho (by rw [addO_qu]; exact hxq)
  have hquA : (addO tb ox).qu.length = tb.qu.length := by rw [addO_qu]
  dsimp only [delC] at hs
  unfold owV at hs
  dsimp only at hs
  refine wc_sr ?_; refine wl_mv rfl rfl ?_; refine wl_mv rfl rfl ?_
  refine wl_call ok_lock_twins (twins_any (hr _ hs.1) rfl hl fun r hr => by have := (checkR_ok hck).2 r hr; unfold okR at this; omega) ⟨rfl, trivial⟩ rfl ?_
  rintro _ w6 ⟨K, kc, rfl, hsx⟩
  replace hs := hs.call hsx
  clear hsx
  dsimp only [List.cons_append, List.nil_append] at hs
  apply wl_val; apply opv_nilOk; exact rfl; exact rfl; apply wl_val; apply opv_fa; exact fa_O2; exact rfl; exact rfl; apply ws_st hs 3; exact rfl; exact rfl; exact e1_rgs; exact rfl; exact rfl; exact rfl; clear hs; intro _ hs; dsimp only [setC, List.set] at hs; refine wl_ns ?_; refine wc_sr ?_; refine wl_mv rfl rfl ?_; refine wl_mv rfl rfl ?_; apply wl_val; apply opv_nilOk; exact rfl; exact rfl; apply wl_val; apply opv_fa; exact fa_Tb1; exact rfl; exact rfl; apply wl_val; apply opv_ldX; exact rfl; exact hs.ar 4 rfl; exact e1_pos; exact rfl; exact rfl; refine wl_mv rfl rfl ?_
  refine ws_push (vs := [pN (gp1 ox)]) hs 5 rfl rfl tyPO ⟨rfl, rfl, rfl, trivial⟩ rfl (by decide) rfl (by omega) (by simp only [maxLen]; omega) rfl rfl ?_
  clear hs; intro _ B2 d2 w7 hs; dsimp only [setC] at hs
  apply wl_val; apply opv_nilOk; exact rfl; exact rfl; apply wl_val; apply opv_fa; exact fa_Tb1; exact rfl; exact rfl; apply ws_st hs 4; exact rfl; exact rfl; exact e1_pos; exact rfl; exact rfl; exact rfl; clear hs; intro _ hs; dsimp only [setC, List.set] at hs; refine wl_ns ?_; refine wc_seq ?_; refine wc_sr ?_; refine wl_mv rfl rfl ?_; refine wl_mv rfl rfl ?_
  replace hs := (((((((hs.drop 2 rfl).front 4 rfl).front 6 rfl).front 5 rfl).front 6 rfl).front 4 rfl).front 5 rfl).front 6 rfl
  dsimp only [delC] at hs
  have hosQ : (askQ tb ox l).os = pre ++ ⟨ox, oh, l⟩ :: post := map_one (tb := addO tb ox) hwA.nd hpp fun p => ⟨p.x, p.held, l⟩
  have hs4 := (((St.ownB (gp := gp1) (pre := pre) (post := post) (o := ⟨ox, oh, l⟩) (Hh := Hh) (hc := hc) (K := K) (kc := kc) (H := [_, _, _, _, _]) hs).front 3 rfl).front 3 rfl).front 3 rfl
  replace hs := St.lkMk (tb := askQ tb ox l) (H := [_, _]) hs4 (by rw [hosQ, hpp]; simp) (by rw [hquA]; simp [askQ]) (by rw [names_askQ]) (by show _ = ptrs gp1 (tb.qu ++ [ox]); rw [addO_qu]; simp [ptrs]) (by rw [hosQ])
  clear hs4
  have hoQm : (⟨ox, oh, l⟩ : Ownr) ∈ (askQ tb ox l).os := by rw [hosQ]; simp
  have hblk : blk (askQ tb ox l) ox = blockers (askQ tb ox l) ⟨ox, oh, l⟩ := blk_of hwQ.nd hoQm
  have hask : askT tb ox l = if (blockers (askQ tb ox l) ⟨ox, oh, l⟩).isEmpty then ⟨goOne (askQ tb ox l) ox, 1, [], [], 0⟩ else ⟨(goT (victs (tb.qu.length + 2) (askQ tb ox l)).1).1, if ox ∈ (goT (victs (tb.qu.length + 2) (askQ tb ox l)).1).2 then 1 else if ox ∈ (victs (tb.qu.length + 2) (askQ tb ox l)).2 then 3 else 2, (victs (tb.qu.length + 2) (askQ tb ox l)).2, (goT (victs (tb.qu.length + 2) (askQ tb ox l)).1).2, 0⟩ := by
    rw [askT, if_neg (by omega), if_neg hxq, hblk]
  have hquQ := hzQ.qu hwQ
  rw [hask]
  have hquq : (askQ tb ox l).qu.length = tb.qu.length + 1 := by simp [askQ]
  have hxQ : ox ∈ names (askQ tb ox l) := List.mem_map_of_mem (f := (·.x)) hoQm
  obtain ⟨tQ, htQ⟩ : ∃ q, askQ tb ox l = q := ⟨_, rfl⟩
  rw [htQ] at hs hwQ hzQ hosQ hoQm hquQ hquq hxQ
  rw [htQ]
  clear hask hblk htQ hpp hwA ho
  refine wl_call ok_lock_Table_blockers (blockers_any (o := ⟨ox, oh, l⟩) (hs.rdT 0 rfl) hwQ hoQm hzQ.os hquQ fun o ho => by have := hzQ.held o ho; omega) ⟨rfl, rfl, trivial⟩ rfl ?_
  rintro _ w8 ⟨R, cr, rfl, hsx⟩
  replace hs := (hs.call hsx).drop 0 rfl
  clear hsx
  dsimp only [List.cons_append, List.nil_append, delC] at hs
  have hbl : (bnames tQ ⟨ox, oh, l⟩).length = (blockers tQ ⟨ox, oh, l⟩).length := by rw [bnames, List.length_map]
  by_cases hz0 : (blockers tQ ⟨ox, oh, l⟩) = []
  · have h0' : ((bnames tQ ⟨ox, oh, l⟩).length : Int) = 0 := by rw [hbl, hz0]; rfl
    rw [hz0, if_pos (show ([] : List Ownr).isEmpty = true from rfl)]
    have hho := hzQ.held _ hoQm
    dsimp only at hho
    have hTk := hs.rdT 0 rfl
    obtain ⟨A3, c3, B3, d3, H3, hc3, K3, kc3, hs⟩ := hs.goOut hosQ
    unfold owV at hs
    dsimp only at hs
    apply wl_val; apply opv_len; exact rfl; exact tyPO.sl; exact rfl; refine wl_bin rfl rfl bin_eql rfl ?_; refine wl_ns ?_; apply wc_decT; exact rfl; (with_reducible assumption); refine wc_seq ?_
    refine wc_heldL (fun w => Ar w (gp1 ox) 82 [.int .u64 (ox.1 : Int), .int .u64 (ox.2 : Int), .slice H3 oh.length hc3, .slice K3 l.length kc3]) 10 mixed ?_
    replace hs := hs.below (Below.refl _ _).drew
    have hS := hs.ar 2 rfl
    apply wm_take 0; exact rfl; intro _ hw_; apply opv_move; exact rfl; exact rfl; kernel_rfl; exact hS; apply wm_take 1; exact rfl; intro _ hw_; apply opv_move; exact rfl; exact rfl; kernel_rfl; exact hS; apply wm_take 2; exact rfl; intro _ hw_; apply opv_nilOk; exact rfl; exact rfl; kernel_rfl; exact hS; apply wm_take 3; exact rfl; intro _ hw_; apply opv_fa; exact fa_O1; exact rfl; exact rfl; kernel_rfl; exact hS; apply wm_take 4; exact rfl; intro _ hw_; apply opv_ldX; exact rfl; assumption; exact e1_rgs; exact rfl; exact rfl; kernel_rfl; exact hS; apply wm_take 5; exact rfl; intro _ hw_; apply opv_move; exact rfl; exact rfl; kernel_rfl; exact hS; apply wm_take 6; exact rfl; intro _ hw_; apply opv_nilOk; exact rfl; exact rfl; kernel_rfl; exact hS; apply wm_take 7; exact rfl; intro _ hw_; apply opv_fa; exact fa_O2; exact rfl; exact rfl; kernel_rfl; exact hS; apply wm_take 8; exact rfl; intro _ hw_; apply opv_ldX; exact rfl; assumption; exact e1_rgs; exact rfl; exact rfl; kernel_rfl; exact hS
    refine wm_one 9 (by kernel_rfl) rfl ?_; dsimp only [List.getElem_toArray, List.getElem_cons_succ, List.getElem_cons_zero]
    refine ws_appG2 hs rfl tkR (by simp) rfl (by simp) (fun css w S h => rgR_one h) (by omega) (by simp only [maxLen]; omega) rfl ?_
    clear hs hS; intro H4 hc4 w9 hs
    refine wl_nil ?_
    refine we_heldM (fun _ => hs.ar 1 rfl) ?_
    refine wm_one 10 (by kernel_rfl) rfl ?_; dsimp only [List.getElem_toArray, List.getElem_cons_succ, List.getElem_cons_zero]
    apply wl_val; apply opv_nilOk; exact rfl; exact rfl; refine wl_nil ?_
    refine we_heldM (fun h => absurd h (by decide)) ?_
    refine wm_one 11 (by kernel_rfl) rfl ?_; dsimp only [List.getElem_toArray, List.getElem_cons_succ, List.getElem_cons_zero]
    apply wl_val; apply opv_fa; exact fa_O1; exact rfl; exact rfl; refine wl_nil ?_
    refine we_heldM (fun h => absurd h (by decide)) ?_
    refine wm_one 12 (by kernel_rfl) rfl ?_; dsimp only [List.getElem_toArray, List.getElem_cons_succ, List.getElem_cons_zero]
    apply ws_st hs 1; exact rfl; exact rfl; exact e1_rgs; exact rfl; exact rfl; exact rfl; clear hs; intro _ hs; dsimp only [setC, List.set] at hs; refine wl_nil ?_
    refine we_heldM (fun h => absurd h (by decide)) ?_
    refine wm_done (by kernel_rfl) ?_
    refine we_seq ?_; refine wc_sr ?_; refine wl_mv rfl rfl ?_; refine wl_mv rfl rfl ?_
    replace hs := ((hs.front 1 rfl).front 3 rfl).front 3 rfl
    dsimp only [delC] at hs
    have hblk : ∀ y ∈ tQ.qu, Blk _ (gp1 y) := fun y hy => by
      obtain ⟨p, hp, rfl⟩ := List.mem_map.1 (hwQ.sub y hy)
      rw [hosQ, List.mem_append, List.mem_cons] at hp
      rcases hp with hp | rfl | hp
      · exact hs.ownBlk 4 rfl p (List.mem_append_left _ hp)
      · exact ⟨_, _, hs.ar 2 rfl⟩
      · exact hs.ownBlk 4 rfl p (List.mem_append_right _ hp)
    obtain ⟨S2, hS2, _, _, _, hB⟩ := St.lend (H1 := [_, _, _]) (H2 := [_, _, _, _, _]) hs
    refine wl_call ok_lock_Table_leave (leave_low (q := tQ.qu) (x := ox) (m := (goOne tQ ox).qu.length) hS2 hblk (fun y hy e => hTk.inj y (hwQ.sub y hy) _ (List.mem_map_of_mem (f := (·.x)) hoQm) e) hwQ.qn rfl hquQ) ⟨rfl, rfl, trivial⟩ rfl ?_
    rintro _ w10 ⟨rfl, hsx⟩
    replace hs := hB _ _ hsx
    clear hB hsx hS2 hblk
    dsimp only [List.cons_append, List.nil_append] at hs
    replace hs := St.goIn (tb := tQ) (o := ⟨ox, oh, l⟩) hwQ hosQ rfl rfl hs
    dsimp only at hs
    unfold zRs at hs
    refine wl_ns ?_; refine wc_sr ?_
    refine wl_val (opv_build (vs := [(0, .int .i64 1)]) (cs := rsV 1 none 0 0 none 0 0) ⟨rfl, rfl, trivial⟩ (by kernel_rfl)) rfl ?_
    apply ws_stS hs 1; exact rfl; exact rfl; exact rfl; exact sRs; exact rfl; exact rfl; clear hs; intro _ hs; dsimp only [setC] at hs; refine wl_as rfl rfl ?_; refine wl_ns ?_; refine wc_ret ?_; refine we_seq_ret ?_
    exact we_retC1 rfl rfl rfl (hs.ar 1 rfl) sRs ⟨_, rfl, gp1, none, 0, none, 0, rfl, (((hs.drop 1 rfl).drop 1 rfl).nilG _ _).nilG _ _⟩
  have h0' : ¬ ((bnames tQ ⟨ox, oh, l⟩).length : Int) = 0 := by
    have := List.length_pos_iff.2 hz0
    omega
  have hz1 : ¬ (blockers tQ ⟨ox, oh, l⟩).isEmpty = true := fun h => hz0 (List.isEmpty_iff.1 h)
  rw [if_neg hz1]
  unfold zRs at hs
  apply wl_val; apply opv_len; exact rfl; exact tyPO.sl; exact rfl; refine wl_bin rfl rfl bin_eql rfl ?_; refine wl_ns ?_; apply wc_decF; exact rfl; (with_reducible assumption); refine wc_skip ?_; refine we_seq ?_; refine wc_sr ?_
  refine wl_val (opv_build (vs := [(0, .int .i64 2)]) (cs := rsV 2 none 0 0 none 0 0) ⟨rfl, rfl, trivial⟩ (by kernel_rfl)) rfl ?_
  refine ws_var (cs := rsV 2 none 0 0 none 0 0) hs zeroRs sRs rfl (fun _ => rfl) (by first | rfl | simp [Value.oneCell']) rfl ?_; clear hs; intro g10 _ hs
  refine wl_ns ?_; refine wc_seq ?_; refine wc_sr ?_; refine wl_mv rfl rfl ?_
  refine wl_call ok_lock_Table_victim (victim_any (hs.rdT 1 rfl) hwQ hzQ) ⟨rfl, trivial⟩ rfl ?_
  rintro _ w10 ⟨rfl, hbx⟩
  replace hs := ((hs.below hbx).nilG 2 30).front 1 rfl
  clear hbx hr hosQ hoQm hz0 hz1 hbl h0'
  dsimp only [delC] at hs
  refine wl_as rfl rfl ?_; refine wl_ns ?_; refine wc_block ?_
  refine wc_loop (fun L wr mm => ∃ (m st : Nat) (tk : Tb) (vs : List Tx) (P : Option Addr) (cp : Nat), L = [(0, .pointer (some ⟨t, 0, none⟩)), (4, .pointer (some ⟨g4, 0, none⟩)), (6, .pointer (some ⟨g6, 0, none⟩)), (9, .pointer (some ⟨gp1 ox, 0, none⟩)), (10, .pointer (some ⟨g10, 0, none⟩)), (11, vicV gp1 tk)] ∧ victs (tb.qu.length + 2) tQ = ((victs m tk).1, vs ++ (victs m tk).2) ∧ tk.qu.length < m ∧ Wf tk ∧ Sz tk ∧ names tk = names tQ ∧ st = (if ox ∈ vs then 3 else 2) ∧ vs.length + m ≤ tb.qu.length + 2 ∧ St S w wr [.blk g10 39 (rsV st P vs.length cp none 0 0), .rg 2 30 P cp (txEls vs), .ck (lkC t gp1 tk), .blk g6 39 [.int .i64 0, .slice none 0 0, .slice none 0 0], .blk g4 30 (txV ox)] ∧ mm = m)
    [(0, .pointer (some ⟨t, 0, none⟩)), (4, .pointer (some ⟨g4, 0, none⟩)), (6, .pointer (some ⟨g6, 0, none⟩)), (9, .pointer (some ⟨gp1 ox, 0, none⟩)), (10, .pointer (some ⟨g10, 0, none⟩)), (11, vicV gp1 tQ)] (tb.qu.length + 2) ⟨tb.qu.length + 2, 2, tQ, [], none, 0, rfl, by simp, by omega, hwQ, hzQ, rfl, rfl, by simp, hs, rfl⟩ ⟨rfl, rfl, rfl, rfl, rfl, rfl, trivial⟩ ?_
  clear hs
  rintro _ w11 mm ⟨m, st, tk, vs, P, cp, rfl, hvs, hlt, hwk, hzk, hnk, hst, hvl, hs, rfl⟩
  obtain ⟨m, rfl⟩ : ∃ m', mm = m' + 1 := ⟨mm - 1, by omega⟩
  cases hv : victim tk with
  | some v =>
    have hvq := circ_qu (victim_some hv)
    have hvn := hwk.sub v hvq
    have hvt : victs (m + 1) tk = ((victs m (leaveT tk v)).1, v :: (victs m (leaveT tk v)).2) := by rw [victs, hv]
    have hqlt := len_unq hvq
    have e : vicV gp1 tk = .pointer (some ⟨gp1 v, 0, none⟩) := by rw [vicV, hv]; rfl
    rw [e]
    refine wc_seq ?_; refine wc_sr ?_; refine wl_mv rfl rfl ?_; apply wl_val; apply opv_bin; exact rfl; exact rfl; exact bin_neqPtrNil tyPPO; exact rfl; refine wl_ns ?_; apply wc_condTb; exact rfl; exact rfl; refine wc_skip ?_; refine we_seq ?_; refine wc_seq ?_; refine wc_block ?_; refine wc_sr ?_; refine wl_mv rfl rfl ?_; refine wl_mv rfl rfl ?_
    obtain ⟨S2, hS2, _, _, _, hB⟩ := St.lend (H1 := [.ck (lkC t gp1 tk)]) (H2 := [_, _, _, _]) (hs.front 2 rfl)
    refine wl_call ok_lock_Table_leave (leave_any hS2 hwk hzk hvn) ⟨rfl, rfl, trivial⟩ rfl ?_
    rintro _ w12 ⟨rfl, hsx⟩
    replace hs := hB _ _ hsx
    clear hB hsx hS2
    dsimp only [List.cons_append, List.nil_append] at hs
    have hwl := hwk.leave v
    have hzl := hzk.leave v
    have hnl : names (leaveT tk v) = names tk := names_leave tk v
    unfold rsV at hs
    refine wl_ns ?_; refine wc_seq ?_
    refine wc_heldL (fun w => Ar w g10 39 [.int .i64 (st : Int), .slice P vs.length cp, .slice none 0 0] ∧ Wi w (gp1 v) (0 + 0) (txV v)) 8 mixed ?_
    replace hs := hs.below (Below.refl _ _).drew
    have hS : ∀ {w' : World} {H : List Cd} (k1 k2 : Nat), St S w w' H → nthC H k1 = some (.blk g10 39 [.int .i64 (st : Int), .slice P vs.length cp, .slice none 0 0]) → nthC H k2 = some (.ck (lkC t gp1 (leaveT tk v))) → Ar w' g10 39 [.int .i64 (st : Int), .slice P vs.length cp, .slice none 0 0] ∧ Wi w' (gp1 v) (0 + 0) (txV v) := fun k1 k2 hs h1 h2 => ⟨hs.ar k1 h1, wi_own (hs.rdT k2 h2) (by rw [hnl]; exact hvn)⟩
    have hS0 := hS 1 0 hs rfl rfl
    apply wm_take 0; exact rfl; intro _ hw_; apply opv_fa; exact fa_Rs1; exact rfl; exact rfl; kernel_rfl; exact hS0; apply wm_take 1; exact rfl; intro _ hw_; apply opv_ldX; exact rfl; exact hw_.1; exact e1_txs; exact rfl; exact rfl; kernel_rfl; exact hS0; apply wm_take 2; exact rfl; intro _ hw_; apply opv_move; exact rfl; exact rfl; kernel_rfl; exact hS0; apply wm_take 3; exact rfl; intro _ hw_; apply opv_nilOk; exact rfl; exact rfl; kernel_rfl; exact hS0; apply wm_take 4; exact rfl; intro _ hw_; apply opv_fa; exact fa_O0; exact rfl; exact rfl; kernel_rfl; exact hS0; apply wm_take 5; exact rfl; intro _ hw_; apply opv_ldG; exact rfl; exact hw_.2; exact sTx; exact rfl; kernel_rfl; exact hS0
    clear hS0
    refine wm_one 6 (by kernel_rfl) rfl ?_; dsimp only [List.getElem_toArray, List.getElem_cons_succ, List.getElem_cons_zero]
    refine wl_bsG (css := [txV v]) tkTx ⟨rfl, ⟨_, rfl, rfl⟩, rfl, trivial⟩ (els := [txV v].map rawEl) (S := NoB) rfl (by decide) (by decide) (grp_raw (by simp [txV])) rfl fun R w13 hR hbx _ => ?_
    replace hs := hs.newG hbx hR (Nat.le_refl _) fun _ _ h => h.elim
    clear hR hbx
    refine wl_nil ?_
    refine we_heldM (fun _ => hS 2 1 hs rfl rfl) ?_
    refine wm_one 7 (by kernel_rfl) rfl ?_; dsimp only [List.getElem_toArray, List.getElem_cons_succ, List.getElem_cons_zero]
    refine ws_appR (css := [txV v]) (m := 1) hs 3 rfl rfl tkTx (by simp) rfl (OwR.rd (hs.rg 0 rfl)) rfl (by simp [txV, Value.oneCell']) (by omega) (by simp only [maxLen]; omega) rfl ?_
    clear hs; intro P2 cp2 w14 hs; dsimp only [setC] at hs
    replace hs := (hs.drop 0 rfl).front 1 rfl
    dsimp only [delC] at hs
    refine wl_nil ?_
    refine we_heldM (fun _ => hS 0 1 hs rfl rfl) ?_
    refine wm_one 8 (by kernel_rfl) rfl ?_; dsimp only [List.getElem_toArray, List.getElem_cons_succ, List.getElem_cons_zero]
    apply wl_val; apply opv_fa; exact fa_Rs1; exact rfl; exact rfl; refine wl_nil ?_
    refine we_heldM (fun h => absurd h (by decide)) ?_
    refine wm_one 9 (by kernel_rfl) rfl ?_; dsimp only [List.getElem_toArray, List.getElem_cons_succ, List.getElem_cons_zero]
    apply ws_st hs 0; exact rfl; exact rfl; exact e1_txs; exact rfl; exact rfl; exact rfl; clear hs; intro _ hs; dsimp only [setC, List.set] at hs; refine wl_nil ?_
    refine we_heldM (fun h => absurd h (by decide)) ?_
    refine wm_done (by kernel_rfl) ?_
    clear hS
    have e1 : txEls vs ++ List.map rawEl [txV v] = txEls (vs ++ [v]) := by simp [txEls]
    rw [e1] at hs
    have hTl := hs.rdT 1 rfl
    obtain ⟨T1, cs1, av⟩ := hTl.blk (x := v) (by rw [hnl]; exact hvn)
    obtain ⟨T2, cs2, ax⟩ := hTl.blk (x := ox) (by rw [hnl, hnk]; exact hxQ)
    refine we_seq ?_; refine wc_sr ?_; refine wl_mv rfl rfl ?_; refine wl_mv rfl rfl ?_
    refine wl_val (opv_eqPP rfl rfl av ax) rfl ?_
    have hnl2 : names (leaveT tk v) = names tQ := hnl.trans hnk
    have hvs2 : victs (tb.qu.length + 2) tQ = ((victs m (leaveT tk v)).1, (vs ++ [v]) ++ (victs m (leaveT tk v)).2) := by rw [hvs, hvt]; simp
    have hql2 : (leaveT tk v).qu.length < m := by rw [qu_leave]; omega
    by_cases hvo : v = ox
    · have hg : gp1 v = gp1 ox := by rw [hvo]
      have hmem : (if ox ∈ vs ++ [v] then 3 else 2) = 3 := by simp [hvo]
      refine wl_ns ?_; apply wc_decT; exact rfl; (with_reducible assumption); refine wc_region ?_; apply wl_val; apply opv_fa; exact fa_Rs0; exact rfl; exact rfl; apply ws_st hs 0; exact rfl; exact rfl; exact e1_i64; exact rfl; exact rfl; exact rfl; clear hs; intro _ hs; dsimp only [setC, List.set] at hs; refine wl_nil ?_; refine we_block_norm ?_; refine we_seq ?_; refine wc_region ?_; refine wl_mv rfl rfl ?_
      refine wl_call ok_lock_Table_victim (victim_any (hs.rdT 1 rfl) hwl hzl) ⟨rfl, trivial⟩ rfl ?_
      rintro _ w15 ⟨rfl, hbx⟩
      replace hs := ((hs.below hbx).front 2 rfl).front 1 rfl
      clear hbx
      dsimp only [delC] at hs
      refine wl_as rfl rfl ?_; refine wl_nil ?_
      exact we_loop _ m ⟨m, 3, leaveT tk v, vs ++ [v], P2, cp2, rfl, hvs2, hql2, hwl, hzl, hnl2, hmem.symm, by simp; omega, by rw [List.length_append]; exact hs, rfl⟩ (by omega) ⟨rfl, rfl, rfl, rfl, rfl, rfl, trivial⟩
    · have hg : ¬ gp1 v = gp1 ox := fun e => hvo (hTl.inj _ (by rw [hnl]; exact hvn) _ (by rw [hnl2]; exact hxQ) e)
      have hmem : (if ox ∈ vs ++ [v] then 3 else 2) = st := by
        rw [hst]
        have : (ox ∈ vs ++ [v]) = (ox ∈ vs) := by simp [show ¬ ox = v from fun e => hvo e.symm]
        simp only [this]
      refine wl_ns ?_; apply wc_decF; exact rfl; (with_reducible assumption); refine wc_skip ?_; refine we_block_norm ?_; refine we_seq ?_; refine wc_region ?_; refine wl_mv rfl rfl ?_
      refine wl_call ok_lock_Table_victim (victim_any (hs.rdT 1 rfl) hwl hzl) ⟨rfl, trivial⟩ rfl ?_
      rintro _ w15 ⟨rfl, hbx⟩
      replace hs := ((hs.below hbx).front 2 rfl).front 1 rfl
      clear hbx
      dsimp only [delC] at hs
      refine wl_as rfl rfl ?_; refine wl_nil ?_
      exact we_loop _ m ⟨m, st, leaveT tk v, vs ++ [v], P2, cp2, rfl, hvs2, hql2, hwl, hzl, hnl2, hmem.symm, by simp; omega, by rw [List.length_append]; exact hs, rfl⟩ (by omega) ⟨rfl, rfl, rfl, rfl, rfl, rfl, trivial⟩
  | none =>
    have e : vicV gp1 tk = .pointer none := by rw [vicV, hv]
    rw [e]
    have hvt : victs (m + 1) tk = (tk, []) := by rw [victs, hv]
    rw [hvt, List.append_nil] at hvs
    rw [hvs]
    dsimp only
    refine wc_seq ?_; refine wc_sr ?_; refine wl_mv rfl rfl ?_; apply wl_val; apply opv_bin; exact rfl; exact rfl; exact bin_neqNilNil tyPPO; exact rfl; refine wl_ns ?_; apply wc_condFb; exact rfl; exact rfl; refine wc_exit ?_; refine we_seq_exit ?_; refine we_loop_exit ?_; refine we_block_exit ?_; refine we_seq ?_; refine wc_sr ?_; refine wl_mv rfl rfl ?_
    obtain ⟨S2, hS2, _, _, _, hB⟩ := St.lend (H1 := [.ck (lkC t gp1 tk)]) (H2 := [_, _, _, _]) (hs.front 2 rfl)
    refine wl_call ok_lock_Table_advance (advance_any hS2 hwk hzk) ⟨rfl, trivial⟩ rfl ?_
    rintro _ w12 ⟨Q, cq, rfl, hsx⟩
    replace hs := (hB _ _ hsx).front 5 rfl
    clear hB hsx hS2
    dsimp only [List.cons_append, List.nil_append, delC] at hs
    have hgl : (goT tk).2.length ≤ 4294967296 := by
      have := goFold_len (l := tk.qu) (r := (tk, []))
      have := hzk.qu hwk
      simp only [List.length_nil] at *
      unfold goT; omega
    unfold rsV at hs
    apply wl_val; apply opv_fa; exact fa_Rs2; exact rfl; exact rfl; apply ws_st hs 3; exact rfl; exact rfl; exact e1_txs; exact rfl; exact rfl; exact rfl; clear hs; intro _ hs; dsimp only [setC, List.set] at hs; refine wl_ns ?_; refine wc_seq ?_; refine wc_sr ?_; apply wl_val; apply opv_fa; exact fa_Rs2; exact rfl; exact rfl; apply wl_val; apply opv_ldX; exact rfl; exact hs.ar 3 rfl; exact e1_txs; exact rfl; exact rfl; apply wl_val; apply opv_loadX; exact rfl; exact hs.ar 0 rfl; exact sTx; exact rfl
    refine wl_call ok_slices_Contains_api_Txn_api_Txn (containsTx_any (OwR.rd (hs.rg 1 rfl)) rfl hgl) ⟨rfl, rfl, trivial⟩ rfl ?_
    rintro _ w13 ⟨rfl, hbx⟩
    replace hs := hs.below hbx
    clear hbx
    by_cases hxg : ox ∈ (goT tk).2
    · rw [if_pos hxg]
      refine wl_ns ?_; apply wc_decT; exact rfl; (with_reducible assumption); refine wc_region ?_; apply wl_val; apply opv_fa; exact fa_Rs0; exact rfl; exact rfl; apply ws_st hs 3; exact rfl; exact rfl; exact e1_i64; exact rfl; exact rfl; exact rfl; clear hs; intro _ hs; dsimp only [setC, List.set] at hs; refine wl_ns ?_; refine wc_sr ?_; apply wl_val; apply opv_loadX; exact rfl; exact hs.ar 3 rfl; exact sRs; exact rfl; apply ws_stS hs 5; exact rfl; exact rfl; exact rfl; exact sRs; exact rfl; exact rfl; clear hs; intro _ hs; dsimp only [setC] at hs; refine wl_as rfl rfl ?_; refine wl_ns ?_; refine wc_ret ?_
      exact we_retC1 rfl rfl rfl (hs.ar 5 rfl) sRs ⟨_, rfl, gp1, P, cp, Q, cq, rfl, ((((hs.drop 0 rfl).drop 2 rfl).drop 3 rfl).front 2 rfl)⟩
    · rw [if_neg hxg, ← hst]
      refine wl_ns ?_; apply wc_decF; exact rfl; (with_reducible assumption); refine wc_skip ?_; refine we_seq ?_; refine wc_sr ?_; apply wl_val; apply opv_loadX; exact rfl; exact hs.ar 3 rfl; exact sRs; exact rfl; apply ws_stS hs 5; exact rfl; exact rfl; exact rfl; exact sRs; exact rfl; exact rfl; clear hs; intro _ hs; dsimp only [setC] at hs; refine wl_as rfl rfl ?_; refine wl_ns ?_; refine wc_ret ?_
      exact we_retC1 rfl rfl rfl (hs.ar 5 rfl) sRs ⟨_, rfl, gp1, P, cp, Q, cq, rfl, ((((hs.drop 0 rfl).drop 2 rfl).drop 3 rfl).front 2 rfl)⟩
end Go.Proofs.Ytmdbjeabifkimaa

/-
  Acts of the lock laws: in memory, as arguments; walks over awake, few, twins and calls.
-/
namespace Go.Proofs.Ytmdbjeabifkimaa
open Go.RowKit Go.ChangeShapes Go.WideShapes Go.ChangeAt Go.Deep

/-- One act. -/
structure Ac where
  k : Int
  x : Tx
  l : List Rg
def acV (a : Ac) (A : Option Addr) (c : Nat) : List Value := [.int .i64 a.k, .int .u64 (a.x.1 : Int), .int .u64 (a.x.2 : Int), .slice A a.l.length c]
def acEl (a : Ac) : El where
  P w S cs := ∃ (A : Option Addr) (c : Nat), cs = acV a A c ∧ (rowEl 3 (a.l.map rgEl)).P w S [.slice A a.l.length c]
  move := by rintro w w' S S' cs ⟨A, c, h, h1⟩ hz hm; exact ⟨A, c, h, El.move _ h1 hz hm⟩
theorem acEl.rd {w : World} {S : BS} {a : Ac} {cs : List Value} (h : (acEl a).P w S cs) : ∃ A c, cs = acV a A c ∧ a.l.length ≤ c ∧ RdR 3 w S A (a.l.map rgEl) := by
  obtain ⟨A, c, h0, h1⟩ := h
  obtain ⟨_, h3, h4⟩ := rowEl.rd h1
  exact ⟨A, c, h0, h3, h4⟩
def rgB (r : Rg) : Nat := r.fr.length + r.to.length
def acB (a : Ac) : Nat := sumB rgB a.l
theorem sAc : StT Try.prog 50 4 := ⟨by kernel_rfl, by kernel_rfl⟩
theorem fa_Ac0 : FieldAt Try.prog 50 0 0 := fieldAt_mk Try.underlying50 rfl rfl (by kernel_rfl)
theorem fa_Ac1 : FieldAt Try.prog 50 1 1 := fieldAt_mk Try.underlying50 rfl rfl (by kernel_rfl)
theorem fa_Ac2 : FieldAt Try.prog 50 2 3 := fieldAt_mk Try.underlying50 rfl rfl (by kernel_rfl)
def zAc : List Value := [.int .i64 0, .int .u64 0, .int .u64 0, .slice none 0 0]
theorem zeroAc : (Try.prog.info? 50).map (·.zero) = some (some (.agg zAc.toArray)) := by kernel_rfl
theorem tkAc : RowK Try.prog 22 50 4 (.agg zAc.toArray) 48 := ⟨Try.underlying22, by kernel_rfl, by simp [zAc, Value.cells], by decide⟩
def zTb : List Value := [.slice none 0 0, .slice none 0 0]
theorem zeroTb : (Try.prog.info? 47).map (·.zero) = some (some (.agg zTb.toArray)) := by kernel_rfl
def Tx64 (x : Tx) : Prop := x.1 < 2 ^ 64 ∧ x.2 < 2 ^ 64
theorem len3' {α : Type} : ∀ {l : List α}, l.length = 3 → ∃ a b c, l = [a, b, c]
  | [a, b, c], _ => ⟨a, b, c, rfl⟩
theorem len2' {α : Type} : ∀ {l : List α}, l.length = 2 → ∃ a b, l = [a, b]
  | [a, b], _ => ⟨a, b, rfl⟩
theorem opens_rg : Opens Try.prog 61 rgEl 3 rgB (fun _ => True) := fun {H} enc W fuel cs x h => by
  obtain ⟨xs, n, rfl, rfl, hl, hx, hf⟩ := DataW.trod_struct Try.underlying61 h
  replace hl : cs.length = 3 := hl.trans (by kernel_rfl)
  obtain ⟨c0, c1, c2, rfl⟩ := len3' hl
  obtain ⟨y0, y1, y2, rfl⟩ := len3' hx
  obtain ⟨a0, h0, _, k0, b0⟩ := opens_bytes enc W n [c0] y0 (field_at hf (i := 0) (off := 0) (k := 1) (t := 51) rfl rfl rfl (by kernel_rfl))
  obtain ⟨a1, h1, _, k1, b1⟩ := opens_bytes enc W n [c1] y1 (field_at hf (i := 1) (off := 1) (k := 1) (t := 51) rfl rfl rfl (by kernel_rfl))
  obtain ⟨a2, h2, _, k2, b2⟩ := opens_bool Try.underlying4 enc W n [c2] y2 (field_at hf (i := 2) (off := 2) (k := 1) (t := 4) rfl rfl rfl (by kernel_rfl))
  obtain rfl : c2 = .bool a2 := by simpa [vEl] using h2
  have h0' := h0
  have h1' := h1
  obtain ⟨A, c, e0, _⟩ := h0
  obtain ⟨B, d, e1, _⟩ := h1
  obtain rfl : c0 = .slice A a0.length c := by simpa using e0
  obtain rfl : c1 = .slice B a1.length d := by simpa using e1
  refine ⟨⟨a0, a1, a2⟩, ⟨A, c, B, d, rfl, h0', h1'⟩, rfl, trivial, ?_⟩
  replace b0 : a0.length + 1 ≤ _ := b0
  replace b1 : a1.length + 1 ≤ _ := b1
  simp only [rgB, Rows.uptoBulk, Rows.uptoBulkAll, List.map_cons, List.map_nil]
  omega
theorem opens_rgs : Opens Try.prog 34 (fun l : List Rg => rowEl 3 (l.map rgEl)) 1 (sumB rgB) (fun l => ∀ a ∈ l, True) := opens_slice tkR (by kernel_rfl) opens_rg
def txEl (x : Tx) : El := rawEl (txV x)
theorem opens_txn : Opens Try.prog 30 txEl 2 (fun _ => 0) Tx64 := fun {H} enc W fuel cs x h => by
  obtain ⟨xs, n, rfl, rfl, hl, hx, hf⟩ := DataW.trod_struct Try.underlying30 h
  replace hl : cs.length = 2 := hl.trans (by kernel_rfl)
  obtain ⟨c0, c1, rfl⟩ := len2' hl
  obtain ⟨y0, y1, rfl⟩ := len2' hx
  obtain ⟨a0, h0, _, k0, b0⟩ := opens_int Try.underlying28 enc W n [c0] y0 (field_at hf (i := 0) (off := 0) (k := 1) (t := 28) rfl rfl rfl (by kernel_rfl))
  obtain ⟨a1, h1, _, k1, b1⟩ := opens_int Try.underlying28 enc W n [c1] y1 (field_at hf (i := 1) (off := 1) (k := 1) (t := 28) rfl rfl rfl (by kernel_rfl))
  obtain rfl : c0 = .int .u64 a0 := by simpa [vEl] using h0
  obtain rfl : c1 = .int .u64 a1 := by simpa [vEl] using h1
  have k0' : 0 ≤ a0 ∧ a0 ≤ 18446744073709551615 := by simpa [Lit.wf, IntKind.min, IntKind.max, IntKind.signed, IntKind.bits] using k0
  have k1' : 0 ≤ a1 ∧ a1 ≤ 18446744073709551615 := by simpa [Lit.wf, IntKind.min, IntKind.max, IntKind.signed, IntKind.bits] using k1
  obtain ⟨s, rfl⟩ := Int.eq_ofNat_of_zero_le k0'.1
  obtain ⟨q, rfl⟩ := Int.eq_ofNat_of_zero_le k1'.1
  refine ⟨(s, q), rfl, rfl, ⟨?_, ?_⟩, by simp only [Rows.uptoBulk, Rows.uptoBulkAll, List.map_cons, List.map_nil]; omega⟩
  · show s < 2 ^ 64; omega
  · show q < 2 ^ 64; omega
theorem opens_act : Opens Try.prog 50 acEl 4 acB (fun a => Tx64 a.x) := fun {H} enc W fuel cs x h => by
  obtain ⟨xs, n, rfl, rfl, hl, hx, hf⟩ := DataW.trod_struct Try.underlying50 h
  replace hl : cs.length = 4 := hl.trans (by kernel_rfl)
  obtain ⟨c0, c1, c2, c3, rfl⟩ := len4 hl
  obtain ⟨y0, y1, y2, rfl⟩ := len3' hx
  obtain ⟨a0, h0, _, k0, b0⟩ := opens_int Try.underlying3 enc W n [c0] y0 (field_at hf (i := 0) (off := 0) (k := 1) (t := 3) rfl rfl rfl (by kernel_rfl))
  obtain ⟨a1, h1, _, k1, b1⟩ := opens_txn enc W n [c1, c2] y1 (field_at hf (i := 1) (off := 1) (k := 2) (t := 30) rfl rfl rfl (by kernel_rfl))
  obtain ⟨a2, h2, _, k2, b2⟩ := opens_rgs enc W n [c3] y2 (field_at hf (i := 2) (off := 3) (k := 1) (t := 34) rfl rfl rfl (by kernel_rfl))
  obtain rfl : c0 = .int .i64 a0 := by simpa [vEl] using h0
  have h1' : [c1, c2] = txV a1 := h1
  simp only [txV, List.cons.injEq, and_true] at h1'
  obtain ⟨rfl, rfl⟩ := h1'
  have h2' := h2
  obtain ⟨A, c, e2, _⟩ := h2
  rw [List.length_map] at e2
  obtain rfl : c3 = .slice A a2.length c := by simpa using e2
  refine ⟨⟨a0, a1, a2⟩, ⟨A, c, rfl, h2'⟩, rfl, k1, ?_⟩
  replace b2 : sumB rgB a2 + 1 ≤ _ := b2
  simp only [acB, Rows.uptoBulk, Rows.uptoBulkAll, List.map_cons, List.map_nil]
  omega
theorem opens_acts : Opens Try.prog 22 (fun l : List Ac => rowEl 4 (l.map acEl)) 1 (sumB acB) (fun l => ∀ a ∈ l, Tx64 a.x) := opens_slice tkAc (by kernel_rfl) opens_act
theorem rgs_small {l : List Rg} {n : Nat} (h : sumB rgB l ≤ n) : l.length ≤ n ∧ ∀ x ∈ l, x.fr.length ≤ n ∧ x.to.length ≤ n := by
  have h1 := sumB_len (bulk := rgB) l
  refine ⟨by omega, fun x hx => ?_⟩
  have h2 := sumB_mem (bulk := rgB) hx
  have h3 : rgB x = x.fr.length + x.to.length := rfl
  omega
theorem acs_small {l : List Ac} {n : Nat} (h : sumB acB l ≤ n) : l.length ≤ n ∧ ∀ a ∈ l, a.l.length ≤ n ∧ ∀ x ∈ a.l, x.fr.length ≤ n ∧ x.to.length ≤ n := by
  have h1 := sumB_len (bulk := acB) l
  refine ⟨by omega, fun a ha => rgs_small ?_⟩
  have h2 := sumB_mem (bulk := acB) ha
  have h3 : acB a = sumB rgB a.l := rfl
  omega
/-! #### What acts make of a table -/
theorem LkS.empty : LkS 0 ⟨[], []⟩ := ⟨Nat.le_refl _, by simp⟩
/-! #### The walks -/
theorem take_rdA {w : World} {S : BS} {A : Option Addr} {l : List Ac} {c m : Nat} (h : RdR 4 w S A (l.map acEl)) (hc : l.length ≤ c) : RdR 4 w S A ((l.take m).map acEl) := by
  rcases Nat.lt_or_ge m l.length with h1 | h1
  · have := RdR.cut h (by simp) (Nat.zero_le m) (Nat.le_of_lt h1) hc
    rw [cutK_zero, List.drop_zero, ← List.map_take] at this
    exact this
  · rw [List.take_of_length_le h1]; exact h
theorem few_any {A : Option Addr} {n c m : Nat} {l : List Ac} {w : World} (hn : l.length = n) (hc : n ≤ c) :
    CallsV Try.prog 21 #[.slice A n c, .int .i64 (m : Int)] w fun v w' => v = .slice A (l.take m).length c ∧ w = w' := by
  subst hn
  refine calls_in (N := _) Try.func21 rfl Try.ntmps21 rfl ?_; show WC _ _ _ _ _ _
  refine wc_sr ?_; refine wl_as rfl rfl ?_; refine wl_ns ?_; refine wc_seq ?_; refine wc_sr ?_; refine wl_mv rfl rfl ?_; apply wl_val; apply opv_len; exact rfl; exact tkAc.sl; exact rfl; refine wl_mv rfl rfl ?_; refine wl_bin rfl rfl bin_gtr rfl ?_; refine wl_ns ?_
  refine wc_cond rfl (fun h1 => ?_) (fun h1 => ?_)
  · refine wc_region ?_; refine wl_mv rfl rfl ?_; refine wl_mv rfl rfl ?_
    refine wl_slK (l := 0) (h := m) tkAc rfl rfl ⟨_, rfl⟩ (by omega) (by omega) rfl ?_
    rw [cutK_zero]
    refine wl_as rfl rfl ?_; refine wl_ns ?_; refine wc_sr ?_; refine wl_mv rfl rfl ?_; refine wl_as rfl rfl ?_; refine wl_ns ?_; refine wc_ret ?_
    exact we_ret1 rfl rfl ⟨_, rfl, slice_eq (by simp; omega), rfl⟩
  · refine wc_skip ?_; refine we_seq ?_; refine wc_sr ?_; refine wl_mv rfl rfl ?_; refine wl_as rfl rfl ?_; refine wl_ns ?_; refine wc_ret ?_
    exact we_ret1 rfl rfl ⟨_, rfl, slice_eq (by simp; omega), rfl⟩
/-- An empty table. -/
theorem St.lkNil {M : BS} {w0 w : World} {H : List Cd} {t : Nat} (hs : St M w0 w (.blk t 47 zTb :: H)) : St M w0 w (.ck (lkC t (fun _ => 0) ⟨[], []⟩) :: H) := by
  have h1 := ((hs.pack (H1 := []) (.ck (packC [])) fun w S h => h).nilO 75).nilO 75
  have h2 := h1.front 3 rfl
  unfold zTb at h2
  dsimp only [delC] at h2
  exact St.lkMk (gp := fun _ => 0) (tb := ⟨[], []⟩) h2 rfl rfl rfl rfl rfl
end Go.Proofs.Ytmdbjeabifkimaa

/-
  The bytes of a constant string, over pieces: made, marked, and read from then on. Nothing here names the program.
-/
namespace Go.Proofs.Ytmdbjeabifkimaa
open Go.RowKit

theorem zell_freeze (w : World) (a : Addr) (n : Nat) (p : Addr) : (w.freeze a n).cell? p = w.cell? p := by
  unfold World.freeze
  split
  · rfl
  · unfold World.cell?
    simp only [Array.getElem?_modify]
    by_cases h : a.block = p.block
    · rw [if_pos h]
      cases w.heap[p.block]? with
      | none => rfl
      | some o => cases o <;> rfl
    · rw [if_neg h]
theorem zelow_freeze {B : Nat} (w : World) (a : Addr) (n : Nat) (h : B ≤ a.block) : Below B w (w.freeze a n) := by
  unfold World.freeze
  split
  · exact Below.refl _ _
  · refine ⟨rfl, rfl, rfl, by simp, fun j hj => ?_⟩
    simp only [Array.getElem?_modify]
    rw [if_neg (by omega)]
section
variable {P : Program} {N : Nat} {ops : Array Oper} {Q : Exit → Act → World → Prop} {rest : List Oper} {L : FL} {w0 w : World} {M : BS} {H : List Cd} {t e : TypeId} {bytes : Nat}
theorem ws_lit {d1 d2 len : Nat} {ps : List (Nat × Operand)} {ty1 ty2 : TypeId} {p1 p2 : String} {f1 f2 : Array Edge} (hs : St M w0 w H) (xs : List UInt8) (T : Row1 P t e (.int .u8 0) bytes) (he : P.underlying e = some (.int .u8)) (hp : PLooks L 0 ps (bvs xs)) (hl : xs.length = len) (hle : len ≤ 16777216) (h0 : 0 < len) (hd1 : Nat.blt d1 N = true) (hd2 : Nat.blt d2 N = true)
    (h : ∀ p A w', St M w0 w' (.ce (byEl xs) [.slice A xs.length xs.length] :: H) → WL P N ops Q rest ((d2, .slice A xs.length xs.length) :: (d1, p) :: L) w') :
    WL P N ops Q (⟨some d1, .buildSlice t len ps.toArray, ty1, p1, f1, none⟩ :: ⟨some d2, .convert t t (.tmp d1), ty2, p2, f2, none⟩ :: rest) L w := by
  subst hl
  refine wl_bs T hp (bvs_length xs) hle hd1 fun A w1 ho hb _ => ?_
  have hr : RdR 1 w1 All A [] := RdR.nil _
  have hr : Rd w1 A xs.length (bvs xs) := ho.rd
  obtain ⟨b, o, rfl, hb1, hc⟩ := hr.2 h0
  have hlen : 0 < (bvs xs).length := by rw [bvs_length]; exact h0
  have h0c := hc 0 (bvs xs)[0] (List.getElem?_eq_getElem hlen)
  obtain ⟨k, hk⟩ : ∃ k, w1.shape? b = some k := by
    unfold World.cell? at h0c
    unfold World.shape?
    simp only at h0c
    cases hh : w1.heap[b]? with
    | none => rw [hh] at h0c; cases h0c
    | some ob => cases ob <;> first | exact ⟨_, rfl⟩ | (rw [hh] at h0c; cases h0c)
  have hge : w.heap.size ≤ b := (Ow.lt ho _ rfl).1
  have hbf : Below w.heap.size w (w1.freeze ⟨b, k.2, none⟩ 1) := hb.trans (zelow_freeze _ _ _ hge)
  refine wl_val (v := .slice (some ⟨b, o, none⟩) xs.length xs.length) (w' := w1.freeze ⟨b, k.2, none⟩ 1) (fun ρ op hρ ho _ => ?_) hd2 (h _ _ _ ?_)
  · unfold execOp
    simp only [ho, hρ (.tmp d1) (.slice (some ⟨b, o, none⟩) xs.length xs.length) (by simp [look, lookT]), convert, Sem.run_bind, run_underlying T.sl, Result.andThen_ok]
    simp [run_underlying he, markStringish, hk]
  · refine hs.new (T := fun b => w.heap.size ≤ b) (c := .ce (byEl xs) [.slice (some ⟨b, o, none⟩) xs.length xs.length]) hbf ?_ fun _ _ h => h
    refine byEl.mk ⟨hr.1, fun _ => ⟨b, o, rfl, ?_, fun j u hu => by rw [zell_freeze]; exact hc j u hu⟩⟩ (Nat.le_refl _) fun a ha _ => by cases ha; exact hge
    unfold World.freeze; simp; exact hb1
end
end Go.Proofs.Ytmdbjeabifkimaa

/-
  Walks over awake and calls of the lock laws.
-/
namespace Go.Proofs.Ytmdbjeabifkimaa
open Go.RowKit

theorem ar_wiA {w : World} {g : Nat} {a : Ac} {A : Option Addr} {c : Nat} (h : Ar w g 50 (acV a A c)) : Wi w g (0 + 1) (txV a.x) := ⟨h.lt, fun j u hu => (h.cell (0 + 1 + j)).trans (by
  match j, hu with
  | 0, hu => exact hu
  | 1, hu => exact hu
  | j + 2, hu => simp [txV] at hu)⟩
abbrev r1 : Rg := ⟨[97], [98], true⟩
abbrev tb1 : Tb := ⟨[⟨(1, 0), [r1], []⟩], []⟩
abbrev tb2 : Tb := ⟨[⟨(1, 0), [r1], []⟩, ⟨(2, 0), [], [r1]⟩], [(2, 0)]⟩
theorem aw_1 : askT ⟨[], []⟩ (1, 0) [r1] = ⟨tb1, 1, [], [], 0⟩ := by
  rw [askT, if_neg (by decide), if_neg (by decide), if_pos (by decide)]
  rfl
theorem victs_none {tb : Tb} (h : Acyc tb) : ∀ n, victs n tb = (tb, [])
  | 0 => rfl
  | n + 1 => by rw [victs, victim_eq_none fun o _ => h o.x]
theorem Acyc.single {tb : Tb} (hn : tb.qu.Nodup) {x : Tx} (h : ∀ y ∈ tb.qu, y = x) : Acyc tb := fun z hz => by
  have hx : z = x := h z (circ_qu hz)
  cases hz with
  | single h1 => exact absurd rfl ((ed_iff hn).1 h1).2.1
  | tail _ h1 => exact absurd ((h _ h1.1).trans hx.symm) ((ed_iff hn).1 h1).2.1
theorem aw_2 : askT tb1 (2, 0) [r1] = ⟨tb2, 2, [], [], 0⟩ := by
  have hq : askQ tb1 (2, 0) [r1] = tb2 := rfl
  have hv : victs (tb1.qu.length + 2) tb2 = (tb2, []) := victs_none (Acyc.single (x := (2, 0)) (by simp) (by simp)) _
  have hg : goT tb2 = (tb2, []) := by
    show goStep (tb2, []) (2, 0) = _
    rw [goStep, if_neg (by decide)]
  rw [askT, if_neg (by decide), if_neg (by decide), if_neg (by decide)]
  dsimp only
  rw [hq, hv]
  dsimp only
  rw [hg]
  rfl
theorem aw_3 : (relT tb2 (1, 0)).2 = [(2, 0)] := by
  rw [relT, if_pos (by decide)]
  show (goStep (dropO (leaveT tb2 (1, 0)) (1, 0), []) (2, 0)).2 = _
  rw [goStep, if_pos (by decide)]
  rfl
theorem aw_ok : Wf tb1 ∧ Wf tb2 := by
  have h1 := (LkI.empty.ask (1, 0) [r1])
  rw [aw_1] at h1
  have h2 := h1.ask (2, 0) [r1]
  rw [aw_2] at h2
  exact ⟨h1.wf, h2.wf⟩
end Go.Proofs.Ytmdbjeabifkimaa

/-
  Walks over awake and over the law LockEnds.
-/
namespace Go.Proofs.Ytmdbjeabifkimaa
open Go.RowKit

theorem rg_one {w : World} {T1 T2 T3 : BS} {R A B : Option Addr} {c a b n m : Nat} {x : Rg} (h1 : (Cd.rg 3 61 R c ([rgV x A a B b].map rawEl)).P w T1) (h2 : (byEl x.fr).P w T2 [.slice A n a]) (h3 : (byEl x.to).P w T3 [.slice B m b]) : RdR 3 w All R ([x].map rgEl) := by
  have e2 : n = x.fr.length := by
    obtain ⟨_, _, e, _⟩ := h2
    simp only [List.cons.injEq, Value.slice.injEq, and_true] at e
    exact e.2.1
  have e3 : m = x.to.length := by
    obtain ⟨_, _, e, _⟩ := h3
    simp only [List.cons.injEq, Value.slice.injEq, and_true] at e
    exact e.2.1
  subst e2 e3
  obtain ⟨ho, _⟩ := OwR.raw (css := [rgV x A a B b]) h1.2
  exact ⟨[rgV x A a B b], Grp.one (E := rgEl x) (rgEl.mk (El.mono h2 fun _ _ _ => trivial) (El.mono h3 fun _ _ _ => trivial)) rfl, own_rd ho, fun _ _ _ => trivial⟩
set_option maxRecDepth 8000 in
theorem awake_any (w : World) : CallsV Try.prog 9 #[] w fun v w' => v = .bool true ∧ Below w.heap.size w w' := by
  have hs := St.init w
  refine calls_in (N := _) Try.func9 rfl Try.ntmps9 rfl ?_; show WC _ _ _ _ _ _
  refine wc_sr ?_; refine wl_as rfl rfl ?_; refine wl_ns ?_; refine wc_sr ?_
  refine ws_new hs zeroTb rfl ?_; clear hs; intro g1 _ hs
  replace hs := hs.lkNil
  refine wl_ns ?_; refine wc_sr ?_
  refine ws_lit hs [97] tyB Try.underlying5 ⟨rfl, rfl, rfl, trivial⟩ rfl (by decide) (by decide) rfl rfl ?_
  clear hs; intro _ A w2 hs
  refine ws_lit hs [98] tyB Try.underlying5 ⟨rfl, rfl, rfl, trivial⟩ rfl (by decide) (by decide) rfl rfl ?_
  clear hs; intro _ B w3 hs
  skip
  refine wl_val (opv_build (vs := [(0, .slice A 1 1), (1, .slice B 1 1), (2, .bool true)]) (cs := rgV r1 A 1 B 1) ⟨rfl, rfl, rfl, rfl, rfl, rfl, trivial⟩ (by kernel_rfl)) rfl ?_
  skip
  refine ws_var (cs := rgV r1 A 1 B 1) hs zeroRg sR rfl (fun _ => rfl) (by first | rfl | simp [Value.oneCell']) rfl ?_; clear hs; intro g2 _ hs
  refine wl_ns ?_; refine wc_sr ?_
  refine wl_val (opv_build (vs := [(0, .int .u64 1)]) (cs := txV (1, 0)) ⟨rfl, rfl, trivial⟩ (by kernel_rfl)) rfl ?_
  apply wl_val; apply opv_loadX; exact rfl; exact hs.ar 0 rfl; exact sR; exact rfl
  refine wl_bsG (css := [rgV r1 A 1 B 1]) tkR ⟨rfl, ⟨_, rfl, rfl⟩, rfl, trivial⟩ (els := [rgV r1 A 1 B 1].map rawEl) (S := NoB) rfl (by decide) (by decide) (grp_raw (by simp [rgV])) rfl fun R w7 hR hbx _ => ?_
  replace hs := hs.newG hbx hR (Nat.le_refl _) fun _ _ h => h.elim
  clear hR hbx
  skip
  obtain ⟨S2, hS2, _, _, hH, hB⟩ := St.lend (H1 := [.ck (lkC g1 (fun _ => 0) _)]) (H2 := [_, _, _, _]) (hs.front 4 rfl)
  refine wl_call ok_lock_Table_Ask (ask_any (x := (1, 0)) (l := [r1]) (n := 1) hS2 (fun w' hm => ?_) rfl (by decide) ⟨by simp [names], by simp, by simp, by simp, by simp, by simp⟩ (by decide) (by simp)) ⟨rfl, rfl, rfl, trivial⟩ rfl ?_
  · obtain ⟨T1, _, k1, T2, _, k2, T3, _, k3, T4, _, k4, _⟩ := hH w' hm
    exact rg_one k1 k4 k3
  rintro _ w8 ⟨gp1, P, cp, Q, cq, rfl, hsx⟩
  replace hs := hB _ _ hsx
  clear hB hsx hS2 hH
  dsimp only [List.cons_append, List.nil_append] at hs
  rw [aw_1] at hs
  rw [aw_1]
  dsimp only at hs
  dsimp only
  rw [show ((0 : Nat) : Int) = 0 from rfl]
  refine wl_mv rfl rfl ?_; apply wl_val; apply opv_extract; exact rfl; exact rfl; exact rfl; apply wl_val; apply opv_extract; exact rfl; exact rfl; exact rfl
  refine ws_var (cs := rsV 1 P 0 cp Q 0 cq) hs zeroRs sRs rfl (fun _ => rfl) (by first | rfl | simp [Value.oneCell']) rfl ?_; clear hs; intro g3 _ hs
  refine wl_as rfl rfl ?_; refine wl_ns ?_; refine wc_sr ?_
  refine wl_val (opv_build (vs := [(0, .int .u64 2)]) (cs := txV (2, 0)) ⟨rfl, rfl, trivial⟩ (by kernel_rfl)) rfl ?_
  apply wl_val; apply opv_loadX; exact rfl; exact hs.ar 5 rfl; exact sR; exact rfl
  refine wl_bsG (css := [rgV r1 A 1 B 1]) tkR ⟨rfl, ⟨_, rfl, rfl⟩, rfl, trivial⟩ (els := [rgV r1 A 1 B 1].map rawEl) (S := NoB) rfl (by decide) (by decide) (grp_raw (by simp [rgV])) rfl fun R2 w9 hR hbx _ => ?_
  replace hs := hs.newG hbx hR (Nat.le_refl _) fun _ _ h => h.elim
  clear hR hbx
  skip
  obtain ⟨S2, hS2, _, _, hH, hB⟩ := St.lend (H1 := [.ck (lkC g1 gp1 tb1)]) (H2 := [_, _, _, _, _, _, _, _]) (hs.front 4 rfl)
  refine wl_call ok_lock_Table_Ask (ask_any (x := (2, 0)) (l := [r1]) (n := 1) hS2 (fun w' hm => ?_) rfl (by decide) aw_ok.1 (by decide) (by simp)) ⟨rfl, rfl, rfl, trivial⟩ rfl ?_
  · obtain ⟨T1, _, k1, _, _, _, _, _, _, _, _, _, _, _, _, _, _, _, T3, _, k3, T4, _, k4, _⟩ := hH w' hm
    exact rg_one k1 k4 k3
  rintro _ w10 ⟨gp2, P2, cp2, Q2, cq2, rfl, hsx⟩
  replace hs := hB _ _ hsx
  clear hB hsx hS2 hH
  dsimp only [List.cons_append, List.nil_append] at hs
  rw [aw_2] at hs
  rw [aw_2]
  dsimp only at hs
  dsimp only
  rw [show ((0 : Nat) : Int) = 0 from rfl]
  refine wl_mv rfl rfl ?_; apply wl_val; apply opv_extract; exact rfl; exact rfl; exact rfl; apply wl_val; apply opv_extract; exact rfl; exact rfl; exact rfl
  refine ws_var (cs := rsV 2 P2 0 cp2 Q2 0 cq2) hs zeroRs sRs rfl (fun _ => rfl) (by first | rfl | simp [Value.oneCell']) rfl ?_; clear hs; intro g5 _ hs
  unfold rsV at hs
  refine wl_as rfl rfl ?_; refine wl_ns ?_; refine wc_sr ?_; refine wl_mv rfl rfl ?_; refine wl_bin rfl rfl bin_eql rfl ?_; refine wl_mv rfl rfl ?_; apply wl_take; exact rfl; exact rfl; exact rfl; refine bT ?_; (with_reducible rfl); refine wl_mv rfl rfl ?_; apply wl_take; exact rfl; exact rfl; exact rfl; refine bT ?_; (with_reducible rfl); refine wl_bin rfl rfl bin_eql rfl ?_; apply wl_val; apply opv_pickT; exact rfl; refine bT ?_; (with_reducible rfl); exact rfl; exact rfl; refine wl_mv rfl rfl ?_; apply wl_take; exact rfl; exact rfl; exact rfl; refine bT ?_; (with_reducible rfl); apply wl_val; apply opv_fa; exact fa_Rs0; exact rfl; exact rfl; apply wl_take; exact rfl; exact rfl; exact rfl; refine bT ?_; (with_reducible rfl); apply wl_val; apply opv_ldX; exact rfl; exact hs.ar 5 rfl; exact e1_i64; exact rfl; exact rfl; apply wl_take; exact rfl; exact rfl; exact rfl; refine bT ?_; (with_reducible rfl); refine wl_bin rfl rfl bin_eql rfl ?_; apply wl_val; apply opv_pickT; exact rfl; refine bT ?_; (with_reducible rfl); exact rfl; exact rfl; refine wl_mv rfl rfl ?_; apply wl_take; exact rfl; exact rfl; exact rfl; refine bT ?_; omega; apply wl_val; apply opv_fa; exact fa_Rs0; exact rfl; exact rfl; apply wl_take; exact rfl; exact rfl; exact rfl; refine bT ?_; omega; apply wl_val; apply opv_ldX; exact rfl; exact hs.ar 0 rfl; exact e1_i64; exact rfl; exact rfl; apply wl_take; exact rfl; exact rfl; exact rfl; refine bT ?_; omega; refine wl_bin rfl rfl bin_eql rfl ?_; apply wl_val; apply opv_pickT; exact rfl; refine bT ?_; omega; exact rfl; exact rfl; refine wl_mv rfl rfl ?_; apply wl_take; exact rfl; exact rfl; exact rfl; refine bT ?_; omega
  refine wl_val (opv_build (vs := [(0, .int .u64 1)]) (cs := txV (1, 0)) ⟨rfl, rfl, trivial⟩ (by kernel_rfl)) rfl ?_
  apply wl_take; exact rfl; exact rfl; exact rfl; refine bT ?_; omega
  obtain ⟨S2, hS2, _, _, _, hB⟩ := St.lend (H1 := [.ck (lkC g1 gp2 tb2)]) (H2 := [_, _, _, _, _, _, _, _, _, _, _]) (hs.front 3 rfl)
  refine wl_call ok_lock_Table_Release (release_any (x := (1, 0)) hS2 aw_ok.2 ⟨by decide, by simp⟩) ⟨rfl, rfl, trivial⟩ rfl ?_
  rintro _ w11 ⟨P3, cp3, rfl, hsx⟩
  replace hs := hB _ _ hsx
  rw [aw_3]
  apply wl_take; exact rfl; exact rfl; exact rfl; refine bT ?_; omega; apply wl_val; apply opv_len; exact rfl; exact tkTx.sl; exact rfl; apply wl_take; exact rfl; exact rfl; exact rfl; refine bT ?_; omega; refine wl_bin rfl rfl bin_eql rfl ?_; apply wl_val; apply opv_pickT; exact rfl; refine bT ?_; omega; exact rfl; exact rfl; refine wl_as rfl rfl ?_; refine wl_ns ?_; refine wc_ret ?_
  exact we_ret1 rfl rfl ⟨_, rfl, rfl, hs.bel⟩
/-! #### Who doesn't wait is released -/
end Go.Proofs.Ytmdbjeabifkimaa

/-
  Walks over the document's Check, Clash, SameRanges and SameTxns of locks.
-/
namespace Go.Proofs.Ytmdbjeabifkimaa
open Go.RowKit

theorem bin_neqTx (x y : Tx) : BinV Try.prog .neq 30 (.agg (txV x).toArray) (.agg (txV y).toArray) (.bool (!decide (x = y))) := .mk fun u v w => by
  have hg : Try.prog.eqGuardType Try.prog.depth 30 = false := by kernel_rfl
  have h0 := (bin_eqlTx x y).run u v w
  rw [Sem.run_bind, run_eqGuard_agg (P := Try.prog) w .eql 30 u v (txV x).toArray (txV y).toArray hg] at h0
  simp only [Result.andThen_ok] at h0
  rw [run_eql_struct] at h0
  rw [Sem.run_bind, run_eqGuard_agg (P := Try.prog) w .neq 30 u v (txV x).toArray (txV y).toArray hg]
  simp only [Result.andThen_ok]
  rw [run_neq_struct]
  cases he : (Op.equalIn 10000 30 (.agg (txV x).toArray) (.agg (txV y).toArray)).run Try.prog w with
  | ok b w' =>
    rw [he] at h0
    simp only [Result.andThen_ok, Result.ok.injEq, Value.bool.injEq] at h0 ⊢
    rw [h0.1, h0.2]
    exact ⟨rfl, rfl⟩
  | _ => rw [he] at h0; cases h0
theorem refCheckR_any {A : Option Addr} {n c : Nat} {l : List Rg} {w : World} (hr : RdR 3 w All A (l.map rgEl)) (hn : l.length = n) (hl : l.length ≤ 4294967296) :
    CallsV Try.prog 15 #[.slice A n c] w fun v w' => v = .int .i64 (checkR l : Nat) ∧ Below w.heap.size w w' := by
  subst hn
  refine calls_in (N := _) Try.func15 rfl Try.ntmps15 rfl ?_; show WC _ _ _ _ _ _
  refine wc_sr ?_; refine wl_as rfl rfl ?_; refine wl_ns ?_; refine wc_seq ?_; refine wc_sr ?_; refine wl_mv rfl rfl ?_; apply wl_val; apply opv_len; exact rfl; exact tkR.sl; exact rfl; refine wl_bin rfl rfl bin_gtr rfl ?_; refine wl_ns ?_
  by_cases h64 : 64 < l.length
  · have h64' : (64 : Int) < (l.length : Int) := by omega
    apply wc_decT; exact rfl; (with_reducible assumption); refine wc_sr ?_; refine wl_as rfl rfl ?_; refine wl_ns ?_; refine wc_ret ?_; refine we_seq_ret ?_
    exact we_ret1 rfl rfl ⟨_, rfl, by rw [checkR, if_pos h64]; rfl, Below.refl _ _⟩
  have h64' : ¬ (64 : Int) < (l.length : Int) := by omega
  apply wc_decF; exact rfl; (with_reducible assumption); refine wc_skip ?_; refine we_seq ?_; refine wc_sr ?_; refine wl_as rfl rfl ?_; refine wl_ns ?_; refine wc_seq ?_; refine wc_sr ?_; refine wl_as rfl rfl ?_; refine wl_ns ?_; refine wc_block ?_
  refine wc_loop (fun L wr mm => ∃ (k : Nat) (f : Bool), L = [(0, .slice A l.length c), (3, .bool f), (4, .int .i64 (k : Int))] ∧ (l.take k).any badR = f ∧ k ≤ l.length ∧ (l.take k).any bigR = false ∧ Below w.heap.size w wr ∧ mm = l.length - k)
    [(0, .slice A l.length c), (3, .bool false), (4, .int .i64 (0 : Nat))] l.length ⟨0, false, rfl, rfl, by omega, rfl, Below.refl _ _, rfl⟩ ⟨rfl, rfl, rfl, trivial⟩ ?_
  rintro _ w1 mm ⟨k, f, rfl, hf, hk, hbig, hb, rfl⟩
  refine wc_seq ?_; refine wc_sr ?_; refine wl_mv rfl rfl ?_; refine wl_mv rfl rfl ?_; apply wl_val; apply opv_len; exact rfl; exact tkR.sl; exact rfl; refine wl_bin rfl rfl bin_lss rfl ?_; refine wl_ns ?_
  refine wc_cond rfl (fun h1 => ?_) (fun h1 => ?_)
  · obtain ⟨x, hx⟩ : ∃ x, l[k]? = some x := ⟨_, List.getElem?_eq_getElem (by omega)⟩
    obtain ⟨bb, o, cs, rfl, _, _, hp, i1⟩ := RdR.at (k := 3) (by decide) hr (E := rgEl x) (i := k) (by rw [List.getElem?_map, hx]; rfl)
    obtain ⟨X, cx, Y, cy, rfl, rx, _, ry, _⟩ := rgEl.rd hp
    replace i1 := i1.below hb
    have hbt := any_take (p := bigR) hx
    have hft := any_take (p := badR) hx
    rw [hbig, Bool.false_or] at hbt
    unfold rgV at i1
    refine wc_skip ?_; refine we_seq ?_; refine wc_seq ?_; refine wc_block ?_; refine wc_seq ?_; refine wc_sr ?_; refine wl_mv rfl rfl ?_; refine wl_mv rfl rfl ?_; apply wl_val; apply opv_idxG tkR; exact rfl; exact rfl; exact rfl; omega; exact rfl; apply wl_val; apply opv_fa; exact fa_sR (by decide); exact rfl; exact rfl; apply wl_val; apply opv_ldW; exact rfl; assumption; exact e1_by; exact rfl; exact rfl; apply wl_val; apply opv_len; exact rfl; exact tyB.sl; exact rfl; refine wl_bin rfl rfl bin_gtr rfl ?_; refine wl_mv rfl rfl ?_
    refine wl_cutV 21 29 (.bool (decide (((1024 : Int) < (x.fr.length : Int)) ∨ ((1024 : Int) < (x.to.length : Int))))) ?c5 ?_; (case c5 => (dsimp only [List.take]; by_cases hc0 : ((1024 : Int) < (x.fr.length : Int)); (focus (apply wl_skip; exact rfl; exact rfl; exact rfl; refine bTn ?_; (with_reducible assumption); exact rfl; apply wl_skip; exact rfl; exact rfl; exact rfl; refine bTn ?_; (with_reducible assumption); exact rfl; apply wl_skip; exact rfl; exact rfl; exact rfl; refine bTn ?_; (with_reducible assumption); exact rfl; apply wl_skip; exact rfl; exact rfl; exact rfl; refine bTn ?_; (with_reducible assumption); exact rfl; apply wl_skip; exact rfl; exact rfl; exact rfl; refine bTn ?_; (with_reducible assumption); exact rfl; apply wl_skip; exact rfl; exact rfl; exact rfl; refine bTn ?_; (with_reducible assumption); exact rfl; apply wl_skip; exact rfl; exact rfl; exact rfl; refine bTn ?_; (with_reducible assumption); exact rfl; apply wl_val; apply opv_pickT; exact rfl; refine bT ?_; (with_reducible assumption); exact rfl; exact rfl; refine wl_nil ?_; refine we_cut _ ⟨rfl, rfl⟩ ⟨congrArg (fun b => some (Value.bool b)) ?e5_0, ?s5_0⟩; (case e5_0 => ((simp [hc0]; done))); (case s5_0 => (refine And.intro rfl ?_; refine And.intro rfl ?_; refine And.intro rfl ?_; refine And.intro rfl ?_; refine And.intro rfl ?_; refine And.intro rfl ?_; refine And.intro rfl ?_; refine And.intro rfl ?_; refine And.intro rfl ?_; refine And.intro rfl ?_; refine And.intro rfl ?_; refine And.intro rfl ?_; refine And.intro rfl ?_; refine And.intro rfl ?_; refine And.intro rfl ?_; exact True.intro)))); (focus (apply wl_take; exact rfl; exact rfl; exact rfl; refine bF ?_; (with_reducible assumption); refine wl_mv rfl rfl ?_; apply wl_take; exact rfl; exact rfl; exact rfl; refine bF ?_; (with_reducible assumption); refine wl_mv rfl rfl ?_; apply wl_take; exact rfl; exact rfl; exact rfl; refine bF ?_; (with_reducible assumption); apply wl_val; apply opv_idxG tkR; exact rfl; exact rfl; exact rfl; omega; exact rfl; apply wl_take; exact rfl; exact rfl; exact rfl; refine bF ?_; (with_reducible assumption); apply wl_val; apply opv_fa; exact fa_sR (by decide); exact rfl; exact rfl; apply wl_take; exact rfl; exact rfl; exact rfl; refine bF ?_; (with_reducible assumption); apply wl_val; apply opv_ldW; exact rfl; assumption; exact e1_by; exact rfl; exact rfl; apply wl_take; exact rfl; exact rfl; exact rfl; refine bF ?_; (with_reducible assumption); apply wl_val; apply opv_len; exact rfl; exact tyB.sl; exact rfl; apply wl_take; exact rfl; exact rfl; exact rfl; refine bF ?_; (with_reducible assumption); refine wl_bin rfl rfl bin_gtr rfl ?_; apply wl_val; apply opv_pickF; exact rfl; refine bF ?_; (with_reducible assumption); exact rfl; exact rfl; refine wl_nil ?_; refine we_cut _ ⟨rfl, rfl⟩ ⟨congrArg (fun b => some (Value.bool b)) ?e5_1, ?s5_1⟩; (case e5_1 => ((simp [hc0]; done))); (case s5_1 => (refine And.intro rfl ?_; refine And.intro rfl ?_; refine And.intro rfl ?_; refine And.intro rfl ?_; refine And.intro rfl ?_; refine And.intro rfl ?_; refine And.intro rfl ?_; refine And.intro rfl ?_; refine And.intro rfl ?_; refine And.intro rfl ?_; refine And.intro rfl ?_; refine And.intro rfl ?_; refine And.intro rfl ?_; refine And.intro rfl ?_; refine And.intro rfl ?_; exact True.intro)))))); dsimp only [List.drop]
    refine wl_ns ?_
    refine wc_cond rfl (fun h2 => ?_) (fun h2 => ?_)
    · refine wc_sr ?_; refine wl_as rfl rfl ?_; refine wl_ns ?_; refine wc_ret ?_; refine we_seq_ret ?_; refine we_block_ret ?_; refine we_seq_ret ?_; refine we_loop_ret ?_; refine we_block_ret ?_; refine we_seq_ret ?_
      refine we_ret1 rfl rfl ⟨_, rfl, ?_, hb⟩
      rw [checkR, if_neg h64, any_at hx (by rw [bigR]; exact decide_eq_true (by omega))]; rfl
    have hnb : bigR x = false := decide_eq_false (by omega)
    rw [hnb] at hbt
    refine wc_skip ?_; refine we_seq ?_
    have hbad : badR x = (decide (0 < x.to.length) && decide (0 ≤ cmpB x.fr x.to)) := by rw [badR, Bool.decide_and]
    refine wc_heldB mixed fun w2 hS => ?_
    rw [hf] at hft
    cases f with
    | true =>
      rw [Bool.true_or] at hft
      apply wh_takeH 0; exact rfl; intro _ hw_; apply opv_move; exact rfl; exact rfl; kernel_rfl; exact hS; apply wh_takeH 1; exact rfl; intro _ hw_; apply opv_move; exact rfl; exact rfl; kernel_rfl; exact hS; apply wh_skipGH 2; exact rfl; exact rfl; exact rfl; exact rfl; exact bR1; exact rfl; kernel_rfl; exact hS; apply wh_skipGH 3; exact rfl; exact rfl; exact rfl; exact rfl; exact bR1; exact rfl; kernel_rfl; exact hS; apply wh_skipGH 4; exact rfl; exact rfl; exact rfl; exact rfl; exact bR1; exact rfl; kernel_rfl; exact hS; apply wh_skipGH 5; exact rfl; exact rfl; exact rfl; exact rfl; exact bR1; exact rfl; kernel_rfl; exact hS; apply wh_skipGH 6; exact rfl; exact rfl; exact rfl; exact rfl; exact bR1; exact rfl; kernel_rfl; exact hS; apply wh_skipGH 7; exact rfl; exact rfl; exact rfl; exact rfl; exact bR1; exact rfl; kernel_rfl; exact hS; apply wh_skipGH 8; exact rfl; exact rfl; exact rfl; exact rfl; exact bR1; exact rfl; kernel_rfl; exact hS; apply wh_skipGH 9; exact rfl; exact rfl; exact rfl; exact rfl; exact bR1; exact rfl; kernel_rfl; exact hS; apply wh_skipUH 10; exact rfl; exact rfl; exact rfl; exact rfl; exact rfl; kernel_rfl; exact hS; apply wh_skipUH 11; exact rfl; exact rfl; exact rfl; exact rfl; exact rfl; kernel_rfl; exact hS; apply wh_skipUH 12; exact rfl; exact rfl; exact rfl; exact rfl; exact rfl; kernel_rfl; exact hS; apply wh_skipUH 13; exact rfl; exact rfl; exact rfl; exact rfl; exact rfl; kernel_rfl; exact hS; apply wh_skipUH 14; exact rfl; exact rfl; exact rfl; exact rfl; exact rfl; kernel_rfl; exact hS; apply wh_skipUH 15; exact rfl; exact rfl; exact rfl; exact rfl; exact rfl; kernel_rfl; exact hS; apply wh_skipUH 16; exact rfl; exact rfl; exact rfl; exact rfl; exact rfl; kernel_rfl; exact hS; apply wh_skipUH 17; exact rfl; exact rfl; exact rfl; exact rfl; exact rfl; kernel_rfl; exact hS; apply wh_skipUH 18; exact rfl; exact rfl; exact rfl; exact rfl; exact rfl; kernel_rfl; exact hS; apply wh_skipUH 19; exact rfl; exact rfl; exact rfl; exact rfl; exact rfl; kernel_rfl; exact hS; apply wh_skipUH 20; exact rfl; exact rfl; exact rfl; exact rfl; exact rfl; kernel_rfl; exact hS; apply wh_skipUH 21; exact rfl; exact rfl; exact rfl; exact rfl; exact rfl; kernel_rfl; exact hS; apply wh_skipGH 22; exact rfl; exact rfl; exact rfl; exact rfl; exact bR1; exact rfl; kernel_rfl; exact hS; apply wh_takeH 23; exact rfl; intro _ hw_; apply opv_pickT; exact rfl; exact rfl; exact rfl; exact rfl; kernel_rfl; exact hS; apply wh_takeH 24; exact rfl; intro _ hw_; apply opv_assign; exact rfl; exact rfl; kernel_rfl; exact hS
      refine wh_done (by kernel_rfl) ?_
      refine we_block_norm ?_; refine we_seq ?_; refine wc_region ?_; refine wl_mv rfl rfl ?_; apply wl_val; apply opv_bin; exact rfl; exact rfl; exact bin_add64 (by omega); exact rfl; refine wl_as rfl rfl ?_; refine wl_nil ?_
      exact we_loop _ (l.length - (k + 1)) ⟨k + 1, _, rfl, hft, by omega, hbt, hb.trans (hS.mono hb.size), rfl⟩ (by omega) ⟨rfl, rfl, by simp [lookT], trivial⟩
    | false =>
      rw [Bool.false_or] at hft
      by_cases k1 : (0 : Int) < (x.to.length : Int)
      · apply wh_takeH 0; exact rfl; intro _ hw_; apply opv_move; exact rfl; exact rfl; kernel_rfl; exact hS; apply wh_takeH 1; exact rfl; intro _ hw_; apply opv_move; exact rfl; exact rfl; kernel_rfl; exact hS; apply wh_takeGH 2; exact rfl; exact rfl; exact rfl; exact rfl; exact rfl; intro _ hw_; apply opv_move; exact rfl; exact rfl; kernel_rfl; exact hS; apply wh_takeGH 3; exact rfl; exact rfl; exact rfl; exact rfl; exact rfl; intro _ hw_; apply opv_move; exact rfl; exact rfl; kernel_rfl; exact hS; apply wh_takeGH 4; exact rfl; exact rfl; exact rfl; exact rfl; exact rfl; intro _ hw_; apply opv_idxG tkR; exact rfl; exact rfl; exact rfl; omega; exact rfl; kernel_rfl; exact hS; apply wh_takeGH 5; exact rfl; exact rfl; exact rfl; exact rfl; exact rfl; intro _ hw_; apply opv_fa; exact fa_sR (by decide); exact rfl; exact rfl; kernel_rfl; exact hS; apply wh_takeGH 6; exact rfl; exact rfl; exact rfl; exact rfl; exact rfl; intro _ hw_; apply opv_ldW; exact rfl; exact Wi.below (by assumption) hw_; exact e1_by; exact rfl; exact rfl; kernel_rfl; exact hS; apply wh_takeGH 7; exact rfl; exact rfl; exact rfl; exact rfl; exact rfl; intro _ hw_; apply opv_len; exact rfl; exact tyB.sl; exact rfl; kernel_rfl; exact hS; apply wh_takeGH 8; exact rfl; exact rfl; exact rfl; exact rfl; exact rfl; intro _ hw_; apply opv_bin; exact rfl; exact rfl; exact bin_gtr; exact rfl; kernel_rfl; exact hS; apply wh_takeGH 9; exact rfl; exact rfl; exact rfl; exact rfl; exact rfl; intro _ hw_; apply opv_move; exact rfl; exact rfl; kernel_rfl; exact hS; apply wh_takeGH 10; exact rfl; exact rfl; exact rfl; exact rfl; refine bT ?_; (with_reducible assumption); intro _ hw_; apply opv_move; exact rfl; exact rfl; kernel_rfl; exact hS; apply wh_takeGH 11; exact rfl; exact rfl; exact rfl; exact rfl; refine bT ?_; (with_reducible assumption); intro _ hw_; apply opv_move; exact rfl; exact rfl; kernel_rfl; exact hS; apply wh_takeGH 12; exact rfl; exact rfl; exact rfl; exact rfl; refine bT ?_; (with_reducible assumption); intro _ hw_; apply opv_idxG tkR; exact rfl; exact rfl; exact rfl; omega; exact rfl; kernel_rfl; exact hS; apply wh_takeGH 13; exact rfl; exact rfl; exact rfl; exact rfl; refine bT ?_; (with_reducible assumption); intro _ hw_; apply opv_fa; exact fa_sR (by decide); exact rfl; exact rfl; kernel_rfl; exact hS; apply wh_takeGH 14; exact rfl; exact rfl; exact rfl; exact rfl; refine bT ?_; (with_reducible assumption); intro _ hw_; apply opv_ldW; exact rfl; exact Wi.below (by assumption) hw_; exact e1_by; exact rfl; exact rfl; kernel_rfl; exact hS; apply wh_takeGH 15; exact rfl; exact rfl; exact rfl; exact rfl; refine bT ?_; (with_reducible assumption); intro _ hw_; apply opv_move; exact rfl; exact rfl; kernel_rfl; exact hS; apply wh_takeGH 16; exact rfl; exact rfl; exact rfl; exact rfl; refine bT ?_; (with_reducible assumption); intro _ hw_; apply opv_move; exact rfl; exact rfl; kernel_rfl; exact hS; apply wh_takeGH 17; exact rfl; exact rfl; exact rfl; exact rfl; refine bT ?_; (with_reducible assumption); intro _ hw_; apply opv_idxG tkR; exact rfl; exact rfl; exact rfl; omega; exact rfl; kernel_rfl; exact hS; apply wh_takeGH 18; exact rfl; exact rfl; exact rfl; exact rfl; refine bT ?_; (with_reducible assumption); intro _ hw_; apply opv_fa; exact fa_sR (by decide); exact rfl; exact rfl; kernel_rfl; exact hS; apply wh_takeGH 19; exact rfl; exact rfl; exact rfl; exact rfl; refine bT ?_; (with_reducible assumption); intro _ hw_; apply opv_ldW; exact rfl; exact Wi.below (by assumption) hw_; exact e1_by; exact rfl; exact rfl; kernel_rfl; exact hS
        refine wh_one 20 (o := ⟨_, _, _, _, _, _⟩) (by kernel_rfl) rfl ?_
        apply wl_take; exact rfl; exact rfl; exact rfl; refine bT ?_; (with_reducible assumption)
        refine wl_call ok_caissonref01_Cmp (refCmp_any ((rx.below hb).below hS) ((ry.below hb).below hS) rfl rfl (by simp only [maxLen]; omega) (by simp only [maxLen]; omega)) ⟨rfl, rfl, trivial⟩ rfl ?_
        rintro _ w3 ⟨rfl, hbx⟩
        replace hS := hS.trans (hbx.mono hS.size)
        refine wl_nil ?_
        refine we_held hS ?_
        apply wh_takeGH 21; exact rfl; exact rfl; exact rfl; exact rfl; refine bT ?_; (with_reducible assumption); intro _ hw_; apply opv_bin; exact rfl; exact rfl; exact bin_geq; exact rfl; kernel_rfl; exact hS; apply wh_takeGH 22; exact rfl; exact rfl; exact rfl; exact rfl; exact rfl; intro _ hw_; apply opv_pickT; exact rfl; refine bT ?_; (with_reducible assumption); exact rfl; exact rfl; kernel_rfl; exact hS; apply wh_takeH 23; exact rfl; intro _ hw_; apply opv_pickF; exact rfl; exact rfl; exact rfl; exact rfl; kernel_rfl; exact hS; apply wh_takeH 24; exact rfl; intro _ hw_; apply opv_assign; exact rfl; exact rfl; kernel_rfl; exact hS
        refine wh_done (by kernel_rfl) ?_
        refine we_block_norm ?_; refine we_seq ?_; refine wc_region ?_; refine wl_mv rfl rfl ?_; apply wl_val; apply opv_bin; exact rfl; exact rfl; exact bin_add64 (by omega); exact rfl; refine wl_as rfl rfl ?_; refine wl_nil ?_
        exact we_loop _ (l.length - (k + 1)) ⟨k + 1, _, rfl, by rw [hft, hbad, decide_eq_true (show 0 < x.to.length by omega), Bool.true_and], by omega, hbt, hb.trans (hS.mono hb.size), rfl⟩ (by omega) ⟨rfl, rfl, by simp [lookT], trivial⟩
      · apply wh_takeH 0; exact rfl; intro _ hw_; apply opv_move; exact rfl; exact rfl; kernel_rfl; exact hS; apply wh_takeH 1; exact rfl; intro _ hw_; apply opv_move; exact rfl; exact rfl; kernel_rfl; exact hS; apply wh_takeGH 2; exact rfl; exact rfl; exact rfl; exact rfl; exact rfl; intro _ hw_; apply opv_move; exact rfl; exact rfl; kernel_rfl; exact hS; apply wh_takeGH 3; exact rfl; exact rfl; exact rfl; exact rfl; exact rfl; intro _ hw_; apply opv_move; exact rfl; exact rfl; kernel_rfl; exact hS; apply wh_takeGH 4; exact rfl; exact rfl; exact rfl; exact rfl; exact rfl; intro _ hw_; apply opv_idxG tkR; exact rfl; exact rfl; exact rfl; omega; exact rfl; kernel_rfl; exact hS; apply wh_takeGH 5; exact rfl; exact rfl; exact rfl; exact rfl; exact rfl; intro _ hw_; apply opv_fa; exact fa_sR (by decide); exact rfl; exact rfl; kernel_rfl; exact hS; apply wh_takeGH 6; exact rfl; exact rfl; exact rfl; exact rfl; exact rfl; intro _ hw_; apply opv_ldW; exact rfl; exact Wi.below (by assumption) hw_; exact e1_by; exact rfl; exact rfl; kernel_rfl; exact hS; apply wh_takeGH 7; exact rfl; exact rfl; exact rfl; exact rfl; exact rfl; intro _ hw_; apply opv_len; exact rfl; exact tyB.sl; exact rfl; kernel_rfl; exact hS; apply wh_takeGH 8; exact rfl; exact rfl; exact rfl; exact rfl; exact rfl; intro _ hw_; apply opv_bin; exact rfl; exact rfl; exact bin_gtr; exact rfl; kernel_rfl; exact hS; apply wh_takeGH 9; exact rfl; exact rfl; exact rfl; exact rfl; exact rfl; intro _ hw_; apply opv_move; exact rfl; exact rfl; kernel_rfl; exact hS; apply wh_skipGH 10; exact rfl; exact rfl; exact rfl; exact rfl; refine bFn ?_; (with_reducible assumption); exact rfl; kernel_rfl; exact hS; apply wh_skipGH 11; exact rfl; exact rfl; exact rfl; exact rfl; refine bFn ?_; (with_reducible assumption); exact rfl; kernel_rfl; exact hS; apply wh_skipGH 12; exact rfl; exact rfl; exact rfl; exact rfl; refine bFn ?_; (with_reducible assumption); exact rfl; kernel_rfl; exact hS; apply wh_skipGH 13; exact rfl; exact rfl; exact rfl; exact rfl; refine bFn ?_; (with_reducible assumption); exact rfl; kernel_rfl; exact hS; apply wh_skipGH 14; exact rfl; exact rfl; exact rfl; exact rfl; refine bFn ?_; (with_reducible assumption); exact rfl; kernel_rfl; exact hS; apply wh_skipGH 15; exact rfl; exact rfl; exact rfl; exact rfl; refine bFn ?_; (with_reducible assumption); exact rfl; kernel_rfl; exact hS; apply wh_skipGH 16; exact rfl; exact rfl; exact rfl; exact rfl; refine bFn ?_; (with_reducible assumption); exact rfl; kernel_rfl; exact hS; apply wh_skipGH 17; exact rfl; exact rfl; exact rfl; exact rfl; refine bFn ?_; (with_reducible assumption); exact rfl; kernel_rfl; exact hS; apply wh_skipGH 18; exact rfl; exact rfl; exact rfl; exact rfl; refine bFn ?_; (with_reducible assumption); exact rfl; kernel_rfl; exact hS; apply wh_skipGH 19; exact rfl; exact rfl; exact rfl; exact rfl; refine bFn ?_; (with_reducible assumption); exact rfl; kernel_rfl; exact hS; apply wh_skipGH 20; exact rfl; exact rfl; exact rfl; exact rfl; refine bFn ?_; (with_reducible assumption); exact rfl; kernel_rfl; exact hS; apply wh_skipGH 21; exact rfl; exact rfl; exact rfl; exact rfl; refine bFn ?_; (with_reducible assumption); exact rfl; kernel_rfl; exact hS; apply wh_takeGH 22; exact rfl; exact rfl; exact rfl; exact rfl; exact rfl; intro _ hw_; apply opv_pickF; exact rfl; refine bF ?_; (with_reducible assumption); exact rfl; exact rfl; kernel_rfl; exact hS; apply wh_takeH 23; exact rfl; intro _ hw_; apply opv_pickF; exact rfl; exact rfl; exact rfl; exact rfl; kernel_rfl; exact hS; apply wh_takeH 24; exact rfl; intro _ hw_; apply opv_assign; exact rfl; exact rfl; kernel_rfl; exact hS
        refine wh_done (by kernel_rfl) ?_
        refine we_block_norm ?_; refine we_seq ?_; refine wc_region ?_; refine wl_mv rfl rfl ?_; apply wl_val; apply opv_bin; exact rfl; exact rfl; exact bin_add64 (by omega); exact rfl; refine wl_as rfl rfl ?_; refine wl_nil ?_
        exact we_loop _ (l.length - (k + 1)) ⟨k + 1, _, rfl, by rw [hft, hbad, decide_eq_false (show ¬ 0 < x.to.length by omega), Bool.false_and], by omega, hbt, hb.trans (hS.mono hb.size), rfl⟩ (by omega) ⟨rfl, rfl, by simp [lookT], trivial⟩
  · obtain rfl : k = l.length := by omega
    rw [List.take_length] at hbig hf
    cases f with
    | true =>
      refine wc_exit ?_; refine we_seq_exit ?_; refine we_loop_exit ?_; refine we_block_exit ?_; refine we_seq ?_; refine wc_seq ?_; refine wc_sr ?_; refine wl_mv rfl rfl ?_; refine wl_ns ?_; apply wc_condTb; exact rfl; exact rfl; refine wc_sr ?_; refine wl_as rfl rfl ?_; refine wl_ns ?_; refine wc_ret ?_; refine we_seq_ret ?_
      exact we_ret1 rfl rfl ⟨_, rfl, by rw [checkR, if_neg h64, hbig, hf]; rfl, hb⟩
    | false =>
      refine wc_exit ?_; refine we_seq_exit ?_; refine we_loop_exit ?_; refine we_block_exit ?_; refine we_seq ?_; refine wc_seq ?_; refine wc_sr ?_; refine wl_mv rfl rfl ?_; refine wl_ns ?_; apply wc_condFb; exact rfl; exact rfl; refine wc_skip ?_; refine we_seq ?_; refine wc_sr ?_; refine wl_as rfl rfl ?_; refine wl_ns ?_; refine wc_ret ?_
      exact we_ret1 rfl rfl ⟨_, rfl, by rw [checkR, if_neg h64, hbig, hf]; rfl, hb⟩
/-! #### Clash -/
def lowR (x y : Rg) : List UInt8 := if 0 < cmpB y.fr x.fr then y.fr else x.fr
def highR (x y : Rg) : List UInt8 := if x.to.length = 0 ∨ 0 < y.to.length ∧ cmpB y.to x.to < 0 then y.to else x.to
def rClash1 (x y : Rg) : Bool := (x.ex || y.ex) && decide ((highR x y).length = 0 ∨ cmpB (lowR x y) (highR x y) < 0)
def rClash (a b : List Rg) : Bool := a.any fun x => b.any fun y => rClash1 x y
set_option maxRecDepth 8000 in
theorem refClash_any {A B : Option Addr} {n m c d : Nat} {a b : List Rg} {w : World} (ha : RdR 3 w All A (a.map rgEl)) (hb : RdR 3 w All B (b.map rgEl)) (hn : a.length = n) (hm : b.length = m) (hla : a.length ≤ 4294967296) (hlb : b.length ≤ 4294967296) (hka : ∀ x ∈ a, x.fr.length ≤ 1048576 ∧ x.to.length ≤ 1048576) (hkb : ∀ x ∈ b, x.fr.length ≤ 1048576 ∧ x.to.length ≤ 1048576) :
    CallsV Try.prog 16 #[.slice A n c, .slice B m d] w fun v w' => v = .bool (rClash a b) ∧ Below w.heap.size w w' := by
  subst hn hm
  have hs := St.init w
  refine calls_in (N := _) Try.func16 rfl Try.ntmps16 rfl ?_; show WC _ _ _ _ _ _
  refine wc_sr ?_; refine wl_as rfl rfl ?_; refine wl_ns ?_; refine wc_seq ?_; refine wc_sr ?_; refine wl_as rfl rfl ?_; refine wl_ns ?_; refine wc_block ?_
  refine wc_loop (fun L wr mm => ∃ k : Nat, L = [(0, .slice A a.length c), (1, .slice B b.length d), (5, .int .i64 (k : Int))] ∧ k ≤ a.length ∧ ((a.take k).any fun x => b.any fun y => rClash1 x y) = false ∧ St NoB w wr [] ∧ mm = a.length - k)
    [(0, .slice A a.length c), (1, .slice B b.length d), (5, .int .i64 (0 : Nat))] a.length ⟨0, rfl, by omega, rfl, hs, rfl⟩ ⟨rfl, rfl, rfl, trivial⟩ ?_
  clear hs
  rintro _ w1 mm ⟨k, rfl, hk, hf, hs, rfl⟩
  refine wc_seq ?_; refine wc_sr ?_; refine wl_mv rfl rfl ?_; refine wl_mv rfl rfl ?_; apply wl_val; apply opv_len; exact rfl; exact tkR.sl; exact rfl; refine wl_bin rfl rfl bin_lss rfl ?_; refine wl_ns ?_
  refine wc_cond rfl (fun h1 => ?_) (fun h1 => ?_)
  · obtain ⟨x, hx⟩ : ∃ x, a[k]? = some x := ⟨_, List.getElem?_eq_getElem (by omega)⟩
    obtain ⟨bb, o, cs, rfl, _, _, hp, i1⟩ := RdR.at (k := 3) (by decide) ha (E := rgEl x) (i := k) (by rw [List.getElem?_map, hx]; rfl)
    obtain ⟨X, cx, Y, cy, rfl, rx, _, ry, _⟩ := rgEl.rd hp
    have hax := hka x (List.mem_of_getElem? hx)
    have hak := any_take (p := fun x => b.any fun y => rClash1 x y) hx
    rw [hf, Bool.false_or] at hak
    refine wc_skip ?_; refine we_seq ?_; refine wc_seq ?_; refine wc_block ?_; refine wc_sr ?_; refine wl_as rfl rfl ?_; refine wl_ns ?_; refine wc_block ?_
    refine wc_loop (fun L wr mm => ∃ j : Nat, L = [(0, .slice (some ⟨bb, o, none⟩) a.length c), (1, .slice B b.length d), (5, .int .i64 (k : Int)), (6, .int .i64 (j : Int))] ∧ j ≤ b.length ∧ ((b.take j).any fun y => rClash1 x y) = false ∧ St NoB w wr [] ∧ mm = b.length - j)
      [(0, .slice (some ⟨bb, o, none⟩) a.length c), (1, .slice B b.length d), (5, .int .i64 (k : Int)), (6, .int .i64 (0 : Nat))] b.length ⟨0, rfl, by omega, rfl, hs, rfl⟩ ⟨rfl, rfl, rfl, rfl, trivial⟩ ?_
    clear hs
    rintro _ w2 mm ⟨j, rfl, hj, hg, hs, rfl⟩
    refine wc_seq ?_; refine wc_sr ?_; refine wl_mv rfl rfl ?_; refine wl_mv rfl rfl ?_; apply wl_val; apply opv_len; exact rfl; exact tkR.sl; exact rfl; refine wl_bin rfl rfl bin_lss rfl ?_; refine wl_ns ?_
    refine wc_cond rfl (fun h2 => ?_) (fun h2 => ?_)
    · obtain ⟨y, hy⟩ : ∃ y, b[j]? = some y := ⟨_, List.getElem?_eq_getElem (by omega)⟩
      obtain ⟨bc, oc, cs, rfl, _, _, hp2, i2⟩ := RdR.at (k := 3) (by decide) hb (E := rgEl y) (i := j) (by rw [List.getElem?_map, hy]; rfl)
      obtain ⟨X2, cx2, Y2, cy2, rfl, rx2, _, ry2, _⟩ := rgEl.rd hp2
      have hby := hkb y (List.mem_of_getElem? hy)
      have hbt := any_take (p := fun y => rClash1 x y) hy
      rw [hg, Bool.false_or] at hbt
      have fin : rClash1 x y = true → rClash a b = true := fun h => any_at (p := fun x => b.any fun y => rClash1 x y) hx (any_at (p := fun y => rClash1 x y) hy h)
      have hjj : ((j + 1 : Nat) : Int) = (j : Int) + 1 := by omega
      refine wc_skip ?_; refine we_seq ?_; refine wc_seq ?_; refine wc_block ?_; refine wc_seq ?_
      refine wc_cutE (fun L' w' => ∃ g7 g8, L' = [(0, .slice (some ⟨bb, o, none⟩) a.length c), (1, .slice (some ⟨bc, oc, none⟩) b.length d), (5, .int .i64 (k : Int)), (6, .int .i64 (j : Int)), (7, .pointer (some ⟨g7, 0, none⟩)), (8, .pointer (some ⟨g8, 0, none⟩))] ∧ St NoB w w' [.blk g7 61 (rgV x X cx Y cy), .blk g8 61 (rgV y X2 cx2 Y2 cy2)]) ?_ ?_
      · refine wc_heldL (Below w.heap.size w) 11 mixed ?_
        replace hs := hs.below (Below.refl _ _).drew
        have hS := hs.bel
        apply wm_take 0; exact rfl; intro _ hw_; apply opv_move; exact rfl; exact rfl; kernel_rfl; exact hS; apply wm_take 1; exact rfl; intro _ hw_; apply opv_move; exact rfl; exact rfl; kernel_rfl; exact hS; apply wm_take 2; exact rfl; intro _ hw_; apply opv_idxG tkR; exact rfl; exact rfl; exact rfl; omega; exact rfl; kernel_rfl; exact hS; apply wm_take 3; exact rfl; intro _ hw_; apply opv_ldG; exact rfl; exact Wi.below (by assumption) hw_; exact sR; exact rfl; kernel_rfl; exact hS; apply wm_take 4; exact rfl; intro _ hw_; apply opv_move; exact rfl; exact rfl; kernel_rfl; exact hS; apply wm_take 5; exact rfl; intro _ hw_; apply opv_move; exact rfl; exact rfl; kernel_rfl; exact hS; apply wm_take 6; exact rfl; intro _ hw_; apply opv_idxG tkR; exact rfl; exact rfl; exact rfl; omega; exact rfl; kernel_rfl; exact hS; apply wm_take 7; exact rfl; intro _ hw_; apply opv_ldG; exact rfl; exact Wi.below (by assumption) hw_; exact sR; exact rfl; kernel_rfl; exact hS
        refine wm_two 8 9 (by kernel_rfl) rfl rfl ?_ ?_ <;> dsimp only [List.getElem_toArray, List.getElem_cons_succ, List.getElem_cons_zero]
        · refine ws_new hs zeroRg rfl ?_; clear hs; intro g7 _ hs
          refine wl_nil ?_
          refine we_heldM (fun _ => hs.bel) ?_
          refine wm_one 9 (by kernel_rfl) rfl ?_; dsimp only [List.getElem_toArray, List.getElem_cons_succ, List.getElem_cons_zero]
          refine ws_new hs zeroRg rfl ?_; clear hs; intro g8 _ hs
          refine wl_nil ?_
          refine we_heldM (fun _ => hs.bel) ?_
          refine wm_one 10 (by kernel_rfl) rfl ?_; dsimp only [List.getElem_toArray, List.getElem_cons_succ, List.getElem_cons_zero]
          apply ws_stS hs 1; exact rfl; exact rfl; exact rfl; exact sR; exact rfl; exact rfl; clear hs; intro _ hs; dsimp only [setC] at hs; refine wl_nil ?_
          refine we_heldM (fun _ => hs.bel) ?_
          refine wm_one 11 (by kernel_rfl) rfl ?_; dsimp only [List.getElem_toArray, List.getElem_cons_succ, List.getElem_cons_zero]
          apply ws_stS hs 0; exact rfl; exact rfl; exact rfl; exact sR; exact rfl; exact rfl; clear hs; intro _ hs; dsimp only [setC] at hs; refine wl_nil ?_
          refine we_heldM (fun h => absurd h (by decide)) ?_
          refine wm_done (by kernel_rfl) ?_
          exact we_cut _ ⟨g7, g8, rfl, hs.front 1 rfl⟩ ⟨rfl, rfl, rfl, rfl, rfl, rfl, trivial⟩
        · refine ws_new hs zeroRg rfl ?_; clear hs; intro g8 _ hs
          refine wl_nil ?_
          refine we_heldM (fun _ => hs.bel) ?_
          refine wm_one 8 (by kernel_rfl) rfl ?_; dsimp only [List.getElem_toArray, List.getElem_cons_succ, List.getElem_cons_zero]
          refine ws_new hs zeroRg rfl ?_; clear hs; intro g7 _ hs
          refine wl_nil ?_
          refine we_heldM (fun _ => hs.bel) ?_
          refine wm_one 10 (by kernel_rfl) rfl ?_; dsimp only [List.getElem_toArray, List.getElem_cons_succ, List.getElem_cons_zero]
          apply ws_stS hs 0; exact rfl; exact rfl; exact rfl; exact sR; exact rfl; exact rfl; clear hs; intro _ hs; dsimp only [setC] at hs; refine wl_nil ?_
          refine we_heldM (fun _ => hs.bel) ?_
          refine wm_one 11 (by kernel_rfl) rfl ?_; dsimp only [List.getElem_toArray, List.getElem_cons_succ, List.getElem_cons_zero]
          apply ws_stS hs 1; exact rfl; exact rfl; exact rfl; exact sR; exact rfl; exact rfl; clear hs; intro _ hs; dsimp only [setC] at hs; refine wl_nil ?_
          refine we_heldM (fun h => absurd h (by decide)) ?_
          refine wm_done (by kernel_rfl) ?_
          exact we_cut _ ⟨g7, g8, rfl, hs⟩ ⟨rfl, rfl, rfl, rfl, rfl, rfl, trivial⟩
      clear hs i2
      rintro _ w3 ⟨g7, g8, rfl, hs⟩
      refine we_seq ?_; refine wc_seq ?_
      unfold rgV at hs
      replace hs := hs.below (Below.refl _ _).drew
      refine wc_held (fun w => Ar w g7 61 [.slice X x.fr.length cx, .slice Y x.to.length cy, .bool x.ex]) mixed ?_
      have hS := hs.ar 0 rfl
      apply wh_takeH 0; exact rfl; intro _ hw_; apply opv_fa; exact fa_sR (by decide); exact rfl; exact rfl; kernel_rfl; exact hS; apply wh_takeH 1; exact rfl; intro _ hw_; apply opv_ldX; exact rfl; assumption; exact e1_by; exact rfl; exact rfl; kernel_rfl; exact hS; apply wh_takeH 2; exact rfl; intro _ hw_; apply opv_fa; exact fa_sR (by decide); exact rfl; exact rfl; kernel_rfl; exact hS; apply wh_takeH 3; exact rfl; intro _ hw_; apply opv_ldX; exact rfl; assumption; exact e1_by; exact rfl; exact rfl; kernel_rfl; exact hS; apply wh_takeH 4; exact rfl; intro _ hw_; apply opv_assign; exact rfl; exact rfl; kernel_rfl; exact hS; apply wh_takeH 5; exact rfl; intro _ hw_; apply opv_assign; exact rfl; exact rfl; kernel_rfl; exact hS
      clear hS
      refine wh_done (by kernel_rfl) ?_
      refine we_seq ?_
      refine wc_cut (fun L' w' => ∃ P cp, L' = [(0, .slice (some ⟨bb, o, none⟩) a.length c), (1, .slice (some ⟨bc, oc, none⟩) b.length d), (5, .int .i64 (k : Int)), (6, .int .i64 (j : Int)), (7, .pointer (some ⟨g7, 0, none⟩)), (8, .pointer (some ⟨g8, 0, none⟩)), (9, .slice P (lowR x y).length cp), (10, .slice Y x.to.length cy)] ∧ RdB w P (lowR x y) ∧ St NoB w w' [.blk g7 61 [.slice X x.fr.length cx, .slice Y x.to.length cy, .bool x.ex], .blk g8 61 [.slice X2 y.fr.length cx2, .slice Y2 y.to.length cy2, .bool y.ex]]) ?_ ?_
      · refine wc_sr ?_; apply wl_val; apply opv_fa; exact fa_sR (by decide); exact rfl; exact rfl; apply wl_val; apply opv_ldX; exact rfl; exact hs.ar 1 rfl; exact e1_by; exact rfl; exact rfl; refine wl_mv rfl rfl ?_
        refine wl_call ok_caissonref01_Cmp (refCmp_any (rx2.below hs.bel) (rx.below hs.bel) rfl rfl (by simp only [maxLen]; omega) (by simp only [maxLen]; omega)) ⟨rfl, rfl, trivial⟩ rfl ?_
        rintro _ w4 ⟨rfl, hbx⟩
        replace hs := hs.below hbx
        clear hbx
        refine wl_bin rfl rfl bin_gtr rfl ?_; refine wl_ns ?_
        refine wc_cond rfl (fun h3 => ?_) (fun h3 => ?_)
        · refine wc_region ?_; apply wl_val; apply opv_fa; exact fa_sR (by decide); exact rfl; exact rfl; apply wl_val; apply opv_ldX; exact rfl; exact hs.ar 1 rfl; exact e1_by; exact rfl; exact rfl; refine wl_as rfl rfl ?_; refine wl_nil ?_
          have e : lowR x y = y.fr := if_pos h3
          rw [e]
          exact we_cut _ ⟨X2, cx2, rfl, rx2, hs⟩ ⟨rfl, rfl, rfl, rfl, rfl, rfl, rfl, rfl, trivial⟩
        · refine wc_skip ?_
          have e : lowR x y = x.fr := if_neg h3
          rw [e]
          exact we_cut _ ⟨X, cx, rfl, rx, hs⟩ ⟨rfl, rfl, rfl, rfl, rfl, rfl, rfl, rfl, trivial⟩
      clear hs
      rintro _ w4 ⟨P, cp, rfl, rlow, hs⟩
      have hlow : (lowR x y).length ≤ 1048576 := by unfold lowR; split <;> omega
      refine wc_cut (fun L' w' => ∃ P2 cp2, L' = [(0, .slice (some ⟨bb, o, none⟩) a.length c), (1, .slice (some ⟨bc, oc, none⟩) b.length d), (5, .int .i64 (k : Int)), (6, .int .i64 (j : Int)), (7, .pointer (some ⟨g7, 0, none⟩)), (8, .pointer (some ⟨g8, 0, none⟩)), (9, .slice P (lowR x y).length cp), (10, .slice P2 (highR x y).length cp2)] ∧ RdB w P2 (highR x y) ∧ St NoB w w' [.blk g7 61 [.slice X x.fr.length cx, .slice Y x.to.length cy, .bool x.ex], .blk g8 61 [.slice X2 y.fr.length cx2, .slice Y2 y.to.length cy2, .bool y.ex]]) ?_ ?_
      · by_cases c1 : (x.to.length : Int) = 0
        · have e : highR x y = y.to := if_pos (.inl (by omega))
          rw [e]
          refine wc_sr ?_; refine wl_mv rfl rfl ?_; apply wl_val; apply opv_len; exact rfl; exact tyB.sl; exact rfl; refine wl_bin rfl rfl bin_eql rfl ?_; refine wl_mv rfl rfl ?_; apply wl_skip; exact rfl; exact rfl; exact rfl; refine bTn ?_; (with_reducible assumption); exact rfl; apply wl_skip; exact rfl; exact rfl; exact rfl; refine bTn ?_; (with_reducible assumption); exact rfl; apply wl_skip; exact rfl; exact rfl; exact rfl; refine bTn ?_; (with_reducible assumption); exact rfl; apply wl_skip; exact rfl; exact rfl; exact rfl; refine bTn ?_; (with_reducible assumption); exact rfl; apply wl_skip; exact rfl; exact rfl; exact rfl; refine bTn ?_; (with_reducible assumption); exact rfl; apply wl_skipU; exact rfl; exact rfl; exact rfl; exact rfl; apply wl_skipU; exact rfl; exact rfl; exact rfl; exact rfl; apply wl_skipU; exact rfl; exact rfl; exact rfl; exact rfl; apply wl_skipU; exact rfl; exact rfl; exact rfl; exact rfl; apply wl_skipU; exact rfl; exact rfl; exact rfl; exact rfl; apply wl_skip; exact rfl; exact rfl; exact rfl; refine bTn ?_; (with_reducible assumption); exact rfl; apply wl_val; apply opv_pickT; exact rfl; refine bT ?_; (with_reducible assumption); exact rfl; exact rfl; refine wl_ns ?_; apply wc_condTb; exact rfl; exact rfl; refine wc_region ?_; apply wl_val; apply opv_fa; exact fa_sR (by decide); exact rfl; exact rfl; apply wl_val; apply opv_ldX; exact rfl; exact hs.ar 1 rfl; exact e1_by; exact rfl; exact rfl; refine wl_as rfl rfl ?_; refine wl_nil ?_
          exact we_cut _ ⟨Y2, cy2, rfl, ry2, hs⟩ ⟨rfl, rfl, rfl, rfl, rfl, rfl, rfl, rfl, trivial⟩
        by_cases c2 : (0 : Int) < (y.to.length : Int)
        · refine wc_sr ?_; refine wl_mv rfl rfl ?_; apply wl_val; apply opv_len; exact rfl; exact tyB.sl; exact rfl; refine wl_bin rfl rfl bin_eql rfl ?_; refine wl_mv rfl rfl ?_; apply wl_take; exact rfl; exact rfl; exact rfl; refine bF ?_; (with_reducible assumption); apply wl_val; apply opv_fa; exact fa_sR (by decide); exact rfl; exact rfl; apply wl_take; exact rfl; exact rfl; exact rfl; refine bF ?_; (with_reducible assumption); apply wl_val; apply opv_ldX; exact rfl; exact hs.ar 1 rfl; exact e1_by; exact rfl; exact rfl; apply wl_take; exact rfl; exact rfl; exact rfl; refine bF ?_; (with_reducible assumption); apply wl_val; apply opv_len; exact rfl; exact tyB.sl; exact rfl; apply wl_take; exact rfl; exact rfl; exact rfl; refine bF ?_; (with_reducible assumption); refine wl_bin rfl rfl bin_gtr rfl ?_; apply wl_take; exact rfl; exact rfl; exact rfl; refine bF ?_; (with_reducible assumption); refine wl_mv rfl rfl ?_; apply wl_take; exact rfl; exact rfl; exact rfl; refine bT ?_; (with_reducible assumption); apply wl_val; apply opv_fa; exact fa_sR (by decide); exact rfl; exact rfl; apply wl_take; exact rfl; exact rfl; exact rfl; refine bT ?_; (with_reducible assumption); apply wl_val; apply opv_ldX; exact rfl; exact hs.ar 1 rfl; exact e1_by; exact rfl; exact rfl; apply wl_take; exact rfl; exact rfl; exact rfl; refine bT ?_; (with_reducible assumption); refine wl_mv rfl rfl ?_; apply wl_take; exact rfl; exact rfl; exact rfl; refine bT ?_; (with_reducible assumption)
          refine wl_call ok_caissonref01_Cmp (refCmp_any (ry2.below hs.bel) (ry.below hs.bel) rfl rfl (by simp only [maxLen]; omega) (by simp only [maxLen]; omega)) ⟨rfl, rfl, trivial⟩ rfl ?_
          rintro _ w5 ⟨rfl, hbx⟩
          replace hs := hs.below hbx
          clear hbx
          by_cases c3 : cmpB y.to x.to < 0
          · have e : highR x y = y.to := if_pos (.inr ⟨by omega, c3⟩)
            rw [e]
            apply wl_take; exact rfl; exact rfl; exact rfl; refine bT ?_; (with_reducible assumption); refine wl_bin rfl rfl bin_lss rfl ?_; apply wl_take; exact rfl; exact rfl; exact rfl; refine bF ?_; (with_reducible assumption); apply wl_val; apply opv_pickT; exact rfl; refine bT ?_; (with_reducible assumption); exact rfl; exact rfl; apply wl_val; apply opv_pickF; exact rfl; refine bF ?_; (with_reducible assumption); exact rfl; exact rfl; refine wl_ns ?_; apply wc_decT; exact rfl; (with_reducible assumption); refine wc_region ?_; apply wl_val; apply opv_fa; exact fa_sR (by decide); exact rfl; exact rfl; apply wl_val; apply opv_ldX; exact rfl; exact hs.ar 1 rfl; exact e1_by; exact rfl; exact rfl; refine wl_as rfl rfl ?_; refine wl_nil ?_
            exact we_cut _ ⟨Y2, cy2, rfl, ry2, hs⟩ ⟨rfl, rfl, rfl, rfl, rfl, rfl, rfl, rfl, trivial⟩
          · have e : highR x y = x.to := if_neg (by omega)
            rw [e]
            apply wl_take; exact rfl; exact rfl; exact rfl; refine bT ?_; (with_reducible assumption); refine wl_bin rfl rfl bin_lss rfl ?_; apply wl_take; exact rfl; exact rfl; exact rfl; refine bF ?_; (with_reducible assumption); apply wl_val; apply opv_pickT; exact rfl; refine bT ?_; (with_reducible assumption); exact rfl; exact rfl; apply wl_val; apply opv_pickF; exact rfl; refine bF ?_; (with_reducible assumption); exact rfl; exact rfl; refine wl_ns ?_; apply wc_decF; exact rfl; (with_reducible assumption); refine wc_skip ?_
            exact we_cut _ ⟨Y, cy, rfl, ry, hs⟩ ⟨rfl, rfl, rfl, rfl, rfl, rfl, rfl, rfl, trivial⟩
        · have e : highR x y = x.to := if_neg (by omega)
          rw [e]
          refine wc_sr ?_; refine wl_mv rfl rfl ?_; apply wl_val; apply opv_len; exact rfl; exact tyB.sl; exact rfl; refine wl_bin rfl rfl bin_eql rfl ?_; refine wl_mv rfl rfl ?_; apply wl_take; exact rfl; exact rfl; exact rfl; refine bF ?_; (with_reducible assumption); apply wl_val; apply opv_fa; exact fa_sR (by decide); exact rfl; exact rfl; apply wl_take; exact rfl; exact rfl; exact rfl; refine bF ?_; (with_reducible assumption); apply wl_val; apply opv_ldX; exact rfl; exact hs.ar 1 rfl; exact e1_by; exact rfl; exact rfl; apply wl_take; exact rfl; exact rfl; exact rfl; refine bF ?_; (with_reducible assumption); apply wl_val; apply opv_len; exact rfl; exact tyB.sl; exact rfl; apply wl_take; exact rfl; exact rfl; exact rfl; refine bF ?_; (with_reducible assumption); refine wl_bin rfl rfl bin_gtr rfl ?_; apply wl_take; exact rfl; exact rfl; exact rfl; refine bF ?_; (with_reducible assumption); refine wl_mv rfl rfl ?_; apply wl_skip; exact rfl; exact rfl; exact rfl; refine bFn ?_; (with_reducible assumption); exact rfl; apply wl_skip; exact rfl; exact rfl; exact rfl; refine bFn ?_; (with_reducible assumption); exact rfl; apply wl_skip; exact rfl; exact rfl; exact rfl; refine bFn ?_; (with_reducible assumption); exact rfl; apply wl_skip; exact rfl; exact rfl; exact rfl; refine bFn ?_; (with_reducible assumption); exact rfl; apply wl_skip; exact rfl; exact rfl; exact rfl; refine bFn ?_; (with_reducible assumption); exact rfl; apply wl_take; exact rfl; exact rfl; exact rfl; refine bF ?_; (with_reducible assumption); apply wl_val; apply opv_pickF; exact rfl; refine bF ?_; (with_reducible assumption); exact rfl; exact rfl; apply wl_val; apply opv_pickF; exact rfl; refine bF ?_; (with_reducible assumption); exact rfl; exact rfl; refine wl_ns ?_; apply wc_condFb; exact rfl; exact rfl; refine wc_skip ?_
          exact we_cut _ ⟨Y, cy, rfl, ry, hs⟩ ⟨rfl, rfl, rfl, rfl, rfl, rfl, rfl, rfl, trivial⟩
      clear hs
      rintro _ w5 ⟨P2, cp2, rfl, rhigh, hs⟩
      have hhigh : (highR x y).length ≤ 1048576 := by unfold highR; split <;> omega
      have e1 : rClash1 x y = ((x.ex || y.ex) && decide ((highR x y).length = 0 ∨ cmpB (lowR x y) (highR x y) < 0)) := rfl
      by_cases hex : (x.ex || y.ex) = true
      · rw [hex, Bool.true_and] at e1
        have hx2 : x.ex = true ∨ x.ex = false ∧ y.ex = true := by
          cases he : x.ex with
          | true => exact .inl rfl
          | false => rw [he] at hex; exact .inr ⟨rfl, by simpa using hex⟩
        rcases hx2 with hx2 | ⟨hx2, hy2⟩
        · rw [hx2] at hs
          by_cases c1 : ((highR x y).length : Int) = 0
          · have e2 : rClash1 x y = true := by rw [e1]; exact decide_eq_true (.inl (by omega))
            refine wc_sr ?_; apply wl_val; apply opv_fa; exact fa_sR (by decide); exact rfl; exact rfl; apply wl_val; apply opv_ldX; exact rfl; exact hs.ar 0 rfl; exact e1_bool; exact rfl; exact rfl; refine wl_mv rfl rfl ?_; apply wl_skip; exact rfl; exact rfl; exact rfl; exact bR1; exact rfl; apply wl_skip; exact rfl; exact rfl; exact rfl; exact bR1; exact rfl; apply wl_val; apply opv_pickT; exact rfl; exact rfl; exact rfl; exact rfl; refine wl_mv rfl rfl ?_; apply wl_take; exact rfl; exact rfl; exact rfl; exact rfl; refine wl_mv rfl rfl ?_; apply wl_take; exact rfl; exact rfl; exact rfl; exact rfl; apply wl_val; apply opv_len; exact rfl; exact tyB.sl; exact rfl; apply wl_take; exact rfl; exact rfl; exact rfl; exact rfl; refine wl_bin rfl rfl bin_eql rfl ?_; apply wl_take; exact rfl; exact rfl; exact rfl; exact rfl; refine wl_mv rfl rfl ?_; apply wl_skip; exact rfl; exact rfl; exact rfl; refine bTn ?_; (with_reducible assumption); exact rfl; apply wl_skip; exact rfl; exact rfl; exact rfl; refine bTn ?_; (with_reducible assumption); exact rfl; apply wl_skip; exact rfl; exact rfl; exact rfl; refine bTn ?_; (with_reducible assumption); exact rfl; apply wl_skip; exact rfl; exact rfl; exact rfl; refine bTn ?_; (with_reducible assumption); exact rfl; apply wl_take; exact rfl; exact rfl; exact rfl; exact rfl; apply wl_val; apply opv_pickT; exact rfl; refine bT ?_; (with_reducible assumption); exact rfl; exact rfl; apply wl_val; apply opv_pickT; exact rfl; exact rfl; exact rfl; exact rfl; refine wl_ns ?_; apply wc_condTb; exact rfl; exact rfl; refine wc_sr ?_; refine wl_as rfl rfl ?_; refine wl_ns ?_; refine wc_ret ?_; refine we_block_ret ?_; refine we_seq_ret ?_; refine we_loop_ret ?_; refine we_block_ret ?_; refine we_block_ret ?_; refine we_seq_ret ?_; refine we_loop_ret ?_; refine we_block_ret ?_; refine we_seq_ret ?_
            exact we_ret1 rfl rfl ⟨_, rfl, by rw [fin e2], hs.bel⟩
          · refine wc_sr ?_; apply wl_val; apply opv_fa; exact fa_sR (by decide); exact rfl; exact rfl; apply wl_val; apply opv_ldX; exact rfl; exact hs.ar 0 rfl; exact e1_bool; exact rfl; exact rfl; refine wl_mv rfl rfl ?_; apply wl_skip; exact rfl; exact rfl; exact rfl; exact bR1; exact rfl; apply wl_skip; exact rfl; exact rfl; exact rfl; exact bR1; exact rfl; apply wl_val; apply opv_pickT; exact rfl; exact rfl; exact rfl; exact rfl; refine wl_mv rfl rfl ?_; apply wl_take; exact rfl; exact rfl; exact rfl; exact rfl; refine wl_mv rfl rfl ?_; apply wl_take; exact rfl; exact rfl; exact rfl; exact rfl; apply wl_val; apply opv_len; exact rfl; exact tyB.sl; exact rfl; apply wl_take; exact rfl; exact rfl; exact rfl; exact rfl; refine wl_bin rfl rfl bin_eql rfl ?_; apply wl_take; exact rfl; exact rfl; exact rfl; exact rfl; refine wl_mv rfl rfl ?_; apply wl_take; exact rfl; exact rfl; exact rfl; refine bF ?_; (with_reducible assumption); refine wl_mv rfl rfl ?_; apply wl_take; exact rfl; exact rfl; exact rfl; refine bF ?_; (with_reducible assumption); refine wl_mv rfl rfl ?_; apply wl_take; exact rfl; exact rfl; exact rfl; refine bF ?_; (with_reducible assumption)
            refine wl_call ok_caissonref01_Cmp (refCmp_any (rlow.below hs.bel) (rhigh.below hs.bel) rfl rfl (by simp only [maxLen]; omega) (by simp only [maxLen]; omega)) ⟨rfl, rfl, trivial⟩ rfl ?_
            rintro _ w6 ⟨rfl, hbx⟩
            replace hs := hs.below hbx
            clear hbx
            by_cases c2 : cmpB (lowR x y) (highR x y) < 0
            · have e2 : rClash1 x y = true := by rw [e1]; exact decide_eq_true (.inr c2)
              apply wl_take; exact rfl; exact rfl; exact rfl; refine bF ?_; (with_reducible assumption); refine wl_bin rfl rfl bin_lss rfl ?_; apply wl_take; exact rfl; exact rfl; exact rfl; exact rfl; apply wl_val; apply opv_pickF; exact rfl; refine bF ?_; (with_reducible assumption); exact rfl; exact rfl; apply wl_val; apply opv_pickT; exact rfl; exact rfl; exact rfl; exact rfl; refine wl_ns ?_; apply wc_decT; exact rfl; (with_reducible assumption); refine wc_sr ?_; refine wl_as rfl rfl ?_; refine wl_ns ?_; refine wc_ret ?_; refine we_block_ret ?_; refine we_seq_ret ?_; refine we_loop_ret ?_; refine we_block_ret ?_; refine we_block_ret ?_; refine we_seq_ret ?_; refine we_loop_ret ?_; refine we_block_ret ?_; refine we_seq_ret ?_
              exact we_ret1 rfl rfl ⟨_, rfl, by rw [fin e2], hs.bel⟩
            · have e2 : rClash1 x y = false := by rw [e1]; exact decide_eq_false (by omega)
              apply wl_take; exact rfl; exact rfl; exact rfl; refine bF ?_; (with_reducible assumption); refine wl_bin rfl rfl bin_lss rfl ?_; apply wl_take; exact rfl; exact rfl; exact rfl; exact rfl; apply wl_val; apply opv_pickF; exact rfl; refine bF ?_; (with_reducible assumption); exact rfl; exact rfl; apply wl_val; apply opv_pickT; exact rfl; exact rfl; exact rfl; exact rfl; refine wl_ns ?_; apply wc_decF; exact rfl; (with_reducible assumption); refine wc_skip ?_; refine we_block_norm ?_; refine we_seq ?_; refine wc_region ?_; refine wl_mv rfl rfl ?_; apply wl_val; apply opv_bin; exact rfl; exact rfl; exact bin_add64 (by omega); exact rfl; refine wl_as rfl rfl ?_; refine wl_nil ?_
              exact we_loop _ (b.length - (j + 1)) ⟨j + 1, rfl, by omega, by rw [hbt, e2], (hs.drop 0 rfl).drop 0 rfl, rfl⟩ (by omega) ⟨rfl, rfl, rfl, by simp [lookT], trivial⟩
        · rw [hx2, hy2] at hs
          by_cases c1 : ((highR x y).length : Int) = 0
          · have e2 : rClash1 x y = true := by rw [e1]; exact decide_eq_true (.inl (by omega))
            refine wc_sr ?_; apply wl_val; apply opv_fa; exact fa_sR (by decide); exact rfl; exact rfl; apply wl_val; apply opv_ldX; exact rfl; exact hs.ar 0 rfl; exact e1_bool; exact rfl; exact rfl; refine wl_mv rfl rfl ?_; apply wl_take; exact rfl; exact rfl; exact rfl; exact rfl; apply wl_val; apply opv_fa; exact fa_sR (by decide); exact rfl; exact rfl; apply wl_take; exact rfl; exact rfl; exact rfl; exact rfl; apply wl_val; apply opv_ldX; exact rfl; exact hs.ar 1 rfl; exact e1_bool; exact rfl; exact rfl; apply wl_val; apply opv_pickF; exact rfl; exact rfl; exact rfl; exact rfl; refine wl_mv rfl rfl ?_; apply wl_take; exact rfl; exact rfl; exact rfl; exact rfl; refine wl_mv rfl rfl ?_; apply wl_take; exact rfl; exact rfl; exact rfl; exact rfl; apply wl_val; apply opv_len; exact rfl; exact tyB.sl; exact rfl; apply wl_take; exact rfl; exact rfl; exact rfl; exact rfl; refine wl_bin rfl rfl bin_eql rfl ?_; apply wl_take; exact rfl; exact rfl; exact rfl; exact rfl; refine wl_mv rfl rfl ?_; apply wl_skip; exact rfl; exact rfl; exact rfl; refine bTn ?_; (with_reducible assumption); exact rfl; apply wl_skip; exact rfl; exact rfl; exact rfl; refine bTn ?_; (with_reducible assumption); exact rfl; apply wl_skip; exact rfl; exact rfl; exact rfl; refine bTn ?_; (with_reducible assumption); exact rfl; apply wl_skip; exact rfl; exact rfl; exact rfl; refine bTn ?_; (with_reducible assumption); exact rfl; apply wl_take; exact rfl; exact rfl; exact rfl; exact rfl; apply wl_val; apply opv_pickT; exact rfl; refine bT ?_; (with_reducible assumption); exact rfl; exact rfl; apply wl_val; apply opv_pickT; exact rfl; exact rfl; exact rfl; exact rfl; refine wl_ns ?_; apply wc_condTb; exact rfl; exact rfl; refine wc_sr ?_; refine wl_as rfl rfl ?_; refine wl_ns ?_; refine wc_ret ?_; refine we_block_ret ?_; refine we_seq_ret ?_; refine we_loop_ret ?_; refine we_block_ret ?_; refine we_block_ret ?_; refine we_seq_ret ?_; refine we_loop_ret ?_; refine we_block_ret ?_; refine we_seq_ret ?_
            exact we_ret1 rfl rfl ⟨_, rfl, by rw [fin e2], hs.bel⟩
          · refine wc_sr ?_; apply wl_val; apply opv_fa; exact fa_sR (by decide); exact rfl; exact rfl; apply wl_val; apply opv_ldX; exact rfl; exact hs.ar 0 rfl; exact e1_bool; exact rfl; exact rfl; refine wl_mv rfl rfl ?_; apply wl_take; exact rfl; exact rfl; exact rfl; exact rfl; apply wl_val; apply opv_fa; exact fa_sR (by decide); exact rfl; exact rfl; apply wl_take; exact rfl; exact rfl; exact rfl; exact rfl; apply wl_val; apply opv_ldX; exact rfl; exact hs.ar 1 rfl; exact e1_bool; exact rfl; exact rfl; apply wl_val; apply opv_pickF; exact rfl; exact rfl; exact rfl; exact rfl; refine wl_mv rfl rfl ?_; apply wl_take; exact rfl; exact rfl; exact rfl; exact rfl; refine wl_mv rfl rfl ?_; apply wl_take; exact rfl; exact rfl; exact rfl; exact rfl; apply wl_val; apply opv_len; exact rfl; exact tyB.sl; exact rfl; apply wl_take; exact rfl; exact rfl; exact rfl; exact rfl; refine wl_bin rfl rfl bin_eql rfl ?_; apply wl_take; exact rfl; exact rfl; exact rfl; exact rfl; refine wl_mv rfl rfl ?_; apply wl_take; exact rfl; exact rfl; exact rfl; refine bF ?_; (with_reducible assumption); refine wl_mv rfl rfl ?_; apply wl_take; exact rfl; exact rfl; exact rfl; refine bF ?_; (with_reducible assumption); refine wl_mv rfl rfl ?_; apply wl_take; exact rfl; exact rfl; exact rfl; refine bF ?_; (with_reducible assumption)
            refine wl_call ok_caissonref01_Cmp (refCmp_any (rlow.below hs.bel) (rhigh.below hs.bel) rfl rfl (by simp only [maxLen]; omega) (by simp only [maxLen]; omega)) ⟨rfl, rfl, trivial⟩ rfl ?_
            rintro _ w6 ⟨rfl, hbx⟩
            replace hs := hs.below hbx
            clear hbx
            by_cases c2 : cmpB (lowR x y) (highR x y) < 0
            · have e2 : rClash1 x y = true := by rw [e1]; exact decide_eq_true (.inr c2)
              apply wl_take; exact rfl; exact rfl; exact rfl; refine bF ?_; (with_reducible assumption); refine wl_bin rfl rfl bin_lss rfl ?_; apply wl_take; exact rfl; exact rfl; exact rfl; exact rfl; apply wl_val; apply opv_pickF; exact rfl; refine bF ?_; (with_reducible assumption); exact rfl; exact rfl; apply wl_val; apply opv_pickT; exact rfl; exact rfl; exact rfl; exact rfl; refine wl_ns ?_; apply wc_decT; exact rfl; (with_reducible assumption); refine wc_sr ?_; refine wl_as rfl rfl ?_; refine wl_ns ?_; refine wc_ret ?_; refine we_block_ret ?_; refine we_seq_ret ?_; refine we_loop_ret ?_; refine we_block_ret ?_; refine we_block_ret ?_; refine we_seq_ret ?_; refine we_loop_ret ?_; refine we_block_ret ?_; refine we_seq_ret ?_
              exact we_ret1 rfl rfl ⟨_, rfl, by rw [fin e2], hs.bel⟩
            · have e2 : rClash1 x y = false := by rw [e1]; exact decide_eq_false (by omega)
              apply wl_take; exact rfl; exact rfl; exact rfl; refine bF ?_; (with_reducible assumption); refine wl_bin rfl rfl bin_lss rfl ?_; apply wl_take; exact rfl; exact rfl; exact rfl; exact rfl; apply wl_val; apply opv_pickF; exact rfl; refine bF ?_; (with_reducible assumption); exact rfl; exact rfl; apply wl_val; apply opv_pickT; exact rfl; exact rfl; exact rfl; exact rfl; refine wl_ns ?_; apply wc_decF; exact rfl; (with_reducible assumption); refine wc_skip ?_; refine we_block_norm ?_; refine we_seq ?_; refine wc_region ?_; refine wl_mv rfl rfl ?_; apply wl_val; apply opv_bin; exact rfl; exact rfl; exact bin_add64 (by omega); exact rfl; refine wl_as rfl rfl ?_; refine wl_nil ?_
              exact we_loop _ (b.length - (j + 1)) ⟨j + 1, rfl, by omega, by rw [hbt, e2], (hs.drop 0 rfl).drop 0 rfl, rfl⟩ (by omega) ⟨rfl, rfl, rfl, by simp [lookT], trivial⟩
      · have hx2 : x.ex = false ∧ y.ex = false := by simpa using hex
        rw [hx2.1, hx2.2] at hs
        have e2 : rClash1 x y = false := by rw [e1, hx2.1, hx2.2]; rfl
        refine wc_sr ?_; apply wl_val; apply opv_fa; exact fa_sR (by decide); exact rfl; exact rfl; apply wl_val; apply opv_ldX; exact rfl; exact hs.ar 0 rfl; exact e1_bool; exact rfl; exact rfl; refine wl_mv rfl rfl ?_; apply wl_take; exact rfl; exact rfl; exact rfl; exact rfl; apply wl_val; apply opv_fa; exact fa_sR (by decide); exact rfl; exact rfl; apply wl_take; exact rfl; exact rfl; exact rfl; exact rfl; apply wl_val; apply opv_ldX; exact rfl; exact hs.ar 1 rfl; exact e1_bool; exact rfl; exact rfl; apply wl_val; apply opv_pickF; exact rfl; exact rfl; exact rfl; exact rfl; refine wl_mv rfl rfl ?_; apply wl_skip; exact rfl; exact rfl; exact rfl; exact bR2; exact rfl; apply wl_skip; exact rfl; exact rfl; exact rfl; exact bR2; exact rfl; apply wl_skip; exact rfl; exact rfl; exact rfl; exact bR2; exact rfl; apply wl_skip; exact rfl; exact rfl; exact rfl; exact bR2; exact rfl; apply wl_skipU; exact rfl; exact rfl; exact rfl; exact rfl; apply wl_skipU; exact rfl; exact rfl; exact rfl; exact rfl; apply wl_skipU; exact rfl; exact rfl; exact rfl; exact rfl; apply wl_skipU; exact rfl; exact rfl; exact rfl; exact rfl; apply wl_skip; exact rfl; exact rfl; exact rfl; exact bR2; exact rfl; apply wl_val; apply opv_pickF; exact rfl; exact rfl; exact rfl; exact rfl; refine wl_ns ?_; apply wc_condFb; exact rfl; exact rfl; refine wc_skip ?_; refine we_block_norm ?_; refine we_seq ?_; refine wc_region ?_; refine wl_mv rfl rfl ?_; apply wl_val; apply opv_bin; exact rfl; exact rfl; exact bin_add64 (by omega); exact rfl; refine wl_as rfl rfl ?_; refine wl_nil ?_
        exact we_loop _ (b.length - (j + 1)) ⟨j + 1, rfl, by omega, by rw [hbt, e2], (hs.drop 0 rfl).drop 0 rfl, rfl⟩ (by omega) ⟨rfl, rfl, rfl, by simp [lookT], trivial⟩
    · obtain rfl : j = b.length := by omega
      rw [List.take_length] at hg
      refine wc_exit ?_; refine we_seq_exit ?_; refine we_loop_exit ?_; refine we_block_exit ?_; refine we_block_norm ?_; refine we_seq ?_; refine wc_region ?_; refine wl_mv rfl rfl ?_; apply wl_val; apply opv_bin; exact rfl; exact rfl; exact bin_add64 (by omega); exact rfl; refine wl_as rfl rfl ?_; refine wl_nil ?_
      exact we_loop _ (a.length - (k + 1)) ⟨k + 1, rfl, by omega, by rw [hak]; exact hg, hs, rfl⟩ (by omega) ⟨rfl, rfl, by simp [lookT], trivial⟩
  · obtain rfl : k = a.length := by omega
    rw [List.take_length] at hf
    refine wc_exit ?_; refine we_seq_exit ?_; refine we_loop_exit ?_; refine we_block_exit ?_; refine we_seq ?_; refine wc_sr ?_; refine wl_as rfl rfl ?_; refine wl_ns ?_; refine wc_ret ?_
    exact we_ret1 rfl rfl ⟨_, rfl, by rw [rClash, hf], hs.bel⟩
end Go.Proofs.Ytmdbjeabifkimaa

/-
  Walks over the document's SameRanges and SameTxns of locks; its Clash of ranges in form.
-/
namespace Go.Proofs.Ytmdbjeabifkimaa
open Go.RowKit

/-! #### Ranges in form -/
theorem lt_iff {a b : List UInt8} : 0 < cmpB b a ↔ cmpB a b < 0 := by
  have := cmp_neg a b
  omega
theorem le_lt {a b t : List UInt8} (h : ¬ cmpB b a < 0) (h2 : cmpB b t < 0) : cmpB a t < 0 := by
  rcases cmp_range a b with k | k | k
  · exact cmp_trans (by omega) h2
  · rw [cmp_zero k]; exact h2
  · have := cmp_neg a b; omega
theorem lt_le {a b t : List UInt8} (h : cmpB t a < 0) (h2 : ¬ cmpB b a < 0) : cmpB t b < 0 := by
  rcases cmp_range a b with k | k | k
  · exact cmp_trans h (by omega)
  · rw [← cmp_zero k]; exact h
  · have := cmp_neg a b; omega
theorem belowB_iff {a b : List UInt8} : belowB a b = true ↔ b.length = 0 ∨ cmpB a b < 0 := by
  rw [belowB, Bool.or_eq_true, decide_eq_true_eq, List.isEmpty_iff, List.length_eq_zero_iff]
theorem low_iff {x y : Rg} {t : List UInt8} : belowB (lowR x y) t = true ↔ belowB x.fr t = true ∧ belowB y.fr t = true := by
  simp only [belowB_iff]
  unfold lowR
  split
  · rename_i h
    rw [lt_iff] at h
    constructor
    · rintro (k | k)
      · exact ⟨.inl k, .inl k⟩
      · exact ⟨.inr (cmp_trans h k), .inr k⟩
    · exact fun k => k.2
  · rename_i h
    rw [lt_iff] at h
    constructor
    · rintro (k | k)
      · exact ⟨.inl k, .inl k⟩
      · exact ⟨.inr k, .inr (le_lt h k)⟩
    · exact fun k => k.1
theorem high_iff {x y : Rg} {a : List UInt8} : belowB a (highR x y) = true ↔ belowB a x.to = true ∧ belowB a y.to = true := by
  simp only [belowB_iff]
  unfold highR
  split
  · rename_i h
    rcases h with h | ⟨h, h2⟩
    · exact ⟨fun k => ⟨.inl h, k⟩, fun k => k.2⟩
    · constructor
      · rintro (k | k)
        · omega
        · exact ⟨.inr (cmp_trans k h2), .inr k⟩
      · exact fun k => k.2
  · rename_i h
    have h1 : ¬ x.to.length = 0 := fun k => h (.inl k)
    constructor
    · rintro (k | k)
      · omega
      · refine ⟨.inr k, ?_⟩
        by_cases k2 : y.to.length = 0
        · exact .inl k2
        · exact .inr (lt_le k fun k3 => h (.inr ⟨by omega, k3⟩))
    · exact fun k => k.1
theorem rClash1_eq {x y : Rg} (hx : okR x) (hy : okR y) : rClash1 x y = clash1 x y := by
  have ho : ∀ {z : Rg}, okR z → belowB z.fr z.to = true := fun h => belowB_iff.2 (by
    rcases h.2.2 with k | k
    · exact .inl (by rw [k]; rfl)
    · exact .inr k)
  unfold rClash1 clash1
  congr 1
  rw [Bool.eq_iff_iff, decide_eq_true_eq, ← belowB_iff, low_iff, high_iff, high_iff, meetsB, Bool.and_eq_true]
  exact ⟨fun h => ⟨h.1.2, h.2.1⟩, fun h => ⟨⟨ho hx, h.1⟩, h.2, ho hy⟩⟩
theorem any_congr' {α : Type} {p q : α → Bool} : ∀ {l : List α}, (∀ x ∈ l, p x = q x) → l.any p = l.any q
  | [], _ => rfl
  | x :: l, h => by rw [List.any_cons, List.any_cons, h x List.mem_cons_self, any_congr' fun y hy => h y (List.mem_cons_of_mem _ hy)]
theorem rClash_eq {a b : List Rg} (ha : ∀ x ∈ a, okR x) (hb : ∀ x ∈ b, okR x) : rClash a b = clashB a b :=
  any_congr' fun x hx => any_congr' fun y hy => rClash1_eq (ha x hx) (hb y hy)
/-! #### The walks -/
theorem bin_neqBo {P : Program} {t : TypeId} {a b : Bool} (ht : P.underlying t = some .bool) : BinV P .neq t (.bool a) (.bool b) (.bool (a != b)) := .mk fun x y w => by
  have h : ∀ d : Nat, (Op.equalIn (d + 1) t (.bool a) (.bool b)).run P w = .ok (a == b) w := fun d => by simp [Op.equalIn, run_underlying ht]
  simp [eqGuard, binOp, Op.equal, Op.maxDepth, h 9999, bne]
theorem sameTx_any {A B : Option Addr} {n m c d : Nat} {a b : List Tx} {w : World} (ha : RdR 2 w All A (txEls a)) (hb : RdR 2 w All B (txEls b)) (hn : a.length = n) (hm : b.length = m) (hla : a.length ≤ 4294967296) :
    CallsV Try.prog 26 #[.slice A n c, .slice B m d] w fun v w' => v = .bool (decide (a = b)) ∧ Below w.heap.size w w' := by
  subst hn hm
  refine calls_in (N := _) Try.func26 rfl Try.ntmps26 rfl ?_; show WC _ _ _ _ _ _
  refine wc_sr ?_; refine wl_as rfl rfl ?_; refine wl_ns ?_; refine wc_seq ?_; refine wc_sr ?_; refine wl_mv rfl rfl ?_; apply wl_val; apply opv_len; exact rfl; exact tkTx.sl; exact rfl; refine wl_mv rfl rfl ?_; apply wl_val; apply opv_len; exact rfl; exact tkTx.sl; exact rfl; refine wl_bin rfl rfl bin_neq rfl ?_; refine wl_ns ?_
  by_cases hab : (a.length : Int) = (b.length : Int)
  case neg =>
    apply wc_decT; exact rfl; (with_reducible assumption); refine wc_sr ?_; refine wl_as rfl rfl ?_; refine wl_ns ?_; refine wc_ret ?_; refine we_seq_ret ?_
    exact we_ret1 rfl rfl ⟨_, rfl, by rw [decide_eq_false]; rintro rfl; exact hab rfl, Below.refl _ _⟩
  apply wc_decF; exact rfl; omega; refine wc_skip ?_; refine we_seq ?_; refine wc_seq ?_; refine wc_sr ?_; refine wl_as rfl rfl ?_; refine wl_ns ?_; refine wc_block ?_
  refine wc_loop (fun L wr mm => ∃ (k : Nat), L = [(0, .slice A a.length c), (1, .slice B b.length d), (5, .int .i64 (k : Int))] ∧ k ≤ a.length ∧ a.take k = b.take k ∧ Below w.heap.size w wr ∧ mm = a.length - k)
    [(0, .slice A a.length c), (1, .slice B b.length d), (5, .int .i64 (0 : Nat))] a.length ⟨0, rfl, by omega, rfl, Below.refl _ _, rfl⟩ ⟨rfl, rfl, rfl, trivial⟩ ?_
  rintro _ w1 mm ⟨k, rfl, hk, he, hw, rfl⟩
  refine wc_seq ?_; refine wc_sr ?_; refine wl_mv rfl rfl ?_; refine wl_mv rfl rfl ?_; apply wl_val; apply opv_len; exact rfl; exact tkTx.sl; exact rfl; refine wl_bin rfl rfl bin_lss rfl ?_; refine wl_ns ?_
  refine wc_cond rfl (fun h1 => ?_) (fun h1 => ?_)
  · obtain ⟨x, hx⟩ : ∃ x, a[k]? = some x := ⟨_, List.getElem?_eq_getElem (by omega)⟩
    obtain ⟨y, hy⟩ : ∃ x, b[k]? = some x := ⟨_, List.getElem?_eq_getElem (by omega)⟩
    obtain ⟨bb, o, cs, rfl, _, _, hp, i1⟩ := RdR.at (k := 2) (by decide) ha (E := rawEl (txV x)) (i := k) (by rw [List.getElem?_map, hx]; rfl)
    obtain rfl : cs = txV x := hp
    obtain ⟨bc, oc, cs, rfl, _, _, hp, i2⟩ := RdR.at (k := 2) (by decide) hb (E := rawEl (txV y)) (i := k) (by rw [List.getElem?_map, hy]; rfl)
    obtain rfl : cs = txV y := hp
    replace i1 := i1.below hw
    replace i2 := i2.below hw
    refine wc_skip ?_; refine we_seq ?_; refine wc_seq ?_; refine wc_block ?_; refine wc_seq ?_
    refine wc_heldB mixed fun w2 hS => ?_
    apply wh_takeH 0; exact rfl; intro _ hw_; apply opv_move; exact rfl; exact rfl; kernel_rfl; exact hS; apply wh_takeH 1; exact rfl; intro _ hw_; apply opv_move; exact rfl; exact rfl; kernel_rfl; exact hS; apply wh_takeH 2; exact rfl; intro _ hw_; apply opv_idxG tkTx; exact rfl; exact rfl; exact rfl; omega; exact rfl; kernel_rfl; exact hS; apply wh_takeH 3; exact rfl; intro _ hw_; apply opv_ldG; exact rfl; exact Wi.below (by assumption) hw_; exact sTx; exact rfl; kernel_rfl; exact hS; apply wh_takeH 4; exact rfl; intro _ hw_; apply opv_move; exact rfl; exact rfl; kernel_rfl; exact hS; apply wh_takeH 5; exact rfl; intro _ hw_; apply opv_move; exact rfl; exact rfl; kernel_rfl; exact hS; apply wh_takeH 6; exact rfl; intro _ hw_; apply opv_idxG tkTx; exact rfl; exact rfl; exact rfl; omega; exact rfl; kernel_rfl; exact hS; apply wh_takeH 7; exact rfl; intro _ hw_; apply opv_ldG; exact rfl; exact Wi.below (by assumption) hw_; exact sTx; exact rfl; kernel_rfl; exact hS; apply wh_takeH 8; exact rfl; intro _ hw_; apply opv_bin; exact rfl; exact rfl; exact (bin_neqTx _ _); exact rfl; kernel_rfl; exact hS
    refine wh_done (by kernel_rfl) ?_
    refine we_seq ?_
    by_cases hxy : x = y
    · rw [decide_eq_true hxy]
      apply wc_condFb; exact rfl; exact Bool.not_true; refine wc_skip ?_; refine we_block_norm ?_; refine we_seq ?_; refine wc_region ?_; refine wl_mv rfl rfl ?_; apply wl_val; apply opv_bin; exact rfl; exact rfl; exact bin_add64 (by omega); exact rfl; refine wl_as rfl rfl ?_; refine wl_nil ?_
      exact we_loop _ (a.length - (k + 1)) ⟨k + 1, rfl, by omega, by rw [take_getR hx, take_getR hy, he, hxy], hw.trans (hS.mono hw.size), rfl⟩ (by omega) ⟨rfl, rfl, by simp [lookT], trivial⟩
    · rw [decide_eq_false hxy]
      apply wc_condTb; exact rfl; exact Bool.not_false; refine wc_sr ?_; refine wl_as rfl rfl ?_; refine wl_ns ?_; refine wc_ret ?_; refine we_block_ret ?_; refine we_seq_ret ?_; refine we_loop_ret ?_; refine we_block_ret ?_; refine we_seq_ret ?_
      exact we_ret1 rfl rfl ⟨_, rfl, by rw [decide_eq_false]; rintro rfl; rw [hx] at hy; exact hxy (by injection hy), hw.trans (hS.mono hw.size)⟩
  · obtain rfl : k = a.length := by omega
    rw [List.take_length, show a.length = b.length by omega, List.take_length] at he
    refine wc_exit ?_; refine we_seq_exit ?_; refine we_loop_exit ?_; refine we_block_exit ?_; refine we_seq ?_; refine wc_sr ?_; refine wl_as rfl rfl ?_; refine wl_ns ?_; refine wc_ret ?_
    exact we_ret1 rfl rfl ⟨_, rfl, by rw [decide_eq_true he], hw⟩
instance : DecidableEq Rg := fun a b => decidable_of_iff (a.fr = b.fr ∧ a.to = b.to ∧ a.ex = b.ex) ⟨fun ⟨h1, h2, h3⟩ => by cases a; cases b; simp_all, fun h => by rw [h]; exact ⟨rfl, rfl, rfl⟩⟩
theorem sameRg_any {A B : Option Addr} {n m c d : Nat} {a b : List Rg} {w : World} (ha : RdR 3 w All A (a.map rgEl)) (hb : RdR 3 w All B (b.map rgEl)) (hn : a.length = n) (hm : b.length = m) (hla : a.length ≤ 4294967296) (hka : ∀ x ∈ a, x.fr.length ≤ 1048576 ∧ x.to.length ≤ 1048576) :
    CallsV Try.prog 20 #[.slice A n c, .slice B m d] w fun v w' => v = .bool (decide (a = b)) ∧ Below w.heap.size w w' := by
  subst hn hm
  refine calls_in (N := _) Try.func20 rfl Try.ntmps20 rfl ?_; show WC _ _ _ _ _ _
  refine wc_sr ?_; refine wl_as rfl rfl ?_; refine wl_ns ?_; refine wc_seq ?_; refine wc_sr ?_; refine wl_mv rfl rfl ?_; apply wl_val; apply opv_len; exact rfl; exact tkR.sl; exact rfl; refine wl_mv rfl rfl ?_; apply wl_val; apply opv_len; exact rfl; exact tkR.sl; exact rfl; refine wl_bin rfl rfl bin_neq rfl ?_; refine wl_ns ?_
  by_cases hab : (a.length : Int) = (b.length : Int)
  case neg =>
    apply wc_decT; exact rfl; (with_reducible assumption); refine wc_sr ?_; refine wl_as rfl rfl ?_; refine wl_ns ?_; refine wc_ret ?_; refine we_seq_ret ?_
    exact we_ret1 rfl rfl ⟨_, rfl, by rw [decide_eq_false]; rintro rfl; exact hab rfl, Below.refl _ _⟩
  apply wc_decF; exact rfl; omega; refine wc_skip ?_; refine we_seq ?_; refine wc_seq ?_; refine wc_sr ?_; refine wl_as rfl rfl ?_; refine wl_ns ?_; refine wc_block ?_
  refine wc_loop (fun L wr mm => ∃ (k : Nat), L = [(0, .slice A a.length c), (1, .slice B b.length d), (5, .int .i64 (k : Int))] ∧ k ≤ a.length ∧ a.take k = b.take k ∧ Below w.heap.size w wr ∧ mm = a.length - k)
    [(0, .slice A a.length c), (1, .slice B b.length d), (5, .int .i64 (0 : Nat))] a.length ⟨0, rfl, by omega, rfl, Below.refl _ _, rfl⟩ ⟨rfl, rfl, rfl, trivial⟩ ?_
  rintro _ w1 mm ⟨k, rfl, hk, he, hw, rfl⟩
  refine wc_seq ?_; refine wc_sr ?_; refine wl_mv rfl rfl ?_; refine wl_mv rfl rfl ?_; apply wl_val; apply opv_len; exact rfl; exact tkR.sl; exact rfl; refine wl_bin rfl rfl bin_lss rfl ?_; refine wl_ns ?_
  refine wc_cond rfl (fun h1 => ?_) (fun h1 => ?_)
  · obtain ⟨x, hx⟩ : ∃ x, a[k]? = some x := ⟨_, List.getElem?_eq_getElem (by omega)⟩
    obtain ⟨y, hy⟩ : ∃ x, b[k]? = some x := ⟨_, List.getElem?_eq_getElem (by omega)⟩
    have hax := hka x (List.mem_of_getElem? hx)
    obtain ⟨bb, o, cs, rfl, _, _, hp, i1⟩ := RdR.at (k := 3) (by decide) ha (E := rgEl x) (i := k) (by rw [List.getElem?_map, hx]; rfl)
    obtain ⟨X, cx, Y, cy, rfl, rx, _, ry, _⟩ := rgEl.rd hp
    obtain ⟨bc, oc, cs, rfl, _, _, hp2, i2⟩ := RdR.at (k := 3) (by decide) hb (E := rgEl y) (i := k) (by rw [List.getElem?_map, hy]; rfl)
    obtain ⟨X2, cx2, Y2, cy2, rfl, rx2, _, ry2, _⟩ := rgEl.rd hp2
    replace i1 := i1.below hw
    replace i2 := i2.below hw
    unfold rgV at i1 i2
    have hne : x ≠ y → decide (a = b) = false := fun h => by
      rw [decide_eq_false]; rintro rfl; rw [hx] at hy; exact h (by injection hy)
    refine wc_skip ?_; refine we_seq ?_; refine wc_seq ?_; refine wc_block ?_; refine wc_seq ?_
    refine wc_heldB mixed fun w2 hS => ?_
    apply wh_takeH 0; exact rfl; intro _ hw_; apply opv_move; exact rfl; exact rfl; kernel_rfl; exact hS; apply wh_takeH 1; exact rfl; intro _ hw_; apply opv_move; exact rfl; exact rfl; kernel_rfl; exact hS; apply wh_takeH 2; exact rfl; intro _ hw_; apply opv_idxG tkR; exact rfl; exact rfl; exact rfl; omega; exact rfl; kernel_rfl; exact hS; apply wh_takeH 3; exact rfl; intro _ hw_; apply opv_fa; exact fa_sR (by decide); exact rfl; exact rfl; kernel_rfl; exact hS; apply wh_takeH 4; exact rfl; intro _ hw_; apply opv_ldW; exact rfl; exact Wi.below (by assumption) hw_; exact e1_bool; exact rfl; exact rfl; kernel_rfl; exact hS; apply wh_takeH 5; exact rfl; intro _ hw_; apply opv_move; exact rfl; exact rfl; kernel_rfl; exact hS; apply wh_takeH 6; exact rfl; intro _ hw_; apply opv_move; exact rfl; exact rfl; kernel_rfl; exact hS; apply wh_takeH 7; exact rfl; intro _ hw_; apply opv_idxG tkR; exact rfl; exact rfl; exact rfl; omega; exact rfl; kernel_rfl; exact hS; apply wh_takeH 8; exact rfl; intro _ hw_; apply opv_fa; exact fa_sR (by decide); exact rfl; exact rfl; kernel_rfl; exact hS; apply wh_takeH 9; exact rfl; intro _ hw_; apply opv_ldW; exact rfl; exact Wi.below (by assumption) hw_; exact e1_bool; exact rfl; exact rfl; kernel_rfl; exact hS; apply wh_takeH 10; exact rfl; intro _ hw_; apply opv_bin; exact rfl; exact rfl; exact bin_neqBo Try.underlying4; exact rfl; kernel_rfl; exact hS
    by_cases h2 : x.ex = y.ex
    case neg =>
      have hb2 : (x.ex != y.ex) = true := by simpa using h2
      rw [hb2]
      apply wh_takeH 11; exact rfl; intro _ hw_; apply opv_move; exact rfl; exact rfl; kernel_rfl; exact hS; apply wh_skipGH 12; exact rfl; exact rfl; exact rfl; exact rfl; exact bR1; exact rfl; kernel_rfl; exact hS; apply wh_skipGH 13; exact rfl; exact rfl; exact rfl; exact rfl; exact bR1; exact rfl; kernel_rfl; exact hS; apply wh_skipGH 14; exact rfl; exact rfl; exact rfl; exact rfl; exact bR1; exact rfl; kernel_rfl; exact hS; apply wh_skipGH 15; exact rfl; exact rfl; exact rfl; exact rfl; exact bR1; exact rfl; kernel_rfl; exact hS; apply wh_skipGH 16; exact rfl; exact rfl; exact rfl; exact rfl; exact bR1; exact rfl; kernel_rfl; exact hS; apply wh_skipGH 17; exact rfl; exact rfl; exact rfl; exact rfl; exact bR1; exact rfl; kernel_rfl; exact hS; apply wh_skipGH 18; exact rfl; exact rfl; exact rfl; exact rfl; exact bR1; exact rfl; kernel_rfl; exact hS; apply wh_skipGH 19; exact rfl; exact rfl; exact rfl; exact rfl; exact bR1; exact rfl; kernel_rfl; exact hS; apply wh_skipGH 20; exact rfl; exact rfl; exact rfl; exact rfl; exact bR1; exact rfl; kernel_rfl; exact hS; apply wh_skipGH 21; exact rfl; exact rfl; exact rfl; exact rfl; exact bR1; exact rfl; kernel_rfl; exact hS; apply wh_skipGH 22; exact rfl; exact rfl; exact rfl; exact rfl; exact bR1; exact rfl; kernel_rfl; exact hS; apply wh_skipGH 23; exact rfl; exact rfl; exact rfl; exact rfl; exact bR1; exact rfl; kernel_rfl; exact hS; apply wh_takeH 24; exact rfl; intro _ hw_; apply opv_pickT; exact rfl; exact rfl; exact rfl; exact rfl; kernel_rfl; exact hS; apply wh_takeH 25; exact rfl; intro _ hw_; apply opv_move; exact rfl; exact rfl; kernel_rfl; exact hS; apply wh_skipGH 26; exact rfl; exact rfl; exact rfl; exact rfl; exact bR1; exact rfl; kernel_rfl; exact hS; apply wh_skipGH 27; exact rfl; exact rfl; exact rfl; exact rfl; exact bR1; exact rfl; kernel_rfl; exact hS; apply wh_skipGH 28; exact rfl; exact rfl; exact rfl; exact rfl; exact bR1; exact rfl; kernel_rfl; exact hS; apply wh_skipGH 29; exact rfl; exact rfl; exact rfl; exact rfl; exact bR1; exact rfl; kernel_rfl; exact hS; apply wh_skipGH 30; exact rfl; exact rfl; exact rfl; exact rfl; exact bR1; exact rfl; kernel_rfl; exact hS; apply wh_skipGH 31; exact rfl; exact rfl; exact rfl; exact rfl; exact bR1; exact rfl; kernel_rfl; exact hS; apply wh_skipGH 32; exact rfl; exact rfl; exact rfl; exact rfl; exact bR1; exact rfl; kernel_rfl; exact hS; apply wh_skipGH 33; exact rfl; exact rfl; exact rfl; exact rfl; exact bR1; exact rfl; kernel_rfl; exact hS; apply wh_skipGH 34; exact rfl; exact rfl; exact rfl; exact rfl; exact bR1; exact rfl; kernel_rfl; exact hS; apply wh_skipGH 35; exact rfl; exact rfl; exact rfl; exact rfl; exact bR1; exact rfl; kernel_rfl; exact hS; apply wh_skipGH 36; exact rfl; exact rfl; exact rfl; exact rfl; exact bR1; exact rfl; kernel_rfl; exact hS; apply wh_skipGH 37; exact rfl; exact rfl; exact rfl; exact rfl; exact bR1; exact rfl; kernel_rfl; exact hS; apply wh_takeH 38; exact rfl; intro _ hw_; apply opv_pickT; exact rfl; exact rfl; exact rfl; exact rfl; kernel_rfl; exact hS
      refine wh_done (by kernel_rfl) ?_
      refine we_seq ?_; apply wc_condTb; exact rfl; exact rfl; refine wc_sr ?_; refine wl_as rfl rfl ?_; refine wl_ns ?_; refine wc_ret ?_; refine we_block_ret ?_; refine we_seq_ret ?_; refine we_loop_ret ?_; refine we_block_ret ?_; refine we_seq_ret ?_
      exact we_ret1 rfl rfl ⟨_, rfl, by rw [hne fun e => h2 (by rw [e])], hw.trans (hS.mono hw.size)⟩
    have hb2 : (x.ex != y.ex) = false := by rw [h2]; cases y.ex <;> rfl
    rw [hb2]
    apply wh_takeH 11; exact rfl; intro _ hw_; apply opv_move; exact rfl; exact rfl; kernel_rfl; exact hS; apply wh_takeGH 12; exact rfl; exact rfl; exact rfl; exact rfl; exact rfl; intro _ hw_; apply opv_move; exact rfl; exact rfl; kernel_rfl; exact hS; apply wh_takeGH 13; exact rfl; exact rfl; exact rfl; exact rfl; exact rfl; intro _ hw_; apply opv_move; exact rfl; exact rfl; kernel_rfl; exact hS; apply wh_takeGH 14; exact rfl; exact rfl; exact rfl; exact rfl; exact rfl; intro _ hw_; apply opv_idxG tkR; exact rfl; exact rfl; exact rfl; omega; exact rfl; kernel_rfl; exact hS; apply wh_takeGH 15; exact rfl; exact rfl; exact rfl; exact rfl; exact rfl; intro _ hw_; apply opv_fa; exact fa_sR (by decide); exact rfl; exact rfl; kernel_rfl; exact hS; apply wh_takeGH 16; exact rfl; exact rfl; exact rfl; exact rfl; exact rfl; intro _ hw_; apply opv_ldW; exact rfl; exact Wi.below (by assumption) hw_; exact e1_by; exact rfl; exact rfl; kernel_rfl; exact hS; apply wh_takeGH 17; exact rfl; exact rfl; exact rfl; exact rfl; exact rfl; intro _ hw_; apply opv_move; exact rfl; exact rfl; kernel_rfl; exact hS; apply wh_takeGH 18; exact rfl; exact rfl; exact rfl; exact rfl; exact rfl; intro _ hw_; apply opv_move; exact rfl; exact rfl; kernel_rfl; exact hS; apply wh_takeGH 19; exact rfl; exact rfl; exact rfl; exact rfl; exact rfl; intro _ hw_; apply opv_idxG tkR; exact rfl; exact rfl; exact rfl; omega; exact rfl; kernel_rfl; exact hS; apply wh_takeGH 20; exact rfl; exact rfl; exact rfl; exact rfl; exact rfl; intro _ hw_; apply opv_fa; exact fa_sR (by decide); exact rfl; exact rfl; kernel_rfl; exact hS; apply wh_takeGH 21; exact rfl; exact rfl; exact rfl; exact rfl; exact rfl; intro _ hw_; apply opv_ldW; exact rfl; exact Wi.below (by assumption) hw_; exact e1_by; exact rfl; exact rfl; kernel_rfl; exact hS
    refine wh_one 22 (o := ⟨_, _, _, _, _, _⟩) (by kernel_rfl) rfl ?_
    apply wl_take; exact rfl; exact rfl; exact rfl; exact rfl
    refine wl_call ok_caissonref01_Equal (equal_any ((rx.below hw).below hS) ((rx2.below hw).below hS) rfl rfl (by simp only [maxLen]; omega)) ⟨rfl, rfl, trivial⟩ rfl ?_
    rintro _ w3 ⟨rfl, hbx⟩
    replace hS := hS.trans (hbx.mono hS.size)
    refine wl_nil ?_
    refine we_held hS ?_
    by_cases h3 : x.fr = y.fr
    case neg =>
      rw [decide_eq_false h3]
      apply wh_takeGH 23; exact rfl; exact rfl; exact rfl; exact rfl; exact rfl; intro _ hw_; apply opv_not; exact rfl; exact rfl; kernel_rfl; exact hS; apply wh_takeH 24; exact rfl; intro _ hw_; apply opv_pickF; exact rfl; exact rfl; exact rfl; exact rfl; kernel_rfl; exact hS; apply wh_takeH 25; exact rfl; intro _ hw_; apply opv_move; exact rfl; exact rfl; kernel_rfl; exact hS; apply wh_skipGH 26; exact rfl; exact rfl; exact rfl; exact rfl; exact rfl; exact rfl; kernel_rfl; exact hS; apply wh_skipGH 27; exact rfl; exact rfl; exact rfl; exact rfl; exact rfl; exact rfl; kernel_rfl; exact hS; apply wh_skipGH 28; exact rfl; exact rfl; exact rfl; exact rfl; exact rfl; exact rfl; kernel_rfl; exact hS; apply wh_skipGH 29; exact rfl; exact rfl; exact rfl; exact rfl; exact rfl; exact rfl; kernel_rfl; exact hS; apply wh_skipGH 30; exact rfl; exact rfl; exact rfl; exact rfl; exact rfl; exact rfl; kernel_rfl; exact hS; apply wh_skipGH 31; exact rfl; exact rfl; exact rfl; exact rfl; exact rfl; exact rfl; kernel_rfl; exact hS; apply wh_skipGH 32; exact rfl; exact rfl; exact rfl; exact rfl; exact rfl; exact rfl; kernel_rfl; exact hS; apply wh_skipGH 33; exact rfl; exact rfl; exact rfl; exact rfl; exact rfl; exact rfl; kernel_rfl; exact hS; apply wh_skipGH 34; exact rfl; exact rfl; exact rfl; exact rfl; exact rfl; exact rfl; kernel_rfl; exact hS; apply wh_skipGH 35; exact rfl; exact rfl; exact rfl; exact rfl; exact rfl; exact rfl; kernel_rfl; exact hS; apply wh_skipGH 36; exact rfl; exact rfl; exact rfl; exact rfl; exact rfl; exact rfl; kernel_rfl; exact hS; apply wh_skipGH 37; exact rfl; exact rfl; exact rfl; exact rfl; exact rfl; exact rfl; kernel_rfl; exact hS; apply wh_takeH 38; exact rfl; intro _ hw_; apply opv_pickT; exact rfl; exact Bool.not_false; exact rfl; exact rfl; kernel_rfl; exact hS
      refine wh_done (by kernel_rfl) ?_
      refine we_seq ?_; apply wc_condTb; exact rfl; exact rfl; refine wc_sr ?_; refine wl_as rfl rfl ?_; refine wl_ns ?_; refine wc_ret ?_; refine we_block_ret ?_; refine we_seq_ret ?_; refine we_loop_ret ?_; refine we_block_ret ?_; refine we_seq_ret ?_
      exact we_ret1 rfl rfl ⟨_, rfl, by rw [hne fun e => h3 (by rw [e])], hw.trans (hS.mono hw.size)⟩
    rw [decide_eq_true h3]
    apply wh_takeGH 23; exact rfl; exact rfl; exact rfl; exact rfl; exact rfl; intro _ hw_; apply opv_not; exact rfl; exact rfl; kernel_rfl; exact hS; apply wh_takeH 24; exact rfl; intro _ hw_; apply opv_pickF; exact rfl; exact rfl; exact rfl; exact rfl; kernel_rfl; exact hS; apply wh_takeH 25; exact rfl; intro _ hw_; apply opv_move; exact rfl; exact rfl; kernel_rfl; exact hS; apply wh_takeGH 26; exact rfl; exact rfl; exact rfl; exact rfl; exact Bool.not_true; intro _ hw_; apply opv_move; exact rfl; exact rfl; kernel_rfl; exact hS; apply wh_takeGH 27; exact rfl; exact rfl; exact rfl; exact rfl; exact Bool.not_true; intro _ hw_; apply opv_move; exact rfl; exact rfl; kernel_rfl; exact hS; apply wh_takeGH 28; exact rfl; exact rfl; exact rfl; exact rfl; exact Bool.not_true; intro _ hw_; apply opv_idxG tkR; exact rfl; exact rfl; exact rfl; omega; exact rfl; kernel_rfl; exact hS; apply wh_takeGH 29; exact rfl; exact rfl; exact rfl; exact rfl; exact Bool.not_true; intro _ hw_; apply opv_fa; exact fa_sR (by decide); exact rfl; exact rfl; kernel_rfl; exact hS; apply wh_takeGH 30; exact rfl; exact rfl; exact rfl; exact rfl; exact Bool.not_true; intro _ hw_; apply opv_ldW; exact rfl; exact Wi.below (by assumption) hw_; exact e1_by; exact rfl; exact rfl; kernel_rfl; exact hS; apply wh_takeGH 31; exact rfl; exact rfl; exact rfl; exact rfl; exact Bool.not_true; intro _ hw_; apply opv_move; exact rfl; exact rfl; kernel_rfl; exact hS; apply wh_takeGH 32; exact rfl; exact rfl; exact rfl; exact rfl; exact Bool.not_true; intro _ hw_; apply opv_move; exact rfl; exact rfl; kernel_rfl; exact hS; apply wh_takeGH 33; exact rfl; exact rfl; exact rfl; exact rfl; exact Bool.not_true; intro _ hw_; apply opv_idxG tkR; exact rfl; exact rfl; exact rfl; omega; exact rfl; kernel_rfl; exact hS; apply wh_takeGH 34; exact rfl; exact rfl; exact rfl; exact rfl; exact Bool.not_true; intro _ hw_; apply opv_fa; exact fa_sR (by decide); exact rfl; exact rfl; kernel_rfl; exact hS; apply wh_takeGH 35; exact rfl; exact rfl; exact rfl; exact rfl; exact Bool.not_true; intro _ hw_; apply opv_ldW; exact rfl; exact Wi.below (by assumption) hw_; exact e1_by; exact rfl; exact rfl; kernel_rfl; exact hS
    refine wh_one 36 (o := ⟨_, _, _, _, _, _⟩) (by kernel_rfl) rfl ?_
    apply wl_take; exact rfl; exact rfl; exact rfl; exact Bool.not_true
    refine wl_call ok_caissonref01_Equal (equal_any ((ry.below hw).below hS) ((ry2.below hw).below hS) rfl rfl (by simp only [maxLen]; omega)) ⟨rfl, rfl, trivial⟩ rfl ?_
    rintro _ w4 ⟨rfl, hbx4⟩
    replace hS := hS.trans (hbx4.mono hS.size)
    refine wl_nil ?_
    refine we_held hS ?_
    by_cases h4 : x.to = y.to
    case neg =>
      rw [decide_eq_false h4]
      apply wh_takeGH 37; exact rfl; exact rfl; exact rfl; exact rfl; exact Bool.not_true; intro _ hw_; apply opv_not; exact rfl; exact rfl; kernel_rfl; exact hS; apply wh_takeH 38; exact rfl; intro _ hw_; apply opv_pickF; exact rfl; exact Bool.not_true; exact rfl; exact rfl; kernel_rfl; exact hS
      refine wh_done (by kernel_rfl) ?_
      refine we_seq ?_; apply wc_condTb; exact rfl; exact Bool.not_false; refine wc_sr ?_; refine wl_as rfl rfl ?_; refine wl_ns ?_; refine wc_ret ?_; refine we_block_ret ?_; refine we_seq_ret ?_; refine we_loop_ret ?_; refine we_block_ret ?_; refine we_seq_ret ?_
      exact we_ret1 rfl rfl ⟨_, rfl, by rw [hne fun e => h4 (by rw [e])], hw.trans (hS.mono hw.size)⟩
    rw [decide_eq_true h4]
    apply wh_takeGH 37; exact rfl; exact rfl; exact rfl; exact rfl; exact Bool.not_true; intro _ hw_; apply opv_not; exact rfl; exact rfl; kernel_rfl; exact hS; apply wh_takeH 38; exact rfl; intro _ hw_; apply opv_pickF; exact rfl; exact Bool.not_true; exact rfl; exact rfl; kernel_rfl; exact hS
    refine wh_done (by kernel_rfl) ?_
    refine we_seq ?_; apply wc_condFb; exact rfl; exact Bool.not_true; refine wc_skip ?_; refine we_block_norm ?_; refine we_seq ?_; refine wc_region ?_; refine wl_mv rfl rfl ?_; apply wl_val; apply opv_bin; exact rfl; exact rfl; exact bin_add64 (by omega); exact rfl; refine wl_as rfl rfl ?_; refine wl_nil ?_
    have hxy : x = y := by cases x; cases y; simp_all
    exact we_loop _ (a.length - (k + 1)) ⟨k + 1, rfl, by omega, by rw [take_getR hx, take_getR hy, he, hxy], hw.trans (hS.mono hw.size), rfl⟩ (by omega) ⟨rfl, rfl, by simp [lookT], trivial⟩
  · obtain rfl : k = a.length := by omega
    rw [List.take_length, show a.length = b.length by omega, List.take_length] at he
    refine wc_exit ?_; refine we_seq_exit ?_; refine we_loop_exit ?_; refine we_block_exit ?_; refine we_seq ?_; refine wc_sr ?_; refine wl_as rfl rfl ?_; refine wl_ns ?_; refine wc_ret ?_
    exact we_ret1 rfl rfl ⟨_, rfl, by rw [decide_eq_true he], hw⟩
end Go.Proofs.Ytmdbjeabifkimaa

/-
  Plain laws of one that asks and wasn't known. No program in sight.
-/
namespace Go.Proofs.Ytmdbjeabifkimaa

/-- One waits and holds nothing. -/
def Wt (t : Tb) (x : Tx) (l : List Rg) : Prop := x ∈ t.qu ∧ ⟨x, [], l⟩ ∈ t.os
/-- One holds what it asked for. -/
def Gt (t : Tb) (x : Tx) (l : List Rg) : Prop := x ∉ t.qu ∧ ⟨x, l, []⟩ ∈ t.os
theorem Wt.other {t : Tb} {x z : Tx} {l : List Rg} (h : Wt t x l) (hz : x ≠ z) : Wt (goOne t z) x l := ⟨mem_unq.2 ⟨h.1, hz⟩, mem_go.2 (.inl ⟨h.2, hz⟩)⟩
theorem Wt.leave {t : Tb} {x z : Tx} {l : List Rg} (h : Wt t x l) (hz : x ≠ z) : Wt (leaveT t z) x l := ⟨mem_unq.2 ⟨h.1, hz⟩, mem_leave.2 (.inl ⟨h.2, hz⟩)⟩
theorem Wt.go {t : Tb} {x : Tx} {l : List Rg} (h : Wt t x l) : Gt (goOne t x) x l := ⟨fun k => (mem_unq.1 k).2 rfl, mem_go.2 (.inr ⟨_, h.2, rfl, rfl⟩)⟩
theorem Gt.go {t : Tb} {x z : Tx} {l : List Rg} (h : Gt t x l) : Gt (goOne t z) x l := by
  refine ⟨fun k => h.1 (mem_unq.1 k).1, ?_⟩
  by_cases hz : x = z
  · subst hz
    exact mem_go.2 (.inr ⟨_, h.2, rfl, by simp⟩)
  · exact mem_go.2 (.inl ⟨h.2, hz⟩)
theorem step_out {r : Tb × List Tx} {z : Tx} : goStep r z = (goOne r.1 z, r.2 ++ [z]) ∨ goStep r z = r := by
  unfold goStep
  split
  · exact .inl rfl
  · exact .inr rfl
end Go.Proofs.Ytmdbjeabifkimaa

/-
  Walk over the law LockAlone.
-/
namespace Go.Proofs.Ytmdbjeabifkimaa
open Go.RowKit

theorem okR_small {x : Rg} (h : okR x) : x.fr.length ≤ 1048576 ∧ x.to.length ≤ 1048576 := ⟨by have := h.1; omega, by have := h.2.1; omega⟩
end Go.Proofs.Ytmdbjeabifkimaa
