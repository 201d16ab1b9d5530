/-
  The texts of this proof, joined: Dm.
-/
import Derived.Test.YtmdbjeabifkimaaCodM6

/-
  Walk over the law LockCodes.
-/
namespace Go.Proofs.Ytmdbjeabifkimaa
open Go.RowKit

theorem fold_len : ∀ {zs : List Tx} {r : Tb × List Tx}, (zs.foldl goStep r).2.length ≤ r.2.length + zs.length
  | [], _ => Nat.le_refl _
  | z :: zs, r => by
    have h := fold_len (zs := zs) (r := goStep r z)
    have h2 : (goStep r z).2.length ≤ r.2.length + 1 := by
      rcases step_out (r := r) (z := z) with e | e
      · rw [e]; simp
      · rw [e]; omega
    show (zs.foldl goStep (goStep r z)).2.length ≤ _
    rw [List.length_cons]; omega
theorem rel_len {tb : Tb} (x : Tx) : (relT tb x).2.length ≤ tb.qu.length := by
  unfold relT
  split
  · have := fold_len (zs := (dropO (leaveT tb x) x).qu) (r := (dropO (leaveT tb x) x, []))
    have h2 : (dropO (leaveT tb x) x).qu.length ≤ tb.qu.length := List.length_filter_le _ _
    show (goT _).2.length ≤ _
    simp only [List.length_nil, Nat.zero_add] at this
    exact Nat.le_trans this h2
  · have := fold_len (zs := tb.qu) (r := (tb, []))
    simp only [List.length_nil, Nat.zero_add] at this
    exact this
set_option maxRecDepth 8000 in
set_option maxHeartbeats 4000000 in
theorem codes_any {A B : Option Addr} {n c nb cb : Nat} {l : List Ac} {b : List UInt8} {w : World} (hr : RdR 4 w All A (l.map acEl)) (hn : l.length = n) (hc : n ≤ c) (hx : ∀ a ∈ l, Tx64 a.x) (hl : sumB acB l ≤ 1048576)
    (hb : RdB w B b) (hnb : b.length = nb) (_hcb : nb ≤ cb) (hlb : b.length ≤ 1048576) :
    CallsV Try.prog 6 #[.slice A n c, .slice B nb cb] w fun v w' => v = .bool true ∧ Below w.heap.size w w' := by
  subst hnb
  have hs := St.init w
  refine calls_in (N := _) Try.func6 rfl Try.ntmps6 rfl ?_; show WC _ _ _ _ _ _
  refine wc_sr ?_; refine wl_as rfl rfl ?_; refine wl_ns ?_; refine wc_seq ?_; refine wc_sr ?_
  refine wl_call ok_caissonlaw16_awake (awake_any _) trivial rfl ?_; rintro _ _ ⟨rfl, hbx⟩; replace hs := hs.below hbx; try dsimp only [List.cons_append, List.nil_append, setC, delC] at hs
  apply wl_val; apply opv_not; exact rfl; exact rfl; refine wl_ns ?_; apply wc_condFb; exact rfl; exact Bool.not_true; refine wc_skip ?_; refine we_seq ?_; refine wc_sr ?_; refine wl_mv rfl rfl ?_
  refine wl_call ok_caissonlaw16_calls (calls_any (hr.below hs.bel) hn hc hl) ⟨rfl, trivial⟩ rfl ?_
  rintro _ w2 ⟨t, gp, rfl, hsx⟩
  replace hs := hs.call hsx
  clear hsx
  dsimp only [List.cons_append, List.nil_append] at hs
  have htk : (l.take 40).length ≤ 41 := by rw [List.length_take]; omega
  have hx' : ∀ a ∈ l.take 40, Tx64 a.x := fun a ha => hx a (List.mem_of_mem_take ha)
  obtain ⟨hI, hS0⟩ := run_ok (l.take 40)
  replace hS0 := hS0.mono htk
  have hdr := dec_run htk hx'
  have h64 := run_64 hx'
  obtain ⟨tb, htb⟩ : ∃ q, runT (l.take 40) = q := ⟨_, rfl⟩
  rw [htb] at hs hI hS0 hdr h64
  clear htb hr hl hx
  have hos := hS0.os
  have hqu := (hS0.sz (by decide)).qu hI.wf
  have hok := enc_ok hI hS0 h64
  have hel := enc_len hS0 hok hqu
  refine wl_as rfl rfl ?_; refine wl_ns ?_; refine wc_sr ?_; refine wl_mv rfl rfl ?_
  refine wl_call ok_lock_Table_Encode (encode_any (hs.rdT 0 rfl) hI.wf hok (by omega)) ⟨rfl, trivial⟩ rfl ?_
  rintro _ w3 ⟨E, ec, rfl, ho, hbx⟩
  have hE := OwB.rd ho
  have hec := OwB.cap ho
  replace hs := hs.newO hbx ho (Nat.le_refl _)
  clear hbx ho
  refine wl_call ok_lock_Decode (decode_any hE rfl hec hel) ⟨rfl, trivial⟩ rfl ?_
  rw [hdr]
  rintro _ w4 (⟨h, _⟩ | ⟨_, d, gp2, rfl, hsx⟩)
  · exact absurd rfl h
  replace hs := hs.call hsx
  clear hsx hE hec
  dsimp only [List.cons_append, List.nil_append] at hs
  unfold pN
  refine wl_mv rfl rfl ?_; apply wl_val; apply opv_extract; exact rfl; exact rfl; exact rfl; apply wl_val; apply opv_extract; exact rfl; exact rfl; exact rfl; refine wl_as rfl rfl ?_; refine wl_as rfl rfl ?_; refine wl_ns ?_; refine wc_seq ?_; refine wc_sr ?_; refine wl_mv rfl rfl ?_; refine wl_bin rfl rfl bin_neq rfl ?_; refine wl_mv rfl rfl ?_; apply wl_take; exact rfl; exact rfl; exact rfl; refine bF ?_; (with_reducible exact nne); refine wl_mv rfl rfl ?_; apply wl_take; exact rfl; exact rfl; exact rfl; refine bF ?_; (with_reducible exact nne); apply wl_val; apply opv_bin; exact rfl; exact rfl; exact bin_eqlPtrNil Try.underlying24; exact rfl; apply wl_val; apply opv_pickF; exact rfl; refine bF ?_; (with_reducible exact nne); exact rfl; exact rfl; refine wl_ns ?_; apply wc_condFb; exact rfl; exact rfl; refine wc_skip ?_; refine we_seq ?_; refine wc_sr ?_; refine wl_mv rfl rfl ?_
  refine wl_call ok_caissonref01_Copy (copy_any (hb.below hs.bel) rfl (by omega)) ⟨rfl, trivial⟩ rfl ?_
  rintro _ w5 ⟨C, cc, rfl, ho, hbx⟩
  have hC := OwB.rd ho
  have hcc := OwB.cap ho
  replace hs := hs.below hbx
  clear hbx ho
  refine wl_call ok_lock_Decode (decode_any hC rfl hcc (by omega)) ⟨rfl, trivial⟩ rfl ?_
  intro v w6 hv
  obtain ⟨dp, de, rfl, hdd, hbx⟩ : ∃ (dp : Option Addr) (de : Nat), v = .tuple #[.pointer dp, .int .i64 (de : Int)] ∧ ((dp = none ∧ E35 de) ∨ ((∃ a, dp = some a) ∧ de = 0)) ∧ Below w5.heap.size w5 w6 := by
    rcases hv with ⟨h1, h2, h3⟩ | ⟨h1, x, gx, h2, h3⟩
    · exact ⟨none, _, h2, .inl ⟨rfl, (decT_e35 b).resolve_left h1⟩, h3⟩
    · exact ⟨some ⟨x, 0, none⟩, 0, h2, .inr ⟨⟨_, rfl⟩, rfl⟩, h3.bel⟩
  replace hs := hs.below hbx
  clear hbx hv hC hcc
  refine wl_mv rfl rfl ?_; apply wl_val; apply opv_extract; exact rfl; exact rfl; exact rfl; apply wl_val; apply opv_extract; exact rfl; exact rfl; exact rfl; refine wl_as rfl rfl ?_; refine wl_as rfl rfl ?_; refine wl_ns ?_; refine wc_seq ?_; refine wc_sr ?_; refine wl_mv rfl rfl ?_
  refine wl_cutV 16 51 (.bool false) ?cc ?_
  case cc =>
    dsimp only [List.take]
    rcases hdd with ⟨rfl, rfl | rfl⟩ | ⟨⟨⟨xb, xo, xm⟩, rfl⟩, rfl⟩
    · apply wl_val; apply opv_bin; exact rfl; exact rfl; exact bin_eqlNilNil Try.underlying24; exact rfl; refine wl_mv rfl rfl ?_; refine wl_bin rfl rfl bin_neq rfl ?_; apply wl_val; apply opv_bin; exact rfl; exact rfl; exact bin_neqBo Try.underlying4; exact rfl; refine wl_mv rfl rfl ?_; apply wl_take; exact rfl; exact rfl; exact rfl; exact rfl; refine wl_mv rfl rfl ?_; apply wl_take; exact rfl; exact rfl; exact rfl; exact rfl; refine wl_bin rfl rfl bin_neq rfl ?_; apply wl_take; exact rfl; exact rfl; exact rfl; exact rfl; refine wl_mv rfl rfl ?_; apply wl_take; exact rfl; exact rfl; exact rfl; refine bT ?_; omega; refine wl_mv rfl rfl ?_; apply wl_take; exact rfl; exact rfl; exact rfl; refine bT ?_; omega; refine wl_bin rfl rfl bin_neq rfl ?_; apply wl_take; exact rfl; exact rfl; exact rfl; exact rfl; apply wl_val; apply opv_pickT; exact rfl; refine bT ?_; omega; exact rfl; exact rfl; apply wl_take; exact rfl; exact rfl; exact rfl; exact rfl; refine wl_mv rfl rfl ?_; apply wl_skip; exact rfl; exact rfl; exact rfl; refine bFn ?_; omega; exact rfl; apply wl_skip; exact rfl; exact rfl; exact rfl; refine bFn ?_; omega; exact rfl; apply wl_take; exact rfl; exact rfl; exact rfl; exact rfl; apply wl_val; apply opv_pickF; exact rfl; refine bF ?_; omega; exact rfl; exact rfl; apply wl_val; apply opv_pickF; exact rfl; exact rfl; exact rfl; exact rfl; refine wl_nil ?_
      exact we_cut _ ⟨rfl, rfl⟩ ⟨rfl, by refine And.intro rfl ?_; refine And.intro rfl ?_; refine And.intro rfl ?_; refine And.intro rfl ?_; refine And.intro rfl ?_; refine And.intro rfl ?_; refine And.intro rfl ?_; refine And.intro rfl ?_; refine And.intro rfl ?_; refine And.intro rfl ?_; refine And.intro rfl ?_; refine And.intro rfl ?_; refine And.intro rfl ?_; refine And.intro rfl ?_; refine And.intro rfl ?_; refine And.intro rfl ?_; refine And.intro rfl ?_; refine And.intro rfl ?_; refine And.intro rfl ?_; refine And.intro rfl ?_; refine And.intro rfl ?_; refine And.intro rfl ?_; refine And.intro rfl ?_; refine And.intro rfl ?_; refine And.intro rfl ?_; refine And.intro rfl ?_; refine And.intro rfl ?_; refine And.intro rfl ?_; refine And.intro rfl ?_; refine And.intro rfl ?_; refine And.intro rfl ?_; exact True.intro⟩
    · apply wl_val; apply opv_bin; exact rfl; exact rfl; exact bin_eqlNilNil Try.underlying24; exact rfl; refine wl_mv rfl rfl ?_; refine wl_bin rfl rfl bin_neq rfl ?_; apply wl_val; apply opv_bin; exact rfl; exact rfl; exact bin_neqBo Try.underlying4; exact rfl; refine wl_mv rfl rfl ?_; apply wl_take; exact rfl; exact rfl; exact rfl; exact rfl; refine wl_mv rfl rfl ?_; apply wl_take; exact rfl; exact rfl; exact rfl; exact rfl; refine wl_bin rfl rfl bin_neq rfl ?_; apply wl_take; exact rfl; exact rfl; exact rfl; exact rfl; refine wl_mv rfl rfl ?_; apply wl_take; exact rfl; exact rfl; exact rfl; refine bT ?_; omega; refine wl_mv rfl rfl ?_; apply wl_take; exact rfl; exact rfl; exact rfl; refine bT ?_; omega; refine wl_bin rfl rfl bin_neq rfl ?_; apply wl_take; exact rfl; exact rfl; exact rfl; exact rfl; apply wl_val; apply opv_pickT; exact rfl; refine bT ?_; omega; exact rfl; exact rfl; apply wl_take; exact rfl; exact rfl; exact rfl; exact rfl; refine wl_mv rfl rfl ?_; apply wl_take; exact rfl; exact rfl; exact rfl; refine bT ?_; omega; refine wl_mv rfl rfl ?_; apply wl_take; exact rfl; exact rfl; exact rfl; refine bT ?_; omega; refine wl_bin rfl rfl bin_neq rfl ?_; apply wl_take; exact rfl; exact rfl; exact rfl; exact rfl; apply wl_val; apply opv_pickT; exact rfl; refine bT ?_; omega; exact rfl; exact rfl; apply wl_val; apply opv_pickF; exact rfl; exact rfl; exact rfl; exact rfl; refine wl_nil ?_
      exact we_cut _ ⟨rfl, rfl⟩ ⟨rfl, by refine And.intro rfl ?_; refine And.intro rfl ?_; refine And.intro rfl ?_; refine And.intro rfl ?_; refine And.intro rfl ?_; refine And.intro rfl ?_; refine And.intro rfl ?_; refine And.intro rfl ?_; refine And.intro rfl ?_; refine And.intro rfl ?_; refine And.intro rfl ?_; refine And.intro rfl ?_; refine And.intro rfl ?_; refine And.intro rfl ?_; refine And.intro rfl ?_; refine And.intro rfl ?_; refine And.intro rfl ?_; refine And.intro rfl ?_; refine And.intro rfl ?_; refine And.intro rfl ?_; refine And.intro rfl ?_; refine And.intro rfl ?_; refine And.intro rfl ?_; refine And.intro rfl ?_; refine And.intro rfl ?_; refine And.intro rfl ?_; refine And.intro rfl ?_; refine And.intro rfl ?_; refine And.intro rfl ?_; refine And.intro rfl ?_; refine And.intro rfl ?_; exact True.intro⟩
    · apply wl_val; apply opv_bin; exact rfl; exact rfl; exact bin_eqlPtrNil Try.underlying24; exact rfl; refine wl_mv rfl rfl ?_; refine wl_bin rfl rfl bin_neq rfl ?_; apply wl_val; apply opv_bin; exact rfl; exact rfl; exact bin_neqBo Try.underlying4; exact rfl; refine wl_mv rfl rfl ?_; apply wl_take; exact rfl; exact rfl; exact rfl; exact rfl; refine wl_mv rfl rfl ?_; apply wl_take; exact rfl; exact rfl; exact rfl; exact rfl; refine wl_bin rfl rfl bin_neq rfl ?_; apply wl_take; exact rfl; exact rfl; exact rfl; exact rfl; refine wl_mv rfl rfl ?_; apply wl_skip; exact rfl; exact rfl; exact rfl; refine bFn ?_; omega; exact rfl; apply wl_skip; exact rfl; exact rfl; exact rfl; refine bFn ?_; omega; exact rfl; apply wl_take; exact rfl; exact rfl; exact rfl; exact rfl; apply wl_val; apply opv_pickF; exact rfl; refine bF ?_; omega; exact rfl; exact rfl; apply wl_take; exact rfl; exact rfl; exact rfl; exact rfl; refine wl_mv rfl rfl ?_; apply wl_skip; exact rfl; exact rfl; exact rfl; exact bR2; exact rfl; apply wl_skip; exact rfl; exact rfl; exact rfl; exact bR2; exact rfl; apply wl_take; exact rfl; exact rfl; exact rfl; exact rfl; apply wl_val; apply opv_pickF; exact rfl; exact rfl; exact rfl; exact rfl; apply wl_val; apply opv_pickF; exact rfl; exact rfl; exact rfl; exact rfl; refine wl_nil ?_
      exact we_cut _ ⟨rfl, rfl⟩ ⟨rfl, by refine And.intro rfl ?_; refine And.intro rfl ?_; refine And.intro rfl ?_; refine And.intro rfl ?_; refine And.intro rfl ?_; refine And.intro rfl ?_; refine And.intro rfl ?_; refine And.intro rfl ?_; refine And.intro rfl ?_; refine And.intro rfl ?_; refine And.intro rfl ?_; refine And.intro rfl ?_; refine And.intro rfl ?_; refine And.intro rfl ?_; refine And.intro rfl ?_; refine And.intro rfl ?_; refine And.intro rfl ?_; refine And.intro rfl ?_; refine And.intro rfl ?_; refine And.intro rfl ?_; refine And.intro rfl ?_; refine And.intro rfl ?_; refine And.intro rfl ?_; refine And.intro rfl ?_; refine And.intro rfl ?_; refine And.intro rfl ?_; refine And.intro rfl ?_; refine And.intro rfl ?_; refine And.intro rfl ?_; refine And.intro rfl ?_; refine And.intro rfl ?_; exact True.intro⟩
  dsimp only [List.drop]
  replace hs := (hs.drop 1 rfl).front 1 rfl
  dsimp only [delC] at hs
  refine wl_ns ?_; apply wc_condFb; exact rfl; exact rfl; refine wc_skip ?_; refine we_seq ?_; refine wc_sr ?_; refine wl_mv rfl rfl ?_
  refine wl_call ok_lock_Table_All (all_any (hs.rdT 0 rfl) (by omega)) ⟨rfl, trivial⟩ rfl ?_
  rintro _ w7 ⟨P, cp, rfl, hsx⟩
  replace hs := hs.call hsx
  clear hsx
  dsimp only [List.cons_append, List.nil_append] at hs
  have hnl := names_len tb
  refine wl_as rfl rfl ?_; refine wl_ns ?_; refine wc_seq ?_; refine wc_sr ?_; refine wl_mv rfl rfl ?_; apply wl_val; apply opv_len; exact rfl; exact tkTx.sl; exact rfl; refine wl_mv rfl rfl ?_; refine wl_ns ?_; refine wc_block ?_
  replace hs := ((hs.front 2 rfl).front 2 rfl).front 1 rfl
  dsimp only [delC] at hs
  refine wc_loop (fun L wr mm => ∃ (i : Nat) (tbi : Tb), L = [(5, .pointer (some ⟨t, 0, none⟩)), (6, .pointer (some ⟨d, 0, none⟩)), (54, .slice P (names tb).length cp), (55, .int .i64 ((names tb).length : Int)), (56, .int .i64 (i : Int))] ∧ i ≤ (names tb).length ∧ LkI tbi ∧ LkS 41 tbi ∧ (∀ y ∈ names tbi, y ∈ (names tb).drop i) ∧ St NoB w wr [.ck (lkC d gp2 tbi), .ck (lkC t gp tbi), .rg 2 30 P cp (txEls (names tb))] ∧ mm = (names tb).length - i)
    [(5, .pointer (some ⟨t, 0, none⟩)), (6, .pointer (some ⟨d, 0, none⟩)), (54, .slice P (names tb).length cp), (55, .int .i64 ((names tb).length : Int)), (56, .int .i64 (0 : Nat))] (names tb).length ⟨0, tb, rfl, by omega, hI, hS0, fun y hy => hy, hs, rfl⟩ ⟨rfl, rfl, rfl, rfl, rfl, trivial⟩ ?_
  clear hs
  rintro _ w8 mm ⟨i, tbi, rfl, hi, hIi, hSi, hrest, hs, rfl⟩
  have hosi := hSi.os
  have hzi := hSi.sz (by decide)
  refine wc_sr ?_; refine wl_bin rfl rfl bin_lss rfl ?_; refine wl_ns ?_; refine wc_seq ?_
  refine wc_cond rfl (fun h2 => ?_) (fun h2 => ?_)
  · obtain ⟨x, hx⟩ : ∃ x, (names tb)[i]? = some x := ⟨_, List.getElem?_eq_getElem (by omega)⟩
    obtain ⟨bb, o, cs, rfl, _, _, hp, i1⟩ := RdR.at (k := 2) (by decide) (OwR.rd (hs.rg 2 rfl)) (E := rawEl (txV x)) (i := i) (by rw [txEls, List.getElem?_map, hx]; rfl)
    obtain rfl : cs = txV x := hp
    refine wc_skip ?_; refine we_seq ?_; refine wc_seq ?_; refine wc_block ?_; refine wc_sr ?_; apply wl_val; apply opv_idxG tkTx; exact rfl; exact rfl; exact rfl; omega; exact rfl; apply wl_val; apply opv_ldG; exact rfl; assumption; exact sTx; exact rfl
    refine ws_var (cs := txV x) hs zeroTx sTx rfl (fun _ => rfl) (by first | rfl | simp [Value.oneCell']) rfl ?_; clear hs; intro g12 _ hs
    refine wl_ns ?_; refine wc_seq ?_
    replace hs := hs.below (Below.refl _ _).drew
    refine wc_held (fun w' => Ar w' g12 30 (txV x)) mixed ?_
    have hS := hs.ar 0 rfl
    apply wh_takeH 0; exact rfl; intro _ hw_; apply opv_move; exact rfl; exact rfl; kernel_rfl; exact hS; apply wh_takeH 1; exact rfl; intro _ hw_; apply opv_loadX; exact rfl; assumption; exact sTx; exact rfl; kernel_rfl; exact hS; apply wh_takeH 3; exact rfl; intro _ hw_; apply opv_move; exact rfl; exact rfl; kernel_rfl; exact hS; apply wh_takeH 4; exact rfl; intro _ hw_; apply opv_loadX; exact rfl; assumption; exact sTx; exact rfl; kernel_rfl; exact hS
    clear hS
    have hIr := hIi.rel x
    have hSr := hSi.rel x
    have hzr := hSr.sz (by decide)
    have hosr := hSr.os
    have hqr := hzr.qu hIr.wf
    have hn2 := rel_names hIi.wf x
    have hnr : (names (relT tbi x).1).length = (relT tbi x).1.os.length := names_len _
    have hqi := hzi.qu hIi.wf
    have hgl : (relT tbi x).2.length ≤ 4294967296 := by have := rel_len (tb := tbi) x; omega
    refine wh_one 2 (o := ⟨_, _, _, _, _, _⟩) (by kernel_rfl) rfl ?_
    obtain ⟨S2, hS2, _, _, _, hB⟩ := St.lend (H1 := [.ck (lkC t gp tbi)]) (H2 := [_, _, _]) (hs.front 2 rfl)
    refine wl_call ok_lock_Table_Release (release_any (x := x) hS2 hIi.wf hzi) ⟨rfl, rfl, trivial⟩ rfl ?_
    rintro _ w9 ⟨P1, cp1, rfl, hsx⟩
    replace hs := hB _ _ hsx
    clear hB hsx hS2
    dsimp only [List.cons_append, List.nil_append] at hs
    refine wl_nil ?_
    refine we_held (hs.ar 2 rfl) ?_
    refine wh_one 5 (o := ⟨_, _, _, _, _, _⟩) (by kernel_rfl) rfl ?_
    obtain ⟨S2, hS2, _, _, _, hB⟩ := St.lend (H1 := [.ck (lkC d gp2 tbi)]) (H2 := [_, _, _, _]) (hs.front 3 rfl)
    refine wl_call ok_lock_Table_Release (release_any (x := x) hS2 hIi.wf hzi) ⟨rfl, rfl, trivial⟩ rfl ?_
    rintro _ w10 ⟨P2, cp2, rfl, hsx⟩
    replace hs := hB _ _ hsx
    clear hB hsx hS2
    dsimp only [List.cons_append, List.nil_append] at hs
    refine wl_nil ?_
    refine we_held (hs.ar 4 rfl) ?_
    refine wh_one 6 (o := ⟨_, _, _, _, _, _⟩) (by kernel_rfl) rfl ?_
    refine wl_call ok_caissonref16_SameTxns (sameTx_any (OwR.rd (hs.rg 2 rfl)) (OwR.rd (hs.rg 0 rfl)) rfl rfl hgl) ⟨rfl, rfl, trivial⟩ rfl ?_
    rintro _ w11 ⟨rfl, hbx⟩
    replace hs := hs.below hbx
    clear hbx
    rw [decide_eq_true (rfl : (relT tbi x).2 = (relT tbi x).2)]
    refine wl_nil ?_
    refine we_held (hs.ar 4 rfl) ?_
    have hS := hs.ar 4 rfl
    apply wh_takeH 7; exact rfl; intro _ hw_; apply opv_not; exact rfl; exact rfl; kernel_rfl; exact hS; apply wh_takeH 8; exact rfl; intro _ hw_; apply opv_move; exact rfl; exact rfl; kernel_rfl; exact hS; apply wh_takeGH 9; exact rfl; exact rfl; exact rfl; exact rfl; exact Bool.not_true; intro _ hw_; apply opv_move; exact rfl; exact rfl; kernel_rfl; exact hS; apply wh_takeGH 11; exact rfl; exact rfl; exact rfl; exact rfl; exact Bool.not_true; intro _ hw_; apply opv_move; exact rfl; exact rfl; kernel_rfl; exact hS
    clear hS
    refine wh_one 10 (o := ⟨_, _, _, _, _, _⟩) (by kernel_rfl) rfl ?_
    apply wl_take; exact rfl; exact rfl; exact rfl; exact Bool.not_true
    refine wl_call ok_lock_Table_All (all_any (hs.rdT 3 rfl) (by omega)) ⟨rfl, trivial⟩ rfl ?_
    rintro _ w12 ⟨P12, cp12, rfl, hsx⟩
    replace hs := hs.call hsx
    clear hsx
    dsimp only [List.cons_append, List.nil_append] at hs
    refine wl_nil ?_
    refine we_held (hs.ar 5 rfl) ?_
    refine wh_one 12 (o := ⟨_, _, _, _, _, _⟩) (by kernel_rfl) rfl ?_
    apply wl_take; exact rfl; exact rfl; exact rfl; exact Bool.not_true
    refine wl_call ok_lock_Table_All (all_any (hs.rdT 2 rfl) (by omega)) ⟨rfl, trivial⟩ rfl ?_
    rintro _ w13 ⟨P13, cp13, rfl, hsx⟩
    replace hs := hs.call hsx
    clear hsx
    dsimp only [List.cons_append, List.nil_append] at hs
    refine wl_nil ?_
    refine we_held (hs.ar 6 rfl) ?_
    refine wh_one 13 (o := ⟨_, _, _, _, _, _⟩) (by kernel_rfl) rfl ?_
    apply wl_take; exact rfl; exact rfl; exact rfl; exact Bool.not_true
    refine wl_call ok_caissonref16_SameTxns (sameTx_any (OwR.rd (hs.rg 1 rfl)) (OwR.rd (hs.rg 0 rfl)) rfl rfl (by omega)) ⟨rfl, rfl, trivial⟩ rfl ?_
    rintro _ w14 ⟨rfl, hbx⟩
    replace hs := hs.below hbx
    clear hbx
    rw [decide_eq_true (rfl : (names (relT tbi x).1) = names (relT tbi x).1)]
    refine wl_nil ?_
    refine we_held (hs.ar 6 rfl) ?_
    have hS := hs.ar 6 rfl
    apply wh_takeGH 14; exact rfl; exact rfl; exact rfl; exact rfl; exact Bool.not_true; intro _ hw_; apply opv_not; exact rfl; exact rfl; kernel_rfl; exact hS; apply wh_takeH 15; exact rfl; intro _ hw_; apply opv_pickF; exact rfl; exact Bool.not_true; exact rfl; exact rfl; kernel_rfl; exact hS; apply wh_takeH 16; exact rfl; intro _ hw_; apply opv_move; exact rfl; exact rfl; kernel_rfl; exact hS; apply wh_takeGH 17; exact rfl; exact rfl; exact rfl; exact rfl; exact Bool.not_true; intro _ hw_; apply opv_move; exact rfl; exact rfl; kernel_rfl; exact hS; apply wh_takeGH 19; exact rfl; exact rfl; exact rfl; exact rfl; exact Bool.not_true; intro _ hw_; apply opv_move; exact rfl; exact rfl; kernel_rfl; exact hS
    clear hS
    refine wh_one 18 (o := ⟨_, _, _, _, _, _⟩) (by kernel_rfl) rfl ?_
    apply wl_take; exact rfl; exact rfl; exact rfl; exact Bool.not_true
    refine wl_call ok_lock_Table_Queue (queue_any (hs.rdT 5 rfl) hIr.wf (by omega)) ⟨rfl, trivial⟩ rfl ?_
    rintro _ w15 ⟨P15, cp15, rfl, hsx⟩
    replace hs := hs.call hsx
    clear hsx
    dsimp only [List.cons_append, List.nil_append] at hs
    refine wl_nil ?_
    refine we_held (hs.ar 7 rfl) ?_
    refine wh_one 20 (o := ⟨_, _, _, _, _, _⟩) (by kernel_rfl) rfl ?_
    apply wl_take; exact rfl; exact rfl; exact rfl; exact Bool.not_true
    refine wl_call ok_lock_Table_Queue (queue_any (hs.rdT 4 rfl) hIr.wf (by omega)) ⟨rfl, trivial⟩ rfl ?_
    rintro _ w16 ⟨P16, cp16, rfl, hsx⟩
    replace hs := hs.call hsx
    clear hsx
    dsimp only [List.cons_append, List.nil_append] at hs
    refine wl_nil ?_
    refine we_held (hs.ar 8 rfl) ?_
    refine wh_one 21 (o := ⟨_, _, _, _, _, _⟩) (by kernel_rfl) rfl ?_
    apply wl_take; exact rfl; exact rfl; exact rfl; exact Bool.not_true
    refine wl_call ok_caissonref16_SameTxns (sameTx_any (OwR.rd (hs.rg 1 rfl)) (OwR.rd (hs.rg 0 rfl)) rfl rfl (by omega)) ⟨rfl, rfl, trivial⟩ rfl ?_
    rintro _ w17 ⟨rfl, hbx⟩
    replace hs := hs.below hbx
    clear hbx
    rw [decide_eq_true (rfl : ((relT tbi x).1.qu) = (relT tbi x).1.qu)]
    refine wl_nil ?_
    refine we_held (hs.ar 8 rfl) ?_
    have hS := hs.ar 8 rfl
    apply wh_takeGH 22; exact rfl; exact rfl; exact rfl; exact rfl; exact Bool.not_true; intro _ hw_; apply opv_not; exact rfl; exact rfl; kernel_rfl; exact hS; apply wh_takeH 23; exact rfl; intro _ hw_; apply opv_pickF; exact rfl; exact Bool.not_true; exact rfl; exact rfl; kernel_rfl; exact hS
    clear hS
    refine wh_done (by kernel_rfl) ?_
    refine we_seq ?_; apply wc_condFb; exact rfl; exact Bool.not_true; refine wc_skip ?_; refine we_block_norm ?_; refine we_seq ?_; refine wc_region ?_; apply wl_val; apply opv_bin; exact rfl; exact rfl; exact bin_add64 (by omega); exact rfl; refine wl_mv rfl rfl ?_; refine wl_nil ?_
    replace hs := ((hs.front 9 rfl).front 8 rfl).front 7 rfl
    dsimp only [delC] at hs
    replace hs := ((((((hs.drop 3 rfl).drop 3 rfl).drop 3 rfl).drop 3 rfl).drop 3 rfl).drop 3 rfl).drop 3 rfl
    dsimp only [delC] at hs
    refine we_loop _ ((names tb).length - (i + 1)) ⟨i + 1, (relT tbi x).1, rfl, by omega, hIr, hSr, fun y hy => ?_, hs, rfl⟩ (by omega) ⟨rfl, rfl, rfl, rfl, by simp [lookT], trivial⟩
    rw [hn2.1] at hy
    obtain ⟨hy1, hy2⟩ := mem_unq.1 hy
    have hd := hrest y hy1
    have hil := (List.getElem?_eq_some_iff.1 hx).1
    rw [List.drop_eq_getElem_cons hil, List.mem_cons] at hd
    rw [List.getElem?_eq_getElem hil] at hx
    injection hx with hx
    rcases hd with hd | hd
    · exact absurd (hd.trans hx) hy2
    · exact hd
  · obtain rfl : i = (names tb).length := by omega
    have hne : names tbi = [] := by
      cases hc : names tbi with
      | nil => rfl
      | cons y q =>
        have := hrest y (by rw [hc]; exact List.mem_cons_self)
        rw [List.drop_length] at this
        cases this
    refine wc_exit ?_; refine we_seq_exit ?_; refine we_loop_exit ?_; refine we_block_exit ?_; refine we_seq ?_; refine wc_sr ?_; refine wl_mv rfl rfl ?_
    refine wl_call ok_lock_Table_All (all_any (hs.rdT 0 rfl) (by omega)) ⟨rfl, trivial⟩ rfl ?_
    rintro _ w9 ⟨P2, cp2, rfl, hsx⟩
    replace hs := hs.call hsx
    rw [hne]
    apply wl_val; apply opv_len; exact rfl; exact tkTx.sl; exact rfl; refine wl_bin rfl rfl bin_eql rfl ?_; refine wl_as rfl rfl ?_; refine wl_ns ?_; refine wc_ret ?_
    exact we_ret1 rfl rfl ⟨_, rfl, rfl, hs.bel⟩
end Go.Proofs.Ytmdbjeabifkimaa
