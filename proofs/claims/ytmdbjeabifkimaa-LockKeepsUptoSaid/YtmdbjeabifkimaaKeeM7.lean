/-
  The texts of this proof, joined: Dm, Dn, Do.
-/
import Derived.Test.YtmdbjeabifkimaaKeeM6

/-
  Walk over the law LockCodes.
-/
namespace Go.Proofs.Ytmdbjeabifkimaa
open Go.RowKit

theorem fold_len : ∀ {zs : List Tx} {r : Tb × List Tx}, (zs.foldl goStep r).2.length ≤ r.2.length + zs.length
  | [], _ => Nat.le_refl _
  | z :: zs, r => by
    have h := fold_len (zs := zs) (r := goStep r z)
    have h2 : (goStep r z).2.length ≤ r.2.length + 1 := by
      rcases step_out (r := r) (z := z) with e | e
      · rw [e]; simp
      · rw [e]; omega
    show (zs.foldl goStep (goStep r z)).2.length ≤ _
    rw [List.length_cons]; omega
theorem rel_len {tb : Tb} (x : Tx) : (relT tb x).2.length ≤ tb.qu.length := by
  unfold relT
  split
  · have := fold_len (zs := (dropO (leaveT tb x) x).qu) (r := (dropO (leaveT tb x) x, []))
    have h2 : (dropO (leaveT tb x) x).qu.length ≤ tb.qu.length := List.length_filter_le _ _
    show (goT _).2.length ≤ _
    simp only [List.length_nil, Nat.zero_add] at this
    exact Nat.le_trans this h2
  · have := fold_len (zs := tb.qu) (r := (tb, []))
    simp only [List.length_nil, Nat.zero_add] at this
    exact this
set_option maxRecDepth 8000 in
set_option maxHeartbeats 4000000 in
theorem codes_any {A B : Option Addr} {n c nb cb : Nat} {l : List Ac} {b : List UInt8} {w : World} (hr : RdR 4 w All A (l.map acEl)) (hn : l.length = n) (hc : n ≤ c) (hx : ∀ a ∈ l, Tx64 a.x) (hl : sumB acB l ≤ 1048576)
    (hb : RdB w B b) (hnb : b.length = nb) (_hcb : nb ≤ cb) (hlb : b.length ≤ 1048576) :
    CallsV Try.prog 6 #[.slice A n c, .slice B nb cb] w fun v w' => v = .bool true ∧ Below w.heap.size w w' := by
  subst hnb
  have hs := St.init w
  refine calls_in (N := _) Try.func6 rfl Try.ntmps6 rfl ?_; show WC _ _ _ _ _ _
  refine wc_sr ?_; refine wl_as rfl rfl ?_; refine wl_ns ?_; refine wc_seq ?_; refine wc_sr ?_
  refine wl_call ok_caissonlaw16_awake (awake_any _) trivial rfl ?_; rintro _ _ ⟨rfl, hbx⟩; replace hs := hs.below hbx; try dsimp only [List.cons_append, List.nil_append, setC, delC] at hs
  apply wl_val; apply opv_not; exact rfl; exact rfl; refine wl_ns ?_; apply wc_condFb; exact rfl; exact Bool.not_true; refine wc_skip ?_; refine we_seq ?_; refine wc_sr ?_; refine wl_mv rfl rfl ?_
  refine wl_call ok_caissonlaw16_calls (calls_any (hr.below hs.bel) hn hc hl) ⟨rfl, trivial⟩ rfl ?_
  rintro _ w2 ⟨t, gp, rfl, hsx⟩
  replace hs := hs.call hsx
  clear hsx
  dsimp only [List.cons_append, List.nil_append] at hs
  have htk : (l.take 40).length ≤ 41 := by rw [List.length_take]; omega
  have hx' : ∀ a ∈ l.take 40, Tx64 a.x := fun a ha => hx a (List.mem_of_mem_take ha)
  obtain ⟨hI, hS0⟩ := run_ok (l.take 40)
  replace hS0 := hS0.mono htk
  have hdr := dec_run htk hx'
  have h64 := run_64 hx'
  obtain ⟨tb, htb⟩ : ∃ q, runT (l.take 40) = q := ⟨_, rfl⟩
  rw [htb] at hs hI hS0 hdr h64
  clear htb hr hl hx
  have hos := hS0.os
  have hqu := (hS0.sz (by decide)).qu hI.wf
  have hok := enc_ok hI hS0 h64
  have hel := enc_len hS0 hok hqu
  refine wl_as rfl rfl ?_; refine wl_ns ?_; refine wc_sr ?_; refine wl_mv rfl rfl ?_
  refine wl_call ok_lock_Table_Encode (encode_any (hs.rdT 0 rfl) hI.wf hok (by omega)) ⟨rfl, trivial⟩ rfl ?_
  rintro _ w3 ⟨E, ec, rfl, ho, hbx⟩
  have hE := OwB.rd ho
  have hec := OwB.cap ho
  replace hs := hs.newO hbx ho (Nat.le_refl _)
  clear hbx ho
  refine wl_call ok_lock_Decode (decode_any hE rfl hec hel) ⟨rfl, trivial⟩ rfl ?_
  rw [hdr]
  rintro _ w4 (⟨h, _⟩ | ⟨_, d, gp2, rfl, hsx⟩)
  · exact absurd rfl h
  replace hs := hs.call hsx
  clear hsx hE hec
  dsimp only [List.cons_append, List.nil_append] at hs
  unfold pN
  refine wl_mv rfl rfl ?_; apply wl_val; apply opv_extract; exact rfl; exact rfl; exact rfl; apply wl_val; apply opv_extract; exact rfl; exact rfl; exact rfl; refine wl_as rfl rfl ?_; refine wl_as rfl rfl ?_; refine wl_ns ?_; refine wc_seq ?_; refine wc_sr ?_; refine wl_mv rfl rfl ?_; refine wl_bin rfl rfl bin_neq rfl ?_; refine wl_mv rfl rfl ?_; apply wl_take; exact rfl; exact rfl; exact rfl; refine bF ?_; (with_reducible exact nne); refine wl_mv rfl rfl ?_; apply wl_take; exact rfl; exact rfl; exact rfl; refine bF ?_; (with_reducible exact nne); apply wl_val; apply opv_bin; exact rfl; exact rfl; exact bin_eqlPtrNil Try.underlying24; exact rfl; apply wl_val; apply opv_pickF; exact rfl; refine bF ?_; (with_reducible exact nne); exact rfl; exact rfl; refine wl_ns ?_; apply wc_condFb; exact rfl; exact rfl; refine wc_skip ?_; refine we_seq ?_; refine wc_sr ?_; refine wl_mv rfl rfl ?_
  refine wl_call ok_caissonref01_Copy (copy_any (hb.below hs.bel) rfl (by omega)) ⟨rfl, trivial⟩ rfl ?_
  rintro _ w5 ⟨C, cc, rfl, ho, hbx⟩
  have hC := OwB.rd ho
  have hcc := OwB.cap ho
  replace hs := hs.below hbx
  clear hbx ho
  refine wl_call ok_lock_Decode (decode_any hC rfl hcc (by omega)) ⟨rfl, trivial⟩ rfl ?_
  intro v w6 hv
  obtain ⟨dp, de, rfl, hdd, hbx⟩ : ∃ (dp : Option Addr) (de : Nat), v = .tuple #[.pointer dp, .int .i64 (de : Int)] ∧ ((dp = none ∧ E35 de) ∨ ((∃ a, dp = some a) ∧ de = 0)) ∧ Below w5.heap.size w5 w6 := by
    rcases hv with ⟨h1, h2, h3⟩ | ⟨h1, x, gx, h2, h3⟩
    · exact ⟨none, _, h2, .inl ⟨rfl, (decT_e35 b).resolve_left h1⟩, h3⟩
    · exact ⟨some ⟨x, 0, none⟩, 0, h2, .inr ⟨⟨_, rfl⟩, rfl⟩, h3.bel⟩
  replace hs := hs.below hbx
  clear hbx hv hC hcc
  refine wl_mv rfl rfl ?_; apply wl_val; apply opv_extract; exact rfl; exact rfl; exact rfl; apply wl_val; apply opv_extract; exact rfl; exact rfl; exact rfl; refine wl_as rfl rfl ?_; refine wl_as rfl rfl ?_; refine wl_ns ?_; refine wc_seq ?_; refine wc_sr ?_; refine wl_mv rfl rfl ?_
  refine wl_cutV 16 51 (.bool false) ?cc ?_
  case cc =>
    dsimp only [List.take]
    rcases hdd with ⟨rfl, rfl | rfl⟩ | ⟨⟨⟨xb, xo, xm⟩, rfl⟩, rfl⟩
    · apply wl_val; apply opv_bin; exact rfl; exact rfl; exact bin_eqlNilNil Try.underlying24; exact rfl; refine wl_mv rfl rfl ?_; refine wl_bin rfl rfl bin_neq rfl ?_; apply wl_val; apply opv_bin; exact rfl; exact rfl; exact bin_neqBo Try.underlying4; exact rfl; refine wl_mv rfl rfl ?_; apply wl_take; exact rfl; exact rfl; exact rfl; exact rfl; refine wl_mv rfl rfl ?_; apply wl_take; exact rfl; exact rfl; exact rfl; exact rfl; refine wl_bin rfl rfl bin_neq rfl ?_; apply wl_take; exact rfl; exact rfl; exact rfl; exact rfl; refine wl_mv rfl rfl ?_; apply wl_take; exact rfl; exact rfl; exact rfl; refine bT ?_; omega; refine wl_mv rfl rfl ?_; apply wl_take; exact rfl; exact rfl; exact rfl; refine bT ?_; omega; refine wl_bin rfl rfl bin_neq rfl ?_; apply wl_take; exact rfl; exact rfl; exact rfl; exact rfl; apply wl_val; apply opv_pickT; exact rfl; refine bT ?_; omega; exact rfl; exact rfl; apply wl_take; exact rfl; exact rfl; exact rfl; exact rfl; refine wl_mv rfl rfl ?_; apply wl_skip; exact rfl; exact rfl; exact rfl; refine bFn ?_; omega; exact rfl; apply wl_skip; exact rfl; exact rfl; exact rfl; refine bFn ?_; omega; exact rfl; apply wl_take; exact rfl; exact rfl; exact rfl; exact rfl; apply wl_val; apply opv_pickF; exact rfl; refine bF ?_; omega; exact rfl; exact rfl; apply wl_val; apply opv_pickF; exact rfl; exact rfl; exact rfl; exact rfl; refine wl_nil ?_
      exact we_cut _ ⟨rfl, rfl⟩ ⟨rfl, by refine And.intro rfl ?_; refine And.intro rfl ?_; refine And.intro rfl ?_; refine And.intro rfl ?_; refine And.intro rfl ?_; refine And.intro rfl ?_; refine And.intro rfl ?_; refine And.intro rfl ?_; refine And.intro rfl ?_; refine And.intro rfl ?_; refine And.intro rfl ?_; refine And.intro rfl ?_; refine And.intro rfl ?_; refine And.intro rfl ?_; refine And.intro rfl ?_; refine And.intro rfl ?_; refine And.intro rfl ?_; refine And.intro rfl ?_; refine And.intro rfl ?_; refine And.intro rfl ?_; refine And.intro rfl ?_; refine And.intro rfl ?_; refine And.intro rfl ?_; refine And.intro rfl ?_; refine And.intro rfl ?_; refine And.intro rfl ?_; refine And.intro rfl ?_; refine And.intro rfl ?_; refine And.intro rfl ?_; refine And.intro rfl ?_; refine And.intro rfl ?_; exact True.intro⟩
    · apply wl_val; apply opv_bin; exact rfl; exact rfl; exact bin_eqlNilNil Try.underlying24; exact rfl; refine wl_mv rfl rfl ?_; refine wl_bin rfl rfl bin_neq rfl ?_; apply wl_val; apply opv_bin; exact rfl; exact rfl; exact bin_neqBo Try.underlying4; exact rfl; refine wl_mv rfl rfl ?_; apply wl_take; exact rfl; exact rfl; exact rfl; exact rfl; refine wl_mv rfl rfl ?_; apply wl_take; exact rfl; exact rfl; exact rfl; exact rfl; refine wl_bin rfl rfl bin_neq rfl ?_; apply wl_take; exact rfl; exact rfl; exact rfl; exact rfl; refine wl_mv rfl rfl ?_; apply wl_take; exact rfl; exact rfl; exact rfl; refine bT ?_; omega; refine wl_mv rfl rfl ?_; apply wl_take; exact rfl; exact rfl; exact rfl; refine bT ?_; omega; refine wl_bin rfl rfl bin_neq rfl ?_; apply wl_take; exact rfl; exact rfl; exact rfl; exact rfl; apply wl_val; apply opv_pickT; exact rfl; refine bT ?_; omega; exact rfl; exact rfl; apply wl_take; exact rfl; exact rfl; exact rfl; exact rfl; refine wl_mv rfl rfl ?_; apply wl_take; exact rfl; exact rfl; exact rfl; refine bT ?_; omega; refine wl_mv rfl rfl ?_; apply wl_take; exact rfl; exact rfl; exact rfl; refine bT ?_; omega; refine wl_bin rfl rfl bin_neq rfl ?_; apply wl_take; exact rfl; exact rfl; exact rfl; exact rfl; apply wl_val; apply opv_pickT; exact rfl; refine bT ?_; omega; exact rfl; exact rfl; apply wl_val; apply opv_pickF; exact rfl; exact rfl; exact rfl; exact rfl; refine wl_nil ?_
      exact we_cut _ ⟨rfl, rfl⟩ ⟨rfl, by refine And.intro rfl ?_; refine And.intro rfl ?_; refine And.intro rfl ?_; refine And.intro rfl ?_; refine And.intro rfl ?_; refine And.intro rfl ?_; refine And.intro rfl ?_; refine And.intro rfl ?_; refine And.intro rfl ?_; refine And.intro rfl ?_; refine And.intro rfl ?_; refine And.intro rfl ?_; refine And.intro rfl ?_; refine And.intro rfl ?_; refine And.intro rfl ?_; refine And.intro rfl ?_; refine And.intro rfl ?_; refine And.intro rfl ?_; refine And.intro rfl ?_; refine And.intro rfl ?_; refine And.intro rfl ?_; refine And.intro rfl ?_; refine And.intro rfl ?_; refine And.intro rfl ?_; refine And.intro rfl ?_; refine And.intro rfl ?_; refine And.intro rfl ?_; refine And.intro rfl ?_; refine And.intro rfl ?_; refine And.intro rfl ?_; refine And.intro rfl ?_; exact True.intro⟩
    · apply wl_val; apply opv_bin; exact rfl; exact rfl; exact bin_eqlPtrNil Try.underlying24; exact rfl; refine wl_mv rfl rfl ?_; refine wl_bin rfl rfl bin_neq rfl ?_; apply wl_val; apply opv_bin; exact rfl; exact rfl; exact bin_neqBo Try.underlying4; exact rfl; refine wl_mv rfl rfl ?_; apply wl_take; exact rfl; exact rfl; exact rfl; exact rfl; refine wl_mv rfl rfl ?_; apply wl_take; exact rfl; exact rfl; exact rfl; exact rfl; refine wl_bin rfl rfl bin_neq rfl ?_; apply wl_take; exact rfl; exact rfl; exact rfl; exact rfl; refine wl_mv rfl rfl ?_; apply wl_skip; exact rfl; exact rfl; exact rfl; refine bFn ?_; omega; exact rfl; apply wl_skip; exact rfl; exact rfl; exact rfl; refine bFn ?_; omega; exact rfl; apply wl_take; exact rfl; exact rfl; exact rfl; exact rfl; apply wl_val; apply opv_pickF; exact rfl; refine bF ?_; omega; exact rfl; exact rfl; apply wl_take; exact rfl; exact rfl; exact rfl; exact rfl; refine wl_mv rfl rfl ?_; apply wl_skip; exact rfl; exact rfl; exact rfl; exact bR2; exact rfl; apply wl_skip; exact rfl; exact rfl; exact rfl; exact bR2; exact rfl; apply wl_take; exact rfl; exact rfl; exact rfl; exact rfl; apply wl_val; apply opv_pickF; exact rfl; exact rfl; exact rfl; exact rfl; apply wl_val; apply opv_pickF; exact rfl; exact rfl; exact rfl; exact rfl; refine wl_nil ?_
      exact we_cut _ ⟨rfl, rfl⟩ ⟨rfl, by refine And.intro rfl ?_; refine And.intro rfl ?_; refine And.intro rfl ?_; refine And.intro rfl ?_; refine And.intro rfl ?_; refine And.intro rfl ?_; refine And.intro rfl ?_; refine And.intro rfl ?_; refine And.intro rfl ?_; refine And.intro rfl ?_; refine And.intro rfl ?_; refine And.intro rfl ?_; refine And.intro rfl ?_; refine And.intro rfl ?_; refine And.intro rfl ?_; refine And.intro rfl ?_; refine And.intro rfl ?_; refine And.intro rfl ?_; refine And.intro rfl ?_; refine And.intro rfl ?_; refine And.intro rfl ?_; refine And.intro rfl ?_; refine And.intro rfl ?_; refine And.intro rfl ?_; refine And.intro rfl ?_; refine And.intro rfl ?_; refine And.intro rfl ?_; refine And.intro rfl ?_; refine And.intro rfl ?_; refine And.intro rfl ?_; refine And.intro rfl ?_; exact True.intro⟩
  dsimp only [List.drop]
  replace hs := (hs.drop 1 rfl).front 1 rfl
  dsimp only [delC] at hs
  refine wl_ns ?_; apply wc_condFb; exact rfl; exact rfl; refine wc_skip ?_; refine we_seq ?_; refine wc_sr ?_; refine wl_mv rfl rfl ?_
  refine wl_call ok_lock_Table_All (all_any (hs.rdT 0 rfl) (by omega)) ⟨rfl, trivial⟩ rfl ?_
  rintro _ w7 ⟨P, cp, rfl, hsx⟩
  replace hs := hs.call hsx
  clear hsx
  dsimp only [List.cons_append, List.nil_append] at hs
  have hnl := names_len tb
  refine wl_as rfl rfl ?_; refine wl_ns ?_; refine wc_seq ?_; refine wc_sr ?_; refine wl_mv rfl rfl ?_; apply wl_val; apply opv_len; exact rfl; exact tkTx.sl; exact rfl; refine wl_mv rfl rfl ?_; refine wl_ns ?_; refine wc_block ?_
  replace hs := ((hs.front 2 rfl).front 2 rfl).front 1 rfl
  dsimp only [delC] at hs
  refine wc_loop (fun L wr mm => ∃ (i : Nat) (tbi : Tb), L = [(5, .pointer (some ⟨t, 0, none⟩)), (6, .pointer (some ⟨d, 0, none⟩)), (54, .slice P (names tb).length cp), (55, .int .i64 ((names tb).length : Int)), (56, .int .i64 (i : Int))] ∧ i ≤ (names tb).length ∧ LkI tbi ∧ LkS 41 tbi ∧ (∀ y ∈ names tbi, y ∈ (names tb).drop i) ∧ St NoB w wr [.ck (lkC d gp2 tbi), .ck (lkC t gp tbi), .rg 2 30 P cp (txEls (names tb))] ∧ mm = (names tb).length - i)
    [(5, .pointer (some ⟨t, 0, none⟩)), (6, .pointer (some ⟨d, 0, none⟩)), (54, .slice P (names tb).length cp), (55, .int .i64 ((names tb).length : Int)), (56, .int .i64 (0 : Nat))] (names tb).length ⟨0, tb, rfl, by omega, hI, hS0, fun y hy => hy, hs, rfl⟩ ⟨rfl, rfl, rfl, rfl, rfl, trivial⟩ ?_
  clear hs
  rintro _ w8 mm ⟨i, tbi, rfl, hi, hIi, hSi, hrest, hs, rfl⟩
  have hosi := hSi.os
  have hzi := hSi.sz (by decide)
  refine wc_sr ?_; refine wl_bin rfl rfl bin_lss rfl ?_; refine wl_ns ?_; refine wc_seq ?_
  refine wc_cond rfl (fun h2 => ?_) (fun h2 => ?_)
  · obtain ⟨x, hx⟩ : ∃ x, (names tb)[i]? = some x := ⟨_, List.getElem?_eq_getElem (by omega)⟩
    obtain ⟨bb, o, cs, rfl, _, _, hp, i1⟩ := RdR.at (k := 2) (by decide) (OwR.rd (hs.rg 2 rfl)) (E := rawEl (txV x)) (i := i) (by rw [txEls, List.getElem?_map, hx]; rfl)
    obtain rfl : cs = txV x := hp
    refine wc_skip ?_; refine we_seq ?_; refine wc_seq ?_; refine wc_block ?_; refine wc_sr ?_; apply wl_val; apply opv_idxG tkTx; exact rfl; exact rfl; exact rfl; omega; exact rfl; apply wl_val; apply opv_ldG; exact rfl; assumption; exact sTx; exact rfl
    refine ws_var (cs := txV x) hs zeroTx sTx rfl (fun _ => rfl) (by first | rfl | simp [Value.oneCell']) rfl ?_; clear hs; intro g12 _ hs
    refine wl_ns ?_; refine wc_seq ?_
    replace hs := hs.below (Below.refl _ _).drew
    refine wc_held (fun w' => Ar w' g12 30 (txV x)) mixed ?_
    have hS := hs.ar 0 rfl
    apply wh_takeH 0; exact rfl; intro _ hw_; apply opv_move; exact rfl; exact rfl; kernel_rfl; exact hS; apply wh_takeH 1; exact rfl; intro _ hw_; apply opv_loadX; exact rfl; assumption; exact sTx; exact rfl; kernel_rfl; exact hS; apply wh_takeH 3; exact rfl; intro _ hw_; apply opv_move; exact rfl; exact rfl; kernel_rfl; exact hS; apply wh_takeH 4; exact rfl; intro _ hw_; apply opv_loadX; exact rfl; assumption; exact sTx; exact rfl; kernel_rfl; exact hS
    clear hS
    have hIr := hIi.rel x
    have hSr := hSi.rel x
    have hzr := hSr.sz (by decide)
    have hosr := hSr.os
    have hqr := hzr.qu hIr.wf
    have hn2 := rel_names hIi.wf x
    have hnr : (names (relT tbi x).1).length = (relT tbi x).1.os.length := names_len _
    have hqi := hzi.qu hIi.wf
    have hgl : (relT tbi x).2.length ≤ 4294967296 := by have := rel_len (tb := tbi) x; omega
    refine wh_one 2 (o := ⟨_, _, _, _, _, _⟩) (by kernel_rfl) rfl ?_
    obtain ⟨S2, hS2, _, _, _, hB⟩ := St.lend (H1 := [.ck (lkC t gp tbi)]) (H2 := [_, _, _]) (hs.front 2 rfl)
    refine wl_call ok_lock_Table_Release (release_any (x := x) hS2 hIi.wf hzi) ⟨rfl, rfl, trivial⟩ rfl ?_
    rintro _ w9 ⟨P1, cp1, rfl, hsx⟩
    replace hs := hB _ _ hsx
    clear hB hsx hS2
    dsimp only [List.cons_append, List.nil_append] at hs
    refine wl_nil ?_
    refine we_held (hs.ar 2 rfl) ?_
    refine wh_one 5 (o := ⟨_, _, _, _, _, _⟩) (by kernel_rfl) rfl ?_
    obtain ⟨S2, hS2, _, _, _, hB⟩ := St.lend (H1 := [.ck (lkC d gp2 tbi)]) (H2 := [_, _, _, _]) (hs.front 3 rfl)
    refine wl_call ok_lock_Table_Release (release_any (x := x) hS2 hIi.wf hzi) ⟨rfl, rfl, trivial⟩ rfl ?_
    rintro _ w10 ⟨P2, cp2, rfl, hsx⟩
    replace hs := hB _ _ hsx
    clear hB hsx hS2
    dsimp only [List.cons_append, List.nil_append] at hs
    refine wl_nil ?_
    refine we_held (hs.ar 4 rfl) ?_
    refine wh_one 6 (o := ⟨_, _, _, _, _, _⟩) (by kernel_rfl) rfl ?_
    refine wl_call ok_caissonref16_SameTxns (sameTx_any (OwR.rd (hs.rg 2 rfl)) (OwR.rd (hs.rg 0 rfl)) rfl rfl hgl) ⟨rfl, rfl, trivial⟩ rfl ?_
    rintro _ w11 ⟨rfl, hbx⟩
    replace hs := hs.below hbx
    clear hbx
    rw [decide_eq_true (rfl : (relT tbi x).2 = (relT tbi x).2)]
    refine wl_nil ?_
    refine we_held (hs.ar 4 rfl) ?_
    have hS := hs.ar 4 rfl
    apply wh_takeH 7; exact rfl; intro _ hw_; apply opv_not; exact rfl; exact rfl; kernel_rfl; exact hS; apply wh_takeH 8; exact rfl; intro _ hw_; apply opv_move; exact rfl; exact rfl; kernel_rfl; exact hS; apply wh_takeGH 9; exact rfl; exact rfl; exact rfl; exact rfl; exact Bool.not_true; intro _ hw_; apply opv_move; exact rfl; exact rfl; kernel_rfl; exact hS; apply wh_takeGH 11; exact rfl; exact rfl; exact rfl; exact rfl; exact Bool.not_true; intro _ hw_; apply opv_move; exact rfl; exact rfl; kernel_rfl; exact hS
    clear hS
    refine wh_one 10 (o := ⟨_, _, _, _, _, _⟩) (by kernel_rfl) rfl ?_
    apply wl_take; exact rfl; exact rfl; exact rfl; exact Bool.not_true
    refine wl_call ok_lock_Table_All (all_any (hs.rdT 3 rfl) (by omega)) ⟨rfl, trivial⟩ rfl ?_
    rintro _ w12 ⟨P12, cp12, rfl, hsx⟩
    replace hs := hs.call hsx
    clear hsx
    dsimp only [List.cons_append, List.nil_append] at hs
    refine wl_nil ?_
    refine we_held (hs.ar 5 rfl) ?_
    refine wh_one 12 (o := ⟨_, _, _, _, _, _⟩) (by kernel_rfl) rfl ?_
    apply wl_take; exact rfl; exact rfl; exact rfl; exact Bool.not_true
    refine wl_call ok_lock_Table_All (all_any (hs.rdT 2 rfl) (by omega)) ⟨rfl, trivial⟩ rfl ?_
    rintro _ w13 ⟨P13, cp13, rfl, hsx⟩
    replace hs := hs.call hsx
    clear hsx
    dsimp only [List.cons_append, List.nil_append] at hs
    refine wl_nil ?_
    refine we_held (hs.ar 6 rfl) ?_
    refine wh_one 13 (o := ⟨_, _, _, _, _, _⟩) (by kernel_rfl) rfl ?_
    apply wl_take; exact rfl; exact rfl; exact rfl; exact Bool.not_true
    refine wl_call ok_caissonref16_SameTxns (sameTx_any (OwR.rd (hs.rg 1 rfl)) (OwR.rd (hs.rg 0 rfl)) rfl rfl (by omega)) ⟨rfl, rfl, trivial⟩ rfl ?_
    rintro _ w14 ⟨rfl, hbx⟩
    replace hs := hs.below hbx
    clear hbx
    rw [decide_eq_true (rfl : (names (relT tbi x).1) = names (relT tbi x).1)]
    refine wl_nil ?_
    refine we_held (hs.ar 6 rfl) ?_
    have hS := hs.ar 6 rfl
    apply wh_takeGH 14; exact rfl; exact rfl; exact rfl; exact rfl; exact Bool.not_true; intro _ hw_; apply opv_not; exact rfl; exact rfl; kernel_rfl; exact hS; apply wh_takeH 15; exact rfl; intro _ hw_; apply opv_pickF; exact rfl; exact Bool.not_true; exact rfl; exact rfl; kernel_rfl; exact hS; apply wh_takeH 16; exact rfl; intro _ hw_; apply opv_move; exact rfl; exact rfl; kernel_rfl; exact hS; apply wh_takeGH 17; exact rfl; exact rfl; exact rfl; exact rfl; exact Bool.not_true; intro _ hw_; apply opv_move; exact rfl; exact rfl; kernel_rfl; exact hS; apply wh_takeGH 19; exact rfl; exact rfl; exact rfl; exact rfl; exact Bool.not_true; intro _ hw_; apply opv_move; exact rfl; exact rfl; kernel_rfl; exact hS
    clear hS
    refine wh_one 18 (o := ⟨_, _, _, _, _, _⟩) (by kernel_rfl) rfl ?_
    apply wl_take; exact rfl; exact rfl; exact rfl; exact Bool.not_true
    refine wl_call ok_lock_Table_Queue (queue_any (hs.rdT 5 rfl) hIr.wf (by omega)) ⟨rfl, trivial⟩ rfl ?_
    rintro _ w15 ⟨P15, cp15, rfl, hsx⟩
    replace hs := hs.call hsx
    clear hsx
    dsimp only [List.cons_append, List.nil_append] at hs
    refine wl_nil ?_
    refine we_held (hs.ar 7 rfl) ?_
    refine wh_one 20 (o := ⟨_, _, _, _, _, _⟩) (by kernel_rfl) rfl ?_
    apply wl_take; exact rfl; exact rfl; exact rfl; exact Bool.not_true
    refine wl_call ok_lock_Table_Queue (queue_any (hs.rdT 4 rfl) hIr.wf (by omega)) ⟨rfl, trivial⟩ rfl ?_
    rintro _ w16 ⟨P16, cp16, rfl, hsx⟩
    replace hs := hs.call hsx
    clear hsx
    dsimp only [List.cons_append, List.nil_append] at hs
    refine wl_nil ?_
    refine we_held (hs.ar 8 rfl) ?_
    refine wh_one 21 (o := ⟨_, _, _, _, _, _⟩) (by kernel_rfl) rfl ?_
    apply wl_take; exact rfl; exact rfl; exact rfl; exact Bool.not_true
    refine wl_call ok_caissonref16_SameTxns (sameTx_any (OwR.rd (hs.rg 1 rfl)) (OwR.rd (hs.rg 0 rfl)) rfl rfl (by omega)) ⟨rfl, rfl, trivial⟩ rfl ?_
    rintro _ w17 ⟨rfl, hbx⟩
    replace hs := hs.below hbx
    clear hbx
    rw [decide_eq_true (rfl : ((relT tbi x).1.qu) = (relT tbi x).1.qu)]
    refine wl_nil ?_
    refine we_held (hs.ar 8 rfl) ?_
    have hS := hs.ar 8 rfl
    apply wh_takeGH 22; exact rfl; exact rfl; exact rfl; exact rfl; exact Bool.not_true; intro _ hw_; apply opv_not; exact rfl; exact rfl; kernel_rfl; exact hS; apply wh_takeH 23; exact rfl; intro _ hw_; apply opv_pickF; exact rfl; exact Bool.not_true; exact rfl; exact rfl; kernel_rfl; exact hS
    clear hS
    refine wh_done (by kernel_rfl) ?_
    refine we_seq ?_; apply wc_condFb; exact rfl; exact Bool.not_true; refine wc_skip ?_; refine we_block_norm ?_; refine we_seq ?_; refine wc_region ?_; apply wl_val; apply opv_bin; exact rfl; exact rfl; exact bin_add64 (by omega); exact rfl; refine wl_mv rfl rfl ?_; refine wl_nil ?_
    replace hs := ((hs.front 9 rfl).front 8 rfl).front 7 rfl
    dsimp only [delC] at hs
    replace hs := ((((((hs.drop 3 rfl).drop 3 rfl).drop 3 rfl).drop 3 rfl).drop 3 rfl).drop 3 rfl).drop 3 rfl
    dsimp only [delC] at hs
    refine we_loop _ ((names tb).length - (i + 1)) ⟨i + 1, (relT tbi x).1, rfl, by omega, hIr, hSr, fun y hy => ?_, hs, rfl⟩ (by omega) ⟨rfl, rfl, rfl, rfl, by simp [lookT], trivial⟩
    rw [hn2.1] at hy
    obtain ⟨hy1, hy2⟩ := mem_unq.1 hy
    have hd := hrest y hy1
    have hil := (List.getElem?_eq_some_iff.1 hx).1
    rw [List.drop_eq_getElem_cons hil, List.mem_cons] at hd
    rw [List.getElem?_eq_getElem hil] at hx
    injection hx with hx
    rcases hd with hd | hd
    · exact absurd (hd.trans hx) hy2
    · exact hd
  · obtain rfl : i = (names tb).length := by omega
    have hne : names tbi = [] := by
      cases hc : names tbi with
      | nil => rfl
      | cons y q =>
        have := hrest y (by rw [hc]; exact List.mem_cons_self)
        rw [List.drop_length] at this
        cases this
    refine wc_exit ?_; refine we_seq_exit ?_; refine we_loop_exit ?_; refine we_block_exit ?_; refine we_seq ?_; refine wc_sr ?_; refine wl_mv rfl rfl ?_
    refine wl_call ok_lock_Table_All (all_any (hs.rdT 0 rfl) (by omega)) ⟨rfl, trivial⟩ rfl ?_
    rintro _ w9 ⟨P2, cp2, rfl, hsx⟩
    replace hs := hs.call hsx
    rw [hne]
    apply wl_val; apply opv_len; exact rfl; exact tkTx.sl; exact rfl; refine wl_bin rfl rfl bin_eql rfl ?_; refine wl_as rfl rfl ?_; refine wl_ns ?_; refine wc_ret ?_
    exact we_ret1 rfl rfl ⟨_, rfl, rfl, hs.bel⟩
end Go.Proofs.Ytmdbjeabifkimaa


/-
  Twins of ranges whose bytes lie apart; pieces of bytes for the test of Apart.
-/
namespace Go.Proofs.Ytmdbjeabifkimaa
open Go.RowKit

theorem ow_hd {w : World} {A : Option Addr} {n c base : Nat} {xs : List Value} {S : BS} (h : (Cd.ow 5 A n c xs).P w S) (hb : ∀ b, S b → base ≤ b) : Hd w base A n c := by
  rcases h.2.2 with ⟨hv, hn⟩ | ⟨g, cap, cur, hv, _, hg, hnc, _, hsz, _⟩
  · injection hv with hA _ hc; exact .inl ⟨hA, hn, hc⟩
  · injection hv with hA _ hc
    refine .inr ⟨g, cur.toList, hA, hb g (h.1 ⟨g, 0, none⟩ hA), by unfold Ar; simpa using hg, by omega, by simp; omega⟩
/-- A piece that holds just the bytes of a slice. -/
def HdC (c : Cd) (A : Option Addr) (n d : Nat) : Prop := ∀ (w : World) (S : BS), c.P w S → (∀ a, A = some a → S a.block) ∧ ∀ base, (∀ b, S b → base ≤ b) → Hd w base A n d
inductive ByQ : List Cd → List Value → Prop
  | nil : ByQ [] []
  | cons {c : Cd} {A : Option Addr} {n d : Nat} {H : List Cd} {vs : List Value} : n ≤ 1099511627776 → HdC c A n d → ByQ H vs → ByQ (c :: H) (.slice A n d :: vs)
theorem ByQ.append {H H' : List Cd} {vs vs' : List Value} (h : ByQ H vs) (h' : ByQ H' vs') : ByQ (H ++ H') (vs ++ vs') := by
  induction h with
  | nil => exact h'
  | cons hn hc _ ih => exact .cons hn hc ih
theorem hdc_ow {A : Option Addr} {n c : Nat} {xs : List Value} : HdC (.ow 5 A n c xs) A n c := fun _ _ h => ⟨h.1, fun _ hb => ow_hd h hb⟩
theorem byQ_in {w : World} {H : List Cd} {vs : List Value} (h : ByQ H vs) : ∀ {S : BS}, Sat w H S → ∀ v ∈ vs, ∀ g, v.ownBlock = some g → S g := by
  induction h with
  | nil => intro S _ v hv; cases hv
  | @cons c A n d H vs hn hk _ ih =>
    rintro S ⟨T, hT, hc, hr⟩ v hv g hg
    rcases List.mem_cons.1 hv with rfl | hv
    · rw [ownBlock_slice] at hg
      cases A with
      | none => cases hg
      | some a => simp at hg; subst hg; exact hT _ ((hk w T hc).1 a rfl)
    · exact (ih hr v hv g hg).1
theorem byQ_own {w : World} {base : Nat} {H : List Cd} {vs : List Value} (h : ByQ H vs) : ∀ {S : BS}, Sat w H S → (∀ b, S b → base ≤ b) → Own1 w base vs := by
  induction h with
  | nil => intro S _ _; exact Own1.nil
  | @cons c A n d H vs hn hk hH ih =>
    rintro S ⟨T, hT, hc, hr⟩ hb
    obtain ⟨hA, hd⟩ := hk w T hc
    have hin : ∀ v ∈ vs, ∀ g, v.ownBlock = some g → ¬ T g := fun v hv g hg => (byQ_in hH hr v hv g hg).2
    have ho := ih hr fun b h => hb b h.1
    refine ⟨fun v hv => ?_, List.pairwise_cons.2 ⟨fun v hv g hg hg' => ?_, ho.2⟩⟩
    · rcases List.mem_cons.1 hv with rfl | hv
      · exact ⟨A, n, d, rfl, hd base fun b h => hb b (hT b h), hn⟩
      · exact ho.1 v hv
    · rw [ownBlock_slice] at hg
      cases A with
      | none => cases hg
      | some a => simp at hg; subst hg; exact hin v hv _ hg' (hA a rfl)
/-- Pieces of bytes are told apart by the reference; the other pieces stay. -/
theorem apartQ_any {w0 w : World} {V : Option Addr} {N c : Nat} {vs : List Value} {H1 H2 : List Cd} (hs : St NoB w0 w (.ow 51 V N c vs :: .ck (packC H1) :: H2)) (hby : ByQ H1 vs) (hN : N ≤ 4194304) :
    CallsV Try.prog 29 #[.slice V N c] w fun v w' => v = .bool true ∧ St NoB w0 w' H2 := by
  have hrd := (hs.ow 0 rfl).rd
  obtain ⟨hm, T, hT, hV, U, hU, hpk, hr⟩ := hs
  have hpk : Sat w H1 U := hpk
  have hin := byQ_in hby hpk
  have hbase : ∀ b, U b → w0.heap.size ≤ b := fun b h => (hU b h).1.elim (fun k => k.elim) id
  refine (apartK_any (base := w0.heap.size) hrd (fun a ha v hv hg => (hU _ (hin v hv _ hg)).2 (hV.1 a ha)) (byQ_own hby hpk hbase) hm.size hN).mono fun v w' ⟨hv, h1, h2, h3, h4, h5⟩ => ⟨hv, ?_, ?_⟩
  · refine ⟨h1.trans hm.os, h2.trans hm.tape, h3.trans hm.output, Nat.le_trans hm.size h4, fun b hb hn => ?_⟩
    rw [h5 b (Nat.lt_of_lt_of_le hb hm.size) fun v hv hg => by have := hbase b (hin v hv b hg); omega]
    exact hm.block b hb hn
  · exact hr.move h4 fun b hb k => ⟨k.1.1, h5 b hb fun v hv hg => k.2 (hin v hv b hg)⟩
/-! #### A copy with its spare room -/
theorem blk_ow {w : World} {g : Nat} {cs : List Value} {S : BS} (h : (Cd.blk g 5 cs).P w S) (hl : cs.length ≤ maxLen) : (Cd.ow 5 (some ⟨g, 0, none⟩) cs.length cs.length cs).P w S := by
  refine ⟨fun a ha => by cases ha; exact h.1, by simp, .inr ⟨g, cs.length, cs.toArray, rfl, Nat.zero_le _, h.2, Nat.le_refl _, hl, by simp, by simp⟩⟩
def spP (x : List UInt8 × Nat) : Cd := .ow 5 (some ⟨x.2, 0, none⟩) (x.1.length + 40) (x.1.length + 40) (bvs (spareL x.1))
def spV (x : List UInt8 × Nat) : Value := .slice (some ⟨x.2, 0, none⟩) (x.1.length + 40) (x.1.length + 40)
theorem St.newSp {M : BS} {w0 w w' : World} {H : List Cd} {g : Nat} {xs : List UInt8} (hs : St M w0 w H) (hb : Below w.heap.size w w') (hg : w.heap.size ≤ g) (ha : Ar w' g 5 (bvs (spareL xs))) (hl : xs.length ≤ 1099511627776) : St M w0 w' (spP (xs, g) :: H) := by
  refine (hs.newA hb hg ha).map fun S h => h.mapC fun T h => ?_
  have hlen : (bvs (spareL xs)).length = xs.length + 40 := by rw [bvs_length, spareL_length]
  have := blk_ow h (by rw [hlen]; simp only [maxLen]; omega)
  rwa [hlen] at this
theorem sp_rd {w : World} {x : List UInt8 × Nat} {S : BS} (h : (spP x).P w S) : RdB w (some ⟨x.2, 0, none⟩) (spareL x.1) ∧ RdB w (some ⟨x.2, 0, none⟩) x.1 := by
  have h1 : RdB w (some ⟨x.2, 0, none⟩) (spareL x.1) := by
    have := h.2.rd
    unfold RdB
    rw [spareL_length]; exact this
  refine ⟨h1, ?_⟩
  have h2 := Rd.cut (l := 0) (h := x.1.length) (c := x.1.length + 40) h.2.rd (Nat.zero_le _) (by omega) (Nat.le_refl _)
  rw [cutA_zero, Nat.sub_zero, List.drop_zero] at h2
  unfold RdB
  have e : (bvs (spareL x.1)).take x.1.length = bvs x.1 := by rw [bvs, ← List.map_take, spareL_take]; rfl
  rw [e] at h2
  exact h2
theorem St.sp {M : BS} {w0 w : World} {H : List Cd} {x : List UInt8 × Nat} (hs : St M w0 w H) (i : Nat) (hi : nthC H i = some (spP x)) : RdB w (some ⟨x.2, 0, none⟩) (spareL x.1) ∧ RdB w (some ⟨x.2, 0, none⟩) x.1 := by
  obtain ⟨T, hc, _⟩ := hs.get i hi
  exact sp_rd hc
/-! #### Ranges with memory of their own -/
structure RgA where
  x : Rg
  A : Option Addr
  c : Nat
  B : Option Addr
  d : Nat
def raV (a : RgA) : List Value := rgV a.x a.A a.c a.B a.d
def raM (a : RgA) : List Cd := [.ow 5 a.A a.x.fr.length a.c (bvs a.x.fr), .ow 5 a.B a.x.to.length a.d (bvs a.x.to)]
def RetRgS (w : World) (l : List Rg) (v : Value) (w' : World) : Prop := ∃ (A : Option Addr) (c : Nat) (es : List RgA), es.map (·.x) = l ∧ v = .slice A l.length c ∧ St NoB w w' [.rg 3 61 A c ((es.map raV).map rawEl), .ck (packC (es.flatMap raM))]
theorem twinsS_any {A : Option Addr} {n c : Nat} {l : List Rg} {w : World} (hr : RdR 3 w All A (l.map rgEl)) (hn : l.length = n) (hl : l.length ≤ 4294967296) (hok : ∀ x ∈ l, x.fr.length ≤ 1048576 ∧ x.to.length ≤ 1048576) :
    CallsV Try.prog 43 #[.slice A n c] w (RetRgS w l) := by
  subst hn
  have hs := ((St.init w).pack (H1 := []) (.ck (packC [])) fun w S h => h).nilG 3 61
  refine calls_in (N := _) Try.func43 rfl Try.ntmps43 rfl ?_; show WC _ _ _ _ _ _
  refine wc_sr ?_; refine wl_as rfl rfl ?_; refine wl_ns ?_; refine wc_sr ?_; refine wl_as rfl rfl ?_; refine wl_ns ?_; refine wc_seq ?_; refine wc_sr ?_; refine wl_mv rfl rfl ?_; apply wl_val; apply opv_len; exact rfl; exact tkR.sl; exact rfl; refine wl_mv rfl rfl ?_; refine wl_ns ?_; refine wc_block ?_
  refine wc_loop (fun L wr mm => ∃ (k : Nat) (P : Option Addr) (cp : Nat) (es : List RgA), L = [(6, .slice A l.length c), (7, .int .i64 (l.length : Int)), (3, .slice P k cp), (8, .int .i64 (k : Int))] ∧ k ≤ l.length ∧ St NoB w wr [.rg 3 61 P cp ((es.map raV).map rawEl), .ck (packC (es.flatMap raM))] ∧ es.map (·.x) = l.take k ∧ mm = l.length - k)
    [(6, .slice A l.length c), (7, .int .i64 (l.length : Int)), (3, .slice none 0 0), (8, .int .i64 (0 : Nat))] l.length ⟨0, none, 0, [], rfl, by omega, hs, rfl, rfl⟩ ⟨rfl, rfl, rfl, rfl, trivial⟩ ?_
  clear hs
  rintro _ w1 mm ⟨k, P, cp, es, rfl, hk, hs, hes, rfl⟩
  have hel : es.length = k := by have := congrArg List.length hes; rw [List.length_map, List.length_take] at this; omega
  refine wc_sr ?_; refine wl_bin rfl rfl bin_lss rfl ?_; refine wl_ns ?_; refine wc_seq ?_
  refine wc_cond rfl (fun h1 => ?_) (fun h1 => ?_)
  · obtain ⟨x, hx⟩ : ∃ x, l[k]? = some x := ⟨_, List.getElem?_eq_getElem (by omega)⟩
    have hox := hok x (List.mem_of_getElem? hx)
    obtain ⟨bb, o, cs, rfl, _, _, hp, i1⟩ := RdR.at (k := 3) (by decide) hr (E := rgEl x) (i := k) (by rw [List.getElem?_map, hx]; rfl)
    obtain ⟨X, cx, Y, cy, rfl, rx, _, ry, _⟩ := rgEl.rd hp
    replace i1 := i1.below hs.bel
    refine wc_skip ?_; refine we_seq ?_; refine wc_seq ?_; refine wc_block ?_; refine wc_sr ?_; apply wl_val; apply opv_idxG tkR; exact rfl; exact rfl; exact rfl; omega; exact rfl; apply wl_val; apply opv_ldG; exact rfl; assumption; exact sR; exact rfl
    refine ws_var (cs := rgV x X cx Y cy) hs zeroRg sR rfl (fun _ => rfl) (by first | rfl | simp [Value.oneCell']) rfl ?_; clear hs; intro g5 _ hs
    unfold rgV at hs
    refine wl_ns ?_
    replace hs := hs.below (Below.refl _ _).drew
    refine wc_held (fun w => Ar w g5 61 [.slice X x.fr.length cx, .slice Y x.to.length cy, .bool x.ex]) mixed ?_
    have hS := hs.ar 0 rfl
    apply wh_takeH 0; exact rfl; intro _ hw_; apply opv_move; exact rfl; exact rfl; kernel_rfl; exact hS; apply wh_takeH 1; exact rfl; intro _ hw_; apply opv_fa; exact fa_sR (by decide); exact rfl; exact rfl; kernel_rfl; exact hS; apply wh_takeH 2; exact rfl; intro _ hw_; apply opv_ldX; exact rfl; assumption; exact e1_by; exact rfl; exact rfl; kernel_rfl; exact hS; apply wh_takeH 4; exact rfl; intro _ hw_; apply opv_fa; exact fa_sR (by decide); exact rfl; exact rfl; kernel_rfl; exact hS; apply wh_takeH 5; exact rfl; intro _ hw_; apply opv_ldX; exact rfl; assumption; exact e1_by; exact rfl; exact rfl; kernel_rfl; exact hS; apply wh_takeH 7; exact rfl; intro _ hw_; apply opv_fa; exact fa_sR (by decide); exact rfl; exact rfl; kernel_rfl; exact hS; apply wh_takeH 8; exact rfl; intro _ hw_; apply opv_ldX; exact rfl; assumption; exact e1_bool; exact rfl; exact rfl; kernel_rfl; exact hS
    clear hS
    refine wh_one 3 (o := ⟨_, _, _, _, _, _⟩) (by kernel_rfl) rfl ?_
    refine wl_call ok_bytes_Clone (clone_any (rx.below hs.bel) rfl (by omega)) ⟨rfl, trivial⟩ rfl ?_; rintro _ _ ⟨C, e, rfl, o_, hbx⟩; replace hs := hs.newO hbx o_ (Nat.le_refl _); try dsimp only [List.cons_append, List.nil_append, setC, delC] at hs
    refine wl_nil ?_
    refine we_held (hs.ar 1 rfl) ?_
    refine wh_one 6 (o := ⟨_, _, _, _, _, _⟩) (by kernel_rfl) rfl ?_
    refine wl_call ok_bytes_Clone (clone_any (ry.below hs.bel) rfl (by omega)) ⟨rfl, trivial⟩ rfl ?_; rintro _ _ ⟨D, f, rfl, o_, hbx⟩; replace hs := hs.newO hbx o_ (Nat.le_refl _); try dsimp only [List.cons_append, List.nil_append, setC, delC] at hs
    refine wl_nil ?_
    refine we_held (hs.ar 2 rfl) ?_
    refine wh_one 9 (o := ⟨_, _, _, _, _, _⟩) (by kernel_rfl) rfl ?_
    refine wl_val (opv_build (vs := [(0, .slice C x.fr.length e), (1, .slice D x.to.length f), (2, .bool x.ex)]) (cs := rgV x C e D f) ⟨rfl, rfl, rfl, rfl, rfl, rfl, trivial⟩ (by kernel_rfl)) rfl ?_
    refine wl_nil ?_
    refine we_held (hs.ar 2 rfl) ?_
    refine wh_one 10 (o := ⟨_, _, _, _, _, _⟩) (by kernel_rfl) rfl ?_
    refine wl_bsG (css := [rgV x C e D f]) tkR ⟨rfl, ⟨_, rfl, rfl⟩, rfl, trivial⟩ (els := [rgV x C e D f].map rawEl) (S := NoB) rfl (by decide) (by decide) (grp_raw (by simp [rgV])) rfl fun R w7 hR hbx _ => ?_
    replace hs := (hs.front 1 rfl).newG hbx hR (Nat.le_refl _) fun _ _ h => h.elim
    clear hR hbx
    refine wl_nil ?_
    refine we_held (hs.ar 3 rfl) ?_
    refine wh_one 11 (o := ⟨_, _, _, _, _, _⟩) (by kernel_rfl) rfl ?_
    refine ws_appR (css := [rgV x C e D f]) (m := 1) hs 4 rfl rfl tkR (by simp; omega) rfl (OwR.rd (hs.rg 0 rfl)) rfl (rgV_all _ _ _ _ _) (by omega) (by simp only [maxLen]; omega) rfl ?_
    clear hs; intro P2 cp2 w8 hs; dsimp only [setC] at hs
    refine wl_nil ?_
    refine we_held (hs.ar 3 rfl) ?_
    refine wh_one 12 (o := ⟨_, _, _, _, _, _⟩) (by kernel_rfl) rfl ?_
    refine wl_as rfl rfl ?_; refine wl_nil ?_
    refine we_held (hs.ar 3 rfl) ?_
    refine wh_done (by kernel_rfl) ?_
    refine we_block_norm ?_; refine we_seq ?_; refine wc_region ?_; apply wl_val; apply opv_bin; exact rfl; exact rfl; exact bin_add64 (by omega); exact rfl; refine wl_mv rfl rfl ?_; refine wl_nil ?_
    replace hs := ((hs.drop 0 rfl).drop 2 rfl).front 2 rfl
    dsimp only [delC] at hs
    replace hs := ((hs.front 3 rfl).front 3 rfl).front 3 rfl
    dsimp only [delC] at hs
    replace hs := (St.pack (H1 := [_, _, _]) hs (.ck (packC ((es ++ [RgA.mk x C e D f]).flatMap raM))) fun w S h => by
      have h1 := Sat.swap (H1 := [_, _]) (H2 := [_]) h
      have h2 := Sat.split (H1 := es.flatMap raM) h1 fun T h => h
      rw [List.flatMap_append]
      exact h2).front 1 rfl
    dsimp only [delC] at hs
    refine we_loop _ (l.length - (k + 1)) ⟨k + 1, P2, cp2, es ++ [RgA.mk x C e D f], rfl, by omega, by rw [List.map_append, List.map_append]; exact hs, by rw [List.map_append, hes, take_getR hx]; rfl, rfl⟩ (by omega) ⟨rfl, rfl, rfl, by simp [lookT], trivial⟩
  · obtain rfl : k = l.length := by omega
    rw [List.take_length] at hes
    refine wc_exit ?_; refine we_seq_exit ?_; refine we_loop_exit ?_; refine we_block_exit ?_; refine we_seq ?_; refine wc_sr ?_; refine wl_mv rfl rfl ?_; refine wl_as rfl rfl ?_; refine wl_ns ?_; refine wc_ret ?_
    exact we_ret1 rfl rfl ⟨_, rfl, P, cp, es, hes, rfl, hs⟩
theorem heldS_any {t : Nat} {gp : Tx → Nat} {tb : Tb} {x : Tx} {w : World} (hT : RdT w t gp tb) (hw : Wf tb) (hl : tb.os.length ≤ 4294967296) (hh : ∀ o ∈ tb.os, o.held.length ≤ 4294967296) :
    CallsV Try.prog 17 #[pN t, .agg (txV x).toArray] w (RetRgS w (heldT tb x)) := by
  have hs := St.init w
  unfold pN
  refine calls_in (N := _) Try.func17 rfl Try.ntmps17 rfl ?_; show WC _ _ _ _ _ _
  refine wc_sr ?_
  refine ws_box (cs := txV x) hs rfl rfl ?_; clear hs; intro g3 _ hs
  refine wl_as rfl rfl ?_; refine wl_ns ?_; refine wc_seq ?_; refine wc_sr ?_; refine wl_mv rfl rfl ?_; apply wl_val; apply opv_loadX; exact rfl; exact hs.ar 0 rfl; exact sTx; exact rfl
  refine wl_call ok_lock_Table_find (find_any (hT.below hs.bel) hl) ⟨rfl, rfl, trivial⟩ rfl ?_
  rintro _ w1 ⟨rfl, hbx⟩
  replace hs := hs.below hbx
  clear hbx
  cases hx : ownO tb x with
  | some o =>
    obtain ⟨ho, rfl⟩ := ownO_some hx
    rw [ptrO, if_pos (show o.x ∈ names tb from List.mem_map_of_mem ho)]
    obtain ⟨H, hc, K, kc, a1, r1, r2, _⟩ := (hT.own o ho).below hs.bel
    have hf := hw.form o ho
    unfold pN
    unfold owV at a1
    refine wl_as rfl rfl ?_; refine wl_ns ?_; refine wc_sr ?_; refine wl_mv rfl rfl ?_; apply wl_val; apply opv_bin; exact rfl; exact rfl; exact bin_neqPtrNil tyPPO; exact rfl; refine wl_ns ?_; apply wc_condTb; exact rfl; exact rfl; refine wc_sr ?_; refine wl_mv rfl rfl ?_; apply wl_val; apply opv_nilOk; exact rfl; exact rfl; apply wl_val; apply opv_fa; exact fa_O1; exact rfl; exact rfl; apply wl_val; apply opv_ldX; exact rfl; assumption; exact e1_rgs; exact rfl; exact rfl
    refine wl_call ok_lock_twins (twinsS_any r1 rfl (hh o ho) fun r hr => by have := hf r (.inl hr); unfold okR at this; omega) ⟨rfl, trivial⟩ rfl ?_
    rintro _ w2 ⟨P, cp, es, he, rfl, hsx⟩
    replace hs := (hs.nil).call hsx
    refine wl_as rfl rfl ?_; refine wl_ns ?_; refine wc_ret ?_; refine we_seq_ret ?_
    exact we_ret1 rfl rfl ⟨_, rfl, P, cp, es, by rw [heldT, hx]; exact he, by rw [heldT, hx], hs⟩
  | none =>
    rw [ptrO, if_neg (ownO_none.1 hx)]
    refine wl_as rfl rfl ?_; refine wl_ns ?_; refine wc_sr ?_; refine wl_mv rfl rfl ?_; apply wl_val; apply opv_bin; exact rfl; exact rfl; exact bin_neqNilNil tyPPO; exact rfl; refine wl_ns ?_; apply wc_condFb; exact rfl; exact rfl; refine wc_skip ?_; refine we_seq ?_; refine wc_sr ?_; refine wl_as rfl rfl ?_; refine wl_ns ?_; refine wc_ret ?_
    exact we_ret1 rfl rfl ⟨_, rfl, none, 0, [], by rw [heldT, hx]; rfl, by rw [heldT, hx]; rfl, ((hs.nil).pack (H1 := []) (.ck (packC [])) fun w S h => h).nilG _ _⟩
end Go.Proofs.Ytmdbjeabifkimaa


/-
  Walk over the law LockKeeps.
-/
namespace Go.Proofs.Ytmdbjeabifkimaa
open Go.RowKit

theorem raw8 {k c j : Nat} {w : World} {e : TypeId} {A : Option Addr} {css : List (List Value)} {cs : List Value} (hk : 0 < k) (h : OwR k e w 0 All A c (css.map rawEl)) (hcs : css[j]? = some cs) : ∃ b o, A = some ⟨b, o, none⟩ ∧ Wi w b (o + j * k) cs := by
  obtain ⟨b, o, _, rfl, _, _, rfl, i0⟩ := RdR.at (k := k) hk (OwR.rd h) (E := rawEl cs) (i := j) (by rw [List.getElem?_map, hcs]; rfl)
  exact ⟨b, o, rfl, i0⟩
theorem ask_bad {tb : Tb} {x : Tx} {l : List Rg} (h : checkR l ≠ 0) : askT tb x l = ⟨tb, 0, [], [], checkR l⟩ := by rw [askT, if_pos h]
theorem ask_first {x : Tx} {l : List Rg} (h : checkR l = 0) : askT ⟨[], []⟩ x l = ⟨⟨[⟨x, l, []⟩], []⟩, 1, [], [], 0⟩ := by
  have e1 : askQ ⟨[], []⟩ x l = ⟨[⟨x, [], l⟩], [x]⟩ := by simp [askQ, setA, addO, names]
  have e2 : blk ⟨[⟨x, [], l⟩], [x]⟩ x = [] := by simp [blk, ownO, blockers, blkP]
  have e3 : goOne ⟨[⟨x, [], l⟩], [x]⟩ x = ⟨[⟨x, l, []⟩], []⟩ := by simp [goOne, grantT, leaveT]
  rw [askT, if_neg (by simp [h]), if_neg (by simp), e1, e2, e3]
  rfl
theorem check_ok1 {r : Rg} (h : checkR [r] = 0) : okR r := by
  unfold checkR at h
  rw [if_neg (by simp)] at h
  by_cases h1 : [r].any bigR = true
  · rw [if_pos h1] at h; cases h
  · rw [if_neg h1] at h
    by_cases h2 : [r].any badR = true
    · rw [if_pos h2] at h; cases h
    · simp [bigR, badR] at h1 h2
      refine ⟨h1.1, h1.2, ?_⟩
      rcases Nat.eq_zero_or_pos r.to.length with h3 | h3
      · exact .inl (List.eq_nil_of_length_eq_zero h3)
      · exact .inr (h2 h3)
theorem byEl_sp {w : World} {x : List UInt8 × Nat} {T : BS} {c : Nat} (h : (spP x).P w T) (hc : x.1.length ≤ c) : (byEl x.1).P w T [.slice (some ⟨x.2, 0, none⟩) x.1.length c] := byEl.mk (sp_rd h).2 hc fun a ha _ => h.1 a ha
theorem raB {a : RgA} (h : a.x.fr.length ≤ 1024 ∧ a.x.to.length ≤ 1024) : ByQ (raM a) [.slice a.A a.x.fr.length a.c, .slice a.B a.x.to.length a.d] := .cons (by omega) hdc_ow (.cons (by omega) hdc_ow .nil)
theorem ra_one {l : List RgA} {r : Rg} (h : l.map (·.x) = [r]) : ∃ a, l = [a] ∧ a.x = r := by simpa using h
set_option maxRecDepth 8000 in
set_option maxHeartbeats 4000000 in
theorem keeps16_any {A B : Option Addr} {n c nb cb : Nat} {from_ to_ : List UInt8} {w : World} (hr : RdB w A from_) (hn : from_.length = n) (_hc : n ≤ c) (hl : from_.length ≤ 1048576)
    (hr2 : RdB w B to_) (hnb : to_.length = nb) (_hcb : nb ≤ cb) (hlb : to_.length ≤ 1048576) :
    CallsV Try.prog 7 #[.slice A n c, .slice B nb cb] w fun v w' => v = .bool true ∧ Below w.heap.size w w' := by
  subst hn hnb
  have hs := St.init w
  refine calls_in (N := _) Try.func7 rfl Try.ntmps7 rfl ?_; show WC _ _ _ _ _ _
  refine wc_sr ?_; refine wl_as rfl rfl ?_; refine wl_ns ?_; refine wc_seq ?_; refine wc_sr ?_
  refine wl_call ok_caissonlaw16_awake (awake_any _) trivial rfl ?_; rintro _ _ ⟨rfl, hbx⟩; replace hs := hs.below hbx; try dsimp only [List.cons_append, List.nil_append, setC, delC] at hs
  apply wl_val; apply opv_not; exact rfl; exact rfl; refine wl_ns ?_; apply wc_condFb; exact rfl; exact Bool.not_true; refine wc_skip ?_; refine we_seq ?_; refine wc_sr ?_; refine wl_mv rfl rfl ?_
  refine wl_call ok_caissonref01_Spare (spare_any (xs := from_) (hr.below hs.bel) rfl (by omega)) ⟨rfl, trivial⟩ rfl ?_
  rintro _ w1 ⟨g1, rfl, hg1, ha1, hbx⟩
  replace hs := hs.newSp hbx hg1 ha1 (by omega)
  clear hg1 ha1 hbx
  refine wl_mv rfl rfl ?_; apply wl_val; apply opv_extract; exact rfl; exact rfl; exact rfl; apply wl_val; apply opv_extract; exact rfl; exact rfl; exact rfl; refine wl_as rfl rfl ?_; refine wl_as rfl rfl ?_; refine wl_ns ?_; refine wc_sr ?_; refine wl_mv rfl rfl ?_
  refine wl_call ok_caissonref01_Spare (spare_any (xs := to_) (hr2.below hs.bel) rfl (by omega)) ⟨rfl, trivial⟩ rfl ?_
  rintro _ w2 ⟨g2, rfl, hg2, ha2, hbx⟩
  replace hs := hs.newSp hbx hg2 ha2 (by omega)
  clear hg2 ha2 hbx
  refine wl_mv rfl rfl ?_; apply wl_val; apply opv_extract; exact rfl; exact rfl; exact rfl; apply wl_val; apply opv_extract; exact rfl; exact rfl; exact rfl; refine wl_as rfl rfl ?_; refine wl_as rfl rfl ?_; refine wl_ns ?_; refine wc_sr ?_
  refine wl_val (opv_build (vs := []) (cs := zTb) trivial (by kernel_rfl)) rfl ?_
  refine ws_box (cs := zTb) hs rfl rfl ?_
  clear hs; intro t w3 hs
  replace hs := hs.lkNil
  refine wl_as rfl rfl ?_; refine wl_ns ?_; refine wc_sr ?_; refine wl_mv rfl rfl ?_
  obtain ⟨r, hr0⟩ : ∃ q : Rg, ⟨from_, to_, true⟩ = q := ⟨_, rfl⟩
  refine wl_val (opv_build (vs := [(1, .int .u64 1)]) (cs := txV (0, 1)) ⟨rfl, rfl, trivial⟩ (by kernel_rfl)) rfl ?_
  refine wl_mv rfl rfl ?_; refine wl_mv rfl rfl ?_
  refine wl_val (opv_build (vs := [(0, .slice (some ⟨g1, 0, none⟩) from_.length (from_.length + 40)), (1, .slice (some ⟨g2, 0, none⟩) to_.length (to_.length + 40)), (2, .bool true)]) (cs := rgV r (some ⟨g1, 0, none⟩) (from_.length + 40) (some ⟨g2, 0, none⟩) (to_.length + 40)) ⟨rfl, rfl, rfl, rfl, rfl, rfl, trivial⟩ (by subst hr0; kernel_rfl)) rfl ?_
  skip
  refine wl_bsG (css := [rgV r (some ⟨g1, 0, none⟩) (from_.length + 40) (some ⟨g2, 0, none⟩) (to_.length + 40)]) tkR ⟨rfl, ⟨_, rfl, rfl⟩, rfl, trivial⟩ (els := [rgV r (some ⟨g1, 0, none⟩) (from_.length + 40) (some ⟨g2, 0, none⟩) (to_.length + 40)].map rawEl) (S := NoB) rfl (by decide) (by decide) (grp_raw (by simp [rgV])) rfl fun R w7 hR hbx _ => ?_
  replace hs := hs.newG hbx hR (Nat.le_refl _) fun _ _ h => h.elim
  clear hR hbx
  skip
  obtain ⟨S2, hS2, _, _, hH, hB⟩ := St.lend (H1 := [.ck (lkC t (fun _ => 0) _)]) (H2 := [_, _, _]) (hs.front 1 rfl)
  refine wl_call ok_lock_Table_Ask (ask_any (x := (0, 1)) (l := [r]) (n := 1) hS2 (fun w' hm => ?_) rfl (by simp) ⟨by simp [names], by simp, by simp, by simp, by simp, by simp⟩ (by simp) (by simp)) ⟨rfl, rfl, rfl, trivial⟩ rfl ?_
  · obtain ⟨T1, _, k1, T2, _, k2, T3, _, k3, _⟩ := hH w' hm
    have b1 := byEl_sp (c := from_.length + 40) k3 (by dsimp only; omega)
    have b2 := byEl_sp (c := to_.length + 40) k2 (by dsimp only; omega)
    subst hr0
    exact rg_one k1 b1 b2
  rintro _ w8 ⟨gp, P, cp, Q, cq, rfl, hsx⟩
  replace hs := hB _ _ hsx
  clear hB hsx hS2 hH
  dsimp only [List.cons_append, List.nil_append] at hs
  refine wl_mv rfl rfl ?_; apply wl_val; apply opv_extract; exact rfl; exact rfl; exact rfl; apply wl_val; apply opv_extract; exact rfl; exact rfl; exact rfl
  by_cases hck : checkR [r] = 0
  · have hok := check_ok1 hck
    rw [ask_first hck] at hs
    rw [ask_first hck]
    dsimp only at hs
    dsimp only
    rw [show ((0 : Nat) : Int) = 0 from rfl]
    replace hs := ((hs.drop 0 rfl).drop 0 rfl).drop 1 rfl
    dsimp only [delC] at hs
    obtain ⟨tb, htb⟩ : ∃ q : Tb, ⟨[⟨(0, 1), [r], []⟩], []⟩ = q := ⟨_, rfl⟩
    have hw : Wf tb := by
      rw [← htb]
      exact ⟨by simp [names], by simp, by simp, by simp, fun o ho q hq => by simp at ho; subst ho; simp at hq; subst hq; exact hok, by simp⟩
    have hE : ∀ o ∈ tb.os, EncOk tb.qu o := by
      rw [← htb]
      intro o ho
      simp at ho; subst ho
      exact ⟨by simp, by simp, fun q hq => by simp at hq; subst hq; exact hok, by simp, by simp, by simp, by simp⟩
    have hos : tb.os.length = 1 := by rw [← htb]; rfl
    have hqu : tb.qu.length = 0 := by rw [← htb]; rfl
    have hhd : heldT tb (0, 1) = [r] := by rw [← htb]; simp [heldT, ownO]
    have hhl : ∀ o ∈ tb.os, o.held.length ≤ 4294967296 := by rw [← htb]; intro o ho; simp at ho; subst ho; simp
    have hel : (encB tb).length ≤ 4294967296 := by
      have h1 := enc_flat (qu := tb.qu) (by omega) hE
      have h3 := framed_len (tb.os.flatMap (encO tb.qu)) fun p hp => by
        obtain ⟨o, ho, h⟩ := List.mem_flatMap.1 hp
        exact encO_lt (hE o ho) (by omega) p h
      have h4 := enc_len4 (qu := tb.qu) tb.os
      unfold encB
      omega
    have hdr : decT (encB tb) = (tb, 0) := decT_enc hw hE (by omega)
    rw [htb] at hs
    clear htb
    refine ws_var (cs := rsV 1 P 0 cp Q 0 cq) hs zeroRs sRs rfl (fun _ => rfl) (by first | rfl | simp [Value.oneCell']) rfl ?_; clear hs; intro g10 _ hs
    unfold rsV at hs
    refine wl_as rfl rfl ?_; refine wl_ns ?_; refine wc_seq ?_; refine wc_sr ?_; refine wl_mv rfl rfl ?_; refine wl_mv rfl rfl ?_
    refine wl_call ok_caissonref01_Kept (kept_yes (xs := from_) (hs.sp 3 rfl).1 (hr.below hs.bel) rfl rfl (by omega)) ⟨rfl, rfl, trivial⟩ rfl ?_
    rintro _ w9 ⟨rfl, hbx⟩
    replace hs := hs.below hbx
    clear hbx
    apply wl_val; apply opv_not; exact rfl; exact rfl; refine wl_mv rfl rfl ?_; apply wl_take; exact rfl; exact rfl; exact rfl; exact Bool.not_true; refine wl_mv rfl rfl ?_; apply wl_take; exact rfl; exact rfl; exact rfl; exact Bool.not_true; refine wl_mv rfl rfl ?_; apply wl_take; exact rfl; exact rfl; exact rfl; exact Bool.not_true
    refine wl_call ok_caissonref01_Kept (kept_yes (xs := to_) (hs.sp 2 rfl).1 (hr2.below hs.bel) rfl rfl (by omega)) ⟨rfl, rfl, trivial⟩ rfl ?_
    rintro _ w10 ⟨rfl, hbx⟩
    replace hs := hs.below hbx
    clear hbx
    apply wl_take; exact rfl; exact rfl; exact rfl; exact Bool.not_true; apply wl_val; apply opv_not; exact rfl; exact rfl; apply wl_val; apply opv_pickF; exact rfl; exact Bool.not_true; exact rfl; exact rfl; refine wl_ns ?_; apply wc_condFb; exact rfl; exact Bool.not_true; refine wc_skip ?_; refine we_seq ?_; refine wc_seq ?_; refine wc_sr ?_; refine wl_mv rfl rfl ?_; refine wl_bin rfl rfl bin_neq rfl ?_; refine wl_ns ?_; apply wc_condFb; exact rfl; exact rfl; refine wc_skip ?_; refine we_seq ?_; refine wc_sr ?_; refine wl_mv rfl rfl ?_
    refine wl_call ok_lock_Table_Encode (encode_any (hs.rdT 1 rfl) hw hE (by omega)) ⟨rfl, trivial⟩ rfl ?_
    rintro _ w11 ⟨E, ec, rfl, ho, hbx⟩
    have hEr := OwB.rd ho
    have hec := OwB.cap ho
    replace hs := hs.newO hbx ho (Nat.le_refl _)
    clear hbx ho
    refine wl_as rfl rfl ?_; refine wl_ns ?_; refine wc_sr ?_; refine wl_mv rfl rfl ?_
    refine wl_call ok_lock_Decode (decode_any hEr rfl hec hel) ⟨rfl, trivial⟩ rfl ?_
    rw [hdr]
    rintro _ w12 (⟨h, _⟩ | ⟨_, d, gp2, rfl, hsx⟩)
    · exact absurd rfl h
    replace hs := hs.call hsx
    clear hsx hEr hec
    dsimp only [List.cons_append, List.nil_append] at hs
    unfold pN
    refine wl_mv rfl rfl ?_; apply wl_val; apply opv_extract; exact rfl; exact rfl; exact rfl; apply wl_val; apply opv_extract; exact rfl; exact rfl; exact rfl; refine wl_as rfl rfl ?_; refine wl_as rfl rfl ?_; refine wl_ns ?_; refine wc_sr ?_; refine wl_mv rfl rfl ?_
    refine wl_val (opv_build (vs := [(1, .int .u64 1)]) (cs := txV (0, 1)) ⟨rfl, rfl, trivial⟩ (by kernel_rfl)) rfl ?_
    refine wl_call ok_lock_Table_Held (heldS_any (hs.rdT 3 rfl) hw (by omega) hhl) ⟨rfl, rfl, trivial⟩ rfl ?_
    rw [hhd]
    rintro _ w13 ⟨P1, cp1, es1, he1, rfl, hsx⟩
    obtain ⟨a1, rfl, e1⟩ := ra_one he1
    replace hs := ((hs.call hsx).front 1 rfl).unpk
    clear hsx he1
    simp only [List.flatMap_cons, List.flatMap_nil, List.append_nil, raM, List.cons_append, List.nil_append, List.map_cons, List.map_nil, delC] at hs
    rw [show [r].length = 1 from rfl]
    refine wl_mv rfl rfl ?_
    refine wl_val (opv_build (vs := [(1, .int .u64 1)]) (cs := txV (0, 1)) ⟨rfl, rfl, trivial⟩ (by kernel_rfl)) rfl ?_
    refine wl_call ok_lock_Table_Held (heldS_any (hs.rdT 6 rfl) hw (by omega) hhl) ⟨rfl, rfl, trivial⟩ rfl ?_
    rw [hhd]
    rintro _ w14 ⟨P2, cp2, es2, he2, rfl, hsx⟩
    obtain ⟨a2, rfl, e2⟩ := ra_one he2
    replace hs := ((hs.call hsx).front 1 rfl).unpk
    clear hsx he2
    simp only [List.flatMap_cons, List.flatMap_nil, List.append_nil, raM, List.cons_append, List.nil_append, List.map_cons, List.map_nil, delC] at hs
    rw [show [r].length = 1 from rfl]
    refine wl_as rfl rfl ?_; refine wl_as rfl rfl ?_; refine wl_ns ?_; refine wc_seq ?_; refine wc_sr ?_; refine wl_mv rfl rfl ?_; apply wl_val; apply opv_bin; exact rfl; exact rfl; exact bin_eqlPtrNil Try.underlying24; exact rfl; refine wl_mv rfl rfl ?_; apply wl_take; exact rfl; exact rfl; exact rfl; exact rfl; refine wl_mv rfl rfl ?_; apply wl_take; exact rfl; exact rfl; exact rfl; exact rfl; apply wl_val; apply opv_len; exact rfl; exact tkR.sl; exact rfl; apply wl_take; exact rfl; exact rfl; exact rfl; exact rfl; refine wl_bin rfl rfl bin_neq rfl ?_; apply wl_val; apply opv_pickF; exact rfl; exact rfl; exact rfl; exact rfl; refine wl_mv rfl rfl ?_; apply wl_take; exact rfl; exact rfl; exact rfl; refine bF ?_; omega; refine wl_mv rfl rfl ?_; apply wl_take; exact rfl; exact rfl; exact rfl; refine bF ?_; omega; apply wl_val; apply opv_len; exact rfl; exact tkR.sl; exact rfl; apply wl_take; exact rfl; exact rfl; exact rfl; refine bF ?_; omega; refine wl_bin rfl rfl bin_neq rfl ?_; apply wl_val; apply opv_pickF; exact rfl; refine bF ?_; omega; exact rfl; exact rfl; refine wl_ns ?_; apply wc_condFb; exact rfl; exact rfl; refine wc_skip ?_; refine we_seq ?_; refine wc_sr ?_; refine wl_mv rfl rfl ?_
    refine wl_val (opv_build (vs := [(1, .int .u64 1)]) (cs := txV (0, 1)) ⟨rfl, rfl, trivial⟩ (by kernel_rfl)) rfl ?_
    refine wl_call ok_lock_Table_Held (heldS_any (hs.rdT 6 rfl) hw (by omega) hhl) ⟨rfl, rfl, trivial⟩ rfl ?_
    rw [hhd]
    rintro _ w15 ⟨P3, cp3, es3, he3, rfl, hsx⟩
    obtain ⟨a3, rfl, e3⟩ := ra_one he3
    replace hs := ((hs.call hsx).front 1 rfl).unpk
    clear hsx he3
    simp only [List.flatMap_cons, List.flatMap_nil, List.append_nil, raM, List.cons_append, List.nil_append, List.map_cons, List.map_nil, delC] at hs
    rw [show [r].length = 1 from rfl]
    refine wl_as rfl rfl ?_; refine wl_ns ?_; refine wc_seq ?_; refine wc_seq ?_
    replace hs := hs.below (Below.refl _ _).drew
    obtain ⟨b1, o1, hb1, i1⟩ := raw8 (k := 3) (css := [raV a1]) (by decide) (hs.rg 8 rfl) (j := 0) (cs := raV a1) rfl
    obtain ⟨b2, o2, hb2, i2⟩ := raw8 (k := 3) (css := [raV a2]) (by decide) (hs.rg 5 rfl) (j := 0) (cs := raV a2) rfl
    obtain ⟨b3, o3, hb3, i3⟩ := raw8 (k := 3) (css := [raV a3]) (by decide) (hs.rg 2 rfl) (j := 0) (cs := raV a3) rfl
    subst hb1 hb2 hb3
    refine wc_held (fun w => Wi w b1 (o1 + 0 * 3) [.slice a1.A a1.x.fr.length a1.c, .slice a1.B a1.x.to.length a1.d, .bool a1.x.ex] ∧ Wi w b2 (o2 + 0 * 3) [.slice a2.A a2.x.fr.length a2.c, .slice a2.B a2.x.to.length a2.d, .bool a2.x.ex] ∧ Wi w b3 (o3 + 0 * 3) [.slice a3.A a3.x.fr.length a3.c, .slice a3.B a3.x.to.length a3.d, .bool a3.x.ex]) mixed ?_
    have hS := And.intro i1 (And.intro i2 i3)
    unfold raV rgV at hS
    apply wh_takeH 0; exact rfl; intro _ hw_; apply opv_move; exact rfl; exact rfl; kernel_rfl; exact hS; apply wh_takeH 1; exact rfl; intro _ hw_; apply opv_len; exact rfl; exact tkR.sl; exact rfl; kernel_rfl; exact hS; apply wh_takeH 2; exact rfl; intro _ hw_; apply opv_bin; exact rfl; exact rfl; exact bin_neq; exact rfl; kernel_rfl; exact hS; apply wh_takeH 3; exact rfl; intro _ hw_; apply opv_move; exact rfl; exact rfl; kernel_rfl; exact hS; apply wh_takeGH 4; exact rfl; exact rfl; exact rfl; exact rfl; refine bF ?_; omega; intro _ hw_; apply opv_move; exact rfl; exact rfl; kernel_rfl; exact hS; apply wh_takeGH 5; exact rfl; exact rfl; exact rfl; exact rfl; refine bF ?_; omega; intro _ hw_; apply opv_move; exact rfl; exact rfl; kernel_rfl; exact hS; apply wh_takeGH 6; exact rfl; exact rfl; exact rfl; exact rfl; refine bF ?_; omega; intro _ hw_; apply opv_move; exact rfl; exact rfl; kernel_rfl; exact hS; apply wh_takeGH 7; exact rfl; exact rfl; exact rfl; exact rfl; refine bF ?_; omega; intro _ hw_; apply opv_move; exact rfl; exact rfl; kernel_rfl; exact hS; apply wh_takeGH 8; exact rfl; exact rfl; exact rfl; exact rfl; refine bF ?_; omega; intro _ hw_; apply opv_idxG (kk := 0) tkR; exact rfl; exact rfl; exact rfl; omega; exact rfl; kernel_rfl; exact hS; apply wh_takeGH 9; exact rfl; exact rfl; exact rfl; exact rfl; refine bF ?_; omega; intro _ hw_; apply opv_fa; exact fa_sR (by decide); exact rfl; exact rfl; kernel_rfl; exact hS; apply wh_takeGH 10; exact rfl; exact rfl; exact rfl; exact rfl; refine bF ?_; omega; intro _ hw_; apply opv_ldW; exact rfl; exact hw_.1; exact e1_by; exact rfl; exact rfl; kernel_rfl; exact hS; apply wh_takeGH 11; exact rfl; exact rfl; exact rfl; exact rfl; refine bF ?_; omega; intro _ hw_; apply opv_move; exact rfl; exact rfl; kernel_rfl; exact hS; apply wh_takeGH 12; exact rfl; exact rfl; exact rfl; exact rfl; refine bF ?_; omega; intro _ hw_; apply opv_idxG (kk := 0) tkR; exact rfl; exact rfl; exact rfl; omega; exact rfl; kernel_rfl; exact hS; apply wh_takeGH 13; exact rfl; exact rfl; exact rfl; exact rfl; refine bF ?_; omega; intro _ hw_; apply opv_fa; exact fa_sR (by decide); exact rfl; exact rfl; kernel_rfl; exact hS; apply wh_takeGH 14; exact rfl; exact rfl; exact rfl; exact rfl; refine bF ?_; omega; intro _ hw_; apply opv_ldW; exact rfl; exact hw_.1; exact e1_by; exact rfl; exact rfl; kernel_rfl; exact hS; apply wh_takeGH 15; exact rfl; exact rfl; exact rfl; exact rfl; refine bF ?_; omega; intro _ hw_; apply opv_move; exact rfl; exact rfl; kernel_rfl; exact hS; apply wh_takeGH 16; exact rfl; exact rfl; exact rfl; exact rfl; refine bF ?_; omega; intro _ hw_; apply opv_idxG (kk := 0) tkR; exact rfl; exact rfl; exact rfl; omega; exact rfl; kernel_rfl; exact hS; apply wh_takeGH 17; exact rfl; exact rfl; exact rfl; exact rfl; refine bF ?_; omega; intro _ hw_; apply opv_fa; exact fa_sR (by decide); exact rfl; exact rfl; kernel_rfl; exact hS; apply wh_takeGH 18; exact rfl; exact rfl; exact rfl; exact rfl; refine bF ?_; omega; intro _ hw_; apply opv_ldW; exact rfl; exact hw_.2.1; exact e1_by; exact rfl; exact rfl; kernel_rfl; exact hS; apply wh_takeGH 19; exact rfl; exact rfl; exact rfl; exact rfl; refine bF ?_; omega; intro _ hw_; apply opv_move; exact rfl; exact rfl; kernel_rfl; exact hS; apply wh_takeGH 20; exact rfl; exact rfl; exact rfl; exact rfl; refine bF ?_; omega; intro _ hw_; apply opv_idxG (kk := 0) tkR; exact rfl; exact rfl; exact rfl; omega; exact rfl; kernel_rfl; exact hS; apply wh_takeGH 21; exact rfl; exact rfl; exact rfl; exact rfl; refine bF ?_; omega; intro _ hw_; apply opv_fa; exact fa_sR (by decide); exact rfl; exact rfl; kernel_rfl; exact hS; apply wh_takeGH 22; exact rfl; exact rfl; exact rfl; exact rfl; refine bF ?_; omega; intro _ hw_; apply opv_ldW; exact rfl; exact hw_.2.1; exact e1_by; exact rfl; exact rfl; kernel_rfl; exact hS; apply wh_takeGH 23; exact rfl; exact rfl; exact rfl; exact rfl; refine bF ?_; omega; intro _ hw_; apply opv_move; exact rfl; exact rfl; kernel_rfl; exact hS; apply wh_takeGH 24; exact rfl; exact rfl; exact rfl; exact rfl; refine bF ?_; omega; intro _ hw_; apply opv_idxG (kk := 0) tkR; exact rfl; exact rfl; exact rfl; omega; exact rfl; kernel_rfl; exact hS; apply wh_takeGH 25; exact rfl; exact rfl; exact rfl; exact rfl; refine bF ?_; omega; intro _ hw_; apply opv_fa; exact fa_sR (by decide); exact rfl; exact rfl; kernel_rfl; exact hS; apply wh_takeGH 26; exact rfl; exact rfl; exact rfl; exact rfl; refine bF ?_; omega; intro _ hw_; apply opv_ldW; exact rfl; exact hw_.2.2; exact e1_by; exact rfl; exact rfl; kernel_rfl; exact hS; apply wh_takeGH 27; exact rfl; exact rfl; exact rfl; exact rfl; refine bF ?_; omega; intro _ hw_; apply opv_move; exact rfl; exact rfl; kernel_rfl; exact hS; apply wh_takeGH 28; exact rfl; exact rfl; exact rfl; exact rfl; refine bF ?_; omega; intro _ hw_; apply opv_idxG (kk := 0) tkR; exact rfl; exact rfl; exact rfl; omega; exact rfl; kernel_rfl; exact hS; apply wh_takeGH 29; exact rfl; exact rfl; exact rfl; exact rfl; refine bF ?_; omega; intro _ hw_; apply opv_fa; exact fa_sR (by decide); exact rfl; exact rfl; kernel_rfl; exact hS; apply wh_takeGH 30; exact rfl; exact rfl; exact rfl; exact rfl; refine bF ?_; omega; intro _ hw_; apply opv_ldW; exact rfl; exact hw_.2.2; exact e1_by; exact rfl; exact rfl; kernel_rfl; exact hS
    clear hS i1 i2 i3
    have hS : ∀ {w' : World} {H : List Cd} (k1 k2 k3 : Nat), St NoB w w' H → nthC H k1 = some (.rg 3 61 (some ⟨b1, o1, none⟩) cp1 [rawEl (raV a1)]) → nthC H k2 = some (.rg 3 61 (some ⟨b2, o2, none⟩) cp2 [rawEl (raV a2)]) → nthC H k3 = some (.rg 3 61 (some ⟨b3, o3, none⟩) cp3 [rawEl (raV a3)]) → Wi w' b1 (o1 + 0 * 3) (raV a1) ∧ Wi w' b2 (o2 + 0 * 3) (raV a2) ∧ Wi w' b3 (o3 + 0 * 3) (raV a3) := fun {w' H} k1 k2 k3 hs h1 h2 h3 => by
      obtain ⟨_, _, hb1, i1⟩ := raw8 (k := 3) (css := [raV a1]) (by decide) (hs.rg k1 h1) (j := 0) (cs := raV a1) rfl
      obtain ⟨_, _, hb2, i2⟩ := raw8 (k := 3) (css := [raV a2]) (by decide) (hs.rg k2 h2) (j := 0) (cs := raV a2) rfl
      obtain ⟨_, _, hb3, i3⟩ := raw8 (k := 3) (css := [raV a3]) (by decide) (hs.rg k3 h3) (j := 0) (cs := raV a3) rfl
      cases hb1; cases hb2; cases hb3
      exact ⟨i1, i2, i3⟩
    refine wh_one 31 (o := ⟨_, _, _, _, _, _⟩) (by kernel_rfl) rfl ?_
    apply wl_take; exact rfl; exact rfl; exact rfl; refine bF ?_; omega
    refine ws_bs (vs := [spV (from_, g1), spV (to_, g2), .slice E (encB tb).length ec, .slice a1.A a1.x.fr.length a1.c, .slice a1.B a1.x.to.length a1.d, .slice a2.A a2.x.fr.length a2.c, .slice a2.B a2.x.to.length a2.d, .slice a3.A a3.x.fr.length a3.c, .slice a3.B a3.x.to.length a3.d]) hs tyBB ⟨rfl, rfl, rfl, rfl, rfl, rfl, rfl, rfl, rfl, rfl, rfl, rfl, rfl, rfl, rfl, rfl, rfl, rfl, rfl, rfl, rfl, rfl, rfl, rfl, rfl, rfl, rfl, trivial⟩ rfl (by decide) rfl ?_
    clear hs; intro V w16 hs
    refine wl_nil ?_
    refine we_held (hS 9 6 3 hs rfl rfl rfl) ?_
    refine wh_one 32 (o := ⟨_, _, _, _, _, _⟩) (by kernel_rfl) rfl ?_
    apply wl_take; exact rfl; exact rfl; exact rfl; refine bF ?_; omega
    replace hs := ((((((((((((((((hs.drop 10 rfl).drop 11 rfl).front 3 rfl).front 6 rfl).front 9 rfl).front 11 rfl).front 4 rfl).front 6 rfl).front 6 rfl).front 8 rfl).front 8 rfl).front 10 rfl).front 10 rfl).front 11 rfl).front 12 rfl).front 13 rfl)
    dsimp only [delC] at hs
    replace hs := (St.pack (H1 := [_, _, _, _, _, _, _, _, _]) hs (.ck (packC [spP (from_, g1), spP (to_, g2), .ow 5 E (encB tb).length ec (bvs (encB tb)), .ow 5 a1.A a1.x.fr.length a1.c (bvs a1.x.fr), .ow 5 a1.B a1.x.to.length a1.d (bvs a1.x.to), .ow 5 a2.A a2.x.fr.length a2.c (bvs a2.x.fr), .ow 5 a2.B a2.x.to.length a2.d (bvs a2.x.to), .ow 5 a3.A a3.x.fr.length a3.c (bvs a3.x.fr), .ow 5 a3.B a3.x.to.length a3.d (bvs a3.x.to)])) fun w S h => h).front 1 rfl
    dsimp only [delC] at hs
    have hz : ∀ a : RgA, a.x = r → a.x.fr.length ≤ 1024 ∧ a.x.to.length ≤ 1024 := fun a e => by rw [e]; exact ⟨hok.1, hok.2.1⟩
    have z1 := hz a1 e1
    have z2 := hz a2 e2
    have z3 := hz a3 e3
    have hby : ByQ [spP (from_, g1), spP (to_, g2), .ow 5 E (encB tb).length ec (bvs (encB tb)), .ow 5 a1.A a1.x.fr.length a1.c (bvs a1.x.fr), .ow 5 a1.B a1.x.to.length a1.d (bvs a1.x.to), .ow 5 a2.A a2.x.fr.length a2.c (bvs a2.x.fr), .ow 5 a2.B a2.x.to.length a2.d (bvs a2.x.to), .ow 5 a3.A a3.x.fr.length a3.c (bvs a3.x.fr), .ow 5 a3.B a3.x.to.length a3.d (bvs a3.x.to)] [spV (from_, g1), spV (to_, g2), .slice E (encB tb).length ec, .slice a1.A a1.x.fr.length a1.c, .slice a1.B a1.x.to.length a1.d, .slice a2.A a2.x.fr.length a2.c, .slice a2.B a2.x.to.length a2.d, .slice a3.A a3.x.fr.length a3.c, .slice a3.B a3.x.to.length a3.d] :=
      .cons (by dsimp only; omega) hdc_ow (.cons (by dsimp only; omega) hdc_ow (.cons (by omega) hdc_ow (.cons (by omega) hdc_ow (.cons (by omega) hdc_ow (.cons (by omega) hdc_ow (.cons (by omega) hdc_ow (.cons (by omega) hdc_ow (.cons (by omega) hdc_ow .nil))))))))
    refine wl_call ok_caissonref01_Apart (apartQ_any hs hby (by omega)) ⟨rfl, trivial⟩ rfl ?_
    clear hs
    rintro _ w17 ⟨rfl, hs⟩
    refine wl_nil ?_
    refine we_held (hS 1 2 3 hs rfl rfl rfl) ?_
    have hS' := hS 1 2 3 hs rfl rfl rfl
    apply wh_takeGH 33; exact rfl; exact rfl; exact rfl; exact rfl; refine bF ?_; omega; intro _ hw_; apply opv_not; exact rfl; exact rfl; kernel_rfl; exact hS'; apply wh_takeH 34; exact rfl; intro _ hw_; apply opv_pickF; exact rfl; refine bF ?_; omega; exact rfl; exact rfl; kernel_rfl; exact hS'
    clear hS' hS
    refine wh_done (by kernel_rfl) ?_
    refine we_seq ?_; apply wc_condFb; exact rfl; exact Bool.not_true; refine wc_skip ?_; refine we_seq ?_; refine wc_sr ?_; refine wl_mv rfl rfl ?_
    refine wl_val (opv_build (vs := [(1, .int .u64 1)]) (cs := txV (0, 1)) ⟨rfl, rfl, trivial⟩ (by kernel_rfl)) rfl ?_
    refine wl_call ok_lock_Table_Held (heldS_any (hs.rdT 0 rfl) hw (by omega) hhl) ⟨rfl, rfl, trivial⟩ rfl ?_
    rw [hhd]
    rintro _ w18 ⟨P4, cp4, es4, he4, rfl, hsx⟩
    obtain ⟨a4, rfl, e4⟩ := ra_one he4
    replace hs := ((hs.call hsx).front 1 rfl).unpk
    clear hsx he4
    simp only [List.flatMap_cons, List.flatMap_nil, List.append_nil, raM, List.cons_append, List.nil_append, List.map_cons, List.map_nil, delC] at hs
    rw [show [r].length = 1 from rfl]
    obtain ⟨b4, o4, hb4, i4⟩ := raw8 (k := 3) (css := [raV a4]) (by decide) (hs.rg 2 rfl) (j := 0) (cs := raV a4) rfl
    subst hb4
    have z4 := hz a4 e4
    unfold raV rgV at i4
    refine wl_as rfl rfl ?_; refine wl_ns ?_; refine wc_sr ?_; refine wl_mv rfl rfl ?_; apply wl_val; apply opv_len; exact rfl; exact tkR.sl; exact rfl; refine wl_bin rfl rfl bin_eql rfl ?_; refine wl_mv rfl rfl ?_; apply wl_take; exact rfl; exact rfl; exact rfl; refine bT ?_; omega; refine wl_mv rfl rfl ?_; apply wl_take; exact rfl; exact rfl; exact rfl; refine bT ?_; omega; apply wl_val; apply opv_idxG (kk := 0) tkR; exact rfl; exact rfl; exact rfl; omega; exact rfl; apply wl_take; exact rfl; exact rfl; exact rfl; refine bT ?_; omega; apply wl_val; apply opv_fa; exact fa_sR (by decide); exact rfl; exact rfl; apply wl_take; exact rfl; exact rfl; exact rfl; refine bT ?_; omega; apply wl_val; apply opv_ldW; exact rfl; assumption; exact e1_by; exact rfl; exact rfl; apply wl_take; exact rfl; exact rfl; exact rfl; refine bT ?_; omega; refine wl_mv rfl rfl ?_; apply wl_take; exact rfl; exact rfl; exact rfl; refine bT ?_; omega
    refine wl_call ok_caissonref01_Equal (equal_any (xs := a4.x.fr) (hs.ow 0 rfl).rd (hr.below hs.bel) rfl rfl (by simp only [maxLen]; omega)) ⟨rfl, rfl, trivial⟩ rfl ?_
    rintro _ w19 ⟨rfl, hbx⟩
    rw [decide_eq_true (show a4.x.fr = from_ by rw [e4, ← hr0])]
    replace hs := hs.below hbx
    replace i4 := i4.below hbx
    clear hbx
    apply wl_val; apply opv_pickT; exact rfl; refine bT ?_; omega; exact rfl; exact rfl; refine wl_mv rfl rfl ?_; apply wl_take; exact rfl; exact rfl; exact rfl; exact rfl; refine wl_mv rfl rfl ?_; apply wl_take; exact rfl; exact rfl; exact rfl; exact rfl; apply wl_val; apply opv_idxG (kk := 0) tkR; exact rfl; exact rfl; exact rfl; omega; exact rfl; apply wl_take; exact rfl; exact rfl; exact rfl; exact rfl; apply wl_val; apply opv_fa; exact fa_sR (by decide); exact rfl; exact rfl; apply wl_take; exact rfl; exact rfl; exact rfl; exact rfl; apply wl_val; apply opv_ldW; exact rfl; assumption; exact e1_by; exact rfl; exact rfl; apply wl_take; exact rfl; exact rfl; exact rfl; exact rfl; refine wl_mv rfl rfl ?_; apply wl_take; exact rfl; exact rfl; exact rfl; exact rfl
    refine wl_call ok_caissonref01_Equal (equal_any (xs := a4.x.to) (hs.ow 1 rfl).rd (hr2.below hs.bel) rfl rfl (by simp only [maxLen]; omega)) ⟨rfl, rfl, trivial⟩ rfl ?_
    rintro _ w20 ⟨rfl, hbx⟩
    rw [decide_eq_true (show a4.x.to = to_ by rw [e4, ← hr0])]
    replace hs := hs.below hbx
    clear hbx
    apply wl_val; apply opv_pickT; exact rfl; exact rfl; exact rfl; exact rfl; refine wl_as rfl rfl ?_; refine wl_ns ?_; refine wc_ret ?_
    exact we_ret1 rfl rfl ⟨_, rfl, rfl, hs.bel⟩
  · rw [ask_bad hck] at hs
    rw [ask_bad hck]
    dsimp only at hs
    dsimp only
    replace hs := ((hs.drop 0 rfl).drop 0 rfl).drop 1 rfl
    dsimp only [delC] at hs
    refine ws_var (cs := rsV 0 P 0 cp Q 0 cq) hs zeroRs sRs rfl (fun _ => rfl) (by first | rfl | simp [Value.oneCell']) rfl ?_; clear hs; intro g10 _ hs
    unfold rsV at hs
    refine wl_as rfl rfl ?_; refine wl_ns ?_; refine wc_seq ?_; refine wc_sr ?_; refine wl_mv rfl rfl ?_; refine wl_mv rfl rfl ?_
    refine wl_call ok_caissonref01_Kept (kept_yes (xs := from_) (hs.sp 3 rfl).1 (hr.below hs.bel) rfl rfl (by omega)) ⟨rfl, rfl, trivial⟩ rfl ?_
    rintro _ w9 ⟨rfl, hbx⟩
    replace hs := hs.below hbx
    clear hbx
    apply wl_val; apply opv_not; exact rfl; exact rfl; refine wl_mv rfl rfl ?_; apply wl_take; exact rfl; exact rfl; exact rfl; exact Bool.not_true; refine wl_mv rfl rfl ?_; apply wl_take; exact rfl; exact rfl; exact rfl; exact Bool.not_true; refine wl_mv rfl rfl ?_; apply wl_take; exact rfl; exact rfl; exact rfl; exact Bool.not_true
    refine wl_call ok_caissonref01_Kept (kept_yes (xs := to_) (hs.sp 2 rfl).1 (hr2.below hs.bel) rfl rfl (by omega)) ⟨rfl, rfl, trivial⟩ rfl ?_
    rintro _ w10 ⟨rfl, hbx⟩
    replace hs := hs.below hbx
    clear hbx
    have hck' : ¬ ((checkR [r] : Nat) : Int) = 0 := by omega
    apply wl_take; exact rfl; exact rfl; exact rfl; exact Bool.not_true; apply wl_val; apply opv_not; exact rfl; exact rfl; apply wl_val; apply opv_pickF; exact rfl; exact Bool.not_true; exact rfl; exact rfl; refine wl_ns ?_; apply wc_condFb; exact rfl; exact Bool.not_true; refine wc_skip ?_; refine we_seq ?_; refine wc_seq ?_; refine wc_sr ?_; refine wl_mv rfl rfl ?_; refine wl_bin rfl rfl bin_neq rfl ?_; refine wl_ns ?_; apply wc_decT; exact rfl; (with_reducible assumption); refine wc_sr ?_; refine wl_mv rfl rfl ?_
    refine wl_call ok_lock_Table_All (all_any (hs.rdT 1 rfl) (by simp)) ⟨rfl, trivial⟩ rfl ?_
    rintro _ w11 ⟨P1, cp1, rfl, hsx⟩
    replace hs := hs.call hsx
    rw [show (names ⟨[], []⟩).length = 0 from rfl]
    apply wl_val; apply opv_len; exact rfl; exact tkTx.sl; exact rfl; refine wl_bin rfl rfl bin_eql rfl ?_; refine wl_as rfl rfl ?_; refine wl_ns ?_; refine wc_ret ?_; refine we_seq_ret ?_
    exact we_ret1 rfl rfl ⟨_, rfl, rfl, hs.bel⟩
end Go.Proofs.Ytmdbjeabifkimaa
