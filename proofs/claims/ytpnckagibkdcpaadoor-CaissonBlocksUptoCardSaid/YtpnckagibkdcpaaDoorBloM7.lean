/-
  The texts of this proof, joined: Bm, ArgR.
-/
import Derived.Test.YtpnckagibkdcpaaDoorBloM5
import Derived.Test.YtpnckagibkdcpaaDoorBloM6
import Derived.Test.YtpnckagibkdcpaaDoorBloM4
import Derived.Test.YtpnckagibkdcpaaDoorBloM1
import Derived.Test.YtpnckagibkdcpaaDoorBloM2

/-
  Seek against Get, in plain terms; walk over the law CaissonBlocks.
-/
namespace Go.Proofs.YtpnckagibkdcpaaDoor
open Go.RowKit

/-- The first entry that is not ahead of a key's moment is the version at that moment, or of another key. -/
theorem sek_get {key : List UInt8} {m : Nat} : ∀ {l : List En}, Ord l → getE l key m = match sekE l ⟨key, m, 0, []⟩ with
    | some x => if x.key = key then some x else none
    | none => none
  | [], _ => rfl
  | a :: l, ho => by
    obtain ⟨h1, h2⟩ := List.pairwise_cons.1 ho
    have ih := sek_get (key := key) (m := m) h2
    rw [getE] at ih ⊢
    rw [sekE] at ih ⊢
    cases hl : lessE a ⟨key, m, 0, []⟩ with
    | true =>
      have hne : ¬ (a.key = key ∧ a.seq ≤ m) := fun ⟨e1, e2⟩ => by
        rcases lessE_iff.1 hl with h | ⟨_, h⟩
        · rw [show cmpB a.key (⟨key, m, 0, []⟩ : En).key = cmpB key key by rw [e1]] at h
          rw [cmp_refl] at h; omega
        · exact absurd h (Nat.not_lt.2 e2)
      rw [List.find?_cons, decide_eq_false hne, List.find?_cons, hl]
      exact ih
    | false =>
      rw [List.find?_cons (p := fun x => !lessE x ⟨key, m, 0, []⟩), hl]
      rw [Bool.not_false]
      show _ = if a.key = key then some a else none
      by_cases hk : a.key = key
      · have hm : a.seq ≤ m := by
          rcases Nat.lt_or_ge m a.seq with h | h
          · rw [lessE_iff.2 (.inr ⟨hk, h⟩)] at hl; cases hl
          · exact h
        rw [if_pos hk, List.find?_cons, decide_eq_true ⟨hk, hm⟩]
      · rw [if_neg hk, List.find?_cons, decide_eq_false fun h => hk h.1]
        refine List.find?_eq_none.2 fun x hx => ?_
        rw [decide_eq_true_eq]
        rintro ⟨e1, e2⟩
        have hax := h1 x hx
        rcases lessE_iff.1 hax with h | ⟨h, _⟩
        · rw [lessE_iff.2 (.inl (by rw [← e1]; exact h))] at hl; cases hl
        · exact hk (h.trans e1)
/-- An entry of a row that nobody writes. -/
theorem row_old {M S : BS} {w : World} {P : Option Addr} {l : List En} (hl : RdR 4 w S P (l.map enEl)) (hS : ∀ b, b < w.heap.size → S b → ¬ M b) {i : Nat} {x : En} (hx : l[i]? = some x) :
    ∃ b o X cx X2 cx2, P = some ⟨b, o, none⟩ ∧ ∀ wr, Mod M w wr → Wi wr b (o + i * 4) (enV x X cx X2 cx2) ∧ RdB wr X x.key ∧ RdB wr X2 x.val := by
  obtain ⟨b, o, cs, hP, hb, _, hp, i0⟩ := RdR.at (k := 4) (by decide) hl (E := enEl x) (i := i) (by rw [List.getElem?_map, hx]; rfl)
  obtain ⟨X, cx, X2, cx2, rfl, _⟩ := enEl.rd hp
  refine ⟨b, o, X, cx, X2, cx2, hP, fun wr hm => ⟨i0.mod hm (hS b i0.1 hb), ?_⟩⟩
  exact enEl_rdW ((enEl x).move (S' := S) hp hm.size fun b hb h => ⟨h, hm.block b hb (hS b hb h)⟩)
theorem few4_any {A : Option Addr} {n c m : Nat} {l : List En} {w : World} (hn : l.length = n) (hc : n ≤ c) :
    CallsV Tryd.prog 11 #[.slice A n c, .int .i64 (m : Int)] w fun v w' => v = .slice A (l.take m).length c ∧ w = w' := by
  subst hn
  refine calls_in (N := _) Tryd.func11 rfl Tryd.ntmps11 rfl ?_; show WC _ _ _ _ _ _
  refine wc_sr ?_; refine wl_as rfl rfl ?_; refine wl_ns ?_; refine wc_seq ?_; refine wc_sr ?_; refine wl_mv rfl rfl ?_; apply wl_val; apply opv_len; exact rfl; exact tkE.sl; exact rfl; refine wl_mv rfl rfl ?_; refine wl_bin rfl rfl bin_gtr rfl ?_; refine wl_ns ?_
  refine wc_cond rfl (fun h1 => ?_) (fun h1 => ?_)
  · refine wc_region ?_; refine wl_mv rfl rfl ?_; refine wl_mv rfl rfl ?_
    refine wl_slK (l := 0) (h := m) tkE rfl rfl ⟨_, rfl⟩ (by omega) (by omega) rfl ?_
    rw [cutK_zero]
    refine wl_as rfl rfl ?_; refine wl_ns ?_; refine wc_sr ?_; refine wl_mv rfl rfl ?_; refine wl_as rfl rfl ?_; refine wl_ns ?_; refine wc_ret ?_
    exact we_ret1 rfl rfl ⟨_, rfl, slice_eq (by simp; omega), rfl⟩
  · refine wc_skip ?_; refine we_seq ?_; refine wc_sr ?_; refine wl_mv rfl rfl ?_; refine wl_as rfl rfl ?_; refine wl_ns ?_; refine wc_ret ?_
    exact we_ret1 rfl rfl ⟨_, rfl, slice_eq (by simp; omega), rfl⟩
set_option maxRecDepth 8000 in
theorem caissonBlocks_any {A B : Option Addr} {n c nb cb : Nat} {ev : Int} {l0 : List En} {ms : List Nat} {w : World} (hev : -9223372036854775808 ≤ ev ∧ ev ≤ 9223372036854775807) (hr : RdR 4 w All A (l0.map enEl)) (hn : l0.length = n) (hc : n ≤ c) (hsq : ∀ x ∈ l0, x.seq < 2 ^ 64) (hl : sumB enB l0 ≤ 1048576) (hm0 : RdR 1 w All B (ms.map uEl)) (hnb : ms.length = nb) (_hcb : nb ≤ cb) (_hms : ∀ m ∈ ms, m < 2 ^ 64) (hml : (sumB (fun _ => 0) ms : Nat) ≤ 1048576) (hg : GT w) :
    CallsV Tryd.prog 3 #[.int .i64 ev, .slice A n c, .slice B nb cb] w (RetTr w) := by
  obtain ⟨hl1, hok1⟩ := ent_small hl
  have hm := rd_u64s hm0
  have hml1 := sumB_len (bulk := fun _ : Nat => 0) ms
  subst hnb
  have hs := St.init w
  refine calls_in (N := _) Tryd.func3 rfl Tryd.ntmps3 rfl ?_; show WC _ _ _ _ _ _
  refine wc_sr ?_; refine wl_as rfl rfl ?_; refine wl_ns ?_; refine wc_sr ?_
  refine wl_call ok_mem_New new_any trivial rfl ?_
  rintro _ w1 ⟨t, rfl, hsx⟩
  replace hs := hs.call hsx
  clear hsx
  dsimp only [List.cons_append, List.nil_append] at hs
  unfold pN
  refine wl_as rfl rfl ?_; refine wl_ns ?_; refine wc_seq ?_; refine wc_sr ?_; refine wl_mv rfl rfl ?_; apply wl_val; apply opv_bin; exact rfl; exact rfl; exact bin_eqlPtrNil Tryd.underlying24; exact rfl; refine wl_mv rfl rfl ?_; apply wl_take; exact rfl; exact rfl; exact rfl; exact rfl; refine wl_mv rfl rfl ?_; apply wl_take; exact rfl; exact rfl; exact rfl; exact rfl
  obtain ⟨S2, hS2, _, hM, hH, hB⟩ := St.lend (H1 := [.ck (tblC t [])]) (H2 := []) hs
  refine wl_call ok_mem_Table_Len (tlen_any hS2) ⟨rfl, trivial⟩ rfl ?_
  rintro _ w1 ⟨rfl, rfl⟩
  clear hB hS2 hM hH
  have h00 : (([] : List En).length : Int) = 0 := rfl
  apply wl_take; exact rfl; exact rfl; exact rfl; exact rfl; refine wl_bin rfl rfl bin_neq rfl ?_; apply wl_val; apply opv_pickF; exact rfl; exact rfl; exact rfl; exact rfl; refine wl_ns ?_; apply wc_condFb; exact rfl; exact rfl; refine wc_skip ?_; refine we_seq ?_; refine wc_sr ?_; refine wl_mv rfl rfl ?_
  refine wl_call ok_caissontop_few (few4_any (m := 40) hn hc) ⟨rfl, rfl, trivial⟩ rfl ?_; rintro _ _ ⟨rfl, rfl⟩
  have hr2 := take_rdr (m := 40) hr (by omega)
  have hokA : ∀ x ∈ l0.take 40, (x.key.length ≤ 1048576 ∧ x.val.length ≤ 1048576) ∧ x.seq < 2 ^ 64 := fun x hx => ⟨hok1 x (few_mem hx), hsq x (few_mem hx)⟩
  have hlen : (l0.take 40).length ≤ 40 := by rw [List.length_take]; omega
  obtain ⟨k, hk'⟩ : ∃ q, l0.take 40 = q := ⟨_, rfl⟩
  rw [hk'] at hr2 hokA hlen
  rw [hk']
  clear hr hok1 hsq hk'
  refine wl_call ok_caissonref07_Sorted (sorted_any (S := Old w) (RdR.move (by decide) hr2 hs.size fun b hb _ => ⟨hb, hs.bel.block b hb⟩) rfl (fun x hx => by have := (hokA x hx).1; simp only [maxLen]; omega) (by omega)) ⟨rfl, trivial⟩ rfl ?_
  rintro _ w2 ⟨P, cp, rfl, hcp, hl2, hbx2⟩
  obtain ⟨hsl, hsm⟩ := sorted_mem7 hokA
  obtain ⟨hord, hchk⟩ := sorted_ok k
  obtain ⟨l, hld⟩ : ∃ q, sortedE k = q := ⟨_, rfl⟩
  rw [hld] at hl2 hsl hsm hord hchk hcp
  rw [hld]
  have hsz1 := hs.size
  have hbw2 := hs.bel.trans (hbx2.mono hs.size)
  have hst : Sat w1 [.ck (tblC t [])] (fun b => w.heap.size ≤ b ∧ b < w1.heap.size) := hs.2.mono fun b hb h => ⟨h.elim (fun k => k.elim) id, hb⟩
  replace hs : St (fun b => w.heap.size ≤ b ∧ b < w1.heap.size) w2 w2 [.ck (tblC t [])] := St.start (hst.move hbx2.size fun b hb h => ⟨h, hbx2.block b hb⟩)
  have hend : ∀ {wr : World}, Mod (fun b => w.heap.size ≤ b ∧ b < w1.heap.size) w2 wr → Below w.heap.size w wr := fun hm => hbw2.trans (hm.below_of hbw2.size fun b h => h.1)
  have hlr : ∀ {wr : World}, Mod (fun b => w.heap.size ≤ b ∧ b < w1.heap.size) w2 wr → RdR 4 wr All P (l.map enEl) := fun hm => (mod_rdr hm (by decide) (fun b _ h k => by
    rcases h with h | h
    · exact absurd h (Nat.not_lt.2 k.1)
    · omega) hl2).all
  have hlx : ∀ {i : Nat} {x : En}, l[i]? = some x → ∃ b o X cx X2 cx2, P = some ⟨b, o, none⟩ ∧ ∀ wr, Mod (fun b => w.heap.size ≤ b ∧ b < w1.heap.size) w2 wr → Wi wr b (o + i * 4) (enV x X cx X2 cx2) ∧ RdB wr X x.key ∧ RdB wr X2 x.val := fun hx => row_old hl2 (fun b _ h k => by
    rcases h with h | h
    · exact absurd h (Nat.not_lt.2 k.1)
    · omega) hx
  obtain ⟨M6, hM6⟩ : ∃ q : BS, (fun b => w.heap.size ≤ b ∧ b < w1.heap.size) = q := ⟨_, rfl⟩
  rw [hM6] at hs
  replace hend : ∀ {wr : World}, Mod M6 w2 wr → Below w.heap.size w wr := fun {wr} h => hend (by rw [hM6]; exact h)
  replace hlr : ∀ {wr : World}, Mod M6 w2 wr → RdR 4 wr All P (l.map enEl) := fun {wr} h => hlr (by rw [hM6]; exact h)
  rw [hM6] at hlx
  have hmx : ∀ x ∈ l, x.key.length ≤ 1048576 ∧ x.val.length ≤ 1048576 := fun x hx => (hsm x hx).1
  have htz : tszE l ≤ 1048576 * 2097152 := by
    have h2 := tsz_mem (l := l) (b := 2097152) fun y hy => by have := hmx y hy; omega
    exact Nat.le_trans h2 (Nat.mul_le_mul_right _ (by omega))
  obtain ⟨hput, hputL⟩ := put_sorted hord hchk
  clear hst hM6 hl2 hbx2 hld hr2 hokA hsz1
  refine wl_as rfl rfl ?_; refine wl_ns ?_; refine wc_seq ?_; refine wc_sr ?_; refine wl_mv rfl rfl ?_; refine wl_mv rfl rfl ?_
  refine wl_call ok_caissonref07_Twins (twins3_any (l := l) (hlr hs.1) rfl (fun x h => by have := hmx x h; omega) (by omega)) ⟨rfl, trivial⟩ rfl ?_
  rintro _ w3 ⟨D, d, rfl, hsx⟩
  replace hs := hs.call hsx
  clear hsx
  dsimp only [List.cons_append, List.nil_append] at hs
  obtain ⟨S2, hS2, _, hM, hH, hB⟩ := St.lend (H1 := [.ck (tblC t [])]) (H2 := [_]) (hs.front 1 rfl)
  have hrd : RdR 4 w3 (fun b => Fr M6 w2 b ∧ ¬ S2 b) D (l.map enEl) := by
    obtain ⟨T1, hT1, h1, _⟩ := hH w3 (Mod.refl _ _)
    exact RdR.mono (by decide) (rs_rdr h1) fun b _ h => hT1 b h
  refine wl_call ok_mem_Table_Put (put_any (TX := (72, [])) (c := d) (xs := []) (l := l) hS2 .nil hrd (fun b _ h => h.2) rfl (by omega) (by simp) (by simp [tszE]) fun w' hm => hg.below (hend (hM w' hm))) ⟨rfl, rfl, trivial⟩ rfl ?_
  rintro _ w4 ⟨rfl, hsx⟩
  replace hs := (hB _ _ hsx).drop 1 rfl
  clear hB hsx hS2 hM hH hrd
  rw [show (if putC [] l = 0 then l.foldl insE [] else []) = l from hputL] at hs
  rw [hput]
  dsimp only [List.cons_append, List.nil_append, delC] at hs
  refine wl_bin rfl rfl bin_neq rfl ?_; refine wl_ns ?_; apply wc_condFb; exact rfl; exact rfl; refine wc_skip ?_; refine we_seq ?_; refine wc_seq ?_; refine wc_sr ?_; refine wl_mv rfl rfl ?_; refine wl_bin rfl rfl bin_lss rfl ?_; refine wl_ns ?_
  obtain ⟨every, he1, he2, hev2⟩ : ∃ e : Nat, 0 < e ∧ e ≤ 9223372036854775807 ∧ (e : Int) = if ev < 1 then 1 else ev := by
    by_cases h : ev < 1
    · exact ⟨1, by omega, by omega, by rw [if_pos h]; rfl⟩
    · exact ⟨ev.toNat, by omega, by omega, by rw [if_neg h]; omega⟩
  refine wc_cutE (fun L' w' => L' = [(0, .int .i64 (every : Int)), (1, .slice P l.length cp), (2, .slice B ms.length cb), (7, .pointer (some ⟨t, 0, none⟩))] ∧ w' = w4) ?_ ?_
  · rw [hev2]
    by_cases h : ev < 1
    · rw [if_pos h]
      apply wc_decT; exact rfl; (with_reducible assumption); refine wc_region ?_; refine wl_as rfl rfl ?_; refine wl_nil ?_
      exact we_cut _ ⟨rfl, rfl⟩ ⟨rfl, rfl, rfl, rfl, trivial⟩
    · rw [if_neg h]
      apply wc_decF; exact rfl; (with_reducible assumption); refine wc_skip ?_
      exact we_cut _ ⟨rfl, rfl⟩ ⟨rfl, rfl, rfl, rfl, trivial⟩
  rintro _ _ ⟨rfl, rfl⟩
  refine we_seq ?_
  refine wc_sr ?_; refine wl_mv rfl rfl ?_; refine wl_mv rfl rfl ?_
  obtain ⟨S2, hS2, _, hM, hH, hB⟩ := St.lend (H1 := [.ck (tblC t l)]) (H2 := []) hs
  refine wl_call ok_mem_Table_Range (trange_any (TX := (72, [])) (key := []) (to := []) hS2 hord rfl (fun w' hm => Rd.nil _ _) rfl (fun w' hm => Rd.nil _ _) (fun x h => by have := hmx x h; omega) (fun x h => (hsm x h).2) (by omega)) ⟨rfl, rfl, rfl, trivial⟩ rfl ?_
  rintro _ w5 ⟨R0, c0, rfl, hsx⟩
  replace hs := hB _ _ hsx
  clear hB hsx hS2 hM hH
  dsimp only [List.cons_append, List.nil_append] at hs
  rw [range_nil] at hs
  rw [range_nil]
  have hz2 : Siz2 l := fun x hx => by have := hmx x hx; exact ⟨by omega, by omega, (hsm x hx).2⟩
  skip
  refine wl_call ok_block_Build (blkBuild_any (l := l) he1 he2 (OwR.rd (hs.rsE 0 rfl)) rfl (by omega) hz2) ⟨rfl, rfl, trivial⟩ rfl ?_
  have hck0 := check_of hchk
  have hor0 := ordE_of hord
  by_cases hbig : 1048576 < (blkB every l).length
  · have hbd : buildB every l = ([], 2) := by
      rw [buildB, hck0, if_neg (by omega), sealB, if_pos hbig]; rfl
    have hsz : 900000 < tszE l := by
      have h1 := blk_size (every := every) hz2.siz
      rw [tszE]; omega
    rw [hbd]
    rintro _ w6 ⟨BA, bc, rfl, oB, hbx⟩
    replace hs := hs.below hbx
    dsimp only
    have h2 : ((2 : Nat) : Int) = 2 := rfl
    refine wl_mv rfl rfl ?_; apply wl_val; apply opv_extract; exact rfl; exact rfl; exact rfl; apply wl_val; apply opv_extract; exact rfl; exact rfl; exact rfl; refine wl_as rfl rfl ?_; refine wl_as rfl rfl ?_; refine wl_ns ?_; refine wc_seq ?_; refine wc_sr ?_; refine wl_mv rfl rfl ?_; refine wl_bin rfl rfl bin_neq rfl ?_; refine wl_ns ?_; apply wc_condTb; exact rfl; exact rfl; refine wc_sr ?_; refine wl_mv rfl rfl ?_; refine wl_bin rfl rfl bin_eql rfl ?_; refine wl_mv rfl rfl ?_; apply wl_take; exact rfl; exact rfl; exact rfl; refine bT ?_; (with_reducible assumption); refine wl_mv rfl rfl ?_; apply wl_take; exact rfl; exact rfl; exact rfl; refine bT ?_; (with_reducible assumption)
    obtain ⟨S2, hS2, _, hM, hH, hB⟩ := St.lend (H1 := [.ck (tblC t l)]) (H2 := [_]) (hs.front 1 rfl)
    refine wl_call ok_mem_Table_Size (tsize_any hS2) ⟨rfl, trivial⟩ rfl ?_
    rintro _ _ ⟨rfl, rfl⟩
    apply wl_take; exact rfl; exact rfl; exact rfl; refine bT ?_; (with_reducible assumption); refine wl_bin rfl rfl bin_gtr rfl ?_; apply wl_val; apply opv_pickT; exact rfl; refine bT ?_; (with_reducible assumption); exact rfl; exact rfl; refine wl_as rfl rfl ?_; refine wl_ns ?_; refine wc_ret ?_; refine we_seq_ret ?_
    exact we_ret1 rfl rfl ⟨_, rfl, congrArg Value.bool (decide_eq_true (by omega)), hend hs.1⟩
  obtain ⟨hbd, hdc⟩ := dec_build he1 hz2.siz hck0 hor0 (by omega)
  rw [hbd]
  obtain ⟨bs, hbs⟩ : ∃ q, crcRec (blkB every l) = q := ⟨_, rfl⟩
  rw [hbs] at hbd hdc
  rw [hbs]
  rintro _ w6 ⟨BA, bc, rfl, oB, hbx⟩
  replace hs := hs.newN hbx oB
  clear oB hbx
  dsimp only at hs ⊢
  have hbl : bs.length ≤ 1048584 := by rw [← hbs, crcRec_length]; omega
  have h00' : ((0 : Nat) : Int) = 0 := rfl
  refine wl_mv rfl rfl ?_; apply wl_val; apply opv_extract; exact rfl; exact rfl; exact rfl; apply wl_val; apply opv_extract; exact rfl; exact rfl; exact rfl; refine wl_as rfl rfl ?_; refine wl_as rfl rfl ?_; refine wl_ns ?_; refine wc_seq ?_; refine wc_sr ?_; refine wl_mv rfl rfl ?_; refine wl_bin rfl rfl bin_neq rfl ?_; refine wl_ns ?_; apply wc_condFb; exact rfl; exact rfl; refine wc_skip ?_; refine we_seq ?_; refine wc_sr ?_; refine wl_mv rfl rfl ?_
  obtain ⟨hbr, hbc⟩ := hs.nw 0 rfl
  refine wl_call ok_block_Decode (decode_any hbr rfl hbc (by omega)) ⟨rfl, trivial⟩ rfl ?_
  rw [hdc]
  rintro _ w7 ⟨R1, c1, rfl, hsx⟩
  replace hs := (hs.call hsx).drop 0 rfl
  clear hsx hbr hbc
  dsimp only [List.cons_append, List.nil_append, delC] at hs ⊢
  refine wl_mv rfl rfl ?_; apply wl_val; apply opv_extract; exact rfl; exact rfl; exact rfl; apply wl_val; apply opv_extract; exact rfl; exact rfl; exact rfl; refine wl_as rfl rfl ?_; refine wl_as rfl rfl ?_; refine wl_ns ?_; refine wc_seq ?_; refine wc_sr ?_; refine wl_mv rfl rfl ?_; refine wl_bin rfl rfl bin_neq rfl ?_; refine wl_mv rfl rfl ?_; apply wl_take; exact rfl; exact rfl; exact rfl; refine bF ?_; omega; refine wl_mv rfl rfl ?_; apply wl_take; exact rfl; exact rfl; exact rfl; refine bF ?_; omega; apply wl_val; apply opv_len; exact rfl; exact tkE.sl; exact rfl; apply wl_take; exact rfl; exact rfl; exact rfl; refine bF ?_; omega; refine wl_mv rfl rfl ?_; apply wl_take; exact rfl; exact rfl; exact rfl; refine bF ?_; omega
  obtain ⟨S2, hS2, _, hM, hH, hB⟩ := St.lend (H1 := [.ck (tblC t l)]) (H2 := [_, _]) (hs.front 2 rfl)
  refine wl_call ok_mem_Table_Len (tlen_any hS2) ⟨rfl, trivial⟩ rfl ?_
  rintro _ w8 ⟨rfl, rfl⟩
  clear hB hS2 hM hH
  replace hs := hs.drop 1 rfl
  dsimp only [delC] at hs
  have hll : ¬ ¬ (l.length : Int) = l.length := fun h => h rfl
  apply wl_take; exact rfl; exact rfl; exact rfl; refine bF ?_; omega; refine wl_bin rfl rfl bin_neq rfl ?_; apply wl_val; apply opv_pickF; exact rfl; refine bF ?_; omega; exact rfl; exact rfl; refine wl_ns ?_; apply wc_decF; exact rfl; (with_reducible assumption); refine wc_skip ?_; refine we_seq ?_; refine wc_seq ?_; refine wc_sr ?_; refine wl_mv rfl rfl ?_; apply wl_val; apply opv_len; exact rfl; exact tkE.sl; exact rfl; refine wl_mv rfl rfl ?_; refine wl_ns ?_; refine wc_block ?_
  refine wc_loop (fun L wr mm => ∃ (i : Nat), L = [(2, .slice B ms.length cb), (7, .pointer (some ⟨t, 0, none⟩)), (8, .slice BA bs.length bc), (69, .slice P l.length cp), (70, .int .i64 (l.length : Int)), (71, .int .i64 (i : Int))] ∧ i ≤ l.length ∧ St M6 w2 wr [.ck (nwC BA bc bs), .ck (tblC t l)] ∧ mm = l.length - i)
    [(2, .slice B ms.length cb), (7, .pointer (some ⟨t, 0, none⟩)), (8, .slice BA bs.length bc), (69, .slice P l.length cp), (70, .int .i64 (l.length : Int)), (71, .int .i64 (0 : Nat))] l.length ⟨0, rfl, by omega, hs, rfl⟩ ⟨rfl, rfl, rfl, rfl, rfl, rfl, trivial⟩ ?_
  clear hs
  rintro _ w9 mm ⟨i, rfl, hi, hs, rfl⟩
  refine wc_sr ?_; refine wl_bin rfl rfl bin_lss rfl ?_; refine wl_ns ?_; refine wc_seq ?_
  refine wc_cond rfl (fun h1 => ?_) (fun h1 => ?_)
  · obtain ⟨x, hx⟩ : ∃ x, l[i]? = some x := ⟨_, List.getElem?_eq_getElem (by omega)⟩
    obtain ⟨z1, z2⟩ := hmx _ (List.mem_of_getElem? hx)
    have z3 := (hsm _ (List.mem_of_getElem? hx)).2
    obtain ⟨b, o, X, cx, X2, cx2, rfl, hxr⟩ := hlx hx
    have i0 := (hxr _ hs.1).1
    refine wc_skip ?_; refine we_seq ?_; refine wc_seq ?_; refine wc_block ?_; refine wc_sr ?_; apply wl_val; apply opv_idxG tkE; exact rfl; exact rfl; exact rfl; omega; exact rfl; apply wl_val; apply opv_ldG; exact rfl; assumption; exact sE; exact rfl
    refine ws_var (cs := enV x X cx X2 cx2) hs zeroE sE rfl (fun _ => rfl) (by first | rfl | simp [Value.oneCell']) rfl ?_; clear hs; intro g12 _ hs
    unfold enV at hs
    refine wl_ns ?_; refine wc_sr ?_; apply wl_val; apply opv_fa; exact fa_sE (by decide); exact rfl; exact rfl; apply wl_val; apply opv_ldX; exact rfl; exact hs.ar 0 rfl; exact e1_u64; exact rfl; exact rfl
    refine ws_bs (vs := u64s [x.seq, 0, 18446744073709551615]) hs tyQ ⟨rfl, rfl, rfl, rfl, rfl, rfl, rfl, rfl, rfl, trivial⟩ rfl (by decide) rfl ?_
    clear hs; intro E0 w10 hs
    refine wl_mv rfl rfl ?_
    refine ws_app (ys := u64s ms) (m := ms.length) hs 0 rfl rfl tyQ rfl (hm.below (hend hs.1)) (u64s_one ms) (by omega) (by simp only [maxLen]; omega) rfl ?_
    clear hs; intro E1 ec w11 hs; dsimp only [setC] at hs
    obtain ⟨ks, hks⟩ : ∃ q, x.seq :: 0 :: 18446744073709551615 :: ms = q := ⟨_, rfl⟩
    have hkl : 3 + ms.length = ks.length := by rw [← hks]; simp; omega
    have hku : u64s [x.seq, 0, 18446744073709551615] ++ u64s ms = u64s ks := by rw [← hks]; rfl
    rw [hkl, hku] at hs
    rw [hkl]
    have hkn : ks.length ≤ 1048579 := by omega
    clear hks hkl hku
    apply wl_val; apply opv_len; exact rfl; exact tyQ.sl; exact rfl; refine wl_mv rfl rfl ?_; refine wl_ns ?_; refine wc_block ?_
    refine wc_loop (fun L wr mm => ∃ (j : Nat), L = [(2, .slice B ms.length cb), (7, .pointer (some ⟨t, 0, none⟩)), (8, .slice BA bs.length bc), (12, .pointer (some ⟨g12, 0, none⟩)), (69, .slice (some ⟨b, o, none⟩) l.length cp), (70, .int .i64 (l.length : Int)), (71, .int .i64 (i : Int)), (79, .slice E1 ks.length ec), (80, .int .i64 (ks.length : Int)), (81, .int .i64 (j : Int))] ∧ j ≤ ks.length ∧ St M6 w2 wr [.ow 37 E1 ks.length ec (u64s ks), .blk g12 39 (enV x X cx X2 cx2), .ck (nwC BA bc bs), .ck (tblC t l)] ∧ mm = ks.length - j)
      [(2, .slice B ms.length cb), (7, .pointer (some ⟨t, 0, none⟩)), (8, .slice BA bs.length bc), (12, .pointer (some ⟨g12, 0, none⟩)), (69, .slice (some ⟨b, o, none⟩) l.length cp), (70, .int .i64 (l.length : Int)), (71, .int .i64 (i : Int)), (79, .slice E1 ks.length ec), (80, .int .i64 (ks.length : Int)), (81, .int .i64 (0 : Nat))] ks.length ⟨0, rfl, by omega, hs, rfl⟩ ⟨rfl, rfl, rfl, rfl, rfl, rfl, rfl, rfl, rfl, rfl, trivial⟩ ?_
    clear hs
    rintro _ w12 mm ⟨j, rfl, hj, hs, rfl⟩
    refine wc_sr ?_; refine wl_bin rfl rfl bin_lss rfl ?_; refine wl_ns ?_; refine wc_seq ?_
    refine wc_cond rfl (fun h2 => ?_) (fun h2 => ?_)
    · obtain ⟨m, hmj⟩ : ∃ m, ks[j]? = some m := ⟨_, List.getElem?_eq_getElem (by omega)⟩
      have hu := u64s_get hmj
      have hrow := (hs.ow 0 rfl).rd
      refine wc_skip ?_; refine we_seq ?_; refine wc_seq ?_; refine wc_block ?_; refine wc_sr ?_; apply wl_elK (T := tyQ) (hr := hrow) (hb := hu); exact rfl; exact rfl; exact rfl; exact rfl; exact rfl; intro _; refine wl_as rfl rfl ?_; refine wl_ns ?_; refine wc_sr ?_; refine wl_mv rfl rfl ?_; apply wl_val; apply opv_fa; exact fa_sE (by decide); exact rfl; exact rfl; apply wl_val; apply opv_ldX; exact rfl; exact hs.ar 1 rfl; exact e1_by; exact rfl; exact rfl; refine wl_mv rfl rfl ?_
      clear hrow
      obtain ⟨S2, hS2, _, hM, hH, hB⟩ := St.lend (H1 := [.ck (tblC t l)]) (H2 := [_, _, _]) (hs.front 3 rfl)
      refine wl_call ok_mem_Table_Get (tget2_any (TX := (72, [])) (m := m) (key := x.key) hS2 hord rfl (fun w' hm => (hxr _ (hM w' hm)).2.1) (fun x h => by have := hmx x h; omega)) ⟨rfl, rfl, rfl, trivial⟩ rfl ?_
      rintro _ w13 ⟨Z, cz, V, cv, rfl, hsx⟩
      replace hs := hB _ _ hsx
      clear hB hsx hS2 hM hH
      unfold enOw at hs
      dsimp only [List.cons_append, List.nil_append] at hs
      refine wl_mv rfl rfl ?_; apply wl_val; apply opv_extract; exact rfl; exact rfl; exact rfl; apply wl_val; apply opv_extract; exact rfl; exact rfl; exact rfl
      refine ws_var (cs := enV (gtE l x.key m) Z cz V cv) hs zeroE sE rfl (fun _ => rfl) (by first | rfl | simp [Value.oneCell']) rfl ?_; clear hs; intro g15 _ hs
      refine wl_as rfl rfl ?_; refine wl_ns ?_; refine wc_sr ?_; refine wl_mv rfl rfl ?_; apply wl_val; apply opv_fa; exact fa_sE (by decide); exact rfl; exact rfl; apply wl_val; apply opv_ldX; exact rfl; exact hs.ar 5 rfl; exact e1_by; exact rfl; exact rfl; refine wl_mv rfl rfl ?_
      obtain ⟨hbr, hbc⟩ := hs.nw 6 rfl
      refine wl_call ok_block_Seek (bseek_any (m := m) hbr rfl hbc (by omega) (hxr _ hs.1).2.1 rfl) ⟨rfl, rfl, rfl, trivial⟩ rfl ?_
      clear hbr hbc
      have hsg := sek_get (key := x.key) (m := m) hord
      have hsk : sekB bs ⟨x.key, m, 0, []⟩ = ((sekE l ⟨x.key, m, 0, []⟩).getD noE, (sekE l ⟨x.key, m, 0, []⟩).isSome, 0) := by rw [sekB, hdc]; rfl
      rw [hsk]
      clear hsk
      have hj1 : ((j + 1 : Nat) : Int) = (j : Int) + 1 := by omega
      cases hse : sekE l ⟨x.key, m, 0, []⟩ with
      | none =>
        rw [hse] at hsg
        have hgt : gtE l x.key m = zEn := by rw [gtE, hsg]; rfl
        rw [hsg, hgt] 
        rw [hgt] at hs
        rintro _ w14 ⟨⟨Z2, cz2, V2, cv2, rfl, q1, q2⟩, hbx⟩
        replace hs := hs.below hbx
        clear hbx
        dsimp only [Option.getD_none, Option.isSome_none] at q1 q2 ⊢
        refine wl_mv rfl rfl ?_; apply wl_val; apply opv_extract; exact rfl; exact rfl; exact rfl; apply wl_val; apply opv_extract; exact rfl; exact rfl; exact rfl; apply wl_val; apply opv_extract; exact rfl; exact rfl; exact rfl
        refine wl_var (cs := enV noE Z2 cz2 V2 cv2) zeroE sE rfl (fun _ => rfl) rfl rfl fun g17 w15 hg17 a17 hbx => ?_
        replace hs := hs.newA hbx hg17 a17
        clear hbx hg17 a17 q1 q2
        refine wl_as rfl rfl ?_; refine wl_as rfl rfl ?_; refine wl_ns ?_; refine wc_sr ?_; refine wl_mv rfl rfl ?_; refine wl_mv rfl rfl ?_; apply wl_skip; exact rfl; exact rfl; exact rfl; exact bR2; exact rfl; apply wl_skip; exact rfl; exact rfl; exact rfl; exact bR2; exact rfl; apply wl_skip; exact rfl; exact rfl; exact rfl; exact bR2; exact rfl; apply wl_skip; exact rfl; exact rfl; exact rfl; exact bR2; exact rfl; apply wl_skip; exact rfl; exact rfl; exact rfl; exact bR2; exact rfl; apply wl_val; apply opv_pickF; exact rfl; exact rfl; exact rfl; exact rfl; refine wl_as rfl rfl ?_; refine wl_ns ?_; refine wc_sr ?_; refine wl_mv rfl rfl ?_; refine wl_bin rfl rfl bin_neq rfl ?_; refine wl_mv rfl rfl ?_; apply wl_take; exact rfl; exact rfl; exact rfl; refine bF ?_; omega; refine wl_mv rfl rfl ?_; apply wl_take; exact rfl; exact rfl; exact rfl; refine bF ?_; omega; refine wl_mv rfl rfl ?_; apply wl_take; exact rfl; exact rfl; exact rfl; refine bF ?_; omega; apply wl_val; apply opv_bin; exact rfl; exact rfl; exact bin_neqB tyBool; exact rfl; apply wl_val; apply opv_pickF; exact rfl; refine bF ?_; omega; exact rfl; exact rfl; refine wl_mv rfl rfl ?_; apply wl_take; exact rfl; exact rfl; exact rfl; refine bF ?_; (with_reducible exact nne); refine wl_mv rfl rfl ?_; apply wl_take; exact rfl; exact rfl; exact rfl; refine bF ?_; (with_reducible exact nne); refine wl_mv rfl rfl ?_; apply wl_skip; exact rfl; exact rfl; exact rfl; exact bR2; exact rfl; apply wl_skip; exact rfl; exact rfl; exact rfl; exact bR2; exact rfl; apply wl_skip; exact rfl; exact rfl; exact rfl; exact bR2; exact rfl; apply wl_skip; exact rfl; exact rfl; exact rfl; exact bR2; exact rfl; apply wl_take; exact rfl; exact rfl; exact rfl; refine bF ?_; (with_reducible exact nne); apply wl_val; apply opv_pickF; exact rfl; exact rfl; exact rfl; exact rfl; apply wl_val; apply opv_pickF; exact rfl; refine bF ?_; (with_reducible exact nne); exact rfl; exact rfl; refine wl_ns ?_; apply wc_condFb; exact rfl; exact rfl; refine wc_skip ?_; refine we_block_norm ?_; refine we_seq ?_; refine wc_region ?_; apply wl_val; apply opv_bin; exact rfl; exact rfl; exact bin_add64 (by omega); exact rfl; refine wl_mv rfl rfl ?_; refine wl_nil ?_
        replace hs := ((((((hs.drop 0 rfl).drop 0 rfl).drop 0 rfl).drop 0 rfl).front 3 rfl).front 3 rfl).front 3 rfl
        exact we_loop _ (ks.length - (j + 1)) ⟨j + 1, rfl, by omega, hs, rfl⟩ (by omega) ⟨rfl, rfl, rfl, rfl, rfl, rfl, rfl, rfl, rfl, by simp [lookT], trivial⟩
      | some z =>
        rw [hse] at hsg
        have hzm := hmx z (List.mem_of_find?_eq_some hse)
        by_cases hzk : z.key = x.key
        · dsimp only at hsg
          rw [if_pos hzk] at hsg
          have hgt : gtE l x.key m = z := by rw [gtE, hsg]; rfl
          rw [hsg, hgt]
          rw [hgt] at hs
          rintro _ w14 ⟨⟨Z2, cz2, V2, cv2, rfl, q1, q2⟩, hbx⟩
          replace hs := hs.below hbx
          clear hbx
          dsimp only [Option.getD_some, Option.isSome_some] at q1 q2 ⊢
          refine wl_mv rfl rfl ?_; apply wl_val; apply opv_extract; exact rfl; exact rfl; exact rfl; apply wl_val; apply opv_extract; exact rfl; exact rfl; exact rfl; apply wl_val; apply opv_extract; exact rfl; exact rfl; exact rfl
          refine wl_var (cs := enV z Z2 cz2 V2 cv2) zeroE sE rfl (fun _ => rfl) rfl rfl fun g17 w15 hg17 a17 hbx => ?_
          replace hs := hs.newA hbx hg17 a17
          replace q1 := q1.below hbx
          replace q2 := q2.below hbx
          clear hbx hg17 a17
          unfold enV at hs
          refine wl_as rfl rfl ?_; refine wl_as rfl rfl ?_; refine wl_ns ?_; refine wc_sr ?_; refine wl_mv rfl rfl ?_; refine wl_mv rfl rfl ?_; apply wl_take; exact rfl; exact rfl; exact rfl; exact rfl; apply wl_val; apply opv_fa; exact fa_sE (by decide); exact rfl; exact rfl; apply wl_take; exact rfl; exact rfl; exact rfl; exact rfl; apply wl_val; apply opv_ldX; exact rfl; exact hs.ar 0 rfl; exact e1_by; exact rfl; exact rfl; apply wl_take; exact rfl; exact rfl; exact rfl; exact rfl; apply wl_val; apply opv_fa; exact fa_sE (by decide); exact rfl; exact rfl; apply wl_take; exact rfl; exact rfl; exact rfl; exact rfl; apply wl_val; apply opv_ldX; exact rfl; exact hs.ar 6 rfl; exact e1_by; exact rfl; exact rfl; apply wl_take; exact rfl; exact rfl; exact rfl; exact rfl
          refine wl_call ok_caissonref01_Equal (equal_any (xs := z.key) (ys := x.key) q1 (hxr _ hs.1).2.1 rfl rfl (by simp only [maxLen]; omega)) ⟨rfl, rfl, trivial⟩ rfl ?_; rintro _ _ ⟨rfl, hbx⟩; replace hs := hs.below hbx; try dsimp only [List.cons_append, List.nil_append, setC, delC] at hs
          replace q1 := q1.below hbx
          replace q2 := q2.below hbx
          clear hbx
          rw [decide_eq_true hzk]
          apply wl_val; apply opv_pickT; exact rfl; exact rfl; exact rfl; exact rfl; refine wl_as rfl rfl ?_; refine wl_ns ?_; refine wc_sr ?_; refine wl_mv rfl rfl ?_; refine wl_bin rfl rfl bin_neq rfl ?_; refine wl_mv rfl rfl ?_; apply wl_take; exact rfl; exact rfl; exact rfl; refine bF ?_; omega; refine wl_mv rfl rfl ?_; apply wl_take; exact rfl; exact rfl; exact rfl; refine bF ?_; omega; refine wl_mv rfl rfl ?_; apply wl_take; exact rfl; exact rfl; exact rfl; refine bF ?_; omega; apply wl_val; apply opv_bin; exact rfl; exact rfl; exact bin_neqB tyBool; exact rfl; apply wl_val; apply opv_pickF; exact rfl; refine bF ?_; omega; exact rfl; exact rfl; refine wl_mv rfl rfl ?_; apply wl_take; exact rfl; exact rfl; exact rfl; refine bF ?_; (with_reducible exact nne); refine wl_mv rfl rfl ?_; apply wl_take; exact rfl; exact rfl; exact rfl; refine bF ?_; (with_reducible exact nne); refine wl_mv rfl rfl ?_; apply wl_take; exact rfl; exact rfl; exact rfl; exact rfl; apply wl_val; apply opv_loadX; exact rfl; exact hs.ar 1 rfl; exact sE; exact rfl; apply wl_take; exact rfl; exact rfl; exact rfl; exact rfl; apply wl_val; apply opv_loadX; exact rfl; exact hs.ar 0 rfl; exact sE; exact rfl; apply wl_take; exact rfl; exact rfl; exact rfl; exact rfl
          refine wl_call ok_caissonref07_Same (sameE_any (x := z) (y := z) (hs.ow 2 rfl).rd (hs.ow 3 rfl).rd q1 q2 (by simp only [maxLen]; omega) (by simp only [maxLen]; omega)) ⟨rfl, rfl, trivial⟩ rfl ?_
          rintro _ w16 ⟨⟨q, rfl, hq⟩, hbx⟩
          obtain rfl := hq.2 rfl
          replace hs := hs.below hbx
          clear hq hbx q1 q2
          apply wl_take; exact rfl; exact rfl; exact rfl; exact rfl; apply wl_val; apply opv_not; exact rfl; exact rfl; apply wl_take; exact rfl; exact rfl; exact rfl; refine bF ?_; (with_reducible exact nne); apply wl_val; apply opv_pickT; exact rfl; exact rfl; exact rfl; exact rfl; apply wl_val; apply opv_pickF; exact rfl; refine bF ?_; (with_reducible exact nne); exact rfl; exact rfl; refine wl_ns ?_; apply wc_condFb; exact rfl; exact Bool.not_true; refine wc_skip ?_; refine we_block_norm ?_; refine we_seq ?_; refine wc_region ?_; apply wl_val; apply opv_bin; exact rfl; exact rfl; exact bin_add64 (by omega); exact rfl; refine wl_mv rfl rfl ?_; refine wl_nil ?_
          replace hs := ((((((hs.drop 0 rfl).drop 0 rfl).drop 0 rfl).drop 0 rfl).front 3 rfl).front 3 rfl).front 3 rfl
          exact we_loop _ (ks.length - (j + 1)) ⟨j + 1, rfl, by omega, hs, rfl⟩ (by omega) ⟨rfl, rfl, rfl, rfl, rfl, rfl, rfl, rfl, rfl, by simp [lookT], trivial⟩
        · dsimp only at hsg
          rw [if_neg hzk] at hsg
          have hgt : gtE l x.key m = zEn := by rw [gtE, hsg]; rfl
          rw [hsg, hgt]
          rw [hgt] at hs
          rintro _ w14 ⟨⟨Z2, cz2, V2, cv2, rfl, q1, q2⟩, hbx⟩
          replace hs := hs.below hbx
          clear hbx
          dsimp only [Option.getD_some, Option.isSome_some, Option.isSome_none] at q1 q2 ⊢
          refine wl_mv rfl rfl ?_; apply wl_val; apply opv_extract; exact rfl; exact rfl; exact rfl; apply wl_val; apply opv_extract; exact rfl; exact rfl; exact rfl; apply wl_val; apply opv_extract; exact rfl; exact rfl; exact rfl
          refine wl_var (cs := enV z Z2 cz2 V2 cv2) zeroE sE rfl (fun _ => rfl) rfl rfl fun g17 w15 hg17 a17 hbx => ?_
          replace hs := hs.newA hbx hg17 a17
          replace q1 := q1.below hbx
          replace q2 := q2.below hbx
          clear hbx hg17 a17
          unfold enV at hs
          refine wl_as rfl rfl ?_; refine wl_as rfl rfl ?_; refine wl_ns ?_; refine wc_sr ?_; refine wl_mv rfl rfl ?_; refine wl_mv rfl rfl ?_; apply wl_take; exact rfl; exact rfl; exact rfl; exact rfl; apply wl_val; apply opv_fa; exact fa_sE (by decide); exact rfl; exact rfl; apply wl_take; exact rfl; exact rfl; exact rfl; exact rfl; apply wl_val; apply opv_ldX; exact rfl; exact hs.ar 0 rfl; exact e1_by; exact rfl; exact rfl; apply wl_take; exact rfl; exact rfl; exact rfl; exact rfl; apply wl_val; apply opv_fa; exact fa_sE (by decide); exact rfl; exact rfl; apply wl_take; exact rfl; exact rfl; exact rfl; exact rfl; apply wl_val; apply opv_ldX; exact rfl; exact hs.ar 6 rfl; exact e1_by; exact rfl; exact rfl; apply wl_take; exact rfl; exact rfl; exact rfl; exact rfl
          refine wl_call ok_caissonref01_Equal (equal_any (xs := z.key) (ys := x.key) q1 (hxr _ hs.1).2.1 rfl rfl (by simp only [maxLen]; omega)) ⟨rfl, rfl, trivial⟩ rfl ?_; rintro _ _ ⟨rfl, hbx⟩; replace hs := hs.below hbx; try dsimp only [List.cons_append, List.nil_append, setC, delC] at hs
          rw [decide_eq_false hzk]
          clear hbx q1 q2
          apply wl_val; apply opv_pickT; exact rfl; exact rfl; exact rfl; exact rfl; refine wl_as rfl rfl ?_; refine wl_ns ?_; refine wc_sr ?_; refine wl_mv rfl rfl ?_; refine wl_bin rfl rfl bin_neq rfl ?_; refine wl_mv rfl rfl ?_; apply wl_take; exact rfl; exact rfl; exact rfl; refine bF ?_; omega; refine wl_mv rfl rfl ?_; apply wl_take; exact rfl; exact rfl; exact rfl; refine bF ?_; omega; refine wl_mv rfl rfl ?_; apply wl_take; exact rfl; exact rfl; exact rfl; refine bF ?_; omega; apply wl_val; apply opv_bin; exact rfl; exact rfl; exact bin_neqB tyBool; exact rfl; apply wl_val; apply opv_pickF; exact rfl; refine bF ?_; omega; exact rfl; exact rfl; refine wl_mv rfl rfl ?_; apply wl_take; exact rfl; exact rfl; exact rfl; refine bF ?_; (with_reducible exact nne); refine wl_mv rfl rfl ?_; apply wl_take; exact rfl; exact rfl; exact rfl; refine bF ?_; (with_reducible exact nne); refine wl_mv rfl rfl ?_; apply wl_skip; exact rfl; exact rfl; exact rfl; exact bR2; exact rfl; apply wl_skip; exact rfl; exact rfl; exact rfl; exact bR2; exact rfl; apply wl_skip; exact rfl; exact rfl; exact rfl; exact bR2; exact rfl; apply wl_skip; exact rfl; exact rfl; exact rfl; exact bR2; exact rfl; apply wl_take; exact rfl; exact rfl; exact rfl; refine bF ?_; (with_reducible exact nne); apply wl_val; apply opv_pickF; exact rfl; exact rfl; exact rfl; exact rfl; apply wl_val; apply opv_pickF; exact rfl; refine bF ?_; (with_reducible exact nne); exact rfl; exact rfl; refine wl_ns ?_; apply wc_condFb; exact rfl; exact rfl; refine wc_skip ?_; refine we_block_norm ?_; refine we_seq ?_; refine wc_region ?_; apply wl_val; apply opv_bin; exact rfl; exact rfl; exact bin_add64 (by omega); exact rfl; refine wl_mv rfl rfl ?_; refine wl_nil ?_
          replace hs := ((((((hs.drop 0 rfl).drop 0 rfl).drop 0 rfl).drop 0 rfl).front 3 rfl).front 3 rfl).front 3 rfl
          exact we_loop _ (ks.length - (j + 1)) ⟨j + 1, rfl, by omega, hs, rfl⟩ (by omega) ⟨rfl, rfl, rfl, rfl, rfl, rfl, rfl, rfl, rfl, by simp [lookT], trivial⟩
    · refine wc_exit ?_; refine we_seq_exit ?_; refine we_loop_exit ?_; refine we_block_exit ?_; refine we_block_norm ?_; refine we_seq ?_; refine wc_region ?_; apply wl_val; apply opv_bin; exact rfl; exact rfl; exact bin_add64 (by omega); exact rfl; refine wl_mv rfl rfl ?_; refine wl_nil ?_
      have hi1 : ((i + 1 : Nat) : Int) = (i : Int) + 1 := by omega
      exact we_loop _ (l.length - (i + 1)) ⟨i + 1, rfl, by omega, (hs.drop 0 rfl).drop 0 rfl, rfl⟩ (by omega) ⟨rfl, rfl, rfl, rfl, rfl, by simp [lookT], trivial⟩
  · refine wc_exit ?_; refine we_seq_exit ?_; refine we_loop_exit ?_; refine we_block_exit ?_; refine we_seq ?_; refine wc_sr ?_; refine wl_as rfl rfl ?_; refine wl_ns ?_; refine wc_ret ?_
    exact we_ret1 rfl rfl ⟨_, rfl, rfl, hend hs.1⟩
end Go.Proofs.YtpnckagibkdcpaaDoor


/-
  How an argument that is a list of lists of bytes is read.
-/
namespace Go.Proofs.YtpnckagibkdcpaaDoor
open Go.RowKit Go.ChangeShapes Go.WideShapes Go.ChangeAt Go.Deep

theorem bulk_row {H : Type} {k : IntKind} {A : Option Addr} {n : Nat} {zs : List Int} (hn : n ≤ zs.length) (h : A = none → n = 0) : n + 1 ≤ Rows.uptoBulk (intRow (H := H) k A n zs) := by
  cases A with
  | none => simp [intRow, Rows.uptoBulk, h rfl]
  | some a =>
    have h3 := bulk_len (H := H) (lits k (zs.take n))
    simp only [intRow, Rows.uptoBulk]
    simp [lits] at h3 ⊢
    omega
theorem bulk_sum {H : Type} (D : Nat → DataW H) (R : Nat → List UInt8) : ∀ (l : List Nat), (∀ r ∈ l, (R r).length + 1 ≤ Rows.uptoBulk (D r)) → (l.map R).flatten.length + l.length ≤ Rows.uptoBulkAll (l.map D)
  | [], _ => by simp [Rows.uptoBulkAll]
  | r :: l, h => by
    have h1 := h r (by simp)
    have h2 := bulk_sum D R l (fun x hx => h x (by simp [hx]))
    simp only [List.map_cons, List.flatten_cons, List.length_append, List.length_cons, Rows.uptoBulkAll]
    omega

section
variable {H : Type} {enc : TypeId × Value → H} {W : World} {a0 : Option Addr} {len0 cap0 : Nat} {d0 : DataW H} {p0 : List MemPlace}

theorem arg_rows (h0 : DataW.Trod enc Tryd.prog W 0 (fun _ => true) true 63 (.slice a0 len0 cap0) d0 p0) :
    ∃ rows : List (List UInt8), rows.length = len0 ∧ RdBB W a0 rows ∧ len0 ≤ cap0 ∧ cap0 ≤ maxLen ∧ rows.flatten.length + rows.length + 1 ≤ Rows.uptoBulk d0 ∧ True := by
  obtain ⟨fuel, hf⟩ := h0
  rcases open_int_rows Tryd.underlying63 Tryd.underlying31 Tryd.underlying5 (by kernel_rfl) (by kernel_rfl) hf with ⟨hcs, hx⟩ | ⟨a, len, cap, A, L, C, Z, hcs, _, hl, hm, hx, hrow⟩
  · simp [Value.cells] at hcs
    obtain ⟨rfl, rfl, rfl⟩ := hcs
    injection hx with hd _
    subst hd
    exact ⟨[], rfl, ⟨[], Rd.nil _ _, by simp⟩, by omega, by simp [maxLen], by simp [Rows.uptoBulk], trivial⟩
  · simp [Value.cells] at hcs
    obtain ⟨rfl, rfl, rfl⟩ := hcs
    injection hx with hd _
    have each : ∀ r, r < cap0 → ∃ xs : List UInt8, xs.length = L r ∧ RdB W (A r) xs := by
      intro r hr
      obtain ⟨_, h1, _, h3, h4, h5, h6⟩ := hrow r hr
      cases hA : A r with
      | none => exact ⟨[], by have := h5 hA; simp; omega, Rd.nil _ _⟩
      | some x => exact bytes_of (n := L r) (by omega) (fun i hi => (h6 x hA).2 i (by omega)) h4
    have hch : ∃ R : Nat → List UInt8, ∀ r, r < cap0 → (R r).length = L r ∧ RdB W (A r) (R r) :=
      ⟨fun r => if h : r < cap0 then Classical.choose (each r h) else [], fun r hr => by
        simp only [dif_pos hr]; exact Classical.choose_spec (each r hr)⟩
    obtain ⟨R, hR⟩ := hch
    refine ⟨(List.range len0).map R, by simp, ⟨(List.range len0).map fun r => .slice (A r) (L r) (C r), ⟨by simp, fun h0 => ?_⟩, fun i q hi => ?_⟩, hl, hm, ?_, trivial⟩
    · simp only [List.length_map, List.length_range] at h0
      obtain ⟨b, o, spot⟩ := a
      have hc0 := (hrow 0 (by omega)).1
      have hspot : spot = none := by simpa [Addr.add] using World.cell?_spot hc0
      subst hspot
      refine ⟨b, o, rfl, World.block_lt_of_cell? W _ (by simpa [Addr.add] using hc0), fun j u hu => ?_⟩
      simp only [List.getElem?_map] at hu
      by_cases hj : j < len0
      · rw [List.getElem?_range hj] at hu
        simp only [Option.map_some, Option.some.injEq] at hu
        have h1 := (hrow j (by omega)).1
        rw [Addr.add_lit] at h1
        rw [h1, hu]
      · rw [List.getElem?_eq_none (by simp; omega)] at hu; simp at hu
    · simp only [List.getElem?_map] at hi
      by_cases hj : i < len0
      · rw [List.getElem?_range hj] at hi
        simp only [Option.map_some, Option.some.injEq] at hi
        subst hi
        obtain ⟨e1, e2⟩ := hR i (by omega)
        exact ⟨A i, C i, by rw [List.getElem?_map, List.getElem?_range hj, e1]; rfl, e2, by rw [e1]; exact (hrow i (by omega)).2.1⟩
      · rw [List.getElem?_eq_none (by simp; omega)] at hi; simp at hi
    · rw [hd]
      simp only [Rows.uptoBulk]
      have := bulk_sum (fun r => intRow (H := H) .u8 (A r) (L r) (Z r)) R (List.range len0) (fun r hr => by
        have hr' := List.mem_range.1 hr
        obtain ⟨_, h1, _, h3, h4, h5, h6⟩ := hrow r (by omega)
        rw [(hR r (by omega)).1]
        exact bulk_row (by omega) (fun h => by have := h5 h; omega))
      simp only [List.length_map, List.length_range] at this ⊢
      omega
end
end Go.Proofs.YtpnckagibkdcpaaDoor
