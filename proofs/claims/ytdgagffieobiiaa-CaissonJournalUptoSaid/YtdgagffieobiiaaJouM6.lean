/-
  The texts of this proof, joined: G4, ArgR.
-/
import Derived.Test.YtdgagffieobiiaaJouM5
import Derived.Test.YtdgagffieobiiaaJouM3
import Derived.Test.YtdgagffieobiiaaJouM1

/-
  The walk over CaissonJournal.
-/
namespace Go.Proofs.Ytdgagffieobiiaa
open Go.RowKit
theorem j1_cs : Cell1 Try.prog 50 := ⟨by kernel_rfl, by rw [Try.underlying50]⟩
theorem tkRR : RowK Try.prog 43 50 1 (.slice none 0 0) 24 := ⟨Try.underlying43, by kernel_rfl, rfl, by decide⟩
theorem bin_rem3 {P : Program} {t : TypeId} {a : Nat} : BinV P .rem t (.int .i64 (a : Int)) (.int .i64 3) (.int .i64 ((a % 3 : Nat) : Int)) := bin_rem (b := 3) (by decide)
/-- A row of cells whose bytes lie in memory that is old. -/
def QRow (w0 : World) (l : List Ce) (cs : List Value) (w : World) : Prop := ∃ (D : Option Addr) (cd : Nat), cs = [.slice D l.length cd] ∧ RdR 5 w All D (l.map (ceElO w0))
def encOf (l : List Ce) : List UInt8 := encV ((goodL l).map ceVa)
/-- What the law is handed. -/
structure RwOk (rows : List (List Ce)) : Prop where
  ok : ∀ l ∈ rows, ∀ x ∈ l, CeOk x
  sz : sumB (sumB ceB) rows ≤ 1048576
theorem sumJ_le {α : Type} {b : α → Nat} : ∀ {l : List α} {x : α}, x ∈ l → b x + 1 ≤ sumB b l
  | a :: l, x, h => by
    rw [sumB_cons]
    rcases List.mem_cons.1 h with rfl | h
    · omega
    · have := sumJ_le (b := b) h; omega
theorem sumJ_len {α : Type} {b : α → Nat} : ∀ l : List α, l.length ≤ sumB b l
  | [] => Nat.zero_le _
  | x :: l => by have := sumJ_len (b := b) l; rw [sumB_cons, List.length_cons]; omega
theorem RwOk.row {rows : List (List Ce)} (h : RwOk rows) {l : List Ce} (hl : l ∈ rows) : sumB ceB l ≤ 1048576 ∧ l.length ≤ 1048576 ∧ ∀ x ∈ l, x.data.length ≤ 1048576 ∧ x.text.length ≤ 1048576 := by
  have h1 := sumJ_le (b := sumB ceB) hl
  have h0 := h.sz
  refine ⟨by omega, by have := sumJ_len (b := ceB) l; omega, fun x hx => ?_⟩
  have h2 := sumJ_le (b := ceB) hx
  unfold ceB at h2 h1 h0
  omega
theorem vaB_ce {x : Ce} (h : goodC x = true) : vaB (ceVa x) = ceB x := by unfold vaB; rw [vaC_ceVa h]; rfl
theorem sum_good (l : List Ce) : sumB vaB ((goodL l).map ceVa) ≤ sumB ceB l := by
  induction l with
  | nil => exact Nat.le_refl _
  | cons x l ih =>
    unfold goodL at ih ⊢
    rw [List.filter_cons]
    split
    · rename_i hg
      rw [List.map_cons, sumB_cons, sumB_cons, vaB_ce hg]; omega
    · rw [sumB_cons]; omega
theorem RwOk.vas {rows : List (List Ce)} (h : RwOk rows) {l : List Ce} (hl : l ∈ rows) : (∀ u ∈ (goodL l).map ceVa, VaOk u) ∧ sumB vaB ((goodL l).map ceVa) ≤ 1048576 := by
  obtain ⟨h1, _, h3⟩ := h.row hl
  refine ⟨fun u hu => ?_, Nat.le_trans (sum_good l) h1⟩
  obtain ⟨x, hx, rfl⟩ := List.mem_map.1 hu
  obtain ⟨hx1, hg⟩ := goodL_mem hx
  have := h3 x hx1
  exact ⟨by rw [vaC_ceVa hg]; exact (h.ok l hl x hx1).num, by rw [vaC_ceVa hg]; omega, by rw [vaC_ceVa hg]; omega⟩
theorem dec_of {rows : List (List Ce)} (h : RwOk rows) {l : List Ce} (hl : l ∈ rows) : decV (encOf l) = ((goodL l).map ceVa, 0) := decV_enc (h.vas hl).1
theorem take_one {α β : Type} {l : List α} {i : Nat} {x : α} (h : l[i]? = some x) (f : α → β) : (l.take (i + 1)).map f = (l.take i).map f ++ [f x] := by rw [List.take_add_one, h]; simp
theorem grp_len : ∀ {gs : Grps}, (∀ g ∈ gs, g ≠ []) → gs.length ≤ gs.flatten.length
  | [], _ => Nat.le_refl _
  | a :: gs, hg => by
    have h1 := grp_len (gs := gs) fun y hy => hg y (List.mem_cons_of_mem _ hy)
    have h2 : 0 < a.length := List.length_pos_iff.2 (hg a List.mem_cons_self)
    rw [List.flatten_cons, List.length_append, List.length_cons]; omega
theorem JoK.names {d : Dk} {all : List (List UInt8)} {sy : Nat} (h : JoK d all sy) : (∀ p ∈ d.fs, p.1.length ≤ maxLen) ∧ d.fs.length ≤ 1048576 := by
  obtain ⟨a, segs, size, hp, sh⟩ := h.sh
  have hc := h.cnt
  rcases sh with ⟨_, _, e, _⟩ | ⟨gs, cur, s, hg, hcu, e1, _, _, e, _⟩
  · rw [e]; exact ⟨by simp, by simp⟩
  · have hl := hp.length_le
    rw [e1, List.length_append] at hl
    have hn : d.fs.map (·.1) = (firsts 0 gs ++ [gs.flatten.length]).map nmJ := by rw [e, logF_names]
    have hgl := grp_len hg
    refine ⟨fun p hp => ?_, ?_⟩
    · have : p.1 ∈ d.fs.map (·.1) := List.mem_map.2 ⟨p, hp, rfl⟩
      rw [hn] at this
      obtain ⟨k, _, e⟩ := List.mem_map.1 this
      rw [← e, nmJ_len]; decide
    · have h1 := congrArg List.length hn
      rw [List.length_map, List.length_map, List.length_append, firsts_len, List.length_singleton] at h1
      omega
theorem JoI.segs {d : Dk} {all : List (List UInt8)} {sy : Nat} {l : Lg} (h : JoI d all sy l) : (∀ f ∈ l.segs, f < 2 ^ 64) ∧ l.segs.length ≤ 1048576 ∧ l.next ≤ 1048576 ∧ l.size ≤ 1099511627776 := by
  have hc := h.cnt
  have hf := flat_le h.each h.cnt
  have hn := h.nx
  rcases h.sh with ⟨_, _, _, e, e2⟩ | ⟨gs, cur, s, hg, _, e1, _, _, _, e, e2⟩
  · rw [e, e2]; exact ⟨by simp, by simp, by omega, by omega⟩
  · rw [e, e2]
    rw [e1, recs_append, List.length_append] at hf
    rw [e1, List.length_append] at hc hn
    have hgl := grp_len hg
    refine ⟨fun f hf => ?_, by rw [List.length_append, firsts_len, List.length_singleton]; omega, by omega, by omega⟩
    have := (firsts_all hg (show gs.flatten.length < 64 by omega)).2 f hf
    omega
def JouI (w : World) (rows : List (List Ce)) (A : Option Addr) (c : Nat) (K : Option Addr) (keeps : List Int) (ck g gl : Nat) : FL → World → Nat → Prop := fun L wr m =>
  ∃ (i sy : Nat) (d : Dk) (lg : Lg) (A1 : Option Addr) (c1 : Nat) (G : Option Addr) (cg : Nat) (css : List (List Value)) (Kc : World → Prop),
    L = [(0, .slice A rows.length c), (2, .slice K keeps.length ck), (7, .pointer (some ⟨g, 0, none⟩)), (8, .pointer (some ⟨gl, 0, none⟩)), (11, .slice G i cg), (12, .int .i64 (sy : Int)), (13, .int .i64 (i : Int))] ∧ i ≤ rows.length ∧ i ≤ 30 ∧ JoI d ((rows.take i).map encOf) sy lg ∧ AllK Kc (QRow w) ((rows.take i).map goodL) css ∧
    St NoB w wr [.ck (dkC g d), .blk gl 90 (lgV g A1 lg.segs.length c1 lg.next lg.size), .rg 1 100 A1 c1 (sgR lg.segs), .rg 1 50 G cg (css.map rawEl), .ck (kp Kc)] ∧ m = 30 - i
def JouJ (w : World) (rows : List (List Ce)) (K : Option Addr) (keeps : List Int) (ck g : Nat) : FL → World → Prop := fun L wr =>
  ∃ (n sy : Nat) (d : Dk) (G : Option Addr) (cg : Nat) (css : List (List Value)) (Kc : World → Prop),
    L = [(2, .slice K keeps.length ck), (7, .pointer (some ⟨g, 0, none⟩)), (11, .slice G n cg), (12, .int .i64 (sy : Int))] ∧ n ≤ rows.length ∧ n ≤ 30 ∧ JoK d ((rows.take n).map encOf) sy ∧ AllK Kc (QRow w) ((rows.take n).map goodL) css ∧
    St NoB w wr [.ck (dkC g d), .rg 1 50 G cg (css.map rawEl), .ck (kp Kc)]
/-- What is read once more is the same. -/
def Agn (d : Dk) (recs' : List (List UInt8)) : Prop := (d.fs = [] ∧ d.dead = false ∧ recs' = []) ∨ ∃ (gs : Grps) (part : List (List UInt8)), JoC d gs (recs part) part (recs part).length ∧ recs' = gs.flatten ++ part
set_option maxHeartbeats 16000000 in
set_option maxRecDepth 8000 in
theorem journal_any {A K : Option Addr} {n c m ck : Nat} {rows : List (List Ce)} {keeps : List Int} {arm : Int} {w : World} (hr : RdR 1 w All A (rows.map fun l => rowEl 5 (l.map ceEl))) (hn : rows.length = n) (hRw : RwOk rows)
    (ha : -9223372036854775808 ≤ arm ∧ arm ≤ 9223372036854775807) (hk : Rd w K keeps.length (keeps.map fun k => .int .i64 k)) (hm : keeps.length = m) (hkl : keeps.length ≤ 1048576) :
    CallsV Try.prog 4 #[.slice A n c, .int .i64 arm, .slice K m ck] w (RetTrue w) := by
  subst hn hm
  have hs := St.init w
  have hmax : maxLen = 9223372036854775807 := rfl
  have hrl : rows.length ≤ 1048576 := by have := sumJ_len (b := sumB ceB) rows; have := hRw.sz; omega
  refine calls_in (N := _) Try.func4 rfl Try.ntmps4 rfl ?_; show WC _ _ _ _ _ _
  refine wc_sr ?_; refine wl_as rfl rfl ?_; refine wl_ns ?_; refine wc_sr ?_
  refine wl_call ok_disk_New (new_any 1073741824 w) ⟨rfl, trivial⟩ rfl ?_
  rintro _ _ ⟨g, rfl, hsx⟩
  replace hs := hs.call hsx
  clear hsx
  dsimp only [List.cons_append, List.nil_append] at hs
  refine wl_as rfl rfl ?_; refine wl_ns ?_; refine wc_sr ?_; refine wl_mv rfl rfl ?_
  obtain ⟨S2, hS2, hB2, hM2, hH2, hB⟩ := St.lend (H1 := [_]) (H2 := []) hs
  refine wl_call ok_wal_Open (wopen_nil hS2 rfl rfl) ⟨rfl, rfl, rfl, trivial⟩ rfl ?_
  rintro _ _ ⟨gl, rfl, hsx⟩
  replace hs := hB _ _ hsx
  clear hsx hB hH2 hM2 hB2 hS2
  dsimp only [List.cons_append, List.nil_append] at hs
  refine wl_mv rfl rfl ?_; apply wl_val; apply opv_extract; exact rfl; exact rfl; exact rfl; apply wl_val; apply opv_extract; exact rfl; exact rfl; exact rfl; apply wl_val; apply opv_extract; exact rfl; exact rfl; exact rfl; refine wl_as rfl rfl ?_; refine wl_as rfl rfl ?_; refine wl_as rfl rfl ?_; refine wl_ns ?_; refine wc_seq ?_; refine wc_sr ?_; refine wl_mv rfl rfl ?_; refine wl_bin rfl rfl bin_neq rfl ?_; refine wl_mv rfl rfl ?_; apply wl_take; exact rfl; exact rfl; exact rfl; refine bF ?_; (with_reducible exact nne); refine wl_mv rfl rfl ?_; apply wl_take; exact rfl; exact rfl; exact rfl; refine bF ?_; (with_reducible exact nne); apply wl_val; apply opv_bin; exact rfl; exact rfl; exact bin_eqlPtrNil Try.underlying44; exact rfl; apply wl_val; apply opv_pickF; exact rfl; refine bF ?_; (with_reducible exact nne); exact rfl; exact rfl; refine wl_mv rfl rfl ?_; apply wl_take; exact rfl; exact rfl; exact rfl; exact rfl; refine wl_mv rfl rfl ?_; apply wl_take; exact rfl; exact rfl; exact rfl; exact rfl
  refine wl_call ok_wal_Log_Next (next_any (hs.ar 1 rfl)) ⟨rfl, trivial⟩ rfl ?_
  rintro _ _ ⟨rfl, rfl⟩
  apply wl_take; exact rfl; exact rfl; exact rfl; exact rfl; refine wl_bin rfl rfl bin_neq rfl ?_; apply wl_val; apply opv_pickF; exact rfl; exact rfl; exact rfl; exact rfl; refine wl_ns ?_; apply wc_condFb; exact rfl; exact rfl; refine wc_skip ?_; refine we_seq ?_; refine wc_seq ?_; refine wc_sr ?_; refine wl_mv rfl rfl ?_; refine wl_bin rfl rfl bin_geq rfl ?_; refine wl_ns ?_
  refine wc_cutE (fun L w' => ∃ d : Dk, L = [(0, .slice A rows.length c), (2, .slice K keeps.length ck), (7, .pointer (some ⟨g, 0, none⟩)), (8, .pointer (some ⟨gl, 0, none⟩))] ∧ JoI d [] 0 ⟨[], 0, 0⟩ ∧ St NoB w w' [.ck (dkC g d), .blk gl 90 (lgV g none 0 0 0 0)]) ?_ ?_
  · refine wc_cond rfl (fun h1 => ?_) (fun h1 => ?_)
    · refine wc_region ?_; refine wl_mv rfl rfl ?_; refine wl_mv rfl rfl ?_
      obtain ⟨S2, hS2, hB2, hM2, hH2, hB⟩ := St.lend (H1 := [_]) (H2 := [_]) hs
      refine wl_call ok_disk_Disk_Arm (arm_any (k := arm) hS2) ⟨rfl, rfl, trivial⟩ rfl ?_
      rintro _ _ ⟨rfl, hsx⟩
      replace hs := hB _ _ hsx
      clear hsx hB hH2 hM2 hB2 hS2
      dsimp only [List.cons_append, List.nil_append] at hs
      refine wl_nil ?_
      exact we_cut _ ⟨_, rfl, ⟨⟨by simp, by show 1073741824 ≤ 1099511627776; decide, by simp [used], ha.1, ha.2, fun _ => h1⟩, rfl, by simp, by simp, rfl, .inl ⟨rfl, rfl, rfl, rfl, rfl⟩, rfl⟩, hs⟩ ⟨rfl, rfl, rfl, rfl, trivial⟩
    · refine wc_skip ?_
      exact we_cut _ ⟨_, rfl, ⟨⟨by simp, by decide, by simp [used], by decide, by decide, by simp⟩, rfl, by simp, by simp, rfl, .inl ⟨rfl, rfl, rfl, rfl, rfl⟩, rfl⟩, hs⟩ ⟨rfl, rfl, rfl, rfl, trivial⟩
  clear hs
  rintro _ w6 ⟨d, rfl, hJ, hs⟩
  replace hs := (((hs.kpNil (K := fun _ => True) fun _ => trivial).nilG 1 50).nilG 1 100)
  replace hs := (((((hs.front 2 rfl).front 2 rfl).front 2 rfl).front 4 rfl).front 4 rfl)
  dsimp only [delC] at hs
  refine we_seq ?_; refine wc_sr ?_; refine wl_as rfl rfl ?_; refine wl_ns ?_; refine wc_sr ?_; refine wl_as rfl rfl ?_; refine wl_ns ?_; refine wc_seq ?_; refine wc_sr ?_; refine wl_as rfl rfl ?_; refine wl_ns ?_; refine wc_block ?_
  refine wc_cutB (JouJ w rows K keeps ck g) ?_ ?_
  · refine wc_loop (JouI w rows A c K keeps ck g gl) [(0, .slice A rows.length c), (2, .slice K keeps.length ck), (7, .pointer (some ⟨g, 0, none⟩)), (8, .pointer (some ⟨gl, 0, none⟩)), (11, .slice none 0 0), (12, .int .i64 ((0 : Nat) : Int)), (13, .int .i64 ((0 : Nat) : Int))] 30 ⟨0, 0, d, ⟨[], 0, 0⟩, none, 0, none, 0, [], _, rfl, Nat.zero_le _, Nat.zero_le _, hJ, AllK.nil, hs, rfl⟩ ⟨rfl, rfl, rfl, rfl, rfl, rfl, rfl, trivial⟩ ?_
    clear hs hJ
    rintro _ w7 q ⟨i, sy, d, lg, A1, c1, G, cg, css, Kc, rfl, hi, hi3, hJ, hA, hs, rfl⟩
    refine wc_seq ?_; refine wc_sr ?_; refine wl_mv rfl rfl ?_; refine wl_mv rfl rfl ?_; apply wl_val; apply opv_len; exact rfl; exact tkRR.sl; exact rfl; refine wl_bin rfl rfl bin_lss rfl ?_; refine wl_mv rfl rfl ?_
    by_cases hi1 : i < rows.length
    rotate_left
    · have hi1' : ¬ (i : Int) < (rows.length : Int) := by omega
      apply wl_skip; exact rfl; exact rfl; exact rfl; refine bFn ?_; (with_reducible assumption); exact rfl; apply wl_skip; exact rfl; exact rfl; exact rfl; refine bFn ?_; (with_reducible assumption); exact rfl; apply wl_val; apply opv_pickF; exact rfl; refine bF ?_; (with_reducible assumption); exact rfl; exact rfl; refine wl_ns ?_; apply wc_condFb; exact rfl; exact rfl; refine wc_exit ?_; refine we_seq_exit ?_; refine we_loop_exit ?_; refine we_block_exit ?_
      exact we_cut _ ⟨i, sy, d, G, cg, css, Kc, rfl, hi, hi3, hJ.stop, hA, (((((hs.front 4 rfl).front 4 rfl).front 2 rfl).drop 3 rfl).drop 3 rfl)⟩ ⟨rfl, rfl, rfl, rfl, trivial⟩
    have hi1' : (i : Int) < (rows.length : Int) := by omega
    by_cases hi2 : i < 30
    rotate_left
    · have hi2' : ¬ (i : Int) < 30 := by omega
      apply wl_take; exact rfl; exact rfl; exact rfl; refine bT ?_; (with_reducible assumption); refine wl_mv rfl rfl ?_; apply wl_take; exact rfl; exact rfl; exact rfl; refine bT ?_; (with_reducible assumption); refine wl_bin rfl rfl bin_lss rfl ?_; apply wl_val; apply opv_pickT; exact rfl; refine bT ?_; (with_reducible assumption); exact rfl; exact rfl; refine wl_ns ?_; apply wc_decF; exact rfl; (with_reducible assumption); refine wc_exit ?_; refine we_seq_exit ?_; refine we_loop_exit ?_; refine we_block_exit ?_
      exact we_cut _ ⟨i, sy, d, G, cg, css, Kc, rfl, hi, hi3, hJ.stop, hA, (((((hs.front 4 rfl).front 4 rfl).front 2 rfl).drop 3 rfl).drop 3 rfl)⟩ ⟨rfl, rfl, rfl, rfl, trivial⟩
    have hi2' : (i : Int) < 30 := by omega
    obtain ⟨l, hl⟩ : ∃ l, rows[i]? = some l := ⟨_, List.getElem?_eq_getElem hi1⟩
    have hlm := List.mem_of_getElem? hl
    obtain ⟨b0, o0, cs, rfl, _, _, ⟨X, cx, rfl, hcx, hX, _⟩, hw⟩ := RdR.at (k := 1) (by decide) hr (E := rowEl 5 (l.map ceEl)) (i := i) (by rw [List.getElem?_map, hl]; rfl)
    obtain ⟨hb1, hb2, hb3⟩ := hRw.row hlm
    obtain ⟨hv1, hv2⟩ := hRw.vas hlm
    have i1 := hw.below hs.bel
    rw [List.length_map] at i1 hcx
    apply wl_take; exact rfl; exact rfl; exact rfl; refine bT ?_; (with_reducible assumption); refine wl_mv rfl rfl ?_; apply wl_take; exact rfl; exact rfl; exact rfl; refine bT ?_; (with_reducible assumption); refine wl_bin rfl rfl bin_lss rfl ?_; apply wl_val; apply opv_pickT; exact rfl; refine bT ?_; (with_reducible assumption); exact rfl; exact rfl; refine wl_ns ?_; apply wc_decT; exact rfl; (with_reducible assumption); refine wc_skip ?_; refine we_seq ?_; refine wc_seq ?_; refine wc_block ?_; refine wc_sr ?_; refine wl_mv rfl rfl ?_; refine wl_mv rfl rfl ?_; apply wl_val; apply opv_idxG tkRR; exact rfl; exact rfl; exact rfl; omega; exact rfl; apply wl_val; apply opv_ldW0; exact rfl; assumption; exact j1_cs; exact rfl; exact rfl
    refine wl_call ok_caissontop_values (values_any hs.bel hX rfl (fun x hx => (hb3 x hx).1) hb2) ⟨rfl, trivial⟩ rfl ?_
    rintro _ _ ⟨P, cp, D, cd, rfl, hP, hsx⟩
    replace hs := hs.call hsx
    clear hsx i1
    dsimp only [List.cons_append, List.nil_append] at hs
    rw [show ((goodL l).map fun x => vaEl (ceVa x)) = ((goodL l).map ceVa).map vaEl by rw [List.map_map]; rfl] at hP
    refine wl_mv rfl rfl ?_; apply wl_val; apply opv_extract; exact rfl; exact rfl; exact rfl; apply wl_val; apply opv_extract; exact rfl; exact rfl; exact rfl; refine wl_as rfl rfl ?_; refine wl_as rfl rfl ?_; refine wl_ns ?_; refine wc_sr ?_; refine wl_mv rfl rfl ?_
    refine wl_call ok_cell_Encode (encode_any hP (by rw [List.length_map]) hv1 (by omega)) ⟨rfl, trivial⟩ rfl ?_
    rintro _ _ ⟨B, cB, rfl, o_, hbx⟩
    have hcB := OwB.cap o_
    replace hs := hs.newO hbx o_ (Nat.le_refl _)
    clear hbx o_ hP
    have ht1 := take_one hl encOf
    have ht2 := take_one hl goodL
    obtain ⟨b, hbe⟩ : ∃ b, encOf l = b := ⟨_, rfl⟩
    rw [hbe] at ht1
    rw [show encV ((goodL l).map ceVa) = b from hbe] at hs hcB ⊢
    refine wl_mv rfl rfl ?_; apply wl_val; apply opv_extract; exact rfl; exact rfl; exact rfl; apply wl_val; apply opv_extract; exact rfl; exact rfl; exact rfl; refine wl_as rfl rfl ?_; refine wl_as rfl rfl ?_; refine wl_ns ?_; refine wc_seq ?_; refine wc_sr ?_; refine wl_mv rfl rfl ?_; refine wl_bin rfl rfl bin_neq rfl ?_; refine wl_mv rfl rfl ?_; apply wl_take; exact rfl; exact rfl; exact rfl; refine bF ?_; (with_reducible exact nne); refine wl_mv rfl rfl ?_; apply wl_take; exact rfl; exact rfl; exact rfl; refine bF ?_; (with_reducible exact nne); apply wl_val; apply opv_len; exact rfl; exact tyB.sl; exact rfl; apply wl_take; exact rfl; exact rfl; exact rfl; refine bF ?_; (with_reducible exact nne); refine wl_bin rfl rfl bin_gtr rfl ?_; apply wl_val; apply opv_pickF; exact rfl; refine bF ?_; (with_reducible exact nne); exact rfl; exact rfl; refine wl_ns ?_
    by_cases hbig : 100000 < b.length
    · have hbig' : (100000 : Int) < (b.length : Int) := by omega
      apply wc_decT; exact rfl; (with_reducible assumption); refine wc_sr ?_; refine wl_mv rfl rfl ?_; apply wl_val; apply opv_len; exact rfl; exact tyB.sl; exact rfl; refine wl_bin rfl rfl bin_gtr rfl ?_; refine wl_as rfl rfl ?_; refine wl_ns ?_; refine wc_ret ?_; refine we_seq_ret ?_; refine we_block_ret ?_; refine we_seq_ret ?_; refine we_loop_ret ?_; refine we_block_ret ?_; refine we_cut_ret ?_; refine we_seq_ret ?_
      exact we_ret1 rfl rfl ⟨_, rfl, congrArg Value.bool (bT hbig'), hs.bel⟩
    have hbig' : ¬ (100000 : Int) < (b.length : Int) := by omega
    have hcl : css.length = i := by rw [hA.1, List.length_map, List.length_take]; omega
    apply wc_decF; exact rfl; (with_reducible assumption); refine wc_skip ?_; refine we_seq ?_; refine wc_sr ?_; refine wl_mv rfl rfl ?_; refine wl_mv rfl rfl ?_
    refine ws_pushR (cs := [.slice D (goodL l).length cd]) hs 5 (fun _ => rfl) rfl tkRR (by rw [List.length_map]; exact hcl) ⟨_, rfl, rfl⟩ rfl rfl (by decide) (by omega) (by omega) rfl rfl ?_
    clear hs; intro _ G2 cg2 _ hs; dsimp only [setC] at hs
    rw [show css.map rawEl ++ [rawEl [Value.slice D (goodL l).length cd]] = (css ++ [[Value.slice D (goodL l).length cd]]).map rawEl by simp] at hs
    replace hs := St.kpAnd (((((((hs.front 5 rfl).front 5 rfl).front 5 rfl).front 5 rfl).front 4 rfl).front 6 rfl).front 6 rfl)
    dsimp only [delC] at hs
    have hA2 := (hA.weak (K' := fun w' => RdR 5 w' All D ((goodL l).map (ceElO w)) ∧ Kc w') fun w h => h.2).snoc (x := goodL l) (cs := [.slice D (goodL l).length cd]) fun w' h => ⟨D, cd, rfl, h.1⟩
    rw [← ht2] at hA2
    refine wl_as rfl rfl ?_; refine wl_ns ?_; refine wc_seq ?_; refine wc_sr ?_; refine wl_mv rfl rfl ?_; refine wl_mv rfl rfl ?_
    refine ws_bs (vs := [.slice B b.length cB]) hs tyBB ⟨rfl, rfl, rfl, trivial⟩ rfl (by decide) rfl ?_
    clear hs; intro R9 w9 hs
    replace hs := (((((((hs.front 6 rfl).front 2 rfl).front 3 rfl).front 3 rfl).front 6 rfl).front 6 rfl).front 6 rfl)
    dsimp only [delC] at hs
    obtain ⟨hsg1, hsg2, hsg3, hsg4⟩ := hJ.segs
    have happ := hJ.app (b := b) (by omega) (by rw [List.length_map, List.length_take]; omega)
    rw [← ht1] at happ
    obtain ⟨S2, hS2, hB2, hM2, hH2, hB⟩ := St.lend (H1 := [_, _, _]) (H2 := [_, _, _, _]) hs
    have hcall := wapp_any (cr := 1) (b := b) (B := B) (cb := cB) hS2 hJ.ok (fun w' k => ⟨(sat_ow (hH2 w' k) 0 rfl).rd, (sat_ow (hH2 w' k) 1 rfl).rd, hcB⟩) (by omega) hsg1 hsg2 hsg3 hsg4
    obtain ⟨⟨⟨d2, lg2⟩, at2, e2⟩, hq⟩ : ∃ q, wApp d lg b = q := ⟨_, rfl⟩
    rw [hq] at happ hcall
    dsimp only at happ hcall
    refine wl_call ok_wal_Log_Append hcall ⟨rfl, rfl, trivial⟩ rfl ?_
    clear hcall
    rintro _ _ ⟨rfl, A2, c2, hsx⟩
    replace hs := hB _ _ hsx
    clear hsx hB hH2 hM2 hB2 hS2
    dsimp only [List.cons_append, List.nil_append] at hs
    rcases happ with ⟨rfl, hJ2⟩ | ⟨he, hK2⟩
    rotate_left
    · have he' : ¬ ((e2 : Nat) : Int) = 0 := by omega
      refine wl_mv rfl rfl ?_; apply wl_val; apply opv_extract; exact rfl; exact rfl; exact rfl; apply wl_val; apply opv_extract; exact rfl; exact rfl; exact rfl; refine wl_as rfl rfl ?_; refine wl_as rfl rfl ?_; refine wl_ns ?_; refine wc_sr ?_; refine wl_mv rfl rfl ?_; refine wl_bin rfl rfl bin_neq rfl ?_; refine wl_ns ?_; apply wc_decT; exact rfl; (with_reducible assumption); refine wc_exit ?_; refine we_seq_exit ?_; apply we_block_pass; exact rfl; refine we_seq_exit ?_; refine we_loop_exit ?_; refine we_block_exit ?_
      exact we_cut _ ⟨i + 1, sy, d2, G2, cg2, _, _, rfl, by omega, by omega, hK2, hA2, (((((((hs.front 5 rfl).front 6 rfl).front 2 rfl).drop 3 rfl).drop 3 rfl).drop 3 rfl).drop 3 rfl)⟩ ⟨rfl, rfl, rfl, rfl, trivial⟩
    have hle : ((rows.take (i + 1)).map encOf).length = i + 1 := by rw [List.length_map, List.length_take]; omega
    by_cases h3 : i % 3 = 2
    rotate_left
    · have h3' : ¬ ((i % 3 : Nat) : Int) = 2 := by omega
      refine wl_mv rfl rfl ?_; apply wl_val; apply opv_extract; exact rfl; exact rfl; exact rfl; apply wl_val; apply opv_extract; exact rfl; exact rfl; exact rfl; refine wl_as rfl rfl ?_; refine wl_as rfl rfl ?_; refine wl_ns ?_; refine wc_sr ?_; refine wl_mv rfl rfl ?_; refine wl_bin rfl rfl bin_neq rfl ?_; refine wl_ns ?_; apply wc_condFb; exact rfl; exact rfl; refine wc_skip ?_; refine we_seq ?_; refine wc_sr ?_; refine wl_mv rfl rfl ?_; refine wl_bin rfl rfl bin_rem3 rfl ?_; refine wl_bin rfl rfl bin_eql rfl ?_; refine wl_ns ?_; apply wc_decF; exact rfl; (with_reducible assumption); refine wc_skip ?_; refine we_block_norm ?_; refine we_seq ?_; refine wc_region ?_; refine wl_mv rfl rfl ?_; apply wl_val; apply opv_bin; exact rfl; exact rfl; exact bin_add64 (by omega); exact rfl; refine wl_as rfl rfl ?_; refine wl_nil ?_
      exact we_loop _ (30 - (i + 1)) ⟨i + 1, sy, d2, lg2, A2, c2, G2, cg2, _, _, rfl, by omega, by omega, hJ2, hA2, (((((((hs.front 5 rfl).front 6 rfl).front 4 rfl).front 4 rfl).front 4 rfl).drop 5 rfl).drop 5 rfl), rfl⟩ (by omega) ⟨rfl, rfl, rfl, rfl, rfl, rfl, by rw [show ((i + 1 : Nat) : Int) = (i : Int) + 1 by omega]; rfl, trivial⟩
    have h3' : ((i % 3 : Nat) : Int) = 2 := by omega
    refine wl_mv rfl rfl ?_; apply wl_val; apply opv_extract; exact rfl; exact rfl; exact rfl; apply wl_val; apply opv_extract; exact rfl; exact rfl; exact rfl; refine wl_as rfl rfl ?_; refine wl_as rfl rfl ?_; refine wl_ns ?_; refine wc_sr ?_; refine wl_mv rfl rfl ?_; refine wl_bin rfl rfl bin_neq rfl ?_; refine wl_ns ?_; apply wc_condFb; exact rfl; exact rfl; refine wc_skip ?_; refine we_seq ?_; refine wc_sr ?_; refine wl_mv rfl rfl ?_; refine wl_bin rfl rfl bin_rem3 rfl ?_; refine wl_bin rfl rfl bin_eql rfl ?_; refine wl_ns ?_; apply wc_decT; exact rfl; (with_reducible assumption); refine wc_seq ?_; refine wc_sr ?_; refine wl_mv rfl rfl ?_
    have hsy := hJ2.sync
    obtain ⟨S2, hS2, hB2, hM2, hH2, hB⟩ := St.lend (H1 := [_]) (H2 := [_, _, _, _, _, _]) hs
    have hcall := wsync_any (l := lg2) hS2 hJ2.ok (fun w' k => (hH2 w' k).lgr) hJ2.segs.1 hJ2.segs.2.1
    obtain ⟨⟨d3, e3⟩, hq3⟩ : ∃ q, wSync d2 lg2 = q := ⟨_, rfl⟩
    rw [hq3] at hsy hcall
    dsimp only at hsy hcall
    refine wl_call ok_wal_Log_Sync hcall ⟨rfl, trivial⟩ rfl ?_
    clear hcall
    rintro _ _ ⟨rfl, hsx⟩
    replace hs := hB _ _ hsx
    clear hsx hB hH2 hM2 hB2 hS2
    dsimp only [List.cons_append, List.nil_append] at hs
    rcases hsy with ⟨rfl, hJ3⟩ | ⟨he, hK3⟩
    · rw [hle] at hJ3
      refine wl_bin rfl rfl bin_neq rfl ?_; refine wl_ns ?_; apply wc_condFb; exact rfl; exact rfl; refine wc_skip ?_; refine we_seq ?_; refine wc_region ?_; refine wl_mv rfl rfl ?_; apply wl_val; apply opv_len; exact rfl; exact tkRR.sl; exact rfl; refine wl_as rfl rfl ?_; refine wl_nil ?_; refine we_block_norm ?_; refine we_seq ?_; refine wc_region ?_; refine wl_mv rfl rfl ?_; apply wl_val; apply opv_bin; exact rfl; exact rfl; exact bin_add64 (by omega); exact rfl; refine wl_as rfl rfl ?_; refine wl_nil ?_
      exact we_loop _ (30 - (i + 1)) ⟨i + 1, i + 1, d3, lg2, A2, c2, G2, cg2, _, _, rfl, by omega, by omega, hJ3, hA2, (((((((hs.front 5 rfl).front 6 rfl).front 4 rfl).front 4 rfl).front 4 rfl).drop 5 rfl).drop 5 rfl), rfl⟩ (by omega) ⟨rfl, rfl, rfl, rfl, rfl, rfl, by rw [show ((i + 1 : Nat) : Int) = (i : Int) + 1 by omega]; rfl, trivial⟩
    · have he' : ¬ ((e3 : Nat) : Int) = 0 := by omega
      refine wl_bin rfl rfl bin_neq rfl ?_; refine wl_ns ?_; apply wc_decT; exact rfl; (with_reducible assumption); refine wc_exit ?_; refine we_seq_exit ?_; apply we_block_pass; exact rfl; refine we_seq_exit ?_; refine we_loop_exit ?_; refine we_block_exit ?_
      exact we_cut _ ⟨i + 1, sy, d3, G2, cg2, _, _, rfl, by omega, by omega, hK3, hA2, (((((((hs.front 5 rfl).front 6 rfl).front 2 rfl).drop 3 rfl).drop 3 rfl).drop 3 rfl).drop 3 rfl)⟩ ⟨rfl, rfl, rfl, rfl, trivial⟩
  · clear hs hJ
    rintro _ w9 ⟨n, sy, d, G, cg, css, Kc, rfl, hn, hn3, hK, hA, hs⟩
    refine we_seq ?_; refine wc_sr ?_; refine wl_mv rfl rfl ?_; refine wl_mv rfl rfl ?_
    obtain ⟨S2, hS2, hB2, hM2, hH2, hB⟩ := St.lend (H1 := [_]) (H2 := [_, _]) hs
    refine wl_call ok_disk_Disk_Crash (crash_any hS2 hK.ok hK.names.1 hK.names.2 (fun w' k => Rd.below hk (hM2 w' k).below) hkl) ⟨rfl, rfl, trivial⟩ rfl ?_
    rintro _ _ ⟨rfl, hsx⟩
    replace hs := hB _ _ hsx
    clear hsx hB hH2 hM2 hB2 hS2
    dsimp only [List.cons_append, List.nil_append] at hs
    have hcr := hK.crash keeps
    obtain ⟨d2, hd2⟩ : ∃ d2, crashK keeps d (sortN d.fs) = d2 := ⟨_, rfl⟩
    rw [hd2] at hs hcr
    have hlK := hK.each
    clear hd2 hK
    refine wl_ns ?_; refine wc_sr ?_; refine wl_mv rfl rfl ?_
    refine wl_cutE (fun L w' => ∃ (d3 : Dk) (rc : List (List UInt8)) (R : Option Addr) (cr : Nat) (vs : List Value), L = [(7, .pointer (some ⟨g, 0, none⟩)), (10, .int .i64 0), (11, .slice G n cg), (12, .int .i64 (sy : Int)), (21, .slice R rc.length cr)] ∧ Agn d3 rc ∧ rc <+: (rows.take n).map encOf ∧ sy ≤ rc.length ∧
        St NoB w w' [.ck (dkC g d3), .ow 30 R rc.length cr vs, .ck (kp (EK vs rc)), .rg 1 50 G cg (css.map rawEl), .ck (kp Kc)]) ?_ ?_
    · rcases hcr with ⟨hf0, hal0, rfl⟩ | ⟨gs, x, part, e, hC, hpre, hsyl⟩
      · skip
        obtain ⟨S2, hS2, hB2, hM2, hH2, hB⟩ := St.lend (H1 := [_]) (H2 := [_, _]) hs
        refine wl_call ok_wal_Open (wopen_nil hS2 hal0 hf0) ⟨rfl, rfl, rfl, trivial⟩ rfl ?_
        rintro _ _ ⟨gl2, rfl, hsx⟩
        replace hs := hB _ _ hsx
        clear hsx hB hH2 hM2 hB2 hS2
        dsimp only [List.cons_append, List.nil_append] at hs
        replace hs := (hs.kpNil (K := EK [] []) fun _ => EK.nil).nilO 30
        refine wl_mv rfl rfl ?_; apply wl_val; apply opv_extract; exact rfl; exact rfl; exact rfl; apply wl_val; apply opv_extract; exact rfl; exact rfl; exact rfl; apply wl_val; apply opv_extract; exact rfl; exact rfl; exact rfl; refine wl_as rfl rfl ?_; refine wl_as rfl rfl ?_; refine wl_as rfl rfl ?_; refine wl_nil ?_
        exact we_cut _ ⟨d2, [], none, 0, [], rfl, .inl ⟨hf0, hal0, rfl⟩, List.nil_prefix, Nat.le_refl _, ((((((hs.front 5 rfl).front 5 rfl).front 3 rfl).front 3 rfl).front 4 rfl).drop 5 rfl)⟩ ⟨rfl, rfl, rfl, rfl, rfl, trivial⟩
      · skip
        obtain ⟨S2, hS2, hB2, hM2, hH2, hB⟩ := St.lend (H1 := [_]) (H2 := [_, _]) hs
        refine wl_call ok_wal_Open (wopen_log hS2 hC) ⟨rfl, rfl, rfl, trivial⟩ rfl ?_
        rintro _ _ ⟨gl2, R, cr, vs, rfl, hsx⟩
        replace hs := hB _ _ hsx
        clear hsx hB hH2 hM2 hB2 hS2
        dsimp only [List.cons_append, List.nil_append] at hs
        refine wl_mv rfl rfl ?_; apply wl_val; apply opv_extract; exact rfl; exact rfl; exact rfl; apply wl_val; apply opv_extract; exact rfl; exact rfl; exact rfl; apply wl_val; apply opv_extract; exact rfl; exact rfl; exact rfl; refine wl_as rfl rfl ?_; refine wl_as rfl rfl ?_; refine wl_as rfl rfl ?_; refine wl_nil ?_
        exact we_cut _ ⟨_, _, R, cr, vs, rfl, .inr ⟨gs, part, hC.cut.2, rfl⟩, hpre, hsyl, hs⟩ ⟨rfl, rfl, rfl, rfl, rfl, trivial⟩
    clear hs hcr
    rintro _ w10 ⟨d3, rc, R, cr, vs, rfl, hag, hpre, hsl, hs⟩
    have hrl2 : rc.length ≤ n := by have := hpre.length_le; rw [List.length_map, List.length_take] at this; omega
    refine we_seq ?_; refine wc_seq ?_; refine wc_sr ?_; refine wl_mv rfl rfl ?_; refine wl_bin rfl rfl bin_neq rfl ?_; refine wl_mv rfl rfl ?_; apply wl_take; exact rfl; exact rfl; exact rfl; refine bF ?_; (with_reducible exact nne); refine wl_mv rfl rfl ?_; apply wl_take; exact rfl; exact rfl; exact rfl; refine bF ?_; (with_reducible exact nne); apply wl_val; apply opv_len; exact rfl; exact tyBB.sl; exact rfl; apply wl_take; exact rfl; exact rfl; exact rfl; refine bF ?_; (with_reducible exact nne); refine wl_mv rfl rfl ?_; apply wl_take; exact rfl; exact rfl; exact rfl; refine bF ?_; (with_reducible exact nne); refine wl_bin rfl rfl bin_lss rfl ?_; apply wl_val; apply opv_pickF; exact rfl; refine bF ?_; (with_reducible exact nne); exact rfl; exact rfl; refine wl_mv rfl rfl ?_; apply wl_take; exact rfl; exact rfl; exact rfl; refine bF ?_; omega; refine wl_mv rfl rfl ?_; apply wl_take; exact rfl; exact rfl; exact rfl; refine bF ?_; omega; apply wl_val; apply opv_len; exact rfl; exact tyBB.sl; exact rfl; apply wl_take; exact rfl; exact rfl; exact rfl; refine bF ?_; omega; refine wl_mv rfl rfl ?_; apply wl_take; exact rfl; exact rfl; exact rfl; refine bF ?_; omega; apply wl_val; apply opv_len; exact rfl; exact tkRR.sl; exact rfl; apply wl_take; exact rfl; exact rfl; exact rfl; refine bF ?_; omega; refine wl_bin rfl rfl bin_gtr rfl ?_; apply wl_val; apply opv_pickF; exact rfl; refine bF ?_; omega; exact rfl; exact rfl; refine wl_ns ?_; apply wc_decF; exact rfl; omega; refine wc_skip ?_; refine we_seq ?_; refine wc_seq ?_; refine wc_sr ?_; refine wl_mv rfl rfl ?_; apply wl_val; apply opv_len; exact rfl; exact tyBB.sl; exact rfl; refine wl_mv rfl rfl ?_; refine wl_ns ?_; refine wc_block ?_
    refine wc_loop (fun L wr m => ∃ (j : Nat), L = [(7, .pointer (some ⟨g, 0, none⟩)), (11, .slice G n cg), (21, .slice R rc.length cr), (133, .slice R rc.length cr), (134, .int .i64 (rc.length : Int)), (135, .int .i64 (j : Int))] ∧ j ≤ rc.length ∧ St NoB w wr [.ck (dkC g d3), .ow 30 R rc.length cr vs, .ck (kp (EK vs rc)), .rg 1 50 G cg (css.map rawEl), .ck (kp Kc)] ∧ m = rc.length - j)
      [(7, .pointer (some ⟨g, 0, none⟩)), (11, .slice G n cg), (21, .slice R rc.length cr), (133, .slice R rc.length cr), (134, .int .i64 (rc.length : Int)), (135, .int .i64 ((0 : Nat) : Int))] rc.length ⟨0, rfl, Nat.zero_le _, hs, rfl⟩ ⟨rfl, rfl, rfl, rfl, rfl, rfl, trivial⟩ ?_
    clear hs
    rintro _ w11 q ⟨j, rfl, hj, hs, rfl⟩
    refine wc_sr ?_; refine wl_bin rfl rfl bin_lss rfl ?_; refine wl_ns ?_; refine wc_seq ?_
    refine wc_cond rfl (fun h1 => ?_) (fun h1 => ?_)
    rotate_left
    · refine wc_exit ?_; refine we_seq_exit ?_; refine we_loop_exit ?_; refine we_block_exit ?_; refine we_seq ?_; refine wc_sr ?_; refine wl_mv rfl rfl ?_
      rcases hag with ⟨hf, hal, rfl⟩ | ⟨gs, part, hC, rfl⟩
      · obtain ⟨S2, hS2, hB2, hM2, hH2, hB⟩ := St.lend (H1 := [_]) (H2 := [_, _, _, _]) hs
        refine wl_call ok_wal_Open (wopen_nil hS2 hal hf) ⟨rfl, rfl, rfl, trivial⟩ rfl ?_
        rintro _ _ ⟨gl2, rfl, hsx⟩
        replace hs := hB _ _ hsx
        clear hsx hB hH2 hM2 hB2 hS2
        dsimp only [List.cons_append, List.nil_append] at hs
        refine wl_mv rfl rfl ?_; apply wl_val; apply opv_extract; exact rfl; exact rfl; exact rfl; apply wl_val; apply opv_extract; exact rfl; exact rfl; exact rfl; apply wl_val; apply opv_extract; exact rfl; exact rfl; exact rfl; refine wl_as rfl rfl ?_; refine wl_as rfl rfl ?_; refine wl_as rfl rfl ?_; refine wl_ns ?_; refine wc_sr ?_; refine wl_mv rfl rfl ?_; refine wl_mv rfl rfl ?_
        refine wl_call ok_caissonref01_Equals (equals_yes (xs := []) (ys := []) rfl (EK.nil.bb (Rd.nil _ _)) ((hs.kp 3 rfl).bb (hs.ow 2 rfl).rd) rfl rfl (by decide) (by decide)) ⟨rfl, rfl, trivial⟩ rfl ?_
        rintro _ _ ⟨rfl, hbx⟩
        refine wl_as rfl rfl ?_; refine wl_ns ?_; refine wc_ret ?_
        exact we_ret1 rfl rfl ⟨_, rfl, rfl, (hs.below hbx).bel⟩
      · obtain ⟨S2, hS2, hB2, hM2, hH2, hB⟩ := St.lend (H1 := [_]) (H2 := [_, _, _, _]) hs
        refine wl_call ok_wal_Open (wopen_log hS2 hC) ⟨rfl, rfl, rfl, trivial⟩ rfl ?_
        rintro _ _ ⟨gl2, R2, cr2, vs2, rfl, hsx⟩
        replace hs := hB _ _ hsx
        clear hsx hB hH2 hM2 hB2 hS2
        dsimp only [List.cons_append, List.nil_append] at hs
        have hfl : (gs.flatten ++ part).flatten.length ≤ 3000240 := by
          have hcc := hC.cnt
          have he := flat_le hC.each hC.cnt
          rw [recs_len] at he
          omega
        refine wl_mv rfl rfl ?_; apply wl_val; apply opv_extract; exact rfl; exact rfl; exact rfl; apply wl_val; apply opv_extract; exact rfl; exact rfl; exact rfl; apply wl_val; apply opv_extract; exact rfl; exact rfl; exact rfl; refine wl_as rfl rfl ?_; refine wl_as rfl rfl ?_; refine wl_as rfl rfl ?_; refine wl_ns ?_; refine wc_sr ?_; refine wl_mv rfl rfl ?_; refine wl_mv rfl rfl ?_
        refine wl_call ok_caissonref01_Equals (equals_yes (xs := gs.flatten ++ part) (ys := gs.flatten ++ part) rfl ((hs.kp 2 rfl).bb (hs.ow 1 rfl).rd) ((hs.kp 4 rfl).bb (hs.ow 3 rfl).rd) rfl rfl (by omega) (by omega)) ⟨rfl, rfl, trivial⟩ rfl ?_
        rintro _ _ ⟨rfl, hbx⟩
        refine wl_as rfl rfl ?_; refine wl_ns ?_; refine wc_ret ?_
        exact we_ret1 rfl rfl ⟨_, rfl, rfl, (hs.below hbx).bel⟩
    obtain ⟨bj, hbj⟩ : ∃ bj, rc[j]? = some bj := ⟨_, List.getElem?_eq_getElem (by omega)⟩
    have hbj2 : ((rows.take n).map encOf)[j]? = some bj := by
      obtain ⟨t, ht⟩ := hpre
      rw [← ht, List.getElem?_append_left (by omega)]; exact hbj
    rw [List.getElem?_map] at hbj2
    obtain ⟨l, hl, rfl⟩ := Option.map_eq_some_iff.1 hbj2
    have hlm : l ∈ rows := List.mem_of_mem_take (List.mem_of_getElem? hl)
    have hbl : (encOf l).length ≤ 100000 := hlK _ (List.mem_map.2 ⟨l, List.mem_of_getElem? hl, rfl⟩)
    obtain ⟨B, cb, hv, hB, hcb⟩ := (hs.kp 2 rfl).2 j _ hbj
    obtain ⟨_, hb2, hb3⟩ := hRw.row hlm
    have hgl := goodL_le l
    refine wc_skip ?_; refine we_seq ?_; refine wc_seq ?_; refine wc_block ?_; refine wc_sr ?_; refine wl_mv rfl rfl ?_
    refine wl_val (opv_idxR (kk := j) (u := .slice B (encOf l).length cb) tyBB rfl rfl (hs.ow 1 rfl).rd rfl hv) rfl ?_
    refine wl_val (opv_loadR (kk := j) (u := .slice B (encOf l).length cb) tyBB rfl (hs.ow 1 rfl).rd hv) rfl ?_
    refine wl_as rfl rfl ?_; refine wl_as rfl rfl ?_; refine wl_ns ?_; refine wc_sr ?_; refine wl_mv rfl rfl ?_
    have hcall := decode_any hB rfl hcb (by omega)
    rw [dec_of hRw hlm] at hcall
    refine wl_call ok_cell_Decode hcall ⟨rfl, trivial⟩ rfl ?_
    clear hcall
    rintro _ _ ⟨V, cv, rfl, o_, hbx⟩
    replace hs := hs.newG hbx o_ (Nat.le_refl _) fun _ _ h => h
    clear hbx o_ hB hv
    dsimp only at hs ⊢
    rw [List.length_map]
    obtain ⟨cs, hcs, hqr⟩ := hA.2 j (goodL l) (by rw [List.getElem?_map, hl]; rfl)
    obtain ⟨D, cd, rfl, hD⟩ := hqr _ (hs.kp 5 rfl)
    obtain ⟨bG, oG, cs, rfl, _, _, hcs2, iG⟩ := RdR.at (k := 1) (by decide) (hs.rg 4 rfl).rd (E := rawEl [.slice D (goodL l).length cd]) (i := j) (by rw [List.getElem?_map, hcs]; rfl)
    obtain rfl : cs = [.slice D (goodL l).length cd] := hcs2
    have hjn : j < n := by omega
    refine wl_mv rfl rfl ?_; apply wl_val; apply opv_extract; exact rfl; exact rfl; exact rfl; apply wl_val; apply opv_extract; exact rfl; exact rfl; exact rfl; refine wl_as rfl rfl ?_; refine wl_as rfl rfl ?_; refine wl_ns ?_; refine wc_seq ?_; refine wc_sr ?_; refine wl_mv rfl rfl ?_; refine wl_bin rfl rfl bin_neq rfl ?_; refine wl_mv rfl rfl ?_; apply wl_take; exact rfl; exact rfl; exact rfl; refine bF ?_; omega; refine wl_mv rfl rfl ?_; apply wl_take; exact rfl; exact rfl; exact rfl; refine bF ?_; omega; apply wl_val; apply opv_len; exact rfl; exact tkA.sl; exact rfl; apply wl_take; exact rfl; exact rfl; exact rfl; refine bF ?_; omega; refine wl_mv rfl rfl ?_; apply wl_take; exact rfl; exact rfl; exact rfl; refine bF ?_; omega; refine wl_mv rfl rfl ?_; apply wl_take; exact rfl; exact rfl; exact rfl; refine bF ?_; omega; apply wl_val; apply opv_idxG tkRR; exact rfl; exact rfl; exact rfl; omega; exact rfl; apply wl_take; exact rfl; exact rfl; exact rfl; refine bF ?_; omega; apply wl_val; apply opv_ldW0; exact rfl; assumption; exact j1_cs; exact rfl; exact rfl; apply wl_take; exact rfl; exact rfl; exact rfl; refine bF ?_; omega; apply wl_val; apply opv_len; exact rfl; exact tkC.sl; exact rfl; apply wl_take; exact rfl; exact rfl; exact rfl; refine bF ?_; omega; refine wl_bin rfl rfl bin_neq rfl ?_; apply wl_val; apply opv_pickF; exact rfl; refine bF ?_; omega; exact rfl; exact rfl; refine wl_ns ?_; apply wc_decF; exact rfl; (with_reducible exact nne); refine wc_skip ?_; refine we_seq ?_; refine wc_sr ?_; refine wl_mv rfl rfl ?_; apply wl_val; apply opv_len; exact rfl; exact tkA.sl; exact rfl; refine wl_mv rfl rfl ?_; refine wl_ns ?_; refine wc_block ?_
    clear iG hD
    refine wc_loop (fun L wr m => ∃ (k : Nat), L = [(7, .pointer (some ⟨g, 0, none⟩)), (11, .slice (some ⟨bG, oG, none⟩) n cg), (21, .slice R rc.length cr), (22, .int .i64 (j : Int)), (24, .slice V (goodL l).length cv), (133, .slice R rc.length cr), (134, .int .i64 (rc.length : Int)), (135, .int .i64 (j : Int)), (158, .int .i64 ((goodL l).length : Int)), (159, .int .i64 (k : Int))] ∧ k ≤ (goodL l).length ∧
        St NoB w wr [.rg 1 20 V cv (((goodL l).map ceVa).map vaEl), .ck (dkC g d3), .ow 30 R rc.length cr vs, .ck (kp (EK vs rc)), .rg 1 50 (some ⟨bG, oG, none⟩) cg (css.map rawEl), .ck (kp Kc)] ∧ m = (goodL l).length - k)
      [(7, .pointer (some ⟨g, 0, none⟩)), (11, .slice (some ⟨bG, oG, none⟩) n cg), (21, .slice R rc.length cr), (22, .int .i64 (j : Int)), (24, .slice V (goodL l).length cv), (133, .slice R rc.length cr), (134, .int .i64 (rc.length : Int)), (135, .int .i64 (j : Int)), (158, .int .i64 ((goodL l).length : Int)), (159, .int .i64 ((0 : Nat) : Int))] (goodL l).length ⟨0, rfl, Nat.zero_le _, hs, rfl⟩ ⟨rfl, rfl, rfl, rfl, rfl, rfl, rfl, rfl, rfl, rfl, trivial⟩ ?_
    clear hs
    rintro _ w12 q ⟨k, rfl, hk2, hs, rfl⟩
    refine wc_sr ?_; refine wl_bin rfl rfl bin_lss rfl ?_; refine wl_ns ?_; refine wc_seq ?_
    refine wc_cond rfl (fun h2 => ?_) (fun h2 => ?_)
    rotate_left
    · refine wc_exit ?_; refine we_seq_exit ?_; refine we_loop_exit ?_; refine we_block_exit ?_; refine we_block_norm ?_; refine we_seq ?_; refine wc_region ?_; apply wl_val; apply opv_bin; exact rfl; exact rfl; exact bin_add64 (by omega); exact rfl; refine wl_mv rfl rfl ?_; refine wl_nil ?_
      exact we_loop _ (rc.length - (j + 1)) ⟨j + 1, rfl, by omega, hs.drop 0 rfl, rfl⟩ (by omega) ⟨rfl, rfl, rfl, rfl, rfl, by rw [show ((j + 1 : Nat) : Int) = (j : Int) + 1 by omega]; rfl, trivial⟩
    obtain ⟨x, hx⟩ : ∃ x, (goodL l)[k]? = some x := ⟨_, List.getElem?_eq_getElem (by omega)⟩
    obtain ⟨hxl, hxg⟩ := goodL_mem (List.mem_of_getElem? hx)
    have hxb := hb3 x hxl
    obtain ⟨bV, oV, cs, rfl, _, _, hcsV, iV⟩ := RdR.at (k := 1) (by decide) (hs.rg 0 rfl).rd (E := vaEl (ceVa x)) (i := k) (by rw [List.getElem?_map, List.getElem?_map, hx]; rfl)
    obtain ⟨Y, cy, rfl, hY⟩ := hcsV
    have rY := (byEl.rd hY).1
    refine wc_skip ?_; refine we_seq ?_; refine wc_seq ?_; refine wc_block ?_; refine wc_sr ?_; refine wl_mv rfl rfl ?_; refine wl_as rfl rfl ?_; refine wl_ns ?_; refine wc_sr ?_; refine wl_mv rfl rfl ?_; refine wl_mv rfl rfl ?_; apply wl_val; apply opv_idxG tkA; exact rfl; exact rfl; exact rfl; omega; exact rfl; apply wl_val; apply opv_ldW0; exact rfl; assumption; exact c1_any; exact rfl; exact rfl
    refine wl_call ok_cell_Cell (cell_any (u := ceVa x) rY (by rw [vaC_ceVa hxg]; omega)) ⟨rfl, trivial⟩ rfl ?_
    rintro _ _ ⟨B3, c3, rfl, o_, hbx⟩
    rw [vaC_ceVa hxg] at o_ ⊢
    replace hs := hs.newO hbx o_ (Nat.le_refl _)
    clear hbx o_ iV rY hY
    refine wl_mv rfl rfl ?_; apply wl_val; apply opv_extract; exact rfl; exact rfl; exact rfl; apply wl_val; apply opv_extract; exact rfl; exact rfl; exact rfl
    refine ws_var (cs := ceV x B3 c3) hs zeroC sC rfl (fun _ => rfl) (by first | rfl | simp [Value.oneCell']) rfl ?_; clear hs; intro g27 _ hs
    refine wl_as rfl rfl ?_; refine wl_ns ?_; refine wc_seq ?_
    obtain ⟨D', cd', hce, hD⟩ := hqr _ (hs.kp 7 rfl)
    obtain ⟨rfl, rfl⟩ : D' = D ∧ cd' = cd := by simpa using hce.symm
    clear hce
    obtain ⟨bD, oD, cs, rfl, _, _, hcsD, iD⟩ := RdR.at (k := 5) (by decide) hD (E := ceElO w x) (i := k) (by rw [List.getElem?_map, hx]; rfl)
    obtain ⟨X, cx, rfl, hcx, rX⟩ := hcsD
    obtain ⟨bG', oG', cs, hGG, _, _, hcs3, iG⟩ := RdR.at (k := 1) (by decide) (hs.rg 6 rfl).rd (E := rawEl [.slice (some ⟨bD, oD, none⟩) (goodL l).length cd']) (i := j) (by rw [List.getElem?_map, hcs]; rfl)
    obtain rfl : cs = [.slice (some ⟨bD, oD, none⟩) (goodL l).length cd'] := hcs3
    cases hGG
    have hkg : k < (goodL l).length := by omega
    have r3 := (hs.ow 1 rfl).rd
    obtain ⟨w13, hw13⟩ : ∃ w13, w13 = w13 ∧ St NoB w w13 [] := ⟨_, rfl, hs.nil⟩
    clear hw13 w13
    have hq : ∀ w0 w', RdB w0 B3 x.data → Below w0.heap.size w0 w' → Below w.heap.size w w0 → CallsV Try.prog 25 #[.agg (ceV x B3 c3).toArray, .agg (ceV x X cx).toArray] w' fun v w2 => v = .bool true ∧ Below w0.heap.size w0 w2 := fun w0 w' hr0 hw hb => (same_any (hr0.below hw) ((rX.below hb).below hw) (by omega)).mono fun v w2 ⟨hv, h2⟩ => ⟨by rw [hv]; simp [sameC], hw.trans (h2.mono hw.size)⟩
    refine wc_drawB mixed (by kernel_rfl) ?_
    try dsimp only [List.append]
    apply wq_val; intro _ hw_; apply opv_move; exact rfl; exact rfl; apply wq_val; intro _ hw_; apply opv_bin; exact rfl; exact rfl; exact bin_neq; exact rfl; apply wq_val; intro _ hw_; apply opv_move; exact rfl; exact rfl; apply wq_take; exact rfl; exact rfl; exact rfl; refine bF ?_; (with_reducible exact nne); apply wq_val; intro _ hw_; apply opv_loadX; exact rfl; exact Ar.bel (hs.ar 0 rfl) hw_; exact sC; exact rfl; apply wq_take; exact rfl; exact rfl; exact rfl; refine bF ?_; (with_reducible exact nne); apply wq_val; intro _ hw_; apply opv_move; exact rfl; exact rfl; apply wq_take; exact rfl; exact rfl; exact rfl; refine bF ?_; (with_reducible exact nne); apply wq_val; intro _ hw_; apply opv_move; exact rfl; exact rfl; apply wq_take; exact rfl; exact rfl; exact rfl; refine bF ?_; (with_reducible exact nne); apply wq_val; intro _ hw_; apply opv_idxG tkRR; exact rfl; exact rfl; exact rfl; omega; exact rfl; apply wq_take; exact rfl; exact rfl; exact rfl; refine bF ?_; (with_reducible exact nne); apply wq_val; intro _ hw_; apply opv_ldW0; exact rfl; exact Wi.below (by assumption) hw_; exact j1_cs; exact rfl; exact rfl; apply wq_take; exact rfl; exact rfl; exact rfl; refine bF ?_; (with_reducible exact nne); apply wq_val; intro _ hw_; apply opv_move; exact rfl; exact rfl; apply wq_take; exact rfl; exact rfl; exact rfl; refine bF ?_; (with_reducible exact nne); apply wq_val; intro _ hw_; apply opv_idxG tkC; exact rfl; exact rfl; exact rfl; omega; exact rfl; apply wq_take; exact rfl; exact rfl; exact rfl; refine bF ?_; (with_reducible exact nne); apply wq_val; intro _ hw_; apply opv_ldG; exact rfl; exact Wi.below (by assumption) hw_; exact sC; exact rfl; apply wq_take; exact rfl; exact rfl; exact rfl; refine bF ?_; (with_reducible exact nne)
    refine wq_call (v := .bool true) ok_caissonref06_Same (fun w' hw => hq _ w' r3 hw hs.bel) ⟨rfl, rfl, trivial⟩ rfl ?_
    apply wq_take; exact rfl; exact rfl; exact rfl; refine bF ?_; (with_reducible exact nne); apply wq_val; intro _ hw_; apply opv_not; exact rfl; exact rfl; apply wq_val; intro _ hw_; apply opv_pickF; exact rfl; refine bF ?_; (with_reducible exact nne); exact rfl; exact rfl; refine wq_nil fun w1 hw1 => ?_
    refine we_seq ?_; apply wc_condFb; exact rfl; exact Bool.not_true; refine wc_skip ?_; refine we_block_norm ?_; refine we_seq ?_; refine wc_region ?_; apply wl_val; apply opv_bin; exact rfl; exact rfl; exact bin_add64 (by omega); exact rfl; refine wl_mv rfl rfl ?_; refine wl_nil ?_
    exact we_loop _ ((goodL l).length - (k + 1)) ⟨k + 1, rfl, by omega, ((hs.below hw1).drop 0 rfl).drop 0 rfl, rfl⟩ (by omega) ⟨rfl, rfl, rfl, rfl, rfl, rfl, rfl, rfl, rfl, by rw [show ((k + 1 : Nat) : Int) = (k : Int) + 1 by omega]; rfl, trivial⟩
end Go.Proofs.Ytdgagffieobiiaa

/-
  How an argument that is a list of lists of bytes is read.
-/
namespace Go.Proofs.Ytdgagffieobiiaa
open Go.RowKit Go.ChangeShapes Go.WideShapes Go.ChangeAt Go.Deep

section
variable {H : Type} {enc : TypeId × Value → H} {W : World} {a0 : Option Addr} {len0 cap0 : Nat} {d0 : DataW H} {p0 : List MemPlace}

end
end Go.Proofs.Ytdgagffieobiiaa
