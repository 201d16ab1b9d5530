/-
  The texts of this proof, joined: Js, Pf, Va, Wb, Wc, Wd, Vb, Vc, Pe, Pg, Pd, Wi, Wj, Wk, Vd, Ve, Vf, Ka, Kb, Kc, Kd, Ke, Yb, Yc, Hf.
-/
import Derived.Test.YtpnckagibkdcpaaMemM4
import Derived.Lib.Hide
import Derived.Test.YtpnckagibkdcpaaMemM1
import Derived.Test.YtpnckagibkdcpaaMemM2
import Derived.Laws.CopyOwn
import Derived.Lib.MakeNoZero
import Derived.Laws.Externs
import Derived.Test.YtpnckagibkdcpaaMemM3

/-
  Walk over the law MergeSame.
-/
namespace Go.Proofs.Ytpnckagibkdcpaa
open Go.RowKit

theorem opv_max {P : Program} {L : FL} {w : World} {x y : Operand} {ats : Array TypeId} {ty : TypeId} {k : IntKind} {a b r : Int} (hx : look L x = some (.int k a)) (hy : look L y = some (.int k b)) (hr : (if a < b then b else a) = r) : OpV P (.call { callee := .builtin .max, args := #[x, y], argTypes := ats }) ty L w (.int k r) w := fun ρ o hρ ho _ => by
  subst hr
  unfold execOp
  simp only [ho, resolve, invoke, builtin, Sem.run_bind, Sem.run_pure, Result.andThen_ok, List.map_toArray, List.map_cons, List.map_nil, hρ x _ hx, hρ y _ hy]
  simp [Builtin.max_, Builtin.max2]
def lastE (l : List En) : Nat := l.foldl (fun a x => max a x.seq) 0
theorem last_take {l : List En} {k : Nat} {x : En} (h : l[k]? = some x) : lastE (l.take (k + 1)) = max (lastE (l.take k)) x.seq := by
  rw [lastE, take_getR h, List.foldl_append]; rfl
theorem last_le {l : List En} : ∀ x ∈ l, x.seq ≤ lastE l := by
  have key : ∀ (l : List En) (a : Nat), a ≤ l.foldl (fun a x => max a x.seq) a ∧ ∀ x ∈ l, x.seq ≤ l.foldl (fun a x => max a x.seq) a := by
    intro l
    induction l with
    | nil => intro a; simp
    | cons y l ih =>
      intro a
      obtain ⟨h1, h2⟩ := ih (max a y.seq)
      rw [List.foldl_cons]
      refine ⟨by omega, fun x hx => ?_⟩
      rw [List.mem_cons] at hx
      rcases hx with rfl | hx
      · omega
      · exact h2 x hx
  exact (key l 0).2
theorem last_lt {l : List En} (h : ∀ x ∈ l, x.seq < 2 ^ 64) : lastE l < 2 ^ 64 := by
  have key : ∀ (l : List En) (a : Nat), (∀ x ∈ l, x.seq < 2 ^ 64) → a < 2 ^ 64 → l.foldl (fun a x => max a x.seq) a < 2 ^ 64 := by
    intro l
    induction l with
    | nil => intro a _ h; exact h
    | cons y l ih =>
      intro a h ha
      have := h y List.mem_cons_self
      exact ih _ (fun x hx => h x (List.mem_cons_of_mem _ hx)) (show max a y.seq < 2 ^ 64 by omega)
  exact key l 0 h (by omega)
theorem sorted_mem {l : List En} {p : En → Prop} (h : ∀ x ∈ l, p x) : (sortedE l).length ≤ l.length ∧ ∀ x ∈ sortedE l, p x := by
  have := fold_facts h l.length
  rw [List.take_length] at this
  exact this
set_option maxRecDepth 8000 in
theorem same_any {A B : Option Addr} {n c nb cb : Nat} {l0 : List En} {bt : Bool} {ms : List Nat} {w : World} (hr : RdR 4 w All A (l0.map enEl)) (hn : l0.length = n) (hc : n ≤ c) (hsq : ∀ x ∈ l0, x.seq < 2 ^ 64) (hl : sumB enB l0 ≤ 1048576) (hm0 : RdR 1 w All B (ms.map uEl)) (hnb : ms.length = nb) (hcb : nb ≤ cb) (_hms : ∀ m ∈ ms, m < 2 ^ 64) (hml : (sumB (fun _ => 0) ms : Nat) ≤ 1048576) :
    CallsV Try.prog 6 #[.slice A n c, .bool bt, .slice B nb cb] w (RetTr w) := by
  obtain ⟨hl1, hok1⟩ := ent_small hl
  have hm := rd_u64s hm0
  have hml1 := sumB_len (bulk := fun _ : Nat => 0) ms
  subst hnb
  have hs := St.init w
  refine calls_in (N := _) Try.func6 rfl Try.ntmps6 rfl ?_; show WC _ _ _ _ _ _
  refine wc_sr ?_; refine wl_as rfl rfl ?_; refine wl_ns ?_; refine wc_seq ?_; refine wc_sr ?_
  refine wl_call ok_caissonlaw11_awake (awake_any _) trivial rfl ?_; rintro _ _ ⟨rfl, hbx⟩; replace hs := hs.below hbx; try dsimp only [List.cons_append, List.nil_append, setC, delC] at hs
  apply wl_val; apply opv_not; exact rfl; exact rfl; refine wl_ns ?_; apply wc_condFb; exact rfl; exact Bool.not_true; refine wc_skip ?_; refine we_seq ?_; refine wc_sr ?_; refine wl_mv rfl rfl ?_
  refine wl_call ok_caissonlaw11_few (few_any (m := 40) hn hc) ⟨rfl, rfl, trivial⟩ rfl ?_; rintro _ _ ⟨rfl, rfl⟩
  have hr2 := take_rdr (m := 40) hr (by omega)
  have hokA : ∀ x ∈ l0.take 40, (x.key.length ≤ 1048576 ∧ x.val.length ≤ 1048576) ∧ x.seq < 2 ^ 64 := fun x hx => ⟨hok1 x (few_mem hx), hsq x (few_mem hx)⟩
  have hlen : (l0.take 40).length ≤ 40 := by rw [List.length_take]; omega
  obtain ⟨k, hk⟩ : ∃ q, l0.take 40 = q := ⟨_, rfl⟩
  rw [hk] at hr2 hokA hlen
  rw [hk]
  clear hr hok1 hsq hk
  refine wl_call ok_caissonref07_Sorted (sorted_any (hr2.below hs.bel) rfl (fun x hx => by have := (hokA x hx).1; simp only [maxLen]; omega) (by omega)) ⟨rfl, trivial⟩ rfl ?_
  rintro _ w2 ⟨P, cp, rfl, hcp, hl2, hbx2⟩
  obtain ⟨hsl, hsm⟩ := sorted_mem hokA
  obtain ⟨hord, hchk⟩ := sorted_ok k
  have hlast := last_lt fun x hx => (hsm x hx).2
  have hle := last_le (l := sortedE k)
  have hlaw := same_law hord hchk bt ms
  have hwst := worst_of hord hchk
  obtain ⟨l, hld⟩ : ∃ q, sortedE k = q := ⟨_, rfl⟩
  rw [hld] at hl2 hsl hsm hord hchk hlast hle hlaw hwst hcp
  rw [hld]
  have hbw2 := hs.bel.trans (hbx2.mono hs.size)
  have hm2 := hm.below hbw2
  have hl2 := hl2.all
  have hok : ∀ x ∈ l, x.key.length ≤ 1048576 ∧ x.val.length ≤ 1048576 := fun x hx => (hsm x hx).1
  clear hs hbx hld hm hm0
  have hs := St.init w2
  refine wl_as rfl rfl ?_; refine wl_ns ?_; refine wc_sr ?_; refine wl_mv rfl rfl ?_
  refine wl_call ok_caissonref07_Twins (twinsE_any (hl2.below hs.bel) rfl (fun x hx => by have := hok x hx; omega) (by omega)) ⟨rfl, trivial⟩ rfl ?_
  rintro _ w3 ⟨D, d, rfl, hB, hbx3⟩
  replace hs := hs.newG hbx3 hB (Nat.le_refl _) fun _ _ h => h
  have hBl := OwR.len_le hB
  rw [List.length_map] at hBl
  refine wl_mv rfl rfl ?_
  refine ws_bs (vs := []) hs tyQ trivial rfl (by decide) rfl ?_
  clear hs; intro E0 w4 hs
  refine wl_mv rfl rfl ?_
  refine ws_app (ys := u64s ms) (m := ms.length) hs 0 rfl rfl tyQ rfl (hm2.below hs.bel) (u64s_one ms) (by omega) (by simp only [maxLen]; omega) rfl ?_
  clear hs; intro E1 c1 w5 hs; dsimp only [setC] at hs
  rw [List.nil_append, Nat.zero_add] at hs
  rw [Nat.zero_add]
  refine wl_call ok_merge_Keep (keep_any (bt := bt) (ms := ms) (OwR.rd (hs.rg 1 rfl)) rfl hBl (hs.ow 0 rfl).rd (fun x hx => by have := hok x hx; omega) (by omega) (by omega)) ⟨rfl, rfl, rfl, trivial⟩ rfl ?_
  rintro _ w6 ⟨Q, cq, rfl, hsx⟩
  replace hs := ((hs.drop 0 rfl).drop 0 rfl).call hsx
  dsimp only [delC, List.cons_append, List.nil_append] at hs
  rw [hwst, if_pos rfl] at hs
  rw [hwst, if_pos rfl]
  obtain ⟨hsub, hw0, hagain, hvis⟩ := hlaw
  obtain ⟨kk, hkk⟩ : ∃ q, keepE l bt ms = q := ⟨_, rfl⟩
  rw [hkk] at hs hsub hw0 hagain hvis
  rw [hkk]
  have hkl : kk.length ≤ l.length := hsub.length_le
  have hkl' : ¬ (l.length : Int) < (kk.length : Int) := by omega
  have hokk : ∀ x ∈ kk, x.key.length ≤ 1048576 ∧ x.val.length ≤ 1048576 := fun x hx => hok x (hsub.subset hx)
  have hkq : kk.length ≤ cq := by have := OwR.len_le (hs.rsE 0 rfl); simpa using this
  refine wl_mv rfl rfl ?_; apply wl_val; apply opv_extract; exact rfl; exact rfl; exact rfl; apply wl_val; apply opv_extract; exact rfl; exact rfl; exact rfl; refine wl_as rfl rfl ?_; refine wl_as rfl rfl ?_; refine wl_ns ?_; refine wc_seq ?_; refine wc_sr ?_; refine wl_mv rfl rfl ?_; refine wl_bin rfl rfl bin_neq rfl ?_; refine wl_mv rfl rfl ?_; apply wl_take; exact rfl; exact rfl; exact rfl; refine bF ?_; omega; refine wl_mv rfl rfl ?_; apply wl_take; exact rfl; exact rfl; exact rfl; refine bF ?_; omega; apply wl_val; apply opv_len; exact rfl; exact tkE.sl; exact rfl; apply wl_take; exact rfl; exact rfl; exact rfl; refine bF ?_; omega; refine wl_mv rfl rfl ?_; apply wl_take; exact rfl; exact rfl; exact rfl; refine bF ?_; omega; apply wl_val; apply opv_len; exact rfl; exact tkE.sl; exact rfl; apply wl_take; exact rfl; exact rfl; exact rfl; refine bF ?_; omega; refine wl_bin rfl rfl bin_gtr rfl ?_; apply wl_val; apply opv_pickF; exact rfl; refine bF ?_; omega; exact rfl; exact rfl; refine wl_ns ?_; apply wc_decF; exact rfl; (with_reducible assumption); refine wc_skip ?_; refine we_seq ?_; refine wc_sr ?_; refine wl_as rfl rfl ?_; refine wl_ns ?_; refine wc_seq ?_; refine wc_sr ?_; refine wl_mv rfl rfl ?_; apply wl_val; apply opv_len; exact rfl; exact tkE.sl; exact rfl; refine wl_mv rfl rfl ?_; refine wl_ns ?_; refine wc_block ?_
  refine wc_loop (fun L wr mm => ∃ (j : Nat), L = [(0, .slice P l.length cp), (1, .bool bt), (2, .slice B ms.length cb), (7, .slice Q kk.length cq), (9, .int .u64 (lastE (l.take j) : Nat)), (43, .slice P l.length cp), (44, .int .i64 (l.length : Int)), (45, .int .i64 (j : Int))] ∧ j ≤ l.length ∧ St NoB w2 wr [.ck (rsC 4 56 Q cq (kk.map oE))] ∧ mm = l.length - j)
    [(0, .slice P l.length cp), (1, .bool bt), (2, .slice B ms.length cb), (7, .slice Q kk.length cq), (9, .int .u64 (0 : Nat)), (43, .slice P l.length cp), (44, .int .i64 (l.length : Int)), (45, .int .i64 (0 : Nat))] l.length ⟨0, rfl, by omega, hs, rfl⟩ ⟨rfl, rfl, rfl, rfl, rfl, rfl, rfl, rfl, trivial⟩ ?_
  clear hs
  rintro _ w7 mm ⟨j, rfl, hj, hs, rfl⟩
  refine wc_sr ?_; refine wl_bin rfl rfl bin_lss rfl ?_; refine wl_ns ?_; refine wc_seq ?_
  refine wc_cond rfl (fun h1 => ?_) (fun h1 => ?_)
  · obtain ⟨x, hx⟩ : ∃ x, l[j]? = some x := ⟨_, List.getElem?_eq_getElem (by omega)⟩
    obtain ⟨b, o, cs, rfl, _, _, hp, i1⟩ := RdR.at (k := 4) (by decide) hl2 (E := enEl x) (i := j) (by rw [List.getElem?_map, hx]; rfl)
    obtain ⟨U, cu, U2, cu2, rfl, _⟩ := enEl.rd hp
    have hlt := last_take hx
    replace i1 := i1.below hs.bel
    refine wc_skip ?_; refine we_seq ?_; refine wc_seq ?_; refine wc_block ?_; refine wc_sr ?_; apply wl_val; apply opv_idxG tkE; exact rfl; exact rfl; exact rfl; omega; exact rfl; apply wl_val; apply opv_ldG; exact rfl; assumption; exact sE; exact rfl
    refine ws_new hs zeroE rfl ?_; clear hs; intro g11 _ hs
    apply ws_stS hs 0; exact rfl; exact rfl; exact rfl; exact sE; exact rfl; exact rfl; clear hs; intro _ hs; dsimp only [setC] at hs; refine wl_ns ?_; refine wc_region ?_; refine wl_mv rfl rfl ?_; apply wl_val; apply opv_fa; exact fa_sE (by decide); exact rfl; exact rfl; apply wl_val; apply opv_ldX; exact rfl; exact hs.ar 0 rfl; exact e1_u64; exact rfl; exact rfl
    unfold enV at hs
    skip
    refine wl_val (opv_max (r := (lastE (l.take (j + 1)) : Nat)) rfl rfl (by rw [hlt]; split <;> omega)) rfl ?_
    refine wl_as rfl rfl ?_; refine wl_nil ?_; refine we_block_norm ?_; refine we_seq ?_; refine wc_region ?_; apply wl_val; apply opv_bin; exact rfl; exact rfl; exact bin_add64 (by omega); exact rfl; refine wl_mv rfl rfl ?_; refine wl_nil ?_
    refine we_loop _ (l.length - (j + 1)) ⟨j + 1, rfl, by omega, hs.drop 0 rfl, rfl⟩ (by omega) ⟨rfl, rfl, rfl, rfl, rfl, rfl, rfl, by simp [lookT], trivial⟩
  obtain rfl : j = l.length := by omega
  rw [List.take_length]
  obtain ⟨la, hla⟩ : ∃ q, lastE l = q := ⟨_, rfl⟩
  rw [hla] at hlast hle
  rw [hla]
  refine wc_exit ?_; refine we_seq_exit ?_; refine we_loop_exit ?_; refine we_block_exit ?_; refine we_seq ?_; refine wc_seq ?_; refine wc_sr ?_; refine wl_mv rfl rfl ?_
  refine ws_bs (vs := [.int .u64 (la : Int), .int .u64 18446744073709551615]) hs tyQ ⟨rfl, rfl, rfl, rfl, rfl, rfl, trivial⟩ rfl (by decide) rfl ?_
  clear hs; intro G0 w8 hs
  refine wl_mv rfl rfl ?_
  refine ws_app (ys := u64s ms) (m := ms.length) hs 0 rfl rfl tyQ rfl (hm2.below hs.bel) (u64s_one ms) (by omega) (by simp only [maxLen]; omega) rfl ?_
  clear hs; intro G1 d1 w9 hs; dsimp only [setC] at hs
  have hms2 : ([.int .u64 (la : Int), .int .u64 18446744073709551615] ++ u64s ms : List Value) = u64s (la :: 18446744073709551615 :: ms) := rfl
  have hgood : ∀ m ∈ la :: 18446744073709551615 :: ms, m ∈ ms ∨ ∀ x ∈ l, x.seq ≤ m := fun m hm => by
    rw [List.mem_cons, List.mem_cons] at hm
    rcases hm with rfl | rfl | hm
    · exact .inr hle
    · exact .inr fun x hx => by have := (hsm x hx).2; omega
    · exact .inl hm
  have hmsl : (la :: 18446744073709551615 :: ms).length = 2 + ms.length := by simp; omega
  rw [hms2] at hs
  clear hms2
  obtain ⟨ms2, hms2⟩ : ∃ q, la :: 18446744073709551615 :: ms = q := ⟨_, rfl⟩
  rw [hms2] at hs hgood hmsl
  rw [← hmsl] at hs
  rw [← hmsl]
  apply wl_val; apply opv_len; exact rfl; exact tyQ.sl; exact rfl; refine wl_mv rfl rfl ?_; refine wl_ns ?_; refine wc_block ?_
  refine wc_loop (fun L wr mm => ∃ (j : Nat), L = [(0, .slice P l.length cp), (1, .bool bt), (2, .slice B ms.length cb), (7, .slice Q kk.length cq), (57, .slice G1 ms2.length d1), (58, .int .i64 (ms2.length : Int)), (59, .int .i64 (j : Int))] ∧ j ≤ ms2.length ∧ St NoB w2 wr [.ow 26 G1 ms2.length d1 (u64s ms2), .ck (rsC 4 56 Q cq (kk.map oE))] ∧ mm = ms2.length - j)
    [(0, .slice P l.length cp), (1, .bool bt), (2, .slice B ms.length cb), (7, .slice Q kk.length cq), (57, .slice G1 ms2.length d1), (58, .int .i64 (ms2.length : Int)), (59, .int .i64 (0 : Nat))] ms2.length ⟨0, rfl, by omega, hs, rfl⟩ ⟨rfl, rfl, rfl, rfl, rfl, rfl, rfl, trivial⟩ ?_
  clear hs h1 hj
  rintro _ w10 mm ⟨j, rfl, hj, hs, rfl⟩
  refine wc_sr ?_; refine wl_bin rfl rfl bin_lss rfl ?_; refine wl_ns ?_; refine wc_seq ?_
  refine wc_cond rfl (fun h1 => ?_) (fun h1 => ?_)
  · obtain ⟨m, hx⟩ : ∃ m, ms2[j]? = some m := ⟨_, List.getElem?_eq_getElem (by omega)⟩
    have hum := u64s_get hx
    have hmw := (hs.ow 0 rfl).rd
    have hgm := hvis m (hgood m (List.mem_of_getElem? hx))
    refine wc_skip ?_; refine we_seq ?_; refine wc_seq ?_; refine wc_block ?_; refine wc_sr ?_; apply wl_elK (T := tyQ) (hr := hmw) (hb := hum); exact rfl; exact rfl; exact rfl; exact rfl; exact rfl; intro _; refine wl_as rfl rfl ?_; refine wl_ns ?_; refine wc_sr ?_; refine wl_mv rfl rfl ?_; refine wl_mv rfl rfl ?_
    refine wl_call ok_merge_Visible (visible_any (m := m) (hl2.below hs.bel) rfl hcp (fun x hx => by have := hok x hx; omega) (by omega)) ⟨rfl, rfl, trivial⟩ rfl ?_
    rintro _ w11 ⟨V, cv, rfl, hsx⟩
    replace hs := hs.call hsx
    dsimp only [List.cons_append, List.nil_append] at hs
    rw [hwst, if_pos rfl] at hs
    rw [hwst, if_pos rfl]
    refine wl_mv rfl rfl ?_; apply wl_val; apply opv_extract; exact rfl; exact rfl; exact rfl; apply wl_val; apply opv_extract; exact rfl; exact rfl; exact rfl; refine wl_as rfl rfl ?_; refine wl_as rfl rfl ?_; refine wl_ns ?_; refine wc_sr ?_; refine wl_mv rfl rfl ?_; refine wl_mv rfl rfl ?_
    refine wl_call ok_merge_Visible (visible_any (m := m) (OwR.rd (hs.rsE 2 rfl)) rfl hkq (fun x hx => by have := hokk x hx; omega) (by omega)) ⟨rfl, rfl, trivial⟩ rfl ?_
    rintro _ w12 ⟨V2, cv2, rfl, hsx⟩
    replace hs := hs.call hsx
    dsimp only [List.cons_append, List.nil_append] at hs
    rw [hw0, if_pos rfl, hgm] at hs
    rw [hw0, if_pos rfl, hgm]
    have hvl : (visE l m).length ≤ 40 := by
      have := filterMap_len (visR m) (runsE l)
      have := (runsE_facts l).1
      show ((runsE l).filterMap (visR m)).length ≤ 40
      omega
    have hvm : ∀ x ∈ visE l m, x ∈ l := fun x hx => by rw [vis_eq hord] at hx; exact (List.mem_filter.1 hx).1
    refine wl_mv rfl rfl ?_; apply wl_val; apply opv_extract; exact rfl; exact rfl; exact rfl; apply wl_val; apply opv_extract; exact rfl; exact rfl; exact rfl; refine wl_as rfl rfl ?_; refine wl_as rfl rfl ?_; refine wl_ns ?_; refine wc_sr ?_; refine wl_mv rfl rfl ?_; refine wl_bin rfl rfl bin_neq rfl ?_; refine wl_mv rfl rfl ?_; apply wl_take; exact rfl; exact rfl; exact rfl; refine bF ?_; omega; refine wl_mv rfl rfl ?_; apply wl_take; exact rfl; exact rfl; exact rfl; refine bF ?_; omega; refine wl_bin rfl rfl bin_neq rfl ?_; apply wl_val; apply opv_pickF; exact rfl; refine bF ?_; omega; exact rfl; exact rfl; refine wl_mv rfl rfl ?_; apply wl_take; exact rfl; exact rfl; exact rfl; refine bF ?_; omega; refine wl_mv rfl rfl ?_; apply wl_take; exact rfl; exact rfl; exact rfl; refine bF ?_; omega; refine wl_mv rfl rfl ?_; apply wl_take; exact rfl; exact rfl; exact rfl; refine bF ?_; omega
    refine wl_call ok_caissonref07_SameList (sameListE_any (OwR.rd (hs.rsE 1 rfl)) (OwR.rd (hs.rsE 0 rfl)) rfl rfl (fun x hx => by have := hok x (hvm x hx); simp only [maxLen]; omega) (by omega) (by omega)) ⟨rfl, rfl, trivial⟩ rfl ?_
    rintro _ w13 ⟨⟨b, rfl, hb⟩, hbx7⟩
    obtain rfl := hb.2 rfl
    replace hs := hs.below hbx7
    apply wl_take; exact rfl; exact rfl; exact rfl; refine bF ?_; omega; apply wl_val; apply opv_not; exact rfl; exact rfl; apply wl_val; apply opv_pickF; exact rfl; refine bF ?_; omega; exact rfl; exact rfl; refine wl_ns ?_; apply wc_condFb; exact rfl; exact Bool.not_true; refine wc_skip ?_; refine we_block_norm ?_; refine we_seq ?_; refine wc_region ?_; apply wl_val; apply opv_bin; exact rfl; exact rfl; exact bin_add64 (by omega); exact rfl; refine wl_mv rfl rfl ?_; refine wl_nil ?_
    refine we_loop _ (ms2.length - (j + 1)) ⟨j + 1, rfl, by omega, (hs.drop 0 rfl).drop 0 rfl, rfl⟩ (by omega) ⟨rfl, rfl, rfl, rfl, rfl, rfl, by simp [lookT], trivial⟩
  replace hs := hs.drop 0 rfl
  dsimp only [delC] at hs
  refine wc_exit ?_; refine we_seq_exit ?_; refine we_loop_exit ?_; refine we_block_exit ?_; refine we_seq ?_; refine wc_sr ?_; refine wl_mv rfl rfl ?_; refine wl_mv rfl rfl ?_
  refine ws_bs (vs := []) hs tyQ trivial rfl (by decide) rfl ?_
  clear hs; intro F0 w14 hs
  refine wl_mv rfl rfl ?_
  refine ws_app (ys := u64s ms) (m := ms.length) hs 0 rfl rfl tyQ rfl (hm2.below hs.bel) (u64s_one ms) (by omega) (by simp only [maxLen]; omega) rfl ?_
  clear hs; intro F1 f1 w15 hs; dsimp only [setC] at hs
  rw [List.nil_append, Nat.zero_add] at hs
  rw [Nat.zero_add]
  refine wl_call ok_merge_Keep (keep_any (bt := bt) (ms := ms) (OwR.rd (hs.rsE 1 rfl)) rfl hkq (hs.ow 0 rfl).rd (fun x hx => by have := hokk x hx; omega) (by omega) (by omega)) ⟨rfl, rfl, rfl, trivial⟩ rfl ?_
  rintro _ w16 ⟨Q2, cq2, rfl, hsx⟩
  replace hs := hs.call hsx
  dsimp only [List.cons_append, List.nil_append] at hs
  rw [hw0, if_pos rfl, hagain] at hs
  rw [hw0, if_pos rfl, hagain]
  refine wl_mv rfl rfl ?_; apply wl_val; apply opv_extract; exact rfl; exact rfl; exact rfl; apply wl_val; apply opv_extract; exact rfl; exact rfl; exact rfl; refine wl_as rfl rfl ?_; refine wl_as rfl rfl ?_; refine wl_ns ?_; refine wc_sr ?_; refine wl_mv rfl rfl ?_; refine wl_bin rfl rfl bin_eql rfl ?_; refine wl_mv rfl rfl ?_; apply wl_take; exact rfl; exact rfl; exact rfl; refine bT ?_; omega; refine wl_mv rfl rfl ?_; apply wl_take; exact rfl; exact rfl; exact rfl; refine bT ?_; omega; refine wl_mv rfl rfl ?_; apply wl_take; exact rfl; exact rfl; exact rfl; refine bT ?_; omega
  refine wl_call ok_caissonref07_SameList (sameListE_any (OwR.rd (hs.rsE 0 rfl)) (OwR.rd (hs.rsE 2 rfl)) rfl rfl (fun x hx => by have := hokk x hx; simp only [maxLen]; omega) (by omega) (by omega)) ⟨rfl, rfl, trivial⟩ rfl ?_
  rintro _ w17 ⟨⟨b, rfl, hb⟩, hbx7⟩
  obtain rfl := hb.2 rfl
  replace hs := hs.below hbx7
  apply wl_val; apply opv_pickT; exact rfl; refine bT ?_; omega; exact rfl; exact rfl; refine wl_as rfl rfl ?_; refine wl_ns ?_; refine wc_ret ?_
  exact we_ret1 rfl rfl ⟨_, rfl, rfl, hbw2.trans (hs.bel.mono hbw2.size)⟩
end Go.Proofs.Ytpnckagibkdcpaa


/-
  Plain laws of the sum: what a step of the division does, that it keeps differences, and that no change within 32 bits of one another goes unseen. No program in sight.
-/
namespace Go.Proofs.Ytpnckagibkdcpaa

def stepC (x : Nat) : Nat := if x % 2 = 1 then (x / 2) ^^^ 3988292384 else x / 2
def stepsC : Nat → Nat → Nat
  | 0, x => x
  | k + 1, x => stepsC k (stepC x)
def eightC (x : Nat) : Nat := stepsC 8 x
def crcRaw (x : Nat) (l : List UInt8) : Nat := l.foldl (fun x b => eightC (x ^^^ b.toNat)) x
def crcOf (l : List UInt8) : Nat := 4294967295 - crcRaw 4294967295 l

theorem stepC_odd {x : Nat} (h : x % 2 = 1) : stepC x = (x / 2) ^^^ 3988292384 := by rw [stepC, if_pos h]
theorem stepC_even {x : Nat} (h : ¬ x % 2 = 1) : stepC x = x / 2 := by rw [stepC, if_neg h]
theorem xor_div2 (a b : Nat) : (a ^^^ b) / 2 = a / 2 ^^^ b / 2 := by
  have := Nat.shiftRight_xor_distrib (a := a) (b := b) (i := 1)
  simpa [Nat.shiftRight_succ] using this
theorem xor_mod2 (a b : Nat) : (a ^^^ b) % 2 = (a + b) % 2 := by
  have h := Nat.testBit_xor a b 0
  simp only [Nat.testBit_zero] at h
  rcases Nat.mod_two_eq_zero_or_one a with ha | ha <;> rcases Nat.mod_two_eq_zero_or_one b with hb | hb <;> rcases Nat.mod_two_eq_zero_or_one (a ^^^ b) with hc | hc <;> simp [ha, hb, hc] at h <;> omega
theorem step_xor (a b : Nat) : stepC (a ^^^ b) = stepC a ^^^ stepC b := by
  have hm := xor_mod2 a b
  have hd := xor_div2 a b
  by_cases ha : a % 2 = 1
  · by_cases hb : b % 2 = 1
    · rw [stepC_even (by omega), stepC_odd ha, stepC_odd hb, hd]
      rw [Nat.xor_assoc, Nat.xor_comm 3988292384 (b / 2 ^^^ 3988292384), Nat.xor_assoc, Nat.xor_self, Nat.xor_zero]
    · rw [stepC_odd (by omega), stepC_odd ha, stepC_even hb, hd]
      rw [Nat.xor_assoc, Nat.xor_assoc, Nat.xor_comm (b / 2)]
  · by_cases hb : b % 2 = 1
    · rw [stepC_odd (by omega), stepC_even ha, stepC_odd hb, hd, Nat.xor_assoc]
    · rw [stepC_even (by omega), stepC_even ha, stepC_even hb, hd]
theorem steps_xor : ∀ (k a b : Nat), stepsC k (a ^^^ b) = stepsC k a ^^^ stepsC k b
  | 0, _, _ => rfl
  | k + 1, a, b => by simp only [stepsC]; rw [step_xor, steps_xor k]
theorem steps_add : ∀ (k m a : Nat), stepsC (k + m) a = stepsC m (stepsC k a)
  | 0, m, a => by rw [Nat.zero_add]; rfl
  | k + 1, m, a => by rw [show k + 1 + m = (k + m) + 1 by omega]; simp only [stepsC]; rw [steps_add k m]
theorem steps_zero : ∀ (k : Nat), stepsC k 0 = 0
  | 0 => rfl
  | k + 1 => by simp only [stepsC]; rw [show stepC 0 = 0 from rfl, steps_zero k]
theorem step_lt {x : Nat} (h : x < 4294967296) : stepC x < 4294967296 := by
  unfold stepC
  split
  · exact Nat.xor_lt_two_pow (n := 32) (by omega) (by decide)
  · omega
theorem steps_lt : ∀ (k : Nat) {x : Nat}, x < 4294967296 → stepsC k x < 4294967296
  | 0, _, h => h
  | k + 1, _, h => steps_lt k (step_lt h)
theorem steps_shift : ∀ (k m : Nat), stepsC k (m * 2 ^ k) = m
  | 0, m => by simp [stepsC]
  | k + 1, m => by
    have e : m * 2 ^ (k + 1) = 2 * (m * 2 ^ k) := by rw [Nat.pow_succ, ← Nat.mul_assoc, Nat.mul_comm]
    simp only [stepsC]
    rw [e, stepC_even (by omega), Nat.mul_div_cancel_left _ (by decide), steps_shift k]
theorem step_ne {x : Nat} (h : x < 4294967296) (h0 : x ≠ 0) : stepC x ≠ 0 := by
  intro hc
  by_cases ho : x % 2 = 1
  · rw [stepC_odd ho] at hc
    have e : x / 2 = 3988292384 := by
      have := congrArg (· ^^^ 3988292384) hc
      simpa [Nat.xor_assoc] using this
    omega
  · rw [stepC_even ho] at hc; omega
theorem steps_ne : ∀ (k : Nat) {x : Nat}, x < 4294967296 → x ≠ 0 → stepsC k x ≠ 0
  | 0, _, _, h => h
  | k + 1, _, h, h0 => steps_ne k (step_lt h) (step_ne h h0)
/-- A burst of 32 bits, wherever it begins, is never lost. -/
theorem burst_ne {n a d : Nat} (hd : d < 4294967296) (h0 : d ≠ 0) (ha : a ≤ n) : stepsC n (d * 2 ^ a) ≠ 0 := by
  obtain ⟨m, rfl⟩ := Nat.exists_eq_add_of_le ha
  rw [steps_add, steps_shift]
  exact steps_ne m hd h0
theorem xor_low (q r : Nat) (hr : r < 256) : q * 256 ^^^ r = q * 256 + r := by
  have h1 : (q * 256 ^^^ r) / 256 = q := by
    have := Nat.shiftRight_xor_distrib (a := q * 256) (b := r) (i := 8)
    simp only [Nat.shiftRight_eq_div_pow] at this
    rw [show (2 : Nat) ^ 8 = 256 from rfl, Nat.mul_div_cancel _ (by decide), Nat.div_eq_of_lt hr, Nat.xor_zero] at this
    exact this
  have h2 : (q * 256 ^^^ r) % 256 = r := by
    have := Nat.xor_mod_two_pow (a := q * 256) (b := r) (n := 8)
    rw [show (2 : Nat) ^ 8 = 256 from rfl, Nat.mul_mod_left, Nat.zero_xor, Nat.mod_eq_of_lt hr] at this
    exact this
  omega
theorem eight_high (q : Nat) : eightC (q * 256) = q := steps_shift 8 q
/-- A byte's entry does for it. -/
theorem eight_split (x : Nat) (b : UInt8) : eightC (x ^^^ b.toNat) = x / 256 ^^^ eightC (x % 256 ^^^ b.toNat) := by
  have e : x = x / 256 * 256 ^^^ x % 256 := by rw [xor_low _ _ (Nat.mod_lt _ (by decide))]; omega
  have e2 : eightC (x ^^^ b.toNat) = eightC (x / 256 * 256 ^^^ (x % 256 ^^^ b.toNat)) := by
    rw [← Nat.xor_assoc, ← e]
  rw [e2]
  unfold eightC
  rw [steps_xor]
  congr 1
  exact eight_high (x / 256)
theorem eight_lt {x : Nat} (h : x < 4294967296) : eightC x < 4294967296 := steps_lt 8 h
theorem xorb_lt {x : Nat} (h : x < 4294967296) (b : UInt8) : x ^^^ b.toNat < 4294967296 :=
  Nat.xor_lt_two_pow (n := 32) h (Nat.lt_trans b.toNat_lt (by decide))
theorem raw_cons (x : Nat) (b : UInt8) (l : List UInt8) : crcRaw x (b :: l) = crcRaw (eightC (x ^^^ b.toNat)) l := rfl
theorem raw_snoc (x : Nat) (b : UInt8) (l : List UInt8) : crcRaw x (l ++ [b]) = eightC (crcRaw x l ^^^ b.toNat) := by simp [crcRaw]
theorem raw_append (x : Nat) (l m : List UInt8) : crcRaw x (l ++ m) = crcRaw (crcRaw x l) m := by simp [crcRaw]
theorem raw_lt : ∀ (l : List UInt8) {x : Nat}, x < 4294967296 → crcRaw x l < 4294967296
  | [], _, h => h
  | b :: l, _, h => raw_lt l (eight_lt (xorb_lt h b))
theorem crcOf_lt (l : List UInt8) : crcOf l < 4294967296 := by unfold crcOf; omega

/-- Bytes as one number, the lowest first. -/
def low : List UInt8 → Nat
  | [] => 0
  | b :: l => low l * 256 + b.toNat
theorem raw_low : ∀ (l : List UInt8) (x : Nat), crcRaw x l = stepsC (8 * l.length) (x ^^^ low l)
  | [], x => by simp [crcRaw, low, stepsC]
  | b :: l, x => by
    have hb := b.toNat_lt
    rw [raw_cons, raw_low l, List.length_cons, show 8 * (l.length + 1) = 8 + 8 * l.length by omega, steps_add]
    congr 1
    rw [low, ← xor_low _ _ hb, Nat.xor_comm (low l * 256), ← Nat.xor_assoc, steps_xor]
    congr 1
    exact (eight_high _).symm
theorem raw_diff (x : Nat) {l m : List UInt8} (h : l.length = m.length) : crcRaw x l ^^^ crcRaw x m = stepsC (8 * l.length) (low l ^^^ low m) := by
  rw [raw_low, raw_low, ← h, ← steps_xor]
  congr 1
  rw [Nat.xor_comm x (low l), Nat.xor_assoc, ← Nat.xor_assoc x x, Nat.xor_self, Nat.zero_xor]
theorem low_set : ∀ (l : List UInt8) (i j : Nat) (x : UInt8), l[i]? = some x → j < 8 → low (l.set i (UInt8.ofNat (x.toNat ^^^ 2 ^ j))) = low l ^^^ 2 ^ (8 * i + j)
  | [], _, _, _, h, _ => by simp at h
  | b :: l, 0, j, x, h, hj => by
    simp only [List.getElem?_cons_zero, Option.some.injEq] at h
    subst h
    have hp : 2 ^ j < 256 := Nat.lt_of_lt_of_le (Nat.pow_lt_pow_right (by decide) hj) (by decide)
    have hx : b.toNat ^^^ 2 ^ j < 256 := Nat.xor_lt_two_pow (n := 8) b.toNat_lt hp
    simp only [List.set_cons_zero, low]
    have ex : (UInt8.ofNat (b.toNat ^^^ 2 ^ j)).toNat = b.toNat ^^^ 2 ^ j := by rw [UInt8.toNat_ofNat']; exact Nat.mod_eq_of_lt hx
    rw [ex, ← xor_low _ _ hx, ← xor_low _ _ b.toNat_lt, Nat.xor_assoc]
    simp
  | b :: l, i + 1, j, x, h, hj => by
    simp only [List.getElem?_cons_succ] at h
    simp only [List.set_cons_succ, low]
    rw [low_set l i j x h hj, ← xor_low _ _ b.toNat_lt, ← xor_low _ _ b.toNat_lt]
    have e : (low l ^^^ 2 ^ (8 * i + j)) * 256 = low l * 256 ^^^ 2 ^ (8 * (i + 1) + j) := by
      have h1 : ∀ a b : Nat, (a ^^^ b) * 256 = a * 256 ^^^ b * 256 := fun a b => by
        have := Nat.shiftLeft_xor_distrib (a := a) (b := b) (i := 8)
        simpa only [Nat.shiftLeft_eq] using this
      rw [h1, show 8 * (i + 1) + j = (8 * i + j) + 8 by omega, Nat.pow_add 2 (8 * i + j) 8]
    rw [e, Nat.xor_assoc, Nat.xor_comm (2 ^ (8 * (i + 1) + j)), ← Nat.xor_assoc]
end Go.Proofs.Ytpnckagibkdcpaa


/-
  Walks over the sum's steps, its table and its bitwise answer.
-/
namespace Go.Proofs.Ytpnckagibkdcpaa
open Go.RowKit

theorem fill_upV {α : Type} {l : List α} {z x : α} {k m : Nat} (h : l[k]? = some x) : (l.take k ++ List.replicate (m + 1) z).set k x = l.take (k + 1) ++ List.replicate m z := by
  have hk := (List.getElem?_eq_some_iff.1 h).1
  have e : (l.take k).length = k := by simp; omega
  rw [List.set_append_right _ _ (by omega), e, Nat.sub_self, List.replicate_succ, List.set_cons_zero, List.take_add_one, h]
  simp

/-- The table's cells. -/
def tabC : List Value := (List.range 256).map fun i => .int .u32 (eightC i : Nat)
theorem tabC_length : tabC.length = 256 := by simp [tabC]
theorem tabC_get {k : Nat} (h : k < 256) : tabC[k]? = some (.int .u32 (eightC k : Nat)) := by
  rw [tabC, List.getElem?_map, List.getElem?_range h]; rfl
theorem tabC_one : ∀ v ∈ tabC, v.oneCell' = true := by
  intro v hv
  simp only [tabC, List.mem_map] at hv
  obtain ⟨_, _, rfl⟩ := hv; rfl
theorem tyU : Cell1 Try.prog 128 := ⟨by kernel_rfl, by rw [Try.underlying128]⟩
end Go.Proofs.Ytpnckagibkdcpaa


/-
  Walks over PutU of the program and of the reference, inside, and GetU of both.
-/
namespace Go.Proofs.Ytpnckagibkdcpaa
open Go.RowKit

def PutI (w : World) (n : Nat) (s : Nat) : FL → World → Nat → Prop := fun L wr m =>
  ∃ (pre : List UInt8) (A : Option Addr) (c : Nat), L = [(0, .int .u64 m), (s, .slice A pre.length c)] ∧ OwB wr w.heap.size A c pre ∧ putU n = pre ++ putU m ∧ Below w.heap.size w wr ∧ m < 2 ^ (64 - 7 * pre.length) ∧ 7 * pre.length ≤ 63
theorem PutI.start {w : World} {n s : Nat} (hn : n < 2 ^ 64) : PutI w n s [(0, .int .u64 n), (s, .slice none 0 0)] w n :=
  ⟨[], none, 0, rfl, Ow.nil _ _ _, rfl, Below.refl _ _, hn, by decide⟩
theorem PutI.next {w wr w' : World} {n m s : Nat} {pre : List UInt8} {A A' : Option Addr} {c c' : Nat} {v : Value} (hown : OwB wr w.heap.size A c pre) (heq : putU n = pre ++ putU m) (hbel : Below w.heap.size w wr) (hm : m < 2 ^ (64 - 7 * pre.length)) (hl : 7 * pre.length ≤ 63)
    (h : 128 ≤ m) (ho : Ow w' w.heap.size 5 A' (pre.length + 1) c' (bvs pre ++ [v])) (hg : Gr wr w' A) (hv : bv (UInt8.ofNat (m % 128 + 128)) = v) :
    PutI w n s [(0, .int .u64 (m / 128 : Nat)), (s, .slice A' (pre.length + 1) c')] w' (m / 128) := by
  have h7 : 8 ≤ 64 - 7 * pre.length := by
    rcases Nat.lt_or_ge 7 (64 - 7 * pre.length) with h' | h'
    · exact h'
    · have := Nat.lt_of_lt_of_le hm (Nat.pow_le_pow_right (by decide) h'); omega
  refine ⟨pre ++ [UInt8.ofNat (m % 128 + 128)], A', c', by simp, OwB.snoc ho hv, ?_, hg.below hbel hown (Nat.le_refl _) hbel.size, ?_, ?_⟩
  · rw [heq, putU, if_neg (by omega)]; simp
  · refine Nat.div_lt_of_lt_mul ?_
    rw [show 128 = 2 ^ 7 from rfl, ← Nat.pow_add]
    simp only [List.length_append, List.length_cons, List.length_nil]
    rw [show 7 + (64 - 7 * (pre.length + (0 + 1))) = 64 - 7 * pre.length by omega]
    exact hm
  · simp; omega
theorem PutI.last {w wr w' : World} {n m : Nat} {pre : List UInt8} {A A' : Option Addr} {c c' : Nat} {v : Value} (hown : OwB wr w.heap.size A c pre) (heq : putU n = pre ++ putU m) (hbel : Below w.heap.size w wr)
    (h : m < 128) (ho : Ow w' w.heap.size 5 A' (pre.length + 1) c' (bvs pre ++ [v])) (hg : Gr wr w' A) (hv : bv (UInt8.ofNat m) = v) :
    RetB w (putU n) (.slice A' (pre.length + 1) c') w' := by
  have e : putU n = pre ++ [UInt8.ofNat m] := by rw [heq, putU, if_pos h]
  rw [e]
  exact ⟨A', c', by simp, OwB.snoc ho hv, hg.below hbel hown (Nat.le_refl _) hbel.size⟩

theorem inside_any {A : Option Addr} {n c : Nat} (p : Int) (w : World) : CallsV Try.prog 44 #[.slice A n c, .int .i64 p] w fun v w' => v = .bool (decide (0 ≤ p ∧ p ≤ n)) ∧ w = w' := by
  refine calls_in (N := _) Try.func44 rfl Try.ntmps44 rfl ?_; show WC _ _ _ _ _ _
  refine wc_sr ?_; refine wl_as rfl rfl ?_; refine wl_ns ?_; refine wc_sr ?_; refine wl_mv rfl rfl ?_; refine wl_bin rfl rfl bin_geq rfl ?_; refine wl_mv rfl rfl ?_
  refine wl_cutV 5 12 (.bool (decide ((0 ≤ p) ∧ (p ≤ n)))) ?c1 ?_; (case c1 => (dsimp only [List.take]; by_cases hc0 : (0 ≤ p); (focus (apply wl_take; exact rfl; exact rfl; exact rfl; refine bT ?_; (with_reducible assumption); refine wl_mv rfl rfl ?_; apply wl_take; exact rfl; exact rfl; exact rfl; refine bT ?_; (with_reducible assumption); refine wl_mv rfl rfl ?_; apply wl_take; exact rfl; exact rfl; exact rfl; refine bT ?_; (with_reducible assumption); apply wl_val; apply opv_len; exact rfl; exact tyB.sl; exact rfl; apply wl_take; exact rfl; exact rfl; exact rfl; refine bT ?_; (with_reducible assumption); refine wl_bin rfl rfl bin_leq rfl ?_; apply wl_val; apply opv_pickT; exact rfl; refine bT ?_; (with_reducible assumption); exact rfl; exact rfl; refine wl_nil ?_; refine we_cut _ ⟨rfl, rfl⟩ ⟨congrArg (fun b => some (Value.bool b)) ?e1_0, ?s1_0⟩; (case e1_0 => ((simp [hc0]; done))); (case s1_0 => (refine And.intro rfl ?_; refine And.intro rfl ?_; refine And.intro rfl ?_; refine And.intro rfl ?_; refine And.intro rfl ?_; refine And.intro rfl ?_; exact True.intro)))); (focus (apply wl_skip; exact rfl; exact rfl; exact rfl; refine bFn ?_; (with_reducible assumption); exact rfl; apply wl_skip; exact rfl; exact rfl; exact rfl; refine bFn ?_; (with_reducible assumption); exact rfl; apply wl_skip; exact rfl; exact rfl; exact rfl; refine bFn ?_; (with_reducible assumption); exact rfl; apply wl_skip; exact rfl; exact rfl; exact rfl; refine bFn ?_; (with_reducible assumption); exact rfl; apply wl_val; apply opv_pickF; exact rfl; refine bF ?_; (with_reducible assumption); exact rfl; exact rfl; refine wl_nil ?_; refine we_cut _ ⟨rfl, rfl⟩ ⟨congrArg (fun b => some (Value.bool b)) ?e1_1, ?s1_1⟩; (case e1_1 => ((simp [hc0]; done))); (case s1_1 => (refine And.intro rfl ?_; refine And.intro rfl ?_; refine And.intro rfl ?_; refine And.intro rfl ?_; refine And.intro rfl ?_; refine And.intro rfl ?_; exact True.intro)))))); dsimp only [List.drop]
  refine wl_as rfl rfl ?_; refine wl_ns ?_; refine wc_ret ?_
  exact we_ret1 rfl rfl ⟨_, rfl, rfl, rfl⟩
/-- A number, a place and an error are handed back. -/
def RetN (w : World) (r : Nat × Int × Nat) (v : Value) (w' : World) : Prop := v = .tuple #[.int .u64 (r.1 : Int), .int .i64 r.2.1, .int .i64 (r.2.2 : Int)] ∧ Below w.heap.size w w'

end Go.Proofs.Ytpnckagibkdcpaa


/-
  Walks over OrdText of the program and of the reference.
-/
namespace Go.Proofs.Ytpnckagibkdcpaa
open Go.RowKit

theorem ordText_any {A : Option Addr} {n c : Nat} {xs : List UInt8} {w : World} (hr : RdB w A xs) (hn : xs.length = n) (hl : xs.length ≤ 1099511627776) : CallsV Try.prog 15 #[.slice A n c] w (RetB w (ordText xs)) := by
  subst hn
  refine calls_in (N := _) Try.func15 rfl Try.ntmps15 rfl ?_; show WC _ _ _ _ _ _
  refine wc_sr ?_; refine wl_as rfl rfl ?_; refine wl_ns ?_; refine wc_sr ?_; refine wl_mv rfl rfl ?_; apply wl_val; apply opv_len; exact rfl; exact tyB.sl; exact rfl; apply wl_val; apply opv_bin; exact rfl; exact rfl; exact bin_add64 (by omega); exact rfl
  refine wl_mk (n := 0) (c := xs.length + 2) tyB rfl rfl rfl (by simp) (by omega) (by omega) (by simp only [maxLen]; omega) rfl fun A1 w1 ho1 hb1 _ => ?_
  refine wl_as rfl rfl ?_; refine wl_ns ?_; refine wc_seq ?_; refine wc_sr ?_; refine wl_mv rfl rfl ?_; apply wl_val; apply opv_len; exact rfl; exact tyB.sl; exact rfl; refine wl_mv rfl rfl ?_; refine wl_ns ?_; refine wc_block ?_
  refine wc_loop (fun L wr m => ∃ (k : Nat) (A' : Option Addr) (c' : Nat), L = [(10, .slice A xs.length c), (11, .int .i64 (xs.length : Int)), (12, .int .i64 (k : Int)), (3, .slice A' (esc (xs.take k)).length c')] ∧ k ≤ xs.length ∧ OwB wr w.heap.size A' c' (esc (xs.take k)) ∧ Below w.heap.size w wr ∧ m = xs.length - k)
    [(10, .slice A xs.length c), (11, .int .i64 (xs.length : Int)), (12, .int .i64 (0 : Nat)), (3, .slice A1 0 (xs.length + 2))] xs.length ⟨0, A1, _, rfl, by omega, ho1, hb1, rfl⟩ ⟨rfl, rfl, rfl, rfl, trivial⟩ ?_
  rintro _ wr m ⟨k, A', c', rfl, hk, ho, hb, rfl⟩
  have hsz := hb.size
  have hrx := RdB.below hr hb
  have hel := esc_length (xs.take k)
  rw [List.length_take] at hel
  refine wc_sr ?_; refine wl_bin rfl rfl bin_lss rfl ?_; refine wl_ns ?_; refine wc_seq ?_
  refine wc_cond rfl (fun h1 => ?_) (fun h1 => ?_)
  · obtain ⟨x, hx⟩ : ∃ x, xs[k]? = some x := ⟨_, List.getElem?_eq_getElem (by omega)⟩
    have ht := esc_take hx
    refine wc_skip ?_; refine we_seq ?_; refine wc_seq ?_; refine wc_block ?_; refine wc_sr ?_; apply wl_byK (T := tyB) (hr := hrx) (hb := hx); exact rfl; exact rfl; exact rfl; exact rfl; exact rfl; intro _; refine wl_as rfl rfl ?_; refine wl_ns ?_; refine wc_sr ?_; refine wl_mv rfl rfl ?_; refine wl_mv rfl rfl ?_
    refine wl_push (vs := [_]) tyB rfl ho ⟨rfl, rfl, rfl, trivial⟩ rfl (by decide) rfl (by omega) (by simp only [maxLen]; omega) hsz rfl rfl fun p2 A2 c2 w2 ho2 hg2 hat2 => ?_
    have hb2 := hg2.below hb ho (Nat.le_refl _) hsz
    have hsz2 := hb2.size
    refine wl_as rfl rfl ?_; refine wl_ns ?_; refine wc_sr ?_; refine wl_mv rfl rfl ?_; refine wl_bin rfl rfl bin_eql rfl ?_; refine wl_ns ?_
    refine wc_cond rfl (fun h2 => ?_) (fun h2 => ?_)
    · have h0 := toNat_zero.1 h2
      rw [if_pos h0] at ht
      refine wc_region ?_; refine wl_mv rfl rfl ?_
      refine wl_push (vs := [_]) tyB rfl ho2 ⟨rfl, rfl, rfl, trivial⟩ rfl (by decide) rfl (by omega) (by simp only [maxLen]; omega) hsz2 rfl rfl fun p3 A3 c3 w3 ho3 hg3 hat3 => ?_
      have hb3 := hg3.below hb2 ho2 (Nat.le_refl _) hsz2
      refine wl_as rfl rfl ?_; refine wl_nil ?_; refine we_block_norm ?_; refine we_seq ?_; refine wc_region ?_; apply wl_val; apply opv_bin; exact rfl; exact rfl; exact bin_add64 (by omega); exact rfl; refine wl_mv rfl rfl ?_; refine wl_nil ?_
      refine we_loop [(10, .slice A xs.length c), (11, .int .i64 (xs.length : Int)), (12, .int .i64 ((k + 1 : Nat) : Int)), (3, .slice A3 (esc (xs.take (k + 1))).length c3)] (xs.length - (k + 1)) ⟨k + 1, A3, c3, rfl, by omega, ?_, hb3, rfl⟩ (by omega) ⟨rfl, rfl, rfl, ?_, trivial⟩
      · rw [ht, show esc (xs.take k) ++ [0, 255] = (esc (xs.take k) ++ [0]) ++ [255] by simp]
        have h4 : Ow w2 w.heap.size 5 A2 (esc (xs.take k) ++ [0]).length c2 (bvs (esc (xs.take k) ++ [0])) := OwB.snoc ho2 (by rw [h0]; rfl)
        refine OwB.snoc (v := .int .u8 255) ?_ rfl
        rw [bvs_append, List.length_append]
        rw [h0] at ho3
        simpa [bvs, bv] using ho3
      · rw [ht]; simp; rfl
    · have h0 : ¬ x = 0 := fun e => h2 (toNat_zero.2 e)
      rw [if_neg h0] at ht
      refine wc_skip ?_; refine we_block_norm ?_; refine we_seq ?_; refine wc_region ?_; apply wl_val; apply opv_bin; exact rfl; exact rfl; exact bin_add64 (by omega); exact rfl; refine wl_mv rfl rfl ?_; refine wl_nil ?_
      refine we_loop [(10, .slice A xs.length c), (11, .int .i64 (xs.length : Int)), (12, .int .i64 ((k + 1 : Nat) : Int)), (3, .slice A2 (esc (xs.take (k + 1))).length c2)] (xs.length - (k + 1)) ⟨k + 1, A2, c2, rfl, by omega, ?_, hb2, rfl⟩ (by omega) ⟨rfl, rfl, rfl, ?_, trivial⟩
      · rw [ht]; exact OwB.snoc ho2 rfl
      · rw [ht]; simp; rfl
  · have hke : k = xs.length := by omega
    subst hke
    rw [List.take_length] at ho hel ⊢
    rw [Nat.min_self] at hel
    refine wc_exit ?_; refine we_seq_exit ?_; refine we_loop_exit ?_; refine we_block_exit ?_; refine we_seq ?_; refine wc_sr ?_; refine wl_mv rfl rfl ?_
    refine wl_push (vs := [_, _]) tyB rfl ho ⟨rfl, rfl, rfl, rfl, rfl, rfl, trivial⟩ rfl (by decide) rfl (by omega) (by simp only [maxLen]; omega) hsz rfl rfl fun p2 A2 c2 w2 ho2 hg2 hat2 => ?_
    refine wl_as rfl rfl ?_; refine wl_ns ?_; refine wc_ret ?_
    refine we_ret1 rfl rfl ⟨_, rfl, A2, c2, ?_, OwB.snoc2 ho2 rfl rfl, hg2.below hb ho (Nat.le_refl _) hsz⟩
    simp [ordText]

end Go.Proofs.Ytpnckagibkdcpaa


/-
  Walks over the fixed fact of layer 1's statements, and over the law CodecNumbers.
-/
namespace Go.Proofs.Ytpnckagibkdcpaa
open Go.RowKit

/-- A call that answers true and changes nothing that was there. -/
def RetTrue (w : World) (v : Value) (w' : World) : Prop := v = .bool true ∧ Below w.heap.size w w'

theorem putU_300 : putU 300 = [172, 2] := by simp [putU]
end Go.Proofs.Ytpnckagibkdcpaa


/-
  Walks over the sum of the program and of the reference, and over what the statements use.
-/
namespace Go.Proofs.Ytpnckagibkdcpaa
open Go.RowKit

theorem xor_ones {n x : Nat} (hx : x < 2 ^ n) : (2 ^ n - 1) ^^^ x = 2 ^ n - 1 - x := by
  apply Nat.eq_of_testBit_eq
  intro i
  rw [Nat.testBit_xor, Nat.testBit_two_pow_sub_one, show 2 ^ n - 1 - x = 2 ^ n - (x + 1) by omega, Nat.testBit_two_pow_sub_succ hx]
  by_cases h : i < n
  · simp [h]
  · have : x.testBit i = false := Nat.testBit_lt_two_pow (Nat.lt_of_lt_of_le hx (Nat.pow_le_pow_right (by decide) (by omega)))
    simp [h, this]
theorem opv_com {P : Program} {L : FL} {w : World} {x : Operand} {t ty : TypeId} {n : Nat} (hx : look L x = some (.int .u32 (n : Int))) (hn : n < 4294967296) : OpV P (.unOp .xor t x) ty L w (.int .u32 ((4294967295 - n : Nat) : Int)) w := fun ρ o hρ ho _ => by
  have h := (bin_xor (P := P) (t := t) (k := .u32) (a := 4294967295) (b := n) rfl (by decide) hn).run x x w
  have e := xor_ones (n := 32) hn
  simp only [eqGuard, binOp] at h
  rw [show (4294967295 ^^^ n) = 4294967295 - n from e] at h
  have hm : (if IntKind.u32.signed = true then (-1 : Int) else IntKind.u32.max) = (4294967295 : Int) := rfl
  unfold execOp
  simp only [ho, hρ x _ hx, Op.unary, hm, Sem.run_bind]
  simp at h
  rw [h]; simp

end Go.Proofs.Ytpnckagibkdcpaa


/-
  The fixed fact of layer 3's statements, and the walk over the law CrcSums.
-/
namespace Go.Proofs.Ytpnckagibkdcpaa
open Go.RowKit

theorem RdBB.one {w : World} {A A1 : Option Addr} {c1 : Nat} {r : List UInt8} (h : Rd w A 1 [.slice A1 r.length c1]) (h1 : RdB w A1 r) (hc : r.length ≤ c1) : RdBB w A [r] :=
  ⟨_, h, fun i q hi => by
    cases i with
    | zero => simp only [List.getElem?_cons_zero, Option.some.injEq] at hi; subst hi; exact ⟨A1, c1, rfl, h1, hc⟩
    | succ i => simp at hi⟩
theorem RdBB.two {w : World} {A A1 A2 : Option Addr} {c1 c2 : Nat} {r s : List UInt8} (h : Rd w A 2 [.slice A1 r.length c1, .slice A2 s.length c2]) (h1 : RdB w A1 r) (hc : r.length ≤ c1) (h2 : RdB w A2 s) (hc2 : s.length ≤ c2) : RdBB w A [r, s] :=
  ⟨_, h, fun i q hi => by
    cases i with
    | zero => simp only [List.getElem?_cons_zero, Option.some.injEq] at hi; subst hi; exact ⟨A1, c1, rfl, h1, hc⟩
    | succ i => cases i with
      | zero => simp only [List.getElem?_cons_succ, List.getElem?_cons_zero, Option.some.injEq] at hi; subst hi; exact ⟨A2, c2, rfl, h2, hc2⟩
      | succ i => simp at hi⟩
theorem RdBB.three {w : World} {A A1 A2 A3 : Option Addr} {c1 c2 c3 : Nat} {r s t : List UInt8} (h : Rd w A 3 [.slice A1 r.length c1, .slice A2 s.length c2, .slice A3 t.length c3]) (h1 : RdB w A1 r) (hc : r.length ≤ c1) (h2 : RdB w A2 s) (hc2 : s.length ≤ c2) (h3 : RdB w A3 t) (hc3 : t.length ≤ c3) : RdBB w A [r, s, t] :=
  ⟨_, h, fun i q hi => by
    cases i with
    | zero => simp only [List.getElem?_cons_zero, Option.some.injEq] at hi; subst hi; exact ⟨A1, c1, rfl, h1, hc⟩
    | succ i => cases i with
      | zero => simp only [List.getElem?_cons_succ, List.getElem?_cons_zero, Option.some.injEq] at hi; subst hi; exact ⟨A2, c2, rfl, h2, hc2⟩
      | succ i => cases i with
        | zero => simp only [List.getElem?_cons_succ, List.getElem?_cons_zero, Option.some.injEq] at hi; subst hi; exact ⟨A3, c3, rfl, h3, hc3⟩
        | succ i => simp at hi⟩
theorem cell_freeze (w : World) (a : Addr) (n : Nat) (x : Addr) : (w.freeze a n).cell? x = w.cell? x := by
  unfold World.freeze
  split
  · rfl
  · simp only [World.cell?, Array.getElem?_modify]
    by_cases h : a.block = x.block
    · rw [if_pos h]
      cases w.heap[x.block]? with
      | none => rfl
      | some o => cases o <;> rfl
    · rw [if_neg h]
theorem below_freeze {B : Nat} (w : World) (a : Addr) (n : Nat) (h : B ≤ a.block) : Below B w (w.freeze a n) := by
  unfold World.freeze
  split
  · exact Below.refl _ _
  · refine ⟨rfl, rfl, rfl, by simp, fun j hj => ?_⟩
    simp only [Array.getElem?_modify]
    rw [if_neg (by omega)]
/-- The bytes of a constant string as a slice: its block is marked. -/
theorem wl_frz {P : Program} {N : Nat} {ops : Array Oper} {Q : Exit → Act → World → Prop} {rest : List Oper} {L : FL} {w : World} {d : Nat} {x : Operand} {t e ty : TypeId} {pos : String} {aft : Array Edge} {A : Option Addr} {n c : Nat} {xs : List Value}
    (hx : look L x = some (.slice A n c)) (ht : P.underlying t = some (.slice e)) (he : P.underlying e = some (.int .u8)) (hr : Rd w A n xs) (hn : 0 < n) (hd : Nat.blt d N = true)
    (h : ∀ w', Rd w' A n xs → (∀ B a, A = some a → B ≤ a.block → Below B w w') → w'.heap.size = w.heap.size → WL P N ops Q rest ((d, .slice A n c) :: L) w') :
    WL P N ops Q (⟨some d, .convert t t x, ty, pos, aft, none⟩ :: rest) L w := by
  obtain ⟨b, o, rfl, hb, hc⟩ := hr.2 hn
  have hlen : 0 < xs.length := by rw [hr.1]; exact hn
  have h0 := hc 0 xs[0] (List.getElem?_eq_getElem hlen)
  obtain ⟨k, hk⟩ : ∃ k, w.shape? b = some k := by
    unfold World.cell? at h0
    unfold World.shape?
    simp only at h0
    cases hh : w.heap[b]? with
    | none => rw [hh] at h0; cases h0
    | some ob => cases ob <;> first | exact ⟨_, rfl⟩ | (rw [hh] at h0; cases h0)
  refine wl_val (v := .slice (some ⟨b, o, none⟩) n c) (w' := w.freeze ⟨b, k.2, none⟩ 1) (fun ρ op hρ ho _ => ?_) hd (h _ ⟨hr.1, fun _ => ⟨b, o, rfl, ?_, fun j u hu => by rw [cell_freeze]; exact hc j u hu⟩⟩ (fun B a ha hB => ?_) ?_)
  · unfold execOp
    simp only [ho, hρ x _ hx, convert, Sem.run_bind, run_underlying ht, Result.andThen_ok]
    simp [run_underlying he, markStringish, hk]
  · unfold World.freeze; simp; exact hb
  · cases ha; exact below_freeze _ _ _ hB
  · unfold World.freeze; simp
theorem crc_fact : crcOf [49, 50, 51, 52, 53, 54, 55, 56, 57] = 3421780262 := by decide +kernel
end Go.Proofs.Ytpnckagibkdcpaa


/-
  Plain laws of numbers written in eight bytes, the greatest first. No program in sight.
-/
namespace Go.Proofs.Ytpnckagibkdcpaa

/-- The lowest k bytes of a number, the greatest first. -/
def ordK : Nat → Nat → List UInt8
  | 0, _ => []
  | k + 1, n => ordK k (n / 256) ++ [UInt8.ofNat n]
def ordU (n : Nat) : List UInt8 := ordK 8 n
def numB (l : List UInt8) : Nat := l.foldl (fun n x => n * 256 + x.toNat) 0
def getOrdU (b : List UInt8) (p : Int) : Nat × Int × Nat :=
  if p < 0 ∨ (b.length : Int) < p then (0, 0, 1)
  else if (b.length : Int) - p < 8 then (0, 0, 5)
  else (numB ((b.drop p.toNat).take 8), p + 8, 0)

theorem ordK_length : ∀ (k n : Nat), (ordK k n).length = k
  | 0, _ => rfl
  | k + 1, n => by simp [ordK, ordK_length k]
theorem ordU_length (n : Nat) : (ordU n).length = 8 := ordK_length 8 n
theorem numB_snoc (l : List UInt8) (x : UInt8) : numB (l ++ [x]) = numB l * 256 + x.toNat := by simp [numB]
theorem numB_ordK : ∀ (k n : Nat), numB (ordK k n) = n % 256 ^ k
  | 0, n => by simp [ordK, numB, Nat.mod_one]
  | k + 1, n => by
    rw [ordK, numB_snoc, numB_ordK k]
    rw [Nat.pow_succ, Nat.mul_comm (256 ^ k) 256, Nat.mod_mul]
    simp
    omega
theorem numB_ordU {n : Nat} (h : n < 2 ^ 64) : numB (ordU n) = n := by
  rw [ordU, numB_ordK]; exact Nat.mod_eq_of_lt h
theorem ordK_numB : ∀ (k : Nat) (l : List UInt8), l.length = k → ordK k (numB l) = l
  | 0, l, h => by simp [ordK, List.length_eq_zero_iff.1 h]
  | k + 1, l, h => by
    have hne : l ≠ [] := by rintro rfl; simp at h
    have e := List.dropLast_concat_getLast hne
    rw [← e, numB_snoc, ordK]
    have hx := (l.getLast hne).toNat_lt
    have e1 : (numB l.dropLast * 256 + (l.getLast hne).toNat) / 256 = numB l.dropLast := by omega
    rw [e1, ordK_numB k _ (by simp [h])]
    congr 2
    apply UInt8.toNat_inj.1
    simp
theorem ordU_numB {l : List UInt8} (h : l.length = 8) : ordU (numB l) = l := ordK_numB 8 l h
theorem numB_cons : ∀ (l : List UInt8) (a : Nat), l.foldl (fun n x => n * 256 + x.toNat) a = a * 256 ^ l.length + numB l
  | [], a => by simp [numB]
  | x :: l, a => by
    have h1 := numB_cons l (a * 256 + x.toNat)
    have h2 := numB_cons l (0 * 256 + x.toNat)
    simp only [numB, List.foldl_cons, List.length_cons] at h1 h2 ⊢
    rw [h1, h2, Nat.pow_succ]
    simp only [Nat.add_mul, Nat.mul_assoc, Nat.zero_mul, Nat.zero_add]
    rw [Nat.mul_comm 256 (256 ^ l.length)]
    omega
theorem numB_lt (l : List UInt8) : numB l < 256 ^ l.length := by
  have h := numB_ordK l.length (numB l)
  rw [ordK_numB _ l rfl] at h
  rw [h]; exact Nat.mod_lt _ (Nat.pow_pos (by decide))
theorem cmp_num : ∀ (a b : List UInt8), a.length = b.length → (cmpB a b < 0 ↔ numB a < numB b)
  | [], [], _ => by simp [cmpB, numB]
  | [], _ :: _, h => by simp at h
  | _ :: _, [], h => by simp at h
  | x :: a, y :: b, h => by
    simp only [List.length_cons, Nat.add_right_cancel_iff] at h
    have ha : numB (x :: a) = x.toNat * 256 ^ a.length + numB a := by
      have := numB_cons a (0 * 256 + x.toNat); simp only [numB, List.foldl_cons] at this ⊢; rw [this]; simp
    have hb : numB (y :: b) = y.toNat * 256 ^ a.length + numB b := by
      have := numB_cons b (0 * 256 + y.toNat); simp only [numB, List.foldl_cons] at this ⊢; rw [this, h]; simp
    have la := numB_lt a
    have lb := numB_lt b
    rw [← h] at lb
    rw [ha, hb]
    by_cases h1 : x < y
    · rw [cmp_lt h1]
      rw [UInt8.lt_iff_toNat_lt] at h1
      have := Nat.mul_le_mul_right (256 ^ a.length) (show x.toNat + 1 ≤ y.toNat from h1)
      rw [Nat.add_mul, Nat.one_mul] at this
      constructor
      · intro _; omega
      · intro _; decide
    · by_cases h2 : y < x
      · rw [cmp_gt h2]
        rw [UInt8.lt_iff_toNat_lt] at h2
        have := Nat.mul_le_mul_right (256 ^ a.length) (show y.toNat + 1 ≤ x.toNat from h2)
        rw [Nat.add_mul, Nat.one_mul] at this
        constructor
        · intro h; omega
        · intro h; omega
      · have e : x = y := UInt8.le_antisymm (UInt8.not_lt.1 h2) (UInt8.not_lt.1 h1)
        subst e
        rw [cmp_same, cmp_num a b h]
        omega
theorem cmp_ordU {n m : Nat} (hn : n < 2 ^ 64) (hm : m < 2 ^ 64) : (cmpB (ordU n) (ordU m) < 0) = (n < m) := by
  rw [cmp_num _ _ (by rw [ordU_length, ordU_length]), numB_ordU hn, numB_ordU hm]
theorem ordK_get : ∀ (k n i : Nat), i < k → (ordK k n)[i]? = some (UInt8.ofNat (n / 256 ^ (k - 1 - i)))
  | 0, _, _, h => by omega
  | k + 1, n, i, h => by
    rw [ordK]
    by_cases hi : i < k
    · rw [List.getElem?_append_left (by rw [ordK_length]; exact hi), ordK_get k _ i hi, Nat.div_div_eq_div_mul]
      have e : 256 * 256 ^ (k - 1 - i) = 256 ^ (k + 1 - 1 - i) := by
        rw [show k + 1 - 1 - i = (k - 1 - i) + 1 by omega, Nat.pow_succ, Nat.mul_comm]
      rw [e]
    · have : i = k := by omega
      subst this
      rw [List.getElem?_append_right (by rw [ordK_length]; omega), ordK_length]
      simp
theorem numB_step {l : List UInt8} {k : Nat} {x : UInt8} (h : l[k]? = some x) : numB (l.take (k + 1)) = numB (l.take k) * 256 + x.toNat := by
  rw [take_getR h, numB_snoc]
theorem xor_top {u : Nat} (h : u < 2 ^ 64) : u ^^^ 9223372036854775808 = (u + 9223372036854775808) % 18446744073709551616 := by
  rw [show 9223372036854775808 = 2 ^ 63 from rfl, show 18446744073709551616 = 2 ^ 64 from rfl]
  apply Nat.eq_of_testBit_eq
  intro j
  rw [Nat.testBit_xor, Nat.testBit_mod_two_pow, Nat.add_comm]
  rcases Nat.lt_trichotomy j 63 with hj | hj | hj
  · rw [Nat.testBit_two_pow_of_ne (by omega), Nat.testBit_two_pow_add_gt hj]
    have : j < 64 := by omega
    simp [this]
  · subst hj
    rw [Nat.testBit_two_pow_self, Nat.testBit_two_pow_add_eq]
    simp
  · rw [Nat.testBit_two_pow_of_ne (by omega), Nat.testBit_lt_two_pow (Nat.lt_of_lt_of_le h (Nat.pow_le_pow_right (by decide) (by omega)))]
    have : ¬ j < 64 := by omega
    simp [this]
theorem getOrdU_arg {b : List UInt8} {p : Int} (h : ¬ (0 ≤ p ∧ p ≤ b.length)) : getOrdU b p = (0, 0, 1) := by
  rw [getOrdU, if_pos (by omega)]
theorem getOrdU_end {b : List UInt8} {p : Int} (h : 0 ≤ p ∧ p ≤ b.length) (h8 : (b.length : Int) - p < 8) : getOrdU b p = (0, 0, 5) := by
  rw [getOrdU, if_neg (by omega), if_pos h8]
theorem getOrdU_ok {b : List UInt8} {q : Nat} (h : q + 8 ≤ b.length) : getOrdU b q = (numB ((b.drop q).take 8), (q : Int) + 8, 0) := by
  rw [getOrdU, if_neg (by omega), if_neg (by omega)]; simp
theorem getOrdU_cases (b : List UInt8) (p : Int) : (∃ e : Nat, ¬ e = 0 ∧ getOrdU b p = (0, 0, e)) ∨ ∃ q : Nat, p = q ∧ q + 8 ≤ b.length ∧ getOrdU b p = (numB ((b.drop q).take 8), (q : Int) + 8, 0) := by
  by_cases h : 0 ≤ p ∧ p ≤ b.length
  · by_cases h8 : (b.length : Int) - p < 8
    · exact .inl ⟨5, by decide, getOrdU_end h h8⟩
    · obtain ⟨q, rfl⟩ := Int.eq_ofNat_of_zero_le h.1
      exact .inr ⟨q, rfl, by omega, getOrdU_ok (by omega)⟩
  · exact .inl ⟨1, by decide, getOrdU_arg h⟩
end Go.Proofs.Ytpnckagibkdcpaa


/-
  Plain laws of sealed records. No program in sight.
-/
namespace Go.Proofs.Ytpnckagibkdcpaa

/-- Four bytes, the greatest first. -/
def four (n : Nat) : List UInt8 := ordK 4 n
theorem four_length (n : Nat) : (four n).length = 4 := ordK_length 4 n
theorem ordU_four (n : Nat) : (ordU n).drop 4 = four n := by
  have e : ordU n = ordK 4 (n / 256 / 256 / 256 / 256) ++ four n := by
    show ordK 8 n = _
    simp [ordK, four]
  rw [e, List.drop_append_of_le_length (by rw [ordK_length]; omega), List.drop_of_length_le (by rw [ordK_length]; omega)]
  rfl
theorem four_list (n : Nat) : four n = [UInt8.ofNat (n / 16777216), UInt8.ofNat (n / 65536), UInt8.ofNat (n / 256), UInt8.ofNat n] := by
  simp [four, ordK, Nat.div_div_eq_div_mul]
theorem numB_four {n : Nat} (h : n < 4294967296) : numB (four n) = n := by
  rw [four, numB_ordK]; exact Nat.mod_eq_of_lt h
theorem four_numB {l : List UInt8} (h : l.length = 4) : four (numB l) = l := ordK_numB 4 l h
theorem numB_lt4 {l : List UInt8} (h : l.length = 4) : numB l < 4294967296 := by
  have := numB_lt l; rw [h] at this; exact this

def crcRec (b : List UInt8) : List UInt8 := four b.length ++ (four (crcOf (four b.length ++ b)) ++ b)
theorem crcRec_length (b : List UInt8) : (crcRec b).length = 8 + b.length := by simp [crcRec, four_length]; omega
def sealB (b : List UInt8) : List UInt8 × Nat := if 1048576 < b.length then ([], 2) else (crcRec b, 0)
/-- What is sealed at the head of a list: the body, and the error. -/
def openH (y : List UInt8) : List UInt8 × Nat :=
  if y.length < 8 then ([], 5)
  else if 1048576 < numB (y.take 4) then ([], 2)
  else if y.length < 8 + numB (y.take 4) then ([], 5)
  else if crcOf (y.take 4 ++ (y.take (8 + numB (y.take 4))).drop 8) = numB ((y.drop 4).take 4) then ((y.take (8 + numB (y.take 4))).drop 8, 0) else ([], 4)
/-- At a place: the body, what stands behind it, and the error. -/
def openB (xs : List UInt8) (p : Int) : List UInt8 × Nat × Nat :=
  if p < 0 ∨ (xs.length : Int) < p then ([], 0, 1)
  else if (openH (xs.drop p.toNat)).2 = 0 then ((openH (xs.drop p.toNat)).1, p.toNat + 8 + (openH (xs.drop p.toNat)).1.length, 0)
  else ([], 0, (openH (xs.drop p.toNat)).2)
theorem openH_short {y : List UInt8} (h : y.length < 8) : openH y = ([], 5) := by rw [openH, if_pos h]
theorem openH_size {y : List UInt8} (h : ¬ y.length < 8) (h2 : 1048576 < numB (y.take 4)) : openH y = ([], 2) := by rw [openH, if_neg h, if_pos h2]
theorem openH_end {y : List UInt8} (h : ¬ y.length < 8) (h2 : ¬ 1048576 < numB (y.take 4)) (h3 : y.length < 8 + numB (y.take 4)) : openH y = ([], 5) := by rw [openH, if_neg h, if_neg h2, if_pos h3]
theorem openH_sum {y : List UInt8} (h : ¬ y.length < 8) (h2 : ¬ 1048576 < numB (y.take 4)) (h3 : ¬ y.length < 8 + numB (y.take 4)) (h4 : ¬ crcOf (y.take 4 ++ (y.take (8 + numB (y.take 4))).drop 8) = numB ((y.drop 4).take 4)) : openH y = ([], 4) := by
  rw [openH, if_neg h, if_neg h2, if_neg h3, if_neg h4]
theorem openH_ok {y : List UInt8} (h : ¬ y.length < 8) (h2 : ¬ 1048576 < numB (y.take 4)) (h3 : ¬ y.length < 8 + numB (y.take 4)) (h4 : crcOf (y.take 4 ++ (y.take (8 + numB (y.take 4))).drop 8) = numB ((y.drop 4).take 4)) : openH y = ((y.take (8 + numB (y.take 4))).drop 8, 0) := by
  rw [openH, if_neg h, if_neg h2, if_neg h3, if_pos h4]
theorem openB_arg {xs : List UInt8} {p : Int} (h : ¬ (0 ≤ p ∧ p ≤ xs.length)) : openB xs p = ([], 0, 1) := by rw [openB, if_pos (by omega)]
theorem openB_at {xs : List UInt8} {q : Nat} (h : q ≤ xs.length) {r : List UInt8} {e : Nat} (ho : openH (xs.drop q) = (r, e)) : openB xs q = if e = 0 then (r, q + 8 + r.length, 0) else ([], 0, e) := by
  rw [openB, if_neg (by omega), Int.toNat_natCast, ho]
theorem openB_ok {xs : List UInt8} {q : Nat} (h : q ≤ xs.length) {r : List UInt8} (ho : openH (xs.drop q) = (r, 0)) : openB xs q = (r, q + 8 + r.length, 0) := by rw [openB_at h ho, if_pos rfl]
theorem openB_err {xs : List UInt8} {q : Nat} (h : q ≤ xs.length) {r : List UInt8} {e : Nat} (ho : openH (xs.drop q) = (r, e)) (he : ¬ e = 0) : openB xs q = ([], 0, e) := by rw [openB_at h ho, if_neg he]
theorem openH_len {y r : List UInt8} (h : openH y = (r, 0)) : 8 + r.length ≤ y.length ∧ r.length ≤ 1048576 := by
  unfold openH at h
  split at h
  · simp at h
  · split at h
    · simp at h
    · split at h
      · simp at h
      · split at h
        · simp only [Prod.mk.injEq, and_true] at h
          subst h
          simp; omega
        · simp at h
theorem openB_inv {xs r : List UInt8} {q x : Nat} (hq : q ≤ xs.length) (h : openB xs q = (r, x, 0)) : x = q + 8 + r.length ∧ x ≤ xs.length ∧ r.length ≤ 1048576 := by
  obtain ⟨s, e, ho⟩ : ∃ s e, openH (xs.drop q) = (s, e) := ⟨_, _, rfl⟩
  rw [openB_at hq ho] at h
  split at h
  · rename_i he
    subst he
    simp only [Prod.mk.injEq, and_true] at h
    obtain ⟨rfl, rfl⟩ := h
    have := openH_len ho
    rw [List.length_drop] at this
    omega
  · simp only [Prod.mk.injEq] at h
    omega
theorem openB_err' {xs r : List UInt8} {p : Int} {x e : Nat} (h : openB xs p = (r, x, e)) (he : ¬ e = 0) : r = [] ∧ x = 0 := by
  unfold openB at h
  split at h
  · simp only [Prod.mk.injEq] at h; exact ⟨h.1.symm, h.2.1.symm⟩
  · split at h
    · simp only [Prod.mk.injEq] at h; omega
    · simp only [Prod.mk.injEq] at h; exact ⟨h.1.symm, h.2.1.symm⟩
/-- What is sealed opens to what it was. -/
theorem openH_rec {b : List UInt8} (h : b.length ≤ 1048576) (rest : List UInt8) : openH (crcRec b ++ rest) = (b, 0) := by
  have e1 : (crcRec b ++ rest).take 4 = four b.length := by
    unfold crcRec; rw [List.append_assoc, List.take_append_of_le_length (by rw [four_length]; omega), List.take_of_length_le (by rw [four_length]; omega)]
  have e2 : numB ((crcRec b ++ rest).take 4) = b.length := by rw [e1, numB_four (by omega)]
  have e3 : ((crcRec b ++ rest).drop 4).take 4 = four (crcOf (four b.length ++ b)) := by
    unfold crcRec
    rw [List.append_assoc, List.drop_append_of_le_length (by rw [four_length]; omega), List.drop_of_length_le (by rw [four_length]; omega), List.nil_append, List.append_assoc,
      List.take_append_of_le_length (by rw [four_length]; omega), List.take_of_length_le (by rw [four_length]; omega)]
  have e4 : ((crcRec b ++ rest).take (8 + b.length)).drop 8 = b := by
    rw [List.take_append_of_le_length (by rw [crcRec_length]; omega), List.take_of_length_le (by rw [crcRec_length]; omega)]
    unfold crcRec
    rw [← List.append_assoc, List.drop_append_of_le_length (by simp [four_length]), List.drop_of_length_le (by simp [four_length]), List.nil_append]
  have hl : (crcRec b ++ rest).length = 8 + b.length + rest.length := by rw [List.length_append, crcRec_length]
  rw [openH_ok (by omega) (by omega) (by omega) (by rw [e2, e3, e4, e1, numB_four (crcOf_lt _)]), e2, e4]
theorem openB_rec {b : List UInt8} (h : b.length ≤ 1048576) : openB (crcRec b) 0 = (b, (crcRec b).length, 0) := by
  have := openH_rec h []
  rw [List.append_nil] at this
  have := openB_ok (q := 0) (xs := crcRec b) (by omega) this
  rw [crcRec_length]
  simpa using this
/-- The reference's test: a record is what would be sealed of its body. -/
theorem rec_iff {y : List UInt8} (h : ¬ y.length < 8) (h3 : ¬ y.length < 8 + numB (y.take 4)) :
    (crcRec ((y.take (8 + numB (y.take 4))).drop 8) = y.take (8 + numB (y.take 4))) = (crcOf (y.take 4 ++ (y.take (8 + numB (y.take 4))).drop 8) = numB ((y.drop 4).take 4)) := by
  obtain ⟨n, hn⟩ : ∃ n, numB (y.take 4) = n := ⟨_, rfl⟩
  rw [hn] at h3 ⊢
  have hl : ((y.take (8 + n)).drop 8).length = n := by simp; omega
  have h4 : (y.take 4).length = 4 := by simp; omega
  have e4 : four n = y.take 4 := by rw [← hn, four_numB h4]
  have es : y.take (8 + n) = y.take 4 ++ ((y.drop 4).take 4 ++ (y.take (8 + n)).drop 8) := by
    have a1 : y.take (8 + n) = (y.take (8 + n)).take 4 ++ ((y.take (8 + n)).drop 4) := (List.take_append_drop 4 _).symm
    have a2 : (y.take (8 + n)).drop 4 = ((y.take (8 + n)).drop 4).take 4 ++ ((y.take (8 + n)).drop 4).drop 4 := (List.take_append_drop 4 _).symm
    rw [List.drop_drop] at a2
    rw [a2] at a1
    rw [List.take_take, Nat.min_eq_left (by omega)] at a1
    rw [show ((y.take (8 + n)).drop 4).take 4 = (y.drop 4).take 4 by rw [List.drop_take, List.take_take, Nat.min_eq_left (by omega)]] at a1
    exact a1
  unfold crcRec
  rw [hl, e4]
  apply propext
  constructor
  · intro h
    rw [es] at h
    have h1 := (List.append_inj h rfl).2
    have h2 := (List.append_inj h1 (by simp [four_length]; omega)).1
    have := congrArg numB h2
    rw [← es] at this
    rw [numB_four (crcOf_lt _)] at this
    exact this
  · intro h
    rw [h, four_numB (by simp; omega)]
    exact es.symm

/-- All records, up to the first that doesn't open. -/
def openAllF : Nat → List UInt8 → Nat → List (List UInt8) → List (List UInt8) × Nat
  | 0, _, q, out => (out, q)
  | f + 1, b, q, out =>
    if b.length ≤ q then (out, q)
    else if (openB b q).2.2 = 0 then openAllF f b (openB b q).2.1 (out ++ [(openB b q).1])
    else (out, q)
def openAll (b : List UInt8) : List (List UInt8) × Nat := openAllF b.length b 0 []
theorem openAllF_end {f : Nat} {b : List UInt8} {q : Nat} {out : List (List UInt8)} (h : b.length ≤ q) : openAllF f b q out = (out, q) := by
  cases f with
  | zero => rfl
  | succ f => rw [openAllF, if_pos h]
theorem openAllF_err {f : Nat} {b r : List UInt8} {q x e : Nat} {out : List (List UInt8)} (hu : openB b q = (r, x, e)) (he : ¬ e = 0) : openAllF f b q out = (out, q) := by
  cases f with
  | zero => rfl
  | succ f =>
    by_cases h : b.length ≤ q
    · exact openAllF_end h
    · rw [openAllF, if_neg h, hu, if_neg he]
theorem openAllF_step {f : Nat} {b r : List UInt8} {q x : Nat} {out : List (List UInt8)} (h : ¬ b.length ≤ q) (hu : openB b q = (r, x, 0)) : openAllF (f + 1) b q out = openAllF f b x (out ++ [r]) := by
  rw [openAllF, if_neg h, hu, if_pos rfl]
theorem openAllF_size : ∀ (f : Nat) (b : List UInt8) (q : Nat) (out : List (List UInt8)), q ≤ b.length → out.length * 8 + out.flatten.length ≤ q → (openAllF f b q out).2 ≤ b.length ∧ (openAllF f b q out).1.length * 8 + (openAllF f b q out).1.flatten.length ≤ b.length
  | 0, b, q, out, hq, h => by simp only [openAllF]; omega
  | f + 1, b, q, out, hq, h => by
    by_cases h1 : b.length ≤ q
    · rw [openAllF_end h1]; exact ⟨hq, Nat.le_trans h hq⟩
    · obtain ⟨r, x, e, hu⟩ : ∃ r x e, openB b q = (r, x, e) := ⟨_, _, _, rfl⟩
      by_cases he : e = 0
      · subst he
        obtain ⟨h2, h3, _⟩ := openB_inv hq hu
        rw [openAllF_step h1 hu]
        refine openAllF_size f b _ _ h3 ?_
        simp only [List.flatten_append, List.flatten_cons, List.flatten_nil, List.length_append, List.length_cons, List.length_nil]
        omega
      · rw [openAllF_err hu he]; exact ⟨hq, Nat.le_trans h hq⟩
end Go.Proofs.Ytpnckagibkdcpaa


/-
  Plain laws of frames. No program in sight.
-/
namespace Go.Proofs.Ytpnckagibkdcpaa

def framed (l : List (List UInt8)) : List UInt8 := l.flatMap fun r => putU r.length ++ r
/-- The parts behind place q; out: those ahead of it. -/
def partsF : Nat → List UInt8 → Nat → List (List UInt8) → List (List UInt8) × Nat
  | 0, _, _, out => (out, 0)
  | f + 1, b, q, out =>
    if b.length ≤ q then (out, 0)
    else if (getU b q).2.2 = 0 then
      if b.length < (getU b q).2.1.toNat + (getU b q).1 then ([], 5)
      else partsF f b ((getU b q).2.1.toNat + (getU b q).1) (out ++ [(b.take ((getU b q).2.1.toNat + (getU b q).1)).drop (getU b q).2.1.toNat])
    else ([], (getU b q).2.2)
def parts (b : List UInt8) : List (List UInt8) × Nat := partsF b.length b 0 []

theorem putU_pos (n : Nat) : 0 < (putU n).length := by
  rw [putU]; split <;> simp
theorem getU_next {b : List UInt8} {q n : Nat} {x : Int} (h : getU b q = (n, x, 0)) : ∃ k : Nat, x = k ∧ q < k ∧ k ≤ b.length := by
  obtain ⟨q', k, hq, rfl, h1, h2, h3, _⟩ := getU_inv h
  obtain rfl : q = q' := by omega
  have := congrArg List.length h3
  have hp := putU_pos n
  refine ⟨k, rfl, ?_, h2⟩
  simp at this; omega
theorem partsF_end {f : Nat} {b : List UInt8} {q : Nat} {out : List (List UInt8)} (h : b.length ≤ q) : partsF f b q out = (out, 0) := by
  cases f with
  | zero => rfl
  | succ f => rw [partsF, if_pos h]
theorem partsF_err {f : Nat} {b : List UInt8} {q n e : Nat} {x : Int} {out : List (List UInt8)} (h : ¬ b.length ≤ q) (hu : getU b q = (n, x, e)) (he : ¬ e = 0) : partsF (f + 1) b q out = ([], e) := by
  rw [partsF, if_neg h, hu, if_neg he]
theorem partsF_short {f : Nat} {b : List UInt8} {q n k : Nat} {out : List (List UInt8)} (h : ¬ b.length ≤ q) (hu : getU b q = (n, (k : Int), 0)) (hs : b.length < k + n) : partsF (f + 1) b q out = ([], 5) := by
  rw [partsF, if_neg h, hu, if_pos rfl]
  simp only [Int.toNat_natCast]
  rw [if_pos hs]
theorem partsF_step {f : Nat} {b : List UInt8} {q n k : Nat} {out : List (List UInt8)} (h : ¬ b.length ≤ q) (hu : getU b q = (n, (k : Int), 0)) (hs : ¬ b.length < k + n) : partsF (f + 1) b q out = partsF f b (k + n) (out ++ [(b.take (k + n)).drop k]) := by
  rw [partsF, if_neg h, hu, if_pos rfl]
  simp only [Int.toNat_natCast]
  rw [if_neg hs]
/-- How much a list's parts hold, and what error there is. -/
theorem partsF_size : ∀ (f : Nat) (b : List UInt8) (q : Nat) (out : List (List UInt8)), q ≤ b.length → out.length + out.flatten.length ≤ q → (partsF f b q out).1.length + (partsF f b q out).1.flatten.length ≤ b.length
  | 0, b, q, out, hq, h => by simp only [partsF]; omega
  | f + 1, b, q, out, hq, h => by
    by_cases h1 : b.length ≤ q
    · rw [partsF_end h1]; exact Nat.le_trans h hq
    · obtain ⟨n, x, e, hu⟩ : ∃ n x e, getU b q = (n, x, e) := ⟨_, _, _, rfl⟩
      by_cases he : e = 0
      · subst he
        obtain ⟨k, rfl, h2, h3⟩ := getU_next hu
        by_cases hs : b.length < k + n
        · rw [partsF_short h1 hu hs]; simp
        · rw [partsF_step h1 hu hs]
          refine partsF_size f b _ _ (by omega) ?_
          simp only [List.flatten_append, List.flatten_cons, List.flatten_nil, List.length_append, List.length_cons, List.length_nil, List.length_drop, List.length_take]
          omega
      · rw [partsF_err h1 hu he]; simp
theorem getU_mid {pre rest : List UInt8} {n : Nat} (hn : n < 2 ^ 64) : getU (pre ++ (putU n ++ rest)) pre.length = (n, ((pre.length + (putU n).length : Nat) : Int), 0) := by
  have h := getAux_putU rest n 0 0 (by decide) hn (by omega) (.inl rfl)
  have := getU_ok (b := pre ++ (putU n ++ rest)) (q := pre.length) (n := n) (k := (putU n).length) (by simp) (by rw [List.drop_left, h]; simp)
  rw [this]; simp
theorem partsF_framed : ∀ (l : List (List UInt8)) (f : Nat) (pre : List UInt8) (out : List (List UInt8)), (∀ r ∈ l, r.length < 2 ^ 64) → (framed l).length ≤ f → partsF f (pre ++ framed l) pre.length out = (out ++ l, 0)
  | [], f, pre, out, _, _ => by rw [partsF_end (by simp [framed])]; simp
  | r :: l, f, pre, out, hr, hf => by
    have e : framed (r :: l) = putU r.length ++ (r ++ framed l) := by simp [framed]
    rw [e] at hf ⊢
    have hp := putU_pos r.length
    simp only [List.length_append] at hf
    obtain ⟨f, rfl⟩ : ∃ g, f = g + 1 := ⟨f - 1, by omega⟩
    have hg := getU_mid (pre := pre) (rest := r ++ framed l) (hr r (by simp))
    rw [partsF_step (by simp; omega) hg (by simp only [List.length_append]; omega)]
    have hb : pre ++ (putU r.length ++ (r ++ framed l)) = (pre ++ putU r.length ++ r) ++ framed l := by simp
    have hlen : (pre ++ putU r.length ++ r).length = pre.length + (putU r.length).length + r.length := by simp only [List.length_append]
    have hcut : ((pre ++ (putU r.length ++ (r ++ framed l))).take (pre.length + (putU r.length).length + r.length)).drop (pre.length + (putU r.length).length) = r := by
      rw [hb, ← hlen, List.take_left, show pre.length + (putU r.length).length = (pre ++ putU r.length).length by simp, List.drop_left]
    rw [hcut, hb, ← hlen, partsF_framed l f _ _ (fun x hx => hr x (by simp [hx])) (by omega)]
    simp
theorem parts_framed {l : List (List UInt8)} (h : ∀ r ∈ l, r.length < 2 ^ 64) : parts (framed l) = (l, 0) := by
  have := partsF_framed l (framed l).length [] [] h (Nat.le_refl _)
  simpa [parts] using this
theorem framed_take {l : List (List UInt8)} {k : Nat} {x : List UInt8} (h : l[k]? = some x) : framed (l.take (k + 1)) = framed (l.take k) ++ putU x.length ++ x := by
  rw [take_getR h]; simp [framed]
theorem framed_length : ∀ (l : List (List UInt8)), (∀ r ∈ l, r.length < 2 ^ 64) → (framed l).length ≤ l.flatten.length + 10 * l.length
  | [], _ => by simp [framed]
  | x :: l, h => by
    have h1 := framed_length l (fun r hr => h r (by simp [hr]))
    have h2 := putU_le (h x (by simp))
    simp only [framed, List.flatMap_cons, List.length_append, List.flatten_cons, List.length_cons] at h1 ⊢
    omega
theorem framed_take_le (l : List (List UInt8)) (k : Nat) : (framed (l.take k)).length ≤ (framed l).length := by
  have : framed l = framed (l.take k) ++ framed (l.drop k) := by
    rw [framed, framed, framed, ← List.flatMap_append, List.take_append_drop]
  rw [this, List.length_append]; omega
theorem mem_flat {l : List (List UInt8)} {x : List UInt8} (h : x ∈ l) : x.length ≤ l.flatten.length := by
  obtain ⟨k, hk, rfl⟩ := List.getElem_of_mem h
  exact flat_mem (List.getElem?_eq_getElem hk)
end Go.Proofs.Ytpnckagibkdcpaa


/-
  Walks over Frame and Parts of the program and of the references.
-/
namespace Go.Proofs.Ytpnckagibkdcpaa
open Go.RowKit

end Go.Proofs.Ytpnckagibkdcpaa


/-
  Walks over Parts of the program and of the reference.
-/
namespace Go.Proofs.Ytpnckagibkdcpaa
open Go.RowKit

theorem rd_cut {w : World} {A : Option Addr} {xs : List UInt8} {c l h : Nat} (hr : RdB w A xs) (h1 : l ≤ h) (hh : h ≤ xs.length) (hc : xs.length ≤ c) : RdB w (cutA A c l) ((xs.take h).drop l) := by
  have := Rd.cut (l := l) (h := h) hr h1 hh hc
  rw [bvs_cut] at this
  have e : ((xs.take h).drop l).length = h - l := by simp; omega
  unfold RdB; rw [e]; exact this
def RetP (w : World) (x : List (List UInt8) × Nat) (v : Value) (w' : World) : Prop :=
  ∃ (A : Option Addr) (c : Nat), v = .tuple #[.slice A x.1.length c, .int .i64 (x.2 : Int)] ∧ OwBB w' w.heap.size A c x.1 ∧ Below w.heap.size w w'

end Go.Proofs.Ytpnckagibkdcpaa


/-
  Walks over the numbers of eight bytes of the program and of the references.
-/
namespace Go.Proofs.Ytpnckagibkdcpaa
open Go.RowKit

theorem fill_up {α : Type} {l : List α} {z x : α} {k m : Nat} (h : l[k]? = some x) : (l.take k ++ List.replicate (m + 1) z).set k x = l.take (k + 1) ++ List.replicate m z := by
  have hk := (List.getElem?_eq_some_iff.1 h).1
  have e : (l.take k).length = k := by simp; omega
  rw [List.set_append_right _ _ (by omega), e, Nat.sub_self, List.replicate_succ, List.set_cons_zero, take_getR h]
  simp
theorem fill_down {α : Type} {l : List α} {z x : α} {k : Nat} (h : l[k]? = some x) : (List.replicate (k + 1) z ++ l.drop (k + 1)).set k x = List.replicate k z ++ l.drop k := by
  obtain ⟨hk, e⟩ := List.getElem?_eq_some_iff.1 h
  rw [List.set_append_left _ _ (by simp), List.replicate_succ', List.set_append_right _ _ (by simp)]
  rw [List.drop_eq_getElem_cons hk, e]
  simp
theorem byte_of (m : Nat) : Value.int .u8 ((m % 2 ^ IntKind.u8.bits : Nat) : Int) = bv (UInt8.ofNat m) := by
  simp [bv, IntKind.bits]

theorem ordU_any (n : Nat) (hn : n < 2 ^ 64) (w : World) : CallsV Try.prog 11 #[.int .u64 n] w (RetB w (ordU n)) := by
  refine calls_in (N := _) Try.func11 rfl Try.ntmps11 rfl ?_; show WC _ _ _ _ _ _
  refine wc_sr ?_; refine wl_as rfl rfl ?_; refine wl_ns ?_; refine wc_sr ?_
  refine wl_mk (n := 8) (c := 8) tyB rfl rfl rfl rfl (by omega) (by omega) (by simp only [maxLen]; omega) rfl fun A1 w1 o1 hb1 _ => ?_
  refine wl_as rfl rfl ?_; refine wl_ns ?_; refine wc_seq ?_; refine wc_sr ?_; refine wl_mv rfl rfl ?_; apply wl_val; apply opv_len; exact rfl; exact tyB.sl; exact rfl; refine wl_mv rfl rfl ?_; refine wl_ns ?_; refine wc_block ?_
  refine wc_loop (fun L wr m => ∃ k : Nat, L = [(0, .int .u64 (n : Int)), (3, .slice A1 8 8), (7, .int .i64 (8 : Int)), (8, .int .i64 (k : Int))] ∧ k ≤ 8 ∧ Ow wr w.heap.size 5 A1 8 8 (bvs ((ordU n).take k ++ List.replicate (8 - k) 0)) ∧ Below w.heap.size w wr ∧ m = 8 - k)
    [(0, .int .u64 (n : Int)), (3, .slice A1 8 8), (7, .int .i64 (8 : Int)), (8, .int .i64 (0 : Nat))] 8 ⟨0, rfl, by omega, by simpa [bvs, bv] using o1, hb1, rfl⟩ ⟨rfl, rfl, rfl, rfl, trivial⟩ ?_
  rintro _ w2 m ⟨k, rfl, hk, o2, hb2, rfl⟩
  refine wc_sr ?_; refine wl_bin rfl rfl bin_lss rfl ?_; refine wl_ns ?_; refine wc_seq ?_
  refine wc_cond rfl (fun h1 => ?_) (fun h1 => ?_)
  · have hg := ordK_get 8 n k (by omega)
    have hk7 : k ≤ 7 := by omega
    refine wc_skip ?_; refine we_seq ?_; refine wc_seq ?_; refine wc_block ?_; refine wc_sr ?_; refine wl_mv rfl rfl ?_; refine wl_as rfl rfl ?_; refine wl_ns ?_; refine wc_region ?_; refine wl_mv rfl rfl ?_; refine wl_mv rfl rfl ?_; refine wl_mv rfl rfl ?_; refine wl_mv rfl rfl ?_; apply wl_val; apply opv_bin; exact rfl; exact rfl; exact bin_sub64 (by omega); exact rfl
    refine wl_val (opv_bin rfl rfl ((bin_mul64 (by omega)).to (show _ = Value.int .i64 ((8 * (7 - k) : Nat) : Int) from by congr 1; omega))) rfl ?_
    refine wl_val (opv_bin rfl rfl (bin_shr hn)) rfl ?_
    apply wl_val; apply opv_convR; exact rfl; exact Try.underlying26; exact Try.underlying5; exact wrap_nat rfl _; exact rfl
    refine wl_set (kk := k) tyB rfl rfl o2 rfl (by omega) (fun _ => rfl) rfl rfl fun p w3 o3 g3 _ => ?_
    have hb3 := g3.below hb2 o2 (Nat.le_refl _) hb2.size
    rw [byte_of, bvs_set, show 8 - k = (7 - k) + 1 by omega, Nat.pow_mul, fill_up (l := ordU n) (by rw [ordU, hg])] at o3
    refine wl_nil ?_; refine we_block_norm ?_; refine we_seq ?_; refine wc_region ?_; apply wl_val; apply opv_bin; exact rfl; exact rfl; exact bin_add64 (by omega); exact rfl; refine wl_mv rfl rfl ?_; refine wl_nil ?_
    refine we_loop [(0, .int .u64 (n : Int)), (3, .slice A1 8 8), (7, .int .i64 (8 : Int)), (8, .int .i64 ((k + 1 : Nat) : Int))] (8 - (k + 1)) ⟨k + 1, rfl, by omega, by rw [show 8 - (k + 1) = 7 - k by omega]; exact o3, hb3, rfl⟩ (by omega) ⟨rfl, rfl, rfl, rfl, trivial⟩
  · obtain rfl : k = 8 := by omega
    have e : (ordU n).take 8 ++ List.replicate (8 - 8) 0 = ordU n := by rw [List.take_of_length_le (by rw [ordU_length]; omega)]; simp
    rw [e] at o2
    refine wc_exit ?_; refine we_seq_exit ?_; refine we_loop_exit ?_; refine we_block_exit ?_; refine we_seq ?_; refine wc_sr ?_; refine wl_mv rfl rfl ?_; refine wl_as rfl rfl ?_; refine wl_ns ?_; refine wc_ret ?_
    exact we_ret1 rfl rfl ⟨_, rfl, A1, 8, by rw [ordU_length], by unfold OwB; rw [ordU_length]; exact o2, hb2⟩

end Go.Proofs.Ytpnckagibkdcpaa


/-
  Walks over the opening of sealed records, of the program and of the reference.
-/
namespace Go.Proofs.Ytpnckagibkdcpaa
open Go.RowKit

theorem or_add {x y i : Nat} (h : y < 2 ^ i) : x * 2 ^ i ||| y = x * 2 ^ i + y := by
  have := Nat.shiftLeft_add_eq_or_of_lt h x
  rw [Nat.shiftLeft_eq] at this
  exact this.symm
theorem or4 {a b c d : Nat} (hb : b < 256) (hc : c < 256) (hd : d < 256) : a * 2 ^ 24 ||| b * 2 ^ 16 ||| c * 2 ^ 8 ||| d = ((a * 256 + b) * 256 + c) * 256 + d := by
  rw [or_add (show b * 2 ^ 16 < 2 ^ 24 by omega), show a * 2 ^ 24 + b * 2 ^ 16 = (a * 256 + b) * 2 ^ 16 by omega, or_add (show c * 2 ^ 8 < 2 ^ 16 by omega), show (a * 256 + b) * 2 ^ 16 + c * 2 ^ 8 = ((a * 256 + b) * 256 + c) * 2 ^ 8 by omega, or_add (show d < 2 ^ 8 by omega)]
theorem openB_errY {xs y : List UInt8} {q : Nat} (h : q ≤ xs.length) (hy : xs.drop q = y) {r : List UInt8} {e : Nat} (ho : openH y = (r, e)) (he : ¬ e = 0) : openB xs q = ([], 0, e) := openB_err h (hy.symm ▸ ho) he
theorem openB_okY {xs y : List UInt8} {q : Nat} (h : q ≤ xs.length) (hy : xs.drop q = y) {r : List UInt8} (ho : openH y = (r, 0)) : openB xs q = (r, q + 8 + r.length, 0) := openB_ok h (hy.symm ▸ ho)
/-- A body, a place and an error are handed back. -/
def RetO (w : World) (x : List UInt8 × Nat × Nat) (v : Value) (w' : World) : Prop :=
  ∃ (A : Option Addr) (c : Nat), v = .tuple #[.slice A x.1.length c, .int .i64 (x.2.1 : Int), .int .i64 (x.2.2 : Int)] ∧ OwB w' w.heap.size A c x.1 ∧ Below w.heap.size w w'
theorem RetO.err {w w' : World} {x : List UInt8 × Nat × Nat} {e : Nat} {k : Int} (h : x = ([], 0, e)) (hk : k = e) (hb : Below w.heap.size w w') : RetO w x (.tuple #[.slice none 0 0, .int .i64 0, .int .i64 k]) w' := by
  subst h hk; exact ⟨none, 0, rfl, Ow.nil _ _ _, hb⟩
theorem RdBB.two' {w : World} {A A1 A2 : Option Addr} {n1 n2 c1 c2 : Nat} {r s : List UInt8} (h : Rd w A 2 [.slice A1 n1 c1, .slice A2 n2 c2]) (h1 : RdB w A1 r) (e1 : r.length = n1) (hc : r.length ≤ c1) (h2 : RdB w A2 s) (e2 : s.length = n2) (hc2 : s.length ≤ c2) : RdBB w A [r, s] := by
  subst e1 e2; exact RdBB.two h h1 hc h2 hc2

/-- Records and a place are handed back. -/
def RetOA (w : World) (x : List (List UInt8) × Nat) (v : Value) (w' : World) : Prop :=
  ∃ (A : Option Addr) (c : Nat), v = .tuple #[.slice A x.1.length c, .int .i64 (x.2 : Int)] ∧ OwBB w' w.heap.size A c x.1 ∧ Below w.heap.size w w'
end Go.Proofs.Ytpnckagibkdcpaa


/-
  Walks over the reference's sealed records.
-/
namespace Go.Proofs.Ytpnckagibkdcpaa
open Go.RowKit

theorem OwB.of {w : World} {base n c : Nat} {A : Option Addr} {vs : List Value} {ys : List UInt8} (h : Ow w base 5 A n c vs) (hn : ys.length = n) (hv : bvs ys = vs) : OwB w base A c ys := by subst hn hv; exact h
/-- Bytes and an error are handed back. -/
def RetS (w : World) (x : List UInt8 × Nat) (v : Value) (w' : World) : Prop :=
  ∃ (A : Option Addr) (c : Nat), v = .tuple #[.slice A x.1.length c, .int .i64 (x.2 : Int)] ∧ OwB w' w.heap.size A c x.1 ∧ Below w.heap.size w w'
theorem numB_lt4' {l : List UInt8} {k : Nat} (h : k ≤ 4) : numB (l.take k) < 4294967296 := by
  have h1 := numB_lt (l.take k)
  have h2 : 256 ^ (l.take k).length ≤ 256 ^ 4 := Nat.pow_le_pow_right (by decide) (by simp; omega)
  exact Nat.lt_of_lt_of_le h1 h2
theorem sealB_ok {l : List UInt8} (h : l.length ≤ 1048576) : sealB l = (crcRec l, 0) := by rw [sealB, if_neg (by omega)]
end Go.Proofs.Ytpnckagibkdcpaa


/-
  New memory of the library's: rules for copy and for its fresh bytes; walks over bytes.Join without a separator and over the sealing of records.
-/
namespace Go.Proofs.Ytpnckagibkdcpaa
open Go.RowKit

section
variable {P : Program} {N : Nat} {ops : Array Oper} {Q : Exit → Act → World → Prop} {rest : List Oper} {L : FL} {w : World} {t e : TypeId} {z : Value} {bytes : Nat}
/-- copy into a block that is known whole: all of the source fits. -/
theorem wl_copy {d : Nat} {x y : Operand} {ty : TypeId} {pos : String} {aft : Array Edge} {g off n c m c' : Nat} {A B : Option Addr} {cs ys : List Value} (T : Row1 P t e z bytes)
    (hx : look L x = some (.slice A n c)) (hy : look L y = some (.slice B m c')) (ha : Ar w g e cs) (hr : Rd w B m ys) (h1 : ∀ u ∈ ys, u.oneCell' = true)
    (hA : 0 < m → A = some ⟨g, off, none⟩) (hm : m ≤ n) (hfit : off + m ≤ cs.length) (hd : Nat.blt d N = true)
    (h : ∀ w', Ar w' g e (cs.take off ++ (ys ++ cs.drop (off + m))) → Below g w w' → WL P N ops Q rest ((d, .int .i64 (m : Int)) :: L) w') :
    WL P N ops Q (⟨some d, .call { callee := .builtin .copy, args := #[x, y], argTypes := #[t, t] }, ty, pos, aft, none⟩ :: rest) L w := fun a hH => by
  have hl : ys.length = m := hr.1
  obtain ⟨i, hi, _, hs, _⟩ := info_parts T.info
  refine wpList_copy_splice rfl x y t t rfl e T.sl (by simp [hi, hs]) A B n c m c' (hH.eval hx) (hH.eval hy) g off cs e ha ys (by rw [hl]; exact (Nat.min_eq_left hm).symm)
    (fun h0 => ?_) (by rw [hl]; exact hfit) h1 g w (Below.refl _ _) (Nat.le_refl _) fun w' hc hb => ?_
  · rw [hl] at h0
    obtain ⟨b, o, hB, _, hcell⟩ := hr.2 h0
    exact ⟨hA h0, ⟨b, o, none⟩, hB, fun j v hv => by rw [Addr.add_lit]; exact hcell j v hv⟩
  · have hc' : Ar w' g e (splice cs off ys) := hc
    unfold splice at hc'
    rw [hl] at hc'
    have := h w' hc' hb _ (hH.put hd (.int .i64 (m : Int)))
    simpa [goInt, hl] using this
theorem opv_ext {f : FuncId} {x : Operand} {ats : Array TypeId} {ty : TypeId} {u v : Value} {w' : World} (hx : look L x = some u) (hrun : (callFunc f #[u]).run P w = .ok (.value v) w') :
    OpV P (.call { callee := .value (.func f), args := #[x], argTypes := ats }) ty L w v w' := fun ρ o hρ ho _ => by
  have hf : ρ (.func f) = .func (.func f) #[] #[] := hρ _ _ rfl
  unfold execOp
  simp only [ho, resolve, Deferred.ofValue, hf, Sem.run_bind, Sem.run_pure, Result.andThen_ok, invoke]
  have : (#[] ++ Array.map ρ #[x] ++ #[]) = #[u] := by simp [hρ x u hx]
  rw [this]
  exact hrun
theorem opv_slice3 {x y y' : Operand} {ty : TypeId} {A : Option Addr} {n c h : Nat} {k k' : IntKind} (T : Row1 P t e z bytes) (hx : look L x = some (.slice A n c)) (hy : look L y = some (.int k (h : Int))) (hy' : look L y' = some (.int k' (h : Int))) (h2 : h ≤ c) :
    OpV P (.slice t x none (some y) (some y')) ty L w (.slice A h h) w := fun ρ o hρ ho _ => by
  unfold execOp
  simp only [ho, Instr.sliceAt, Instr.slice, Sem.run_bind, run_underlying T.sl, Result.andThen_ok, hρ x _ hx, Option.map_none, Option.map_some, T.size]
  have e1 : (Instr.sliceBounds true n c none (some (ρ y)) (some (ρ y'))).run P w = .ok (0, h, h) w := by
    simp [Instr.sliceBounds, Instr.sliceBound, hρ y _ hy, hρ y' _ hy', asIntOf, h2]
  rw [e1]
  by_cases h0 : h = 0
  · subst h0; simp
  · cases A with
    | none => simp
    | some a => simp [Addr.add]
end

/-- New bytes: at the head of a block from block base on (which may be longer than the slice), or nil. -/
def NwB (w : World) (base : Nat) (A : Option Addr) (c : Nat) (xs : List UInt8) : Prop :=
  (A = none ∧ c = 0 ∧ xs = []) ∨ ∃ (g : Nat) (cs : List Value), A = some ⟨g, 0, none⟩ ∧ base ≤ g ∧ Ar w g 5 cs ∧ xs.length ≤ c ∧ c ≤ cs.length ∧ cs.take xs.length = bvs xs
section
variable {w w' : World} {base c : Nat} {A : Option Addr} {xs : List UInt8}
theorem OwB.nw (h : OwB w base A c xs) : NwB w base A c xs := by
  rcases h.2 with ⟨hv, hn⟩ | ⟨g, cap, cur, hv, hb, hg, hnc, _, hs, ht⟩
  · injection hv with hA hn' hc
    exact .inl ⟨hA, hc, List.length_eq_zero_iff.1 hn'⟩
  · injection hv with hA hn' hc
    subst hc
    exact .inr ⟨g, cur.toList, hA, hb, by simpa [Ar] using hg, hnc, by simp; omega, by simpa using ht⟩
theorem NwB.cap (h : NwB w base A c xs) : xs.length ≤ c := by
  rcases h with ⟨_, rfl, rfl⟩ | ⟨_, _, _, _, _, h, _⟩
  · simp
  · exact h
theorem NwB.rd (h : NwB w base A c xs) : RdB w A xs := by
  rcases h with ⟨rfl, rfl, rfl⟩ | ⟨g, cs, rfl, hg, ha, h1, h2, h3⟩
  · exact Rd.nil _ _
  · refine ⟨bvs_length _, fun _ => ⟨g, 0, rfl, ha.lt, fun j u hu => ?_⟩⟩
    rw [← h3, List.getElem?_take] at hu
    split at hu
    · rw [ha.cell, Nat.zero_add]; exact hu
    · cases hu
theorem NwB.below (h : NwB w base A c xs) (hb : Below w.heap.size w w') : NwB w' base A c xs := by
  rcases h with h | ⟨g, cs, hA, hg, ha, h1⟩
  · exact .inl h
  · exact .inr ⟨g, cs, hA, hg, ha.bel hb, h1⟩
theorem NwB.mono {base' : Nat} (h : NwB w base A c xs) (hb : base' ≤ base) : NwB w base' A c xs := by
  rcases h with h | ⟨g, cs, hA, hg, h1⟩
  · exact .inl h
  · exact .inr ⟨g, cs, hA, Nat.le_trans hb hg, h1⟩
end
def RetN' (w : World) (xs : List UInt8) (v : Value) (w' : World) : Prop :=
  ∃ (A : Option Addr) (c : Nat), v = .slice A xs.length c ∧ NwB w' w.heap.size A c xs ∧ Below w.heap.size w w'

theorem take_flat {rows : List (List UInt8)} {k : Nat} {x : List UInt8} (hx : rows[k]? = some x) : (rows.take (k + 1)).flatten = (rows.take k).flatten ++ x := by
  rw [List.take_add_one, hx]; simp
theorem take_flat_le (rows : List (List UInt8)) (k : Nat) : (rows.take k).flatten.length ≤ rows.flatten.length := by
  have : rows.flatten = (rows.take k).flatten ++ (rows.drop k).flatten := by rw [← List.flatten_append, List.take_append_drop]
  rw [this, List.length_append]; omega
end Go.Proofs.Ytpnckagibkdcpaa


/-
  Blocks that hold a list's marks: append onto a slice at the head of a block that is known whole, and what a step may change of such blocks.
-/
namespace Go.Proofs.Ytpnckagibkdcpaa
open Go.RowKit

section
variable {P : Program} {N : Nat} {ops : Array Oper} {Q : Exit → Act → World → Prop} {rest : List Oper} {L : FL} {w : World} {t e : TypeId} {z : Value} {bytes : Nat}
theorem opv_app {s x : Operand} {ty : TypeId} {u v r : Value} {w' : World} (hs : look L s = some u) (hx : look L x = some v) (hrun : ∀ ty, (Builtin.append_ #[t, t] ty #[u, v]).run P w = .ok r w') :
    OpV P (.call { callee := .builtin .append, args := #[s, x], argTypes := #[t, t] }) ty L w r w' := fun ρ o hρ ho _ => by
  unfold execOp
  simp only [ho, resolve, invoke, builtin, Sem.run_bind, Sem.run_pure, Result.andThen_ok, List.map_toArray, List.map_cons, List.map_nil, hρ s _ hs, hρ x _ hx, hrun]
/-- append onto a slice at the head of a block that is known whole. -/
theorem wl_appA {d : Nat} {s x : Operand} {ty : TypeId} {pos : String} {aft : Array Edge} {g n c m c' : Nat} {cs ys : List Value} {B : Option Addr} (T : Row1 P t e z bytes)
    (hs : look L s = some (.slice (some ⟨g, 0, none⟩) n c)) (ha : Ar w g e cs) (hnc : n ≤ c) (hc : c ≤ cs.length) (hx : look L x = some (.slice B m c')) (hr : Rd w B m ys) (hm : 0 < m) (h1 : ∀ u ∈ ys, u.oneCell' = true)
    (hbytes : (n + m) * bytes ≤ 140737488355328) (hmax : n + m ≤ maxLen) (hd : Nat.blt d N = true)
    (hA : n + m ≤ c → ∀ w', Ar w' g e (cs.take n ++ (ys ++ cs.drop (n + m))) → Gr w w' (some ⟨g, 0, none⟩) → WL P N ops Q rest ((d, .slice (some ⟨g, 0, none⟩) (n + m) c) :: L) w')
    (hB : ∀ A' c2 w', Ow w' w.heap.size e A' (n + m) c2 (cs.take n ++ ys) → Below w.heap.size w w' → WL P N ops Q rest ((d, .slice A' (n + m) c2) :: L) w') :
    WL P N ops Q (⟨some d, .call { callee := .builtin .append, args := #[s, x], argTypes := #[t, t] }, ty, pos, aft, none⟩ :: rest) L w := by
  obtain ⟨i, hi, hz, hsz, hby⟩ := info_parts T.info
  have hzs : z.cells.size = 1 := by rw [cells_one T.one]; rfl
  have hl : ys.length = m := hr.1
  obtain ⟨b, o, rfl, _, hcell⟩ := hr.2 hm
  have hnews : ∀ j u, ys[j]? = some u → w.cell? ((⟨b, o, none⟩ : Addr).add j) = some u := fun j u hu => by rw [Addr.add_lit]; exact hcell j u hu
  by_cases hroom : n + m ≤ c
  · refine wl_val (opv_app hs hx fun ty => run_append_room (P := P) w t ty e i T.sl hi g n c cs.toArray ha ⟨b, o, none⟩ m c' ys (by rw [hsz]; omega) hnews h1 hroom (by simp [hsz]; omega)) hd ?_
    have e1 : (cs.toArray.toList.take (n * i.size) ++ ys ++ cs.toArray.toList.drop (n * i.size + ys.length)) = cs.take n ++ (ys ++ cs.drop (n + m)) := by
      rw [hsz, hl, Nat.mul_one, List.append_assoc]
    rw [e1]
    exact hA hroom _ ha.setRow ⟨rfl, rfl, rfl, by simp [World.setRow], fun k _ hk => by
      simp only [World.setRow, Array.getElem?_modify]
      rw [if_neg (by simp at hk; exact fun h => hk h.symm)]⟩
  · have hol : (cs.take n).length = n := by simp; omega
    have hsmall : n + m ≤ 9223372036854775807 := by simp only [maxLen] at hmax; omega
    have hge := grownCap_ge w (n + m) c e
    have hcm : grownCap w (n + m) c e ≤ maxLen := grownCap_le_maxLen w (n + m) c e hmax
    refine wl_val (opv_app hs hx fun ty => run_append_grow (P := P) w t ty e i z T.sl hi hz ⟨g, 0, none⟩ n c (cs.take n) (by rw [hsz]; omega) (fun j u hu => by
      rw [Addr.add_lit, Nat.zero_add, ha.cell]
      rw [List.getElem?_take] at hu
      split at hu
      · exact hu
      · cases hu) ⟨b, o, none⟩ m c' ys (by rw [hsz]; omega) hnews (by omega) (by omega) (growslice_fits (by omega) (by rw [hby]; exact hbytes))) hd ?_
    refine hB _ _ _ ⟨by simp; omega, .inr ⟨w.heap.size, _, _, rfl, Nat.le_refl _, heap_alloc_new w.drew _, hge, hcm, ?_, ?_⟩⟩ ⟨rfl, rfl, rfl, by simp, fun k hk => heap_alloc_old w.drew _ hk⟩
    · simp only [Array.size_append, List.size_toArray, size_zeroCells, hzs, hol, hl]; omega
    · simp only [Array.toList_append, List.append_assoc]
      rw [← List.append_assoc]
      refine List.take_left' ?_
      simp; omega
end

/-- The byte that stands for place j of list i. -/
def mkb (i j : Nat) : UInt8 := UInt8.ofNat (17 * i + 3 * j + 1)
def mk (i j : Nat) : Value := bv (mkb i j)
def mkl (i n : Nat) : List UInt8 := (List.range n).map (mkb i)
theorem mkl_length (i n : Nat) : (mkl i n).length = n := by simp [mkl]
theorem mkl_get {i n j : Nat} (h : j < n) : (mkl i n)[j]? = some (mkb i j) := by simp [mkl, h]
/-- Block b holds the marks of list i, at its first n places. -/
def MkB (w : World) (b i n : Nat) : Prop := ∃ cs, Ar w b 5 cs ∧ n ≤ cs.length ∧ ∀ j, j < n → cs[j]? = some (mk i j)
/-- A step that may write marks of list i into block X, and changes no other block of bytes. -/
def Sk (w w' : World) (X : Option Nat) (i : Nat) : Prop :=
  ∀ b cs, Ar w b 5 cs → ∃ cs', Ar w' b 5 cs' ∧ cs'.length = cs.length ∧ (cs' = cs ∨ (X = some b ∧ ∀ j u, cs'[j]? = some u → cs[j]? = some u ∨ u = mk i j))
/-- A slice at the head of a block of the call's own, or nil. -/
def Hd (w : World) (base : Nat) (A : Option Addr) (n c : Nat) : Prop :=
  (A = none ∧ n = 0 ∧ c = 0) ∨ ∃ g cs, A = some ⟨g, 0, none⟩ ∧ base ≤ g ∧ Ar w g 5 cs ∧ n ≤ c ∧ c ≤ cs.length
section
variable {w w' w1 : World} {X : Option Nat} {A : Option Addr} {b i k n c base : Nat}
theorem MkB.rd (h : MkB w b i n) : RdB w (some ⟨b, 0, none⟩) (mkl i n) := by
  obtain ⟨cs, ha, hl, hm⟩ := h
  refine ⟨bvs_length _, fun _ => ⟨b, 0, rfl, ha.lt, fun j u hu => ?_⟩⟩
  rw [ha.cell, Nat.zero_add]
  have hj : j < n := by have := (List.getElem?_eq_some_iff.1 hu).1; rwa [bvs_length, mkl_length] at this
  rw [bvs, List.getElem?_map, mkl_get hj] at hu
  rw [hm j hj]; exact hu
theorem Sk.refl (w : World) (X : Option Nat) (i : Nat) : Sk w w X i := fun _ cs h => ⟨cs, h, rfl, .inl rfl⟩
theorem Sk.trans (h : Sk w w1 X i) (h2 : Sk w1 w' X i) : Sk w w' X i := fun b cs ha => by
  obtain ⟨c1, a1, l1, r1⟩ := h b cs ha
  obtain ⟨c2, a2, l2, r2⟩ := h2 b c1 a1
  refine ⟨c2, a2, l2.trans l1, ?_⟩
  rcases r2 with rfl | ⟨hX, r2⟩
  · exact r1
  · refine .inr ⟨hX, fun j u hu => ?_⟩
    rcases r2 j u hu with h | h
    · rcases r1 with rfl | ⟨_, r1⟩
      · exact .inl h
      · exact r1 j u h
    · exact .inr h
theorem Sk.bel (h : Below w.heap.size w w') : Sk w w' X i := fun _ cs ha => ⟨cs, ha.bel h, rfl, .inl rfl⟩
/-- A step that changes one block of another type alone. -/
theorem Sk.other {g : Nat} {t : TypeId} {cs : List Value} (h : Gr w w' A) (hA : ∀ a, A = some a → a.block = g) (ht : A = none ∨ Ar w g t cs) (hne : t ≠ 5) : Sk w w' X i := fun b ds hb => by
  refine ⟨ds, ?_, rfl, .inl rfl⟩
  unfold Ar
  rw [h.block b hb.lt fun hk => ?_]
  · exact hb
  · cases A with
    | none => simp at hk
    | some a =>
      simp only [Option.map_some, Option.some.injEq] at hk
      rcases ht with ht | ht
      · cases ht
      · rw [← hA a rfl, ← hk] at ht
        unfold Ar at ht hb
        rw [ht] at hb
        simp only [Option.some.injEq, Obj.cells.injEq] at hb
        exact hne hb.2.1
/-- A step that writes marks into block g. -/
theorem Sk.at {g : Nat} {cs cs' : List Value} (h : Gr w w' (some ⟨g, 0, none⟩)) (ha : Ar w g 5 cs) (ha' : Ar w' g 5 cs') (hl : cs'.length = cs.length) (hm : ∀ j u, cs'[j]? = some u → cs[j]? = some u ∨ u = mk i j) : Sk w w' (some g) i := fun b ds hb => by
  by_cases hbg : b = g
  · subst hbg
    have e : ds = cs := by
      unfold Ar at ha hb
      rw [ha] at hb
      simp only [Option.some.injEq, Obj.cells.injEq] at hb
      have := congrArg Array.toList hb.1
      simpa using this.symm
    subst e
    exact ⟨cs', ha', hl, .inr ⟨rfl, hm⟩⟩
  · refine ⟨ds, ?_, rfl, .inl rfl⟩
    unfold Ar
    rw [h.block b hb.lt (by simp; exact fun h => hbg h)]
    exact hb
theorem MkB.st (h : MkB w b i n) (s : Sk w w' X k) (hX : X = some b → k = i) : MkB w' b i n := by
  obtain ⟨cs, ha, hl, hm⟩ := h
  obtain ⟨cs', ha', hl', r⟩ := s b cs ha
  refine ⟨cs', ha', by omega, fun j hj => ?_⟩
  rcases r with rfl | ⟨hXb, r⟩
  · exact hm j hj
  · have hk := hX hXb
    subst hk
    rw [List.getElem?_eq_getElem (by omega)]
    rcases r j _ (List.getElem?_eq_getElem (by omega)) with h | h
    · rw [← h]; exact hm j hj
    · rw [h]
theorem Hd.st (h : Hd w base A n c) (s : Sk w w' X k) : Hd w' base A n c := by
  rcases h with h | ⟨g, cs, hA, hb, ha, h1, h2⟩
  · exact .inl h
  · obtain ⟨cs', ha', hl', _⟩ := s g cs ha
    exact .inr ⟨g, cs', hA, hb, ha', h1, by omega⟩
theorem NwB.hd {xs : List UInt8} (h : NwB w base A c xs) : Hd w base A xs.length c := by
  rcases h with ⟨hA, hc, rfl⟩ | ⟨g, cs, hA, hb, ha, h1, h2, _⟩
  · exact .inl ⟨hA, rfl, hc⟩
  · exact .inr ⟨g, cs, hA, hb, ha, h1, h2⟩
end

/-- All slices of a list lie at the heads of blocks of the call's own, each in another one. -/
def Own1 (w : World) (base : Nat) (vs : List Value) : Prop :=
  (∀ v ∈ vs, ∃ (A : Option Addr) (n c : Nat), v = .slice A n c ∧ Hd w base A n c ∧ n ≤ 1099511627776) ∧ vs.Pairwise fun v v' => ∀ g, v.ownBlock = some g → v'.ownBlock ≠ some g
section
variable {w w' w0 : World} {X : Option Nat} {vs : List Value} {base k : Nat}
theorem Own1.at (h : Own1 w base vs) {i : Nat} {v : Value} (hi : vs[i]? = some v) : ∃ (A : Option Addr) (n c : Nat), v = .slice A n c ∧ Hd w base A n c ∧ n ≤ 1099511627776 := h.1 v (List.mem_of_getElem? hi)
theorem Own1.inj (h : Own1 w base vs) {i j g : Nat} {v v' : Value} (hi : vs[i]? = some v) (hj : vs[j]? = some v') (hg : v.ownBlock = some g) (hg' : v'.ownBlock = some g) : i = j := by
  have hp := List.pairwise_iff_getElem.1 h.2
  obtain ⟨h1, e1⟩ := List.getElem?_eq_some_iff.1 hi
  obtain ⟨h2, e2⟩ := List.getElem?_eq_some_iff.1 hj
  rcases Nat.lt_trichotomy i j with hlt | heq | hgt
  · exact absurd (e2 ▸ hg') (hp i j h1 h2 hlt g (e1 ▸ hg))
  · exact heq
  · exact absurd (e1 ▸ hg) (hp j i h2 h1 hgt g (e2 ▸ hg'))
theorem Own1.st (h : Own1 w base vs) (s : Sk w w' X k) : Own1 w' base vs := ⟨fun v hv => by
  obtain ⟨A, n, c, e, hd, hn⟩ := h.1 v hv
  exact ⟨A, n, c, e, hd.st s, hn⟩, h.2⟩
/-- The marks of the first m lists stand. -/
def Mx (w : World) (vs : List Value) (m : Nat) : Prop := ∀ (k : Nat) (A : Addr) (n c : Nat), k < m → vs[k]? = some (.slice (some A) n c) → MkB w A.block k n
theorem Mx.st {i m : Nat} {A : Option Addr} {n c : Nat} (h : Mx w vs m) (ho : Own1 w base vs) (hi : vs[i]? = some (.slice A n c)) (s : Sk w w' (A.map (·.block)) i) : Mx w' vs m := fun k A' n' c' hk hv =>
  (h k A' n' c' hk hv).st s fun hX => ho.inj hi hv (by rw [ownBlock_slice]; exact hX) (by rw [ownBlock_slice]; rfl)
theorem Mx.bel {m : Nat} (h : Mx w vs m) (hb : Below w.heap.size w w') : Mx w' vs m := fun k A n c hk hv => (h k A n c hk hv).st (X := none) (k := 0) (Sk.bel hb) (by simp)
/-- A grown slice: marks of list i, in list i's own block or in another one. -/
def Gd (w : World) (vs : List Value) (i : Nat) (v : Value) : Prop := ∃ b n c, v = .slice (some ⟨b, 0, none⟩) n c ∧ n ≤ c ∧ n ≤ 2199023255552 ∧ MkB w b i n ∧ ∀ (k : Nat) (u : Value), vs[k]? = some u → u.ownBlock = some b → k = i
theorem Gd.st {i m : Nat} {A : Option Addr} {n c : Nat} {v : Value} (h : Gd w vs m v) (hi : vs[i]? = some (.slice A n c)) (s : Sk w w' (A.map (·.block)) i) : Gd w' vs m v := by
  obtain ⟨b, n', c', e, h1, h2, hm, ht⟩ := h
  exact ⟨b, n', c', e, h1, h2, hm.st s fun hX => ht i _ hi (by rw [ownBlock_slice]; exact hX), ht⟩
/-- Nothing below base changes, and of what stood at the start the lists' blocks alone. -/
def Kp (w0 w : World) (vs : List Value) : Prop := w.os = w0.os ∧ w.tape = w0.tape ∧ w.output = w0.output ∧ w0.heap.size ≤ w.heap.size ∧ ∀ k, k < w0.heap.size → (∀ v ∈ vs, v.ownBlock ≠ some k) → w.heap[k]? = w0.heap[k]?
theorem Kp.refl (w : World) (vs : List Value) : Kp w w vs := ⟨rfl, rfl, rfl, Nat.le_refl _, fun _ _ _ => rfl⟩
theorem Kp.gr {A : Option Addr} (h : Kp w0 w vs) (g : Gr w w' A) (hA : ∀ a, A = some a → a.block < w0.heap.size → ∃ v ∈ vs, v.ownBlock = some a.block) : Kp w0 w' vs := by
  obtain ⟨h1, h2, h3, h4, h5⟩ := h
  refine ⟨g.os.trans h1, g.tape.trans h2, g.output.trans h3, Nat.le_trans h4 g.size, fun k hk hv => ?_⟩
  rw [← h5 k hk hv]
  refine g.block k (by omega) fun hk' => ?_
  cases A with
  | none => simp at hk'
  | some a =>
    simp only [Option.map_some, Option.some.injEq] at hk'
    obtain ⟨v, hm, hv'⟩ := hA a rfl (by rw [← hk']; exact hk)
    exact hv v hm (by rw [hv', ← hk'])
theorem Kp.bel (h : Kp w0 w vs) (hb : Below w.heap.size w w') : Kp w0 w' vs := h.gr (Gr.of_below none hb (Nat.le_refl _)) (by simp)
theorem Kp.below (h : Kp w0 w vs) (ho : ∀ v ∈ vs, ∀ g, v.ownBlock = some g → base ≤ g) (hb : base ≤ w0.heap.size) : Below base w0 w :=
  ⟨h.1, h.2.1, h.2.2.1, h.2.2.2.1, fun j hj => h.2.2.2.2 j (by omega) fun v hv hc => by have := ho v hv j hc; omega⟩
theorem Kp.rd {A : Option Addr} {n : Nat} {xs : List Value} (h : Kp w0 w vs) (hr : Rd w0 A n xs) (hA : ∀ a, A = some a → ∀ v ∈ vs, v.ownBlock ≠ some a.block) : Rd w A n xs := ⟨hr.1, fun hn => by
  obtain ⟨b, o, rfl, hb, hc⟩ := hr.2 hn
  exact ⟨b, o, rfl, Nat.lt_of_lt_of_le hb h.2.2.2.1, fun j u hu => by
    rw [World.cell?_of_block (a := ⟨b, o + j, none⟩) (h.2.2.2.2 b hb (hA _ rfl))]; exact hc j u hu⟩⟩
end
end Go.Proofs.Ytpnckagibkdcpaa


/-
  Walks over the reference's mark, Spare, Kept and Over.
-/
namespace Go.Proofs.Ytpnckagibkdcpaa
open Go.RowKit

section
variable {P : Program} {N : Nat} {ops : Array Oper} {Q : Exit → Act → World → Prop} {rest : List Oper} {L : FL} {w : World} {t e : TypeId} {z : Value} {bytes : Nat}
/-- A row of the call's own as a block that is known whole. -/
theorem Ow.ar {base n : Nat} {A : Option Addr} {xs : List Value} (h : Ow w base e A n n xs) (hn : 0 < n) : ∃ g, A = some ⟨g, 0, none⟩ ∧ base ≤ g ∧ Ar w g e xs := by
  rcases h.2 with ⟨_, h0⟩ | ⟨g, cap, cur, hv, hb, hg, hnc, _, hs, ht⟩
  · omega
  · injection hv with hA hn' hc
    subst hc
    refine ⟨g, hA, hb, ?_⟩
    rw [List.take_of_length_le (by simp; omega)] at ht
    subst ht
    simpa [Ar] using hg
theorem Ar.rd {g n : Nat} {cs : List Value} (h : Ar w g e cs) (hn : n ≤ cs.length) : Rd w (some ⟨g, 0, none⟩) n (cs.take n) := ⟨by simp; omega, fun _ => ⟨g, 0, rfl, h.lt, fun j u hu => by
  rw [h.cell, Nat.zero_add]
  rw [List.getElem?_take] at hu
  split at hu
  · exact hu
  · cases hu⟩⟩
theorem gr_setCell {g k : Nat} {u : Value} : Gr w (w.setCell ⟨g, k, none⟩ u) (some ⟨g, 0, none⟩) := ⟨rfl, rfl, rfl, by simp [World.setCell], fun j _ hj => by
  simp only [World.setCell, Array.getElem?_modify]
  rw [if_neg (by simp at hj; exact fun h => hj h.symm)]⟩
/-- A store into a block that is known whole. -/
theorem wl_storeA {x y : Operand} {ty : TypeId} {pos : String} {aft : Array Edge} {g kk : Nat} {u : Value} {cs : List Value} (T : Row1 P t e z bytes) (ha : Ar w g e cs) (hk : kk < cs.length)
    (hx : look L x = some (.pointer (some ⟨g, 0 + kk, none⟩))) (hy : look L y = some u) (h1 : u.oneCell' = true)
    (h : ∀ w', Ar w' g e (cs.set kk u) → Gr w w' (some ⟨g, 0, none⟩) → w'.heap.size = w.heap.size → WL P N ops Q rest L w') :
    WL P N ops Q (⟨none, .store e x y, ty, pos, aft, none⟩ :: rest) L w := by
  rw [Nat.zero_add] at hx
  refine wl_unitN (opu_store T hx hy h1 (v := cs[kk]) (by rw [ha.cell]; exact List.getElem?_eq_getElem hk) (ha.frozen kk)) ?_
  exact h _ (ha.setCell kk u) gr_setCell (by simp [World.setCell])
theorem wl_setH {d1 : Nat} {x i y : Operand} {ty1 ty2 : TypeId} {p1 p2 : String} {f1 f2 : Array Edge} {g n c kk : Nat} {ik : IntKind} {q : Int} {u : Value} {cs : List Value} (T : Row1 P t e z bytes)
    (hx : look L x = some (.slice (some ⟨g, 0, none⟩) n c)) (hi : look L i = some (.int ik q)) (ha : Ar w g e cs) (hq : q = (kk : Int)) (hk : kk < n) (hc : n ≤ cs.length)
    (hy : ∀ p, look ((d1, p) :: L) y = some u) (h1 : u.oneCell' = true) (hd1 : Nat.blt d1 N = true)
    (h : ∀ p w', Ar w' g e (cs.set kk u) → Gr w w' (some ⟨g, 0, none⟩) → w'.heap.size = w.heap.size → WL P N ops Q rest ((d1, p) :: L) w') :
    WL P N ops Q (⟨some d1, .indexAddr t x i, ty1, p1, f1, none⟩ :: ⟨none, .store e (.tmp d1) y, ty2, p2, f2, none⟩ :: rest) L w :=
  wl_val (opv_idx T hx hi hq hk) hd1 (wl_storeA T ha (by omega) (by simp [look, lookT]) (hy _) h1 (h _))
theorem Gr.belowA {w0 w w' : World} {B g : Nat} (h : Gr w w' (some ⟨g, 0, none⟩)) (h0 : Below B w0 w) (hg : B ≤ g) (hB : B ≤ w.heap.size) : Below B w0 w' :=
  h0.grown h hB fun k hk => by simp at hk; omega
end

theorem mark_any (i j : Nat) (hi : i ≤ 1099511627776) (hj : j ≤ 4398046511104) (w : World) : CallsV Try.prog 63 #[.int .i64 i, .int .i64 j] w fun v w' => v = mk i j ∧ w = w' := by
  refine calls_in (N := _) Try.func63 rfl Try.ntmps63 rfl ?_; show WC _ _ _ _ _ _
  refine wc_sr ?_; refine wl_as rfl rfl ?_; refine wl_ns ?_; refine wc_sr ?_; refine wl_mv rfl rfl ?_; apply wl_val; apply opv_bin; exact rfl; exact rfl; exact bin_mul64 (by omega); exact rfl; refine wl_mv rfl rfl ?_; apply wl_val; apply opv_bin; exact rfl; exact rfl; exact bin_mul64 (by omega); exact rfl; apply wl_val; apply opv_bin; exact rfl; exact rfl; exact bin_add64 (by omega); exact rfl; apply wl_val; apply opv_bin; exact rfl; exact rfl; exact bin_add64 (by omega); exact rfl; apply wl_val; apply opv_convR; exact rfl; exact Try.underlying3; exact Try.underlying5; exact wrap_nat rfl _; exact rfl; refine wl_as rfl rfl ?_; refine wl_ns ?_; refine wc_ret ?_
  exact we_ret1 rfl rfl ⟨_, rfl, by rw [mk, mkb, ← byte_of], rfl⟩

/-- Bytes with forty marked ones behind them. -/
def spareL (b : List UInt8) : List UInt8 := b ++ (List.range 40).map fun k => UInt8.ofNat (160 + (b.length + k) % 31)
theorem spareL_length (b : List UInt8) : (spareL b).length = b.length + 40 := by simp [spareL]
theorem spareL_take (b : List UInt8) : (spareL b).take b.length = b := by simp [spareL]
theorem spareL_low {b : List UInt8} {i : Nat} (h : i < b.length) : (spareL b)[i]? = b[i]? := by rw [spareL, List.getElem?_append_left h]
theorem spareL_high {b : List UInt8} {i : Nat} (h : ¬ i < b.length) (h2 : i < b.length + 40) : (spareL b)[i]? = some (UInt8.ofNat (160 + i % 31)) := by
  rw [spareL, List.getElem?_append_right (by omega)]
  simp [show i - b.length < 40 by omega, show b.length + (i - b.length) = i by omega]
theorem take_set_next {α : Type} {l m : List α} {i : Nat} {x : α} (hl : i < l.length) (h : l.take i = m.take i) (hx : m[i]? = some x) : (l.set i x).take (i + 1) = m.take (i + 1) := by
  rw [List.take_add_one, List.take_add_one, List.take_set_of_le (by omega), h, hx]
  simp [hl]
/-- A copy with spare room, and the whole of it. -/
def RetSp (w : World) (xs : List UInt8) (v : Value) (w' : World) : Prop :=
  ∃ g, v = .tuple #[.slice (some ⟨g, 0, none⟩) xs.length (xs.length + 40), .slice (some ⟨g, 0, none⟩) (xs.length + 40) (xs.length + 40)] ∧ w.heap.size ≤ g ∧ Ar w' g 5 (bvs (spareL xs)) ∧ Below w.heap.size w w'
theorem over_any {g n c : Nat} {l : List UInt8} {w : World} (ha : Ar w g 5 (bvs l)) (hn : n ≤ l.length) (hl : l.length ≤ 2199023255552) :
    CallsV Try.prog 36 #[.slice (some ⟨g, 0, none⟩) n c] w fun _ w' => ∃ l' : List UInt8, l'.length = l.length ∧ Ar w' g 5 (bvs l') ∧ Gr w w' (some ⟨g, 0, none⟩) := by
  refine calls_in (N := _) Try.func36 rfl Try.ntmps36 rfl ?_; show WC _ _ _ _ _ _
  refine wc_sr ?_; refine wl_as rfl rfl ?_; refine wl_ns ?_; refine wc_block ?_
  refine wc_loop (fun L wr m => ∃ (i : Nat) (l' : List UInt8), L = [(0, .slice (some ⟨g, 0, none⟩) n c), (2, .int .i64 (i : Int))] ∧ i ≤ n ∧ l'.length = l.length ∧ Ar wr g 5 (bvs l') ∧ Gr w wr (some ⟨g, 0, none⟩) ∧ m = n - i)
    [(0, .slice (some ⟨g, 0, none⟩) n c), (2, .int .i64 (0 : Nat))] n ⟨0, l, rfl, by omega, rfl, ha, Gr.refl _ _, rfl⟩ ⟨rfl, rfl, trivial⟩ ?_
  rintro _ w1 m ⟨i, l', rfl, hi, hl', a1, g1, rfl⟩
  have hbl := bvs_length l'
  have r1 : Rd w1 (some ⟨g, 0, none⟩) n (bvs (l'.take n)) := by have := a1.rd (n := n) (by omega); rw [bvs, ← List.map_take] at this; exact this
  refine wc_seq ?_; refine wc_sr ?_; refine wl_mv rfl rfl ?_; refine wl_mv rfl rfl ?_; apply wl_val; apply opv_len; exact rfl; exact tyB.sl; exact rfl; refine wl_bin rfl rfl bin_lss rfl ?_; refine wl_ns ?_
  refine wc_cond rfl (fun h1 => ?_) (fun h1 => ?_)
  · obtain ⟨x, hx⟩ : ∃ x, (l'.take n)[i]? = some x := ⟨_, List.getElem?_eq_getElem (by simp; omega)⟩
    have hxl := x.toNat_lt
    have hxx : x.toNat ^^^ 90 < 256 := Nat.xor_lt_two_pow (n := 8) hxl (by decide)
    refine wc_skip ?_; refine we_seq ?_; refine wc_seq ?_; refine wc_block ?_; refine wc_region ?_; refine wl_mv rfl rfl ?_; refine wl_mv rfl rfl ?_; refine wl_mv rfl rfl ?_; refine wl_mv rfl rfl ?_; apply wl_byK (T := tyB) (hr := r1) (hb := hx); exact rfl; exact rfl; exact rfl; exact rfl; exact rfl; intro _
    refine wl_val (opv_bin (b := .int .u8 (90 : Nat)) rfl rfl (bin_xor rfl hxl (by decide))) rfl ?_
    refine wl_setH (n := n) (kk := i) tyB rfl rfl a1 rfl (by omega) (by omega) (fun _ => rfl) rfl rfl fun p w2 a2 g2 _ => ?_
    have eu : Value.int .u8 ((x.toNat ^^^ 90 : Nat) : Int) = bv (UInt8.ofNat (x.toNat ^^^ 90)) := by
      unfold bv; rw [UInt8.toNat_ofNat', Nat.mod_eq_of_lt hxx]
    rw [eu, bvs_set] at a2
    refine wl_nil ?_; refine we_block_norm ?_; refine we_seq ?_; refine wc_region ?_; refine wl_mv rfl rfl ?_; apply wl_val; apply opv_bin; exact rfl; exact rfl; exact bin_add64 (by omega); exact rfl; refine wl_as rfl rfl ?_; refine wl_nil ?_
    refine we_loop [(0, .slice (some ⟨g, 0, none⟩) n c), (2, .int .i64 ((i + 1 : Nat) : Int))] (n - (i + 1)) ⟨i + 1, _, rfl, by omega, by rw [List.length_set]; exact hl', a2, g1.trans g2, rfl⟩ (by omega) ⟨rfl, by simp [lookT], trivial⟩
  · refine wc_exit ?_; refine we_seq_exit ?_; refine we_loop_exit ?_; refine we_block_exit ?_
    exact we_end0 rfl ⟨_, rfl, l', hl', a1, g1⟩
end Go.Proofs.Ytpnckagibkdcpaa


/-
  The walk over the reference's Apart: lists that each lie at the head of a block of their own are told to be apart.
-/
namespace Go.Proofs.Ytpnckagibkdcpaa
open Go.RowKit

section
variable {w w' w0 w1 : World} {A A' : Option Addr} {vs : List Value} {base n c i j : Nat}
theorem Own1.hd (h : Own1 w base vs) (hv : vs[i]? = some (.slice A n c)) : Hd w base A n c ∧ n ≤ 1099511627776 := by
  obtain ⟨A', n', c', e, h1, h2⟩ := h.at hv
  injection e with hA hn hc
  subst hA hn hc
  exact ⟨h1, h2⟩
theorem Own1.lt (h : Own1 w base vs) {v : Value} {g : Nat} (hv : v ∈ vs) (hg : v.ownBlock = some g) : g < w.heap.size ∧ base ≤ g := by
  obtain ⟨A, n, c, rfl, hd, _⟩ := h.1 v hv
  rw [ownBlock_slice] at hg
  rcases hd with ⟨rfl, _⟩ | ⟨g', cs, rfl, hb, ha, _⟩
  · simp at hg
  · simp at hg; subst hg; exact ⟨ha.lt, hb⟩
theorem Rd.cellAt {b o N : Nat} {v : Value} (h : Rd w (some ⟨b, o, none⟩) N vs) (hv : vs[i]? = some v) : w.cell? ⟨b, o + i, none⟩ = some v := by
  have hl := (List.getElem?_eq_some_iff.1 hv).1
  obtain ⟨b', o', e, _, hc⟩ := h.2 (by have := h.1; omega)
  injection e with e
  injection e with e1 e2
  subst e1 e2
  exact hc i v hv
theorem MkB.cs {b : Nat} {cs : List Value} (h : MkB w b i n) (ha : Ar w b 5 cs) : n ≤ cs.length ∧ ∀ j, j < n → cs[j]? = some (mk i j) := by
  obtain ⟨ds, hd, h1, h2⟩ := h
  have e : ds = cs := by
    unfold Ar at ha hd
    rw [ha] at hd
    simp only [Option.some.injEq, Obj.cells.injEq] at hd
    have := congrArg Array.toList hd.1
    simpa using this.symm
  subst e
  exact ⟨h1, h2⟩
theorem MkB.take {b : Nat} {cs : List Value} (h : MkB w b i n) (ha : Ar w b 5 cs) : cs.take n = bvs (mkl i n) := by
  obtain ⟨h1, h2⟩ := h.cs ha
  refine List.ext_getElem? fun j => ?_
  rw [List.getElem?_take, bvs, List.getElem?_map]
  by_cases hj : j < n
  · rw [if_pos hj, mkl_get hj, h2 j hj]; rfl
  · rw [if_neg hj, List.getElem?_eq_none (by rw [mkl_length]; omega)]; rfl
theorem set_marks {cs : List Value} : ∀ j' u, (cs.set j (mk i j))[j']? = some u → cs[j']? = some u ∨ u = mk i j' := fun j' u hu => by
  rw [List.getElem?_set] at hu
  split at hu
  · rename_i h
    subst h
    split at hu
    · simp at hu; exact .inr hu.symm
    · cases hu
  · exact .inl hu
theorem MkB.set {b : Nat} {cs : List Value} (h : MkB w b i j) (ha : Ar w b 5 cs) (hj : j < cs.length) (ha' : Ar w' b 5 (cs.set j (mk i j))) : MkB w' b i (j + 1) := by
  obtain ⟨_, h2⟩ := h.cs ha
  refine ⟨_, ha', by simp; omega, fun j' hj' => ?_⟩
  rw [List.getElem?_set]
  by_cases he : j = j'
  · subst he; simp [hj]
  · rw [if_neg he]; exact h2 j' (by omega)
/-- Marks from place n on. -/
def mkt (i n m : Nat) : List UInt8 := (List.range m).map fun k => mkb i (n + k)
theorem mkt_length {m : Nat} : (mkt i n m).length = m := by simp [mkt]
theorem mkt_get {m k : Nat} (h : k < m) : (mkt i n m)[k]? = some (mkb i (n + k)) := by simp [mkt, h]
theorem mkl_add {m : Nat} : mkl i (n + m) = mkl i n ++ mkt i n m := by
  refine List.ext_getElem? fun j => ?_
  by_cases h : j < n
  · rw [List.getElem?_append_left (by rw [mkl_length]; exact h), mkl_get h, mkl_get (by omega)]
  · rw [List.getElem?_append_right (by rw [mkl_length]; omega), mkl_length]
    by_cases h2 : j < n + m
    · rw [mkl_get h2, mkt_get (by omega)]; congr 2; omega
    · rw [List.getElem?_eq_none (by rw [mkl_length]; omega), List.getElem?_eq_none (by rw [mkt_length]; omega)]
theorem MkB.app {b m : Nat} {cs : List Value} (h : MkB w b i n) (ha : Ar w b 5 cs) (hm : n + m ≤ cs.length) (ha' : Ar w' b 5 (cs.take n ++ (bvs (mkt i n m) ++ cs.drop (n + m)))) : MkB w' b i (n + m) := by
  obtain ⟨h1, h2⟩ := h.cs ha
  refine ⟨_, ha', by simp [bvs_length, mkt_length]; omega, fun j hj => ?_⟩
  have hl : (cs.take n).length = n := by simp; omega
  by_cases h : j < n
  · rw [List.getElem?_append_left (by omega), List.getElem?_take, if_pos h]; exact h2 j h
  · rw [List.getElem?_append_right (by omega), hl, List.getElem?_append_left (by rw [bvs_length, mkt_length]; omega), bvs, List.getElem?_map, mkt_get (by omega), show n + (j - n) = j by omega]; rfl
theorem app_marks {m : Nat} {cs : List Value} (hm : n + m ≤ cs.length) : ∀ j u, (cs.take n ++ (bvs (mkt i n m) ++ cs.drop (n + m)))[j]? = some u → cs[j]? = some u ∨ u = mk i j := fun j u hu => by
  have hl : (cs.take n).length = n := by simp; omega
  by_cases h : j < n
  · rw [List.getElem?_append_left (by omega), List.getElem?_take, if_pos h] at hu; exact .inl hu
  · rw [List.getElem?_append_right (by omega), hl] at hu
    by_cases h2 : j < n + m
    · rw [List.getElem?_append_left (by rw [bvs_length, mkt_length]; omega), bvs, List.getElem?_map, mkt_get (by omega), show n + (j - n) = j by omega] at hu
      simp at hu; exact .inr hu.symm
    · rw [List.getElem?_append_right (by rw [bvs_length, mkt_length]; omega), bvs_length, mkt_length, List.getElem?_drop, show n + m + (j - n - m) = j by omega] at hu
      exact .inl hu
theorem Mx.succ (h : Mx w vs i) (hv : vs[i]? = some (.slice A n c)) (hm : ∀ a, A = some a → MkB w a.block i n) : Mx w vs (i + 1) := fun k A' n' c' hk hv' => by
  by_cases he : k = i
  · subst he
    rw [hv] at hv'
    simp only [Option.some.injEq] at hv'
    injection hv' with hA hn hc
    subst hn
    exact hm A' hA
  · exact h k A' n' c' (by omega) hv'
theorem Sk.far {X : Option Nat} (h : Sk w w1 X i) (hs : w.heap.size ≤ w1.heap.size) (g : Gr w1 w' A') (hA : ∀ a, A' = some a → w.heap.size ≤ a.block) : Sk w w' X i := fun b cs ha => by
  obtain ⟨cs', a1, l1, r⟩ := h b cs ha
  refine ⟨cs', ?_, l1, r⟩
  unfold Ar
  rw [g.block b a1.lt fun hk => ?_]
  · exact a1
  · cases A' with
    | none => simp at hk
    | some a => simp at hk; have := hA a rfl; have := ha.lt; omega
theorem Gr.far (h : Gr w w1 A) (g : Gr w1 w' A') (hA : ∀ a, A' = some a → w.heap.size ≤ a.block) : Gr w w' A :=
  ⟨g.os.trans h.os, g.tape.trans h.tape, g.output.trans h.output, Nat.le_trans h.size g.size, fun k hk hne => by
    rw [← h.block k hk hne]
    refine g.block k (Nat.lt_of_lt_of_le hk h.size) fun hk' => ?_
    cases A' with
    | none => simp at hk'
    | some a => simp at hk'; have := hA a rfl; omega⟩
theorem Gr.bel (h : Gr w w1 A) (g : Below w1.heap.size w1 w') : Gr w w' A := h.far (Gr.of_below none g (Nat.le_refl _)) (by simp)
/-- What stands of all that is followed. -/
def Sd (w0 w : World) (base : Nat) (vs : List Value) (N : Nat) (P : Option Addr) (cp : Nat) (gs : List Value) : Prop :=
  Own1 w base vs ∧ Mx w vs N ∧ Kp w0 w vs ∧ Ow w w0.heap.size 24 P gs.length cp gs ∧ ∀ k v, gs[k]? = some v → Gd w vs (k % N) v
variable {N cp : Nat} {P : Option Addr} {gs : List Value}
theorem Sd.bel (h : Sd w0 w base vs N P cp gs) (hb : Below w.heap.size w w') : Sd w0 w' base vs N P cp gs := by
  obtain ⟨h1, h2, h3, h4, h5⟩ := h
  refine ⟨h1.st (X := none) (k := 0) (Sk.bel hb), h2.bel hb, h3.bel hb, Ow.below h4 hb (Nat.le_refl _), fun k v hv => ?_⟩
  obtain ⟨b, n, c, e, hn, hn2, hm, ht⟩ := h5 k v hv
  exact ⟨b, n, c, e, hn, hn2, hm.st (X := none) (k := 0) (Sk.bel hb) (by simp), ht⟩
/-- A step that writes marks of list i into its own block alone. -/
theorem Sd.gr (h : Sd w0 w base vs N P cp gs) (hv : vs[i]? = some (.slice A n c)) (s : Sk w w' (A.map (·.block)) i) (g : Gr w w' A) (hv0 : ∀ a, A = some a → a.block < w0.heap.size) : Sd w0 w' base vs N P cp gs := by
  obtain ⟨h1, h2, h3, h4, h5⟩ := h
  refine ⟨h1.st s, h2.st h1 hv s, h3.gr g fun a ha _ => ⟨_, List.mem_of_getElem? hv, by rw [ha]; rfl⟩, Ow.gr (base' := 0) (e' := 0) h4 g fun a b ha hb => ?_, fun k v hk => (h5 k v hk).st hv s⟩
  have := (Ow.lt h4 a ha).1
  have := hv0 b hb
  omega
/-- A grown slice that has come to lie in a block of its own. -/
theorem gd_new {b0 : Nat} (h : Ow w b0 5 A' n c (bvs (mkl i n))) (hn : 0 < n) (hn2 : n ≤ 2199023255552) (hb : w0.heap.size ≤ b0) (ho : Own1 w0 base vs) : Gd w vs i (.slice A' n c) := by
  rcases h.2 with ⟨_, h0⟩ | ⟨g, cap, cur, hv, hbg, hg, hnc, _, hs, ht⟩
  · omega
  · injection hv with hA hn' hc
    subst hA hc
    refine ⟨g, n, c, rfl, hnc, hn2, ⟨cur.toList, by simpa [Ar] using hg, by simp; omega, fun j hj => ?_⟩, fun k u hu hub => ?_⟩
    · have e : (cur.toList.take n)[j]? = some (mk i j) := by
        rw [show cur.toList.take n = bvs (mkl i n) by simpa using ht, bvs, List.getElem?_map, mkl_get hj]; rfl
      rw [List.getElem?_take, if_pos hj] at e
      exact e
    · have := (ho.lt (List.mem_of_getElem? hu) hub).1
      omega
/-- A grown slice that lies in its list's own block. -/
theorem gd_own {g : Nat} (h : MkB w g i n) (hn : n ≤ c) (hn2 : n ≤ 2199023255552) {n0 c0 : Nat} (hv : vs[i]? = some (.slice (some ⟨g, 0, none⟩) n0 c0)) (ho : Own1 w base vs) : Gd w vs i (.slice (some ⟨g, 0, none⟩) n c) :=
  ⟨g, n, c, rfl, hn, hn2, h, fun k u hu hub => ho.inj hu hv hub rfl⟩
theorem Sd.push {cp' : Nat} {P' : Option Addr} {v : Value} (h : Sd w0 w base vs N P cp gs) (ho : Ow w' w0.heap.size 24 P' (gs.length + 1) cp' (gs ++ [v])) (g : Gr w w' P) (hg : Gd w vs (gs.length % N) v) : Sd w0 w' base vs N P' cp' (gs ++ [v]) := by
  obtain ⟨h1, h2, h3, h4, h5⟩ := h
  have s : ∀ k, Sk w w' none k := fun k => by
    rcases h4.2 with ⟨hv, _⟩ | ⟨g', cap, cur, hv, _, hg', _⟩
    · injection hv with hA
      subst hA
      exact Sk.other (g := 0) (t := 24) (cs := []) g (by simp) (.inl rfl) (by decide)
    · injection hv with hA
      subst hA
      exact Sk.other (g := g') (t := 24) (cs := cur.toList) g (by intro a ha; cases ha; rfl) (.inr (by simpa [Ar] using hg')) (by decide)
  have hk : ∀ {m : Nat} {u : Value}, Gd w vs m u → Gd w' vs m u := fun {m u} hgd => by
    obtain ⟨b, n, c, e, hn, hn2, hm, ht⟩ := hgd
    exact ⟨b, n, c, e, hn, hn2, hm.st (s 0) (by simp), ht⟩
  refine ⟨h1.st (s 0), fun k A n c hk hv => (h2 k A n c hk hv).st (s 0) (by simp), h3.gr g fun a ha hlt => ?_, by rw [List.length_append]; exact ho, fun k u hu => ?_⟩
  · have := (Ow.lt h4 a ha).1; omega
  · rw [List.getElem?_append] at hu
    split at hu
    · exact hk (h5 k u hu)
    · have hk0 : k = gs.length := by
        have := (List.getElem?_eq_some_iff.1 hu).1
        simp at this; omega
      subst hk0
      simp at hu
      subst hu
      exact hk hg
end
end Go.Proofs.Ytpnckagibkdcpaa


/-
  The walk over the reference's Apart.
-/
namespace Go.Proofs.Ytpnckagibkdcpaa
open Go.RowKit

/-- Phase 1: every list is filled with its marks. -/
def Ap1 (w0 w : World) (base : Nat) (vs : List Value) (i : Nat) : Prop := Own1 w base vs ∧ Mx w vs i ∧ Kp w0 w vs
theorem apart_any {Lp : Option Addr} {N c base : Nat} {vs : List Value} {w : World} (hr : Rd w Lp N vs) (hL : ∀ a, Lp = some a → ∀ v ∈ vs, v.ownBlock ≠ some a.block) (ho : Own1 w base vs) (hb : base ≤ w.heap.size) (hN : N ≤ 4194304) :
    CallsV Try.prog 41 #[.slice Lp N c] w fun v w' => v = .bool true ∧ Below base w w' := by
  have hvl : vs.length = N := hr.1
  have hlt0 : ∀ {A : Option Addr} {n c i : Nat}, vs[i]? = some (.slice A n c) → ∀ a, A = some a → a.block < w.heap.size := fun hv a ha => (ho.lt (List.mem_of_getElem? hv) (by rw [ownBlock_slice, ha]; rfl)).1
  refine calls_in (N := _) Try.func41 rfl Try.ntmps41 rfl ?_; show WC _ _ _ _ _ _
  refine wc_sr ?_; refine wl_as rfl rfl ?_; refine wl_ns ?_; refine wc_seq ?_; refine wc_sr ?_; refine wl_as rfl rfl ?_; refine wl_ns ?_; refine wc_block ?_
  refine wc_loop (fun L wr m => ∃ i : Nat, L = [(0, .slice Lp N c), (3, .int .i64 (i : Int))] ∧ i ≤ N ∧ Ap1 w wr base vs i ∧ m = N - i)
    [(0, .slice Lp N c), (3, .int .i64 (0 : Nat))] N ⟨0, rfl, by omega, ⟨ho, fun k A n c hk => by omega, Kp.refl _ _⟩, rfl⟩ ⟨rfl, rfl, trivial⟩ ?_
  rintro _ w1 m ⟨i, rfl, hi, ⟨o1, m1, k1⟩, rfl⟩
  refine wc_seq ?_; refine wc_sr ?_; refine wl_mv rfl rfl ?_; refine wl_mv rfl rfl ?_; apply wl_val; apply opv_len; exact rfl; exact tyBB.sl; exact rfl; refine wl_bin rfl rfl bin_lss rfl ?_; refine wl_ns ?_
  refine wc_cond rfl (fun h1 => ?_) (fun h1 => ?_)
  · obtain ⟨v, hv⟩ : ∃ v, vs[i]? = some v := ⟨_, List.getElem?_eq_getElem (by omega)⟩
    obtain ⟨A, n, cc, rfl, hd1, hnl⟩ := o1.at hv
    refine wc_skip ?_; refine we_seq ?_; refine wc_seq ?_; refine wc_block ?_; refine wc_sr ?_; refine wl_as rfl rfl ?_; refine wl_ns ?_; refine wc_block ?_
    refine wc_loop (fun L wr m => ∃ j : Nat, L = [(0, .slice Lp N c), (3, .int .i64 (i : Int)), (4, .int .i64 (j : Int))] ∧ j ≤ n ∧ Ap1 w wr base vs i ∧ (∀ a, A = some a → MkB wr a.block i j) ∧ m = n - j)
      [(0, .slice Lp N c), (3, .int .i64 (i : Int)), (4, .int .i64 (0 : Nat))] n ⟨0, rfl, by omega, ⟨o1, m1, k1⟩, ?_, rfl⟩ ⟨rfl, rfl, rfl, trivial⟩ ?_
    · intro a ha
      rcases hd1 with ⟨h, _⟩ | ⟨g, cs, h, _, ha1, _⟩
      · rw [h] at ha; cases ha
      · rw [h] at ha; cases ha
        exact ⟨cs, ha1, by omega, by omega⟩
    rintro _ w2 m ⟨j, rfl, hj, ⟨o2, m2, k2⟩, b2, rfl⟩
    have r2 := k2.rd hr hL
    refine wc_seq ?_; refine wc_sr ?_; refine wl_mv rfl rfl ?_; refine wl_mv rfl rfl ?_; refine wl_mv rfl rfl ?_; apply wl_elK (T := tyBB) (hr := r2) (hb := hv); exact rfl; exact rfl; exact rfl; exact rfl; exact rfl; intro _; apply wl_val; apply opv_len; exact rfl; exact tyB.sl; exact rfl; refine wl_bin rfl rfl bin_lss rfl ?_; refine wl_ns ?_
    refine wc_cond rfl (fun h2 => ?_) (fun h2 => ?_)
    · have hd2 := (o2.hd hv).1
      rcases hd2 with ⟨_, h0, _⟩ | ⟨g, cs, rfl, hg, ha, hnc, hcc⟩
      · omega
      obtain ⟨bl, ol, rfl, _, _⟩ := hr.2 (by omega)
      have mb := b2 _ rfl
      have hgr := (Gr.of_below (some ⟨g, 0, none⟩) ((Below.refl w2.heap.size w2).drew) (Nat.le_refl _))
      refine wc_skip ?_; refine we_seq ?_; refine wc_seq ?_; refine wc_block ?_
      refine wc_held (fun w' => Rd w' (some ⟨bl, ol, none⟩) N vs) mixed ?_
      apply wh_take 0; exact rfl; kernel_rfl; kernel_rfl; kernel_rfl; exact r2; intro _ hw_; apply opv_move; exact rfl; exact rfl; apply wh_take 1; exact rfl; kernel_rfl; kernel_rfl; kernel_rfl; exact r2; intro _ hw_; apply opv_move; exact rfl; exact rfl
      refine wh_take 2 rfl (by kernel_rfl) (by kernel_rfl) (by kernel_rfl) r2 (fun _ _ => opv_idx (kk := i) tyBB rfl rfl rfl (by omega)) rfl ?_
      refine wh_take 3 rfl (by kernel_rfl) (by kernel_rfl) (by kernel_rfl) r2 (fun _ hw => opv_load tyBB rfl (hw.cellAt hv)) rfl ?_
      apply wh_take 4; exact rfl; kernel_rfl; kernel_rfl; kernel_rfl; exact r2; intro _ hw_; apply opv_move; exact rfl; exact rfl; apply wh_take 5; exact rfl; kernel_rfl; kernel_rfl; kernel_rfl; exact r2; intro _ hw_; apply opv_move; exact rfl; exact rfl; apply wh_take 6; exact rfl; kernel_rfl; kernel_rfl; kernel_rfl; exact r2; intro _ hw_; apply opv_move; exact rfl; exact rfl
      refine wh_one 7 (o := ⟨_, _, _, _, _, _⟩) (by kernel_rfl) rfl ?_
      refine wl_call ok_caissonref01_mark (mark_any i j (by omega) (by omega) _) ⟨rfl, rfl, trivial⟩ rfl ?_
      rintro _ _ ⟨rfl, rfl⟩
      refine wl_nil ?_
      refine we_held r2 ?_
      refine wh_take 8 rfl (by kernel_rfl) (by kernel_rfl) (by kernel_rfl) r2 (fun _ _ => opv_idx (kk := j) tyB rfl rfl rfl (by omega)) rfl ?_
      refine wh_one 9 (o := ⟨_, _, _, _, _, _⟩) (by kernel_rfl) rfl ?_
      refine wl_storeA (w := w2.drew) (kk := j) tyB ha (by omega) rfl rfl rfl fun w3 a3 g3 _ => ?_
      have g3' := hgr.trans g3
      have s3 : Sk w2 w3 (some g) i := Sk.at g3' ha a3 (by simp) set_marks
      have o3 := o2.st s3
      have m3 := m2.st o2 hv s3
      have k3 := k2.gr g3' fun a ha' _ => ⟨_, List.mem_of_getElem? hv, by rw [ownBlock_slice, ha']; rfl⟩
      have b3 := mb.set ha (by omega) a3
      have r3 := k3.rd hr hL
      refine wl_nil ?_
      refine we_held r3 ?_
      refine wh_done (by kernel_rfl) ?_
      refine we_block_norm ?_; refine we_seq ?_; refine wc_region ?_; refine wl_mv rfl rfl ?_; apply wl_val; apply opv_bin; exact rfl; exact rfl; exact bin_add64 (by omega); exact rfl; refine wl_as rfl rfl ?_; refine wl_nil ?_
      refine we_loop [(0, .slice (some ⟨bl, ol, none⟩) N c), (3, .int .i64 (i : Int)), (4, .int .i64 ((j + 1 : Nat) : Int))] (n - (j + 1)) ⟨j + 1, rfl, by omega, ⟨o3, m3, k3⟩, by intro a ha; cases ha; exact b3, rfl⟩ (by omega) ⟨rfl, rfl, by simp [lookT], trivial⟩
    · obtain rfl : j = n := by omega
      have m2' := m2.succ hv b2
      refine wc_exit ?_; refine we_seq_exit ?_; refine we_loop_exit ?_; refine we_block_exit ?_; refine we_block_norm ?_; refine we_seq ?_; refine wc_region ?_; refine wl_mv rfl rfl ?_; apply wl_val; apply opv_bin; exact rfl; exact rfl; exact bin_add64 (by omega); exact rfl; refine wl_as rfl rfl ?_; refine wl_nil ?_
      refine we_loop [(0, .slice Lp N c), (3, .int .i64 ((i + 1 : Nat) : Int))] (N - (i + 1)) ⟨i + 1, rfl, by omega, ⟨o2, m2', k2⟩, rfl⟩ (by omega) ⟨rfl, by simp [lookT], trivial⟩
  · obtain rfl : i = N := by omega
    clear h1 hi
    refine wc_exit ?_; refine we_seq_exit ?_; refine we_loop_exit ?_; refine we_block_exit ?_; refine we_seq ?_; refine wc_sr ?_; refine wl_as rfl rfl ?_; refine wl_ns ?_; refine wc_seq ?_; refine wc_sr ?_; refine wl_as rfl rfl ?_; refine wl_ns ?_; refine wc_block ?_
    refine wc_loop (fun L wr m => ∃ (j : Nat) (P : Option Addr) (cp : Nat) (gs : List Value), L = [(0, .slice Lp i c), (5, .slice P gs.length cp), (6, .int .i64 (j : Int))] ∧ j ≤ i ∧ gs.length = j ∧ Sd w wr base vs i P cp gs ∧ m = i - j)
      [(0, .slice Lp i c), (5, .slice none 0 0), (6, .int .i64 (0 : Nat))] i ⟨0, none, 0, [], rfl, by omega, rfl, ⟨o1, m1, k1, Ow.nil _ _ _, by simp⟩, rfl⟩ ⟨rfl, rfl, rfl, trivial⟩ ?_
    rintro _ w2 m ⟨j, P, cp, gs, rfl, hj, hgl, s2, rfl⟩
    refine wc_seq ?_; refine wc_sr ?_; refine wl_mv rfl rfl ?_; refine wl_mv rfl rfl ?_; apply wl_val; apply opv_len; exact rfl; exact tyBB.sl; exact rfl; refine wl_bin rfl rfl bin_lss rfl ?_; refine wl_ns ?_
    refine wc_cond rfl (fun h1 => ?_) (fun h1 => ?_)
    · obtain ⟨v, hv⟩ : ∃ v, vs[j]? = some v := ⟨_, List.getElem?_eq_getElem (by omega)⟩
      obtain ⟨A, n, cc, rfl, hd2, hnl⟩ := s2.1.at hv
      have hv0 := hlt0 hv
      have r2 := s2.2.2.1.rd hr hL
      have hs20 := s2.2.2.1.2.2.2.1
      refine wc_skip ?_; refine we_seq ?_; refine wc_seq ?_; refine wc_block ?_; refine wc_sr ?_; refine wl_mv rfl rfl ?_; refine wl_mv rfl rfl ?_; apply wl_elK (T := tyBB) (hr := r2) (hb := hv); exact rfl; exact rfl; exact rfl; exact rfl; exact rfl; intro _; refine wl_as rfl rfl ?_; refine wl_ns ?_; refine wc_seq ?_; refine wc_sr ?_; refine wl_as rfl rfl ?_; refine wl_ns ?_; refine wc_block ?_
      refine wc_loop (fun L wr m => ∃ (k : Nat) (A' : Option Addr) (c' : Nat), L = [(0, .slice Lp i c), (5, .slice P gs.length cp), (6, .int .i64 (j : Int)), (7, .slice A' (n + k) c'), (8, .int .i64 (k : Int))] ∧ k ≤ 16 ∧ Sk w2 wr (A.map (·.block)) j ∧ Gr w2 wr A ∧ ((∃ g, A = some ⟨g, 0, none⟩ ∧ A' = some ⟨g, 0, none⟩ ∧ c' = cc ∧ n + k ≤ cc ∧ MkB wr g j (n + k)) ∨ Ow wr w2.heap.size 5 A' (n + k) c' (bvs (mkl j (n + k)))) ∧ m = 16 - k)
        [(0, .slice Lp i c), (5, .slice P gs.length cp), (6, .int .i64 (j : Int)), (7, .slice A n cc), (8, .int .i64 (0 : Nat))] 16 ⟨0, A, cc, rfl, by omega, Sk.refl _ _ _, Gr.refl _ _, ?_, rfl⟩ ⟨rfl, rfl, rfl, rfl, rfl, trivial⟩ ?_
      · rcases hd2 with ⟨rfl, rfl, rfl⟩ | ⟨g, cs, rfl, _, _, hnc, _⟩
        · exact .inr (Ow.nil _ _ _)
        · exact .inl ⟨g, rfl, rfl, rfl, hnc, s2.2.1 j _ n cc (by omega) hv⟩
      rintro _ w3 m ⟨k, A', c', rfl, hk, t3, g3, hg3, rfl⟩
      have r3 := (s2.2.2.1.gr g3 fun a ha' _ => ⟨_, List.mem_of_getElem? hv, by rw [ownBlock_slice, ha']; rfl⟩).rd hr hL
      refine wc_seq ?_; refine wc_sr ?_; refine wl_mv rfl rfl ?_; refine wl_bin rfl rfl bin_lss rfl ?_; refine wl_ns ?_
      refine wc_cond rfl (fun h2 => ?_) (fun h2 => ?_)
      · refine wc_skip ?_; refine we_seq ?_; refine wc_seq ?_; refine wc_block ?_; refine wc_region ?_; refine wl_mv rfl rfl ?_; refine wl_mv rfl rfl ?_; refine wl_mv rfl rfl ?_; refine wl_mv rfl rfl ?_; apply wl_elK (T := tyBB) (hr := r3) (hb := hv); exact rfl; exact rfl; exact rfl; exact rfl; exact rfl; intro _; apply wl_val; apply opv_len; exact rfl; exact tyB.sl; exact rfl; refine wl_mv rfl rfl ?_; apply wl_val; apply opv_bin; exact rfl; exact rfl; exact bin_add64 (by omega); exact rfl
        refine wl_call ok_caissonref01_mark (mark_any j (n + k) (by omega) (by omega) _) ⟨rfl, rfl, trivial⟩ rfl ?_
        rintro _ _ ⟨rfl, rfl⟩
        have hmk : [mk j (n + k)] = bvs (mkt j (n + k) 1) := rfl
        have hs3 := g3.size
        refine wl_bs (vs := [_]) tyB ⟨rfl, rfl, rfl, trivial⟩ rfl (by decide) rfl fun A4 w4 o4 hb4 _ => ?_
        rw [hmk] at o4
        rcases hg3 with ⟨g, rfl, rfl, rfl, hle, mb⟩ | hown
        · rcases hd2.st t3 with ⟨h, _⟩ | ⟨g', cs, he, _, ha, _, hcc⟩
          · cases h
          cases he
          have ha4 := ha.bel hb4
          have mb4 := mb.st (X := none) (k := j) (Sk.bel hb4) (by simp)
          have t4 := t3.trans (Sk.bel hb4)
          have g4 := g3.bel hb4
          refine wl_appA (n := n + k) tyB rfl ha4 hle hcc rfl o4.rd (by decide) (bvs_one _) (by omega) (by simp only [maxLen]; omega) rfl (fun hfit w5 a5 g5 => ?_) (fun A5 c5 w5 o5 hb5 => ?_)
          · have t5 : Sk w4 w5 (some g) j := Sk.at g5 ha4 a5 (by simp [bvs_length, mkt_length]; omega) (app_marks (by omega))
            refine wl_as rfl rfl ?_; refine wl_nil ?_; refine we_block_norm ?_; refine we_seq ?_; refine wc_region ?_; refine wl_mv rfl rfl ?_; apply wl_val; apply opv_bin; exact rfl; exact rfl; exact bin_add64 (by omega); exact rfl; refine wl_as rfl rfl ?_; refine wl_nil ?_
            refine we_loop [(0, .slice Lp i c), (5, .slice P gs.length cp), (6, .int .i64 (j : Int)), (7, .slice (some ⟨g, 0, none⟩) (n + (k + 1)) _), (8, .int .i64 ((k + 1 : Nat) : Int))] (16 - (k + 1)) ⟨k + 1, _, _, rfl, by omega, t4.trans t5, g4.trans g5, .inl ⟨g, rfl, rfl, rfl, by omega, mb4.app ha4 (by omega) a5⟩, rfl⟩ (by omega) ⟨rfl, rfl, rfl, rfl, by simp [lookT], trivial⟩
          · rw [mb4.take ha4, ← bvs_append, ← mkl_add] at o5
            refine wl_as rfl rfl ?_; refine wl_nil ?_; refine we_block_norm ?_; refine we_seq ?_; refine wc_region ?_; refine wl_mv rfl rfl ?_; apply wl_val; apply opv_bin; exact rfl; exact rfl; exact bin_add64 (by omega); exact rfl; refine wl_as rfl rfl ?_; refine wl_nil ?_
            refine we_loop [(0, .slice Lp i c), (5, .slice P gs.length cp), (6, .int .i64 (j : Int)), (7, .slice A5 (n + (k + 1)) c5), (8, .int .i64 ((k + 1 : Nat) : Int))] (16 - (k + 1)) ⟨k + 1, A5, c5, rfl, by omega, t4.trans (Sk.bel hb5), g4.bel hb5, .inr (Ow.mono o5 (by have := hb4.size; omega)), rfl⟩ (by omega) ⟨rfl, rfl, rfl, rfl, by simp [lookT], trivial⟩
        · have hown4 := Ow.below hown hb4 (Nat.le_refl _)
          have hs4 := hb4.size
          refine wl_app (n := n + k) tyB rfl hown4 rfl o4.rd (bvs_one _) (by omega) (by simp only [maxLen]; omega) (by omega) rfl fun A5 c5 w5 o5 g5 _ => ?_
          rw [← bvs_append, ← mkl_add] at o5
          have hfar : ∀ a, A' = some a → w2.heap.size ≤ a.block := fun a ha => (Ow.lt hown a ha).1
          refine wl_as rfl rfl ?_; refine wl_nil ?_; refine we_block_norm ?_; refine we_seq ?_; refine wc_region ?_; refine wl_mv rfl rfl ?_; apply wl_val; apply opv_bin; exact rfl; exact rfl; exact bin_add64 (by omega); exact rfl; refine wl_as rfl rfl ?_; refine wl_nil ?_
          refine we_loop [(0, .slice Lp i c), (5, .slice P gs.length cp), (6, .int .i64 (j : Int)), (7, .slice A5 (n + (k + 1)) c5), (8, .int .i64 ((k + 1 : Nat) : Int))] (16 - (k + 1)) ⟨k + 1, A5, c5, rfl, by omega, (t3.trans (Sk.bel hb4)).far (by omega) g5 hfar, (g3.bel hb4).far g5 hfar, .inr o5, rfl⟩ (by omega) ⟨rfl, rfl, rfl, rfl, by simp [lookT], trivial⟩
      · obtain rfl : k = 16 := by omega
        have s3 := s2.gr hv t3 g3 hv0
        have hgd : Gd w3 vs (gs.length % i) (.slice A' (n + 16) c') := by
          rw [hgl, Nat.mod_eq_of_lt (by omega)]
          rcases hg3 with ⟨g, rfl, rfl, rfl, hle, mb⟩ | hown
          · exact gd_own mb hle (by omega) hv s3.1
          · exact gd_new hown (by omega) (by omega) hs20 ho
        refine wc_exit ?_; refine we_seq_exit ?_; refine we_loop_exit ?_; refine we_block_exit ?_; refine we_seq ?_; refine wc_region ?_; refine wl_mv rfl rfl ?_; refine wl_mv rfl rfl ?_
        refine wl_push (vs := [.slice A' (n + 16) c']) tyBB rfl s3.2.2.2.1 ⟨rfl, rfl, rfl, trivial⟩ rfl (by decide) rfl (by omega) (by simp only [maxLen]; omega) s3.2.2.1.2.2.2.1 rfl rfl fun p P4 cp4 w4 o4 g4 _ => ?_
        refine wl_as rfl rfl ?_; refine wl_nil ?_; refine we_block_norm ?_; refine we_seq ?_; refine wc_region ?_; refine wl_mv rfl rfl ?_; apply wl_val; apply opv_bin; exact rfl; exact rfl; exact bin_add64 (by omega); exact rfl; refine wl_as rfl rfl ?_; refine wl_nil ?_
        refine we_loop [(0, .slice Lp i c), (5, .slice P4 (gs ++ [Value.slice A' (n + 16) c']).length cp4), (6, .int .i64 ((j + 1 : Nat) : Int))] (i - (j + 1)) ⟨j + 1, P4, cp4, _, rfl, by omega, by simp [hgl], s3.push o4 g4 hgd, rfl⟩ (by omega) ⟨rfl, by rw [List.length_append]; rfl, by simp [lookT], trivial⟩
    · obtain rfl : j = i := by omega
      clear h1 hj o1 m1 k1
      refine wc_exit ?_; refine we_seq_exit ?_; refine we_loop_exit ?_; refine we_block_exit ?_; refine we_seq ?_; refine wc_seq ?_; refine wc_sr ?_; refine wl_as rfl rfl ?_; refine wl_ns ?_; refine wc_block ?_
      refine wc_loop (fun L wr m => ∃ (q : Nat) (P : Option Addr) (cp : Nat) (gs : List Value), L = [(0, .slice Lp j c), (5, .slice P gs.length cp), (9, .int .i64 (q : Int))] ∧ q ≤ j ∧ gs.length = j + q ∧ Sd w wr base vs j P cp gs ∧ m = j - q)
        [(0, .slice Lp j c), (5, .slice P gs.length cp), (9, .int .i64 (0 : Nat))] j ⟨0, P, cp, gs, rfl, by omega, hgl, s2, rfl⟩ ⟨rfl, rfl, rfl, trivial⟩ ?_
      clear s2 hgl
      rintro _ w3 m ⟨q, P, cp, gs, rfl, hq, hgl, s3, rfl⟩
      refine wc_seq ?_; refine wc_sr ?_; refine wl_mv rfl rfl ?_; refine wl_mv rfl rfl ?_; apply wl_val; apply opv_len; exact rfl; exact tyBB.sl; exact rfl; refine wl_bin rfl rfl bin_lss rfl ?_; refine wl_ns ?_
      refine wc_cond rfl (fun h1 => ?_) (fun h1 => ?_)
      · obtain ⟨v, hv⟩ : ∃ v, vs[q]? = some v := ⟨_, List.getElem?_eq_getElem (by omega)⟩
        obtain ⟨A, n, cc, rfl, hd3, hnl⟩ := s3.1.at hv
        have hv0 := hlt0 hv
        have hs30 := s3.2.2.1.2.2.2.1
        refine wc_skip ?_; refine we_seq ?_; refine wc_seq ?_; refine wc_block ?_; refine wc_sr ?_
        refine wl_mk (n := 40) (c := 40) tyB rfl rfl rfl rfl (by omega) (by omega) (by simp only [maxLen]; omega) rfl fun A4 w4 o4 hb4 _ => ?_
        refine wl_as rfl rfl ?_; refine wl_ns ?_; refine wc_seq ?_; refine wc_sr ?_; refine wl_as rfl rfl ?_; refine wl_ns ?_; refine wc_block ?_
        refine wc_loop (fun L wr m => ∃ k : Nat, L = [(0, .slice Lp j c), (5, .slice P gs.length cp), (9, .int .i64 (q : Int)), (10, .slice A4 40 40), (11, .int .i64 (k : Int))] ∧ k ≤ 40 ∧ Ow wr w3.heap.size 5 A4 40 40 (bvs (mkt q n k ++ List.replicate (40 - k) 0)) ∧ Below w3.heap.size w3 wr ∧ m = 40 - k)
          [(0, .slice Lp j c), (5, .slice P gs.length cp), (9, .int .i64 (q : Int)), (10, .slice A4 40 40), (11, .int .i64 (0 : Nat))] 40 ⟨0, rfl, by omega, by simpa [bvs, bv, mkt] using o4, hb4, rfl⟩ ⟨rfl, rfl, rfl, rfl, rfl, trivial⟩ ?_
        rintro _ w5 m ⟨k, rfl, hk, o5, hb5, rfl⟩
        have s5 := s3.bel hb5
        have r5 := s5.2.2.1.rd hr hL
        have hs5 := hb5.size
        refine wc_seq ?_; refine wc_sr ?_; refine wl_mv rfl rfl ?_; refine wl_bin rfl rfl bin_lss rfl ?_; refine wl_ns ?_
        refine wc_cond rfl (fun h2 => ?_) (fun h2 => ?_)
        · refine wc_skip ?_; refine we_seq ?_; refine wc_seq ?_; refine wc_block ?_; refine wc_region ?_; refine wl_mv rfl rfl ?_; refine wl_mv rfl rfl ?_; refine wl_mv rfl rfl ?_; refine wl_mv rfl rfl ?_; refine wl_mv rfl rfl ?_; apply wl_elK (T := tyBB) (hr := r5) (hb := hv); exact rfl; exact rfl; exact rfl; exact rfl; exact rfl; intro _; apply wl_val; apply opv_len; exact rfl; exact tyB.sl; exact rfl; refine wl_mv rfl rfl ?_; apply wl_val; apply opv_bin; exact rfl; exact rfl; exact bin_add64 (by omega); exact rfl
          refine wl_call ok_caissonref01_mark (mark_any q (n + k) (by omega) (by omega) _) ⟨rfl, rfl, trivial⟩ rfl ?_
          rintro _ _ ⟨rfl, rfl⟩
          refine wl_set (n := 40) (kk := k) tyB rfl rfl o5 rfl (by omega) (fun _ => rfl) rfl rfl fun p w6 o6 g6 _ => ?_
          have hb6 := g6.below hb5 o5 (Nat.le_refl _) hs5
          have e6 : (bvs (mkt q n k ++ List.replicate (40 - k) 0)).set k (mk q (n + k)) = bvs (mkt q n (k + 1) ++ List.replicate (40 - (k + 1)) 0) := by
            rw [mk, bvs_set]
            congr 1
            rw [List.set_append_right _ _ (by rw [mkt_length]; omega), mkt_length, Nat.sub_self, show 40 - k = (40 - (k + 1)) + 1 by omega, List.replicate_succ, List.set_cons_zero]
            simp [mkt, List.range_succ]
          rw [e6] at o6
          refine wl_nil ?_; refine we_block_norm ?_; refine we_seq ?_; refine wc_region ?_; refine wl_mv rfl rfl ?_; apply wl_val; apply opv_bin; exact rfl; exact rfl; exact bin_add64 (by omega); exact rfl; refine wl_as rfl rfl ?_; refine wl_nil ?_
          refine we_loop [(0, .slice Lp j c), (5, .slice P gs.length cp), (9, .int .i64 (q : Int)), (10, .slice A4 40 40), (11, .int .i64 ((k + 1 : Nat) : Int))] (40 - (k + 1)) ⟨k + 1, rfl, by omega, o6, hb6, rfl⟩ (by omega) ⟨rfl, rfl, rfl, rfl, by simp [lookT], trivial⟩
        · obtain rfl : k = 40 := by omega
          rw [Nat.sub_self, List.replicate_zero, List.append_nil] at o5
          refine wc_exit ?_; refine we_seq_exit ?_; refine we_loop_exit ?_; refine we_block_exit ?_; refine we_seq ?_; refine wc_region ?_; refine wl_mv rfl rfl ?_; refine wl_mv rfl rfl ?_; refine wl_mv rfl rfl ?_; apply wl_elK (T := tyBB) (hr := r5) (hb := hv); exact rfl; exact rfl; exact rfl; exact rfl; exact rfl; intro _; refine wl_mv rfl rfl ?_
          rcases (s5.1.hd hv).1 with ⟨rfl, rfl, rfl⟩ | ⟨g, cs, rfl, _, ha, hnc, hcc⟩
          · refine wl_app tyB rfl (Ow.nil w5 w5.heap.size _) rfl o5.rd (bvs_one _) (by omega) (by simp only [maxLen]; omega) (Nat.le_refl _) rfl fun A7 c7 w7 o7 g7 _ => ?_
            have hb7 := g7.below (Below.refl w5.heap.size w5) (Ow.nil w5 w5.heap.size 5) (Nat.le_refl _) (Nat.le_refl _)
            have em : mkl q (0 + 40) = mkt q 0 40 := by rw [mkl_add]; rfl
            rw [List.nil_append, ← em] at o7
            have s7 := s5.bel hb7
            have hgd : Gd w7 vs (gs.length % j) (.slice A7 (0 + 40) c7) := by
              rw [hgl, Nat.add_mod_left, Nat.mod_eq_of_lt (by omega)]
              exact gd_new o7 (by omega) (by omega) (by omega) ho
            refine wl_push (vs := [.slice A7 (0 + 40) c7]) tyBB rfl s7.2.2.2.1 ⟨rfl, rfl, rfl, trivial⟩ rfl (by decide) rfl (by omega) (by simp only [maxLen]; omega) s7.2.2.1.2.2.2.1 rfl rfl fun p P8 cp8 w8 o8 g8 _ => ?_
            refine wl_as rfl rfl ?_; refine wl_nil ?_; refine we_block_norm ?_; refine we_seq ?_; refine wc_region ?_; refine wl_mv rfl rfl ?_; apply wl_val; apply opv_bin; exact rfl; exact rfl; exact bin_add64 (by omega); exact rfl; refine wl_as rfl rfl ?_; refine wl_nil ?_
            refine we_loop [(0, .slice Lp j c), (5, .slice P8 (gs ++ [Value.slice A7 (0 + 40) c7]).length cp8), (9, .int .i64 ((q + 1 : Nat) : Int))] (j - (q + 1)) ⟨q + 1, P8, cp8, _, rfl, by omega, by simp [hgl]; omega, s7.push o8 g8 hgd, rfl⟩ (by omega) ⟨rfl, by rw [List.length_append]; rfl, by simp [lookT], trivial⟩
          · have mb := s5.2.1 q _ n cc (by omega) hv
            refine wl_appA tyB rfl ha hnc hcc rfl o5.rd (by decide) (bvs_one _) (by omega) (by simp only [maxLen]; omega) rfl (fun hfit w7 a7 g7 => ?_) (fun A7 c7 w7 o7 hb7 => ?_)
            · have t7 : Sk w5 w7 (some g) q := Sk.at g7 ha a7 (by simp [bvs_length, mkt_length]; omega) (app_marks (by omega))
              have s7 := s5.gr hv t7 g7 hv0
              have hgd : Gd w7 vs (gs.length % j) (.slice (some ⟨g, 0, none⟩) (n + 40) cc) := by
                rw [hgl, Nat.add_mod_left, Nat.mod_eq_of_lt (by omega)]
                exact gd_own (mb.app ha (by omega) a7) hfit (by omega) hv s7.1
              refine wl_push (vs := [.slice (some ⟨g, 0, none⟩) (n + 40) cc]) tyBB rfl s7.2.2.2.1 ⟨rfl, rfl, rfl, trivial⟩ rfl (by decide) rfl (by omega) (by simp only [maxLen]; omega) s7.2.2.1.2.2.2.1 rfl rfl fun p P8 cp8 w8 o8 g8 _ => ?_
              refine wl_as rfl rfl ?_; refine wl_nil ?_; refine we_block_norm ?_; refine we_seq ?_; refine wc_region ?_; refine wl_mv rfl rfl ?_; apply wl_val; apply opv_bin; exact rfl; exact rfl; exact bin_add64 (by omega); exact rfl; refine wl_as rfl rfl ?_; refine wl_nil ?_
              refine we_loop [(0, .slice Lp j c), (5, .slice P8 (gs ++ [Value.slice (some ⟨g, 0, none⟩) (n + 40) cc]).length cp8), (9, .int .i64 ((q + 1 : Nat) : Int))] (j - (q + 1)) ⟨q + 1, P8, cp8, _, rfl, by omega, by simp [hgl]; omega, s7.push o8 g8 hgd, rfl⟩ (by omega) ⟨rfl, by rw [List.length_append]; rfl, by simp [lookT], trivial⟩
            · rw [mb.take ha, ← bvs_append, ← mkl_add] at o7
              have s7 := s5.bel hb7
              have hgd : Gd w7 vs (gs.length % j) (.slice A7 (n + 40) c7) := by
                rw [hgl, Nat.add_mod_left, Nat.mod_eq_of_lt (by omega)]
                exact gd_new o7 (by omega) (by omega) (by omega) ho
              refine wl_push (vs := [.slice A7 (n + 40) c7]) tyBB rfl s7.2.2.2.1 ⟨rfl, rfl, rfl, trivial⟩ rfl (by decide) rfl (by omega) (by simp only [maxLen]; omega) s7.2.2.1.2.2.2.1 rfl rfl fun p P8 cp8 w8 o8 g8 _ => ?_
              refine wl_as rfl rfl ?_; refine wl_nil ?_; refine we_block_norm ?_; refine we_seq ?_; refine wc_region ?_; refine wl_mv rfl rfl ?_; apply wl_val; apply opv_bin; exact rfl; exact rfl; exact bin_add64 (by omega); exact rfl; refine wl_as rfl rfl ?_; refine wl_nil ?_
              refine we_loop [(0, .slice Lp j c), (5, .slice P8 (gs ++ [Value.slice A7 (n + 40) c7]).length cp8), (9, .int .i64 ((q + 1 : Nat) : Int))] (j - (q + 1)) ⟨q + 1, P8, cp8, _, rfl, by omega, by simp [hgl]; omega, s7.push o8 g8 hgd, rfl⟩ (by omega) ⟨rfl, by rw [List.length_append]; rfl, by simp [lookT], trivial⟩
      · obtain rfl : q = j := by omega
        clear h1 hq
        have rg := Ow.rd s3.2.2.2.1
        have rv := s3.2.2.1.rd hr hL
        refine wc_exit ?_; refine we_seq_exit ?_; refine we_loop_exit ?_; refine we_block_exit ?_; refine we_seq ?_; refine wc_seq ?_; refine wc_sr ?_; refine wl_as rfl rfl ?_; refine wl_ns ?_; refine wc_block ?_
        refine wc_loop (fun L wr m => ∃ t : Nat, L = [(0, .slice Lp q c), (5, .slice P gs.length cp), (12, .int .i64 (t : Int))] ∧ t ≤ gs.length ∧ Below w3.heap.size w3 wr ∧ m = gs.length - t)
          [(0, .slice Lp q c), (5, .slice P gs.length cp), (12, .int .i64 (0 : Nat))] gs.length ⟨0, rfl, by omega, Below.refl _ _, rfl⟩ ⟨rfl, rfl, rfl, trivial⟩ ?_
        rintro _ w4 m ⟨t, rfl, ht, hb4, rfl⟩
        have rg4 := rg.below hb4
        refine wc_seq ?_; refine wc_sr ?_; refine wl_mv rfl rfl ?_; refine wl_mv rfl rfl ?_; apply wl_val; apply opv_len; exact rfl; exact tyBB.sl; exact rfl; refine wl_bin rfl rfl bin_lss rfl ?_; refine wl_ns ?_
        refine wc_cond rfl (fun h1 => ?_) (fun h1 => ?_)
        · obtain ⟨v, hv⟩ : ∃ v, gs[t]? = some v := ⟨_, List.getElem?_eq_getElem (by omega)⟩
          obtain ⟨b, n, cc, rfl, hnc, hn2, mb, _⟩ := s3.2.2.2.2 t v hv
          have rb : Rd w3 (some ⟨b, 0, none⟩) n (bvs (mkl (t % q) n)) := by have := mb.rd; unfold RdB at this; rw [mkl_length] at this; exact this
          have hq0 : 0 < q := by omega
          have htq : t % q < q := Nat.mod_lt _ hq0
          refine wc_skip ?_; refine we_seq ?_; refine wc_seq ?_; refine wc_block ?_; refine wc_sr ?_; refine wl_as rfl rfl ?_; refine wl_ns ?_; refine wc_block ?_
          refine wc_loop (fun L wr m => ∃ k : Nat, L = [(0, .slice Lp q c), (5, .slice P gs.length cp), (12, .int .i64 (t : Int)), (13, .int .i64 (k : Int))] ∧ k ≤ n ∧ Below w3.heap.size w3 wr ∧ m = n - k)
            [(0, .slice Lp q c), (5, .slice P gs.length cp), (12, .int .i64 (t : Int)), (13, .int .i64 (0 : Nat))] n ⟨0, rfl, by omega, hb4, rfl⟩ ⟨rfl, rfl, rfl, rfl, trivial⟩ ?_
          rintro _ w5 m ⟨k, rfl, hk, hb5, rfl⟩
          have rg5 := rg.below hb5
          have rb5 := rb.below hb5
          refine wc_seq ?_; refine wc_sr ?_; refine wl_mv rfl rfl ?_; refine wl_mv rfl rfl ?_; refine wl_mv rfl rfl ?_; apply wl_elK (T := tyBB) (hr := rg5) (hb := hv); exact rfl; exact rfl; exact rfl; exact rfl; exact rfl; intro _; apply wl_val; apply opv_len; exact rfl; exact tyB.sl; exact rfl; refine wl_bin rfl rfl bin_lss rfl ?_; refine wl_ns ?_
          refine wc_cond rfl (fun h2 => ?_) (fun h2 => ?_)
          · have hx := mkl_get (i := t % q) (show k < n by omega)
            refine wc_skip ?_; refine we_seq ?_; refine wc_seq ?_; refine wc_block ?_; refine wc_seq ?_
            refine wc_drawB mixed (by kernel_rfl) ?_
            apply wq_val; intro _ hw_; apply opv_move; exact rfl; exact rfl; apply wq_val; intro _ hw_; apply opv_move; exact rfl; exact rfl; apply wq_elK (T := tyBB) (hr := rg5) (hb := hv); exact rfl; exact rfl; exact rfl; exact rfl; exact rfl; intro _; apply wq_val; intro _ hw_; apply opv_move; exact rfl; exact rfl; apply wq_byK (T := tyB) (hr := rb5) (hb := hx); exact rfl; exact rfl; exact rfl; exact rfl; exact rfl; intro _; apply wq_val; intro _ hw_; apply opv_move; exact rfl; exact rfl; apply wq_val; intro _ hw_; apply opv_move; exact rfl; exact rfl; apply wq_val; intro _ hw_; apply opv_len; exact rfl; exact tyBB.sl; exact rfl; apply wq_val; intro _ hw_; apply opv_bin; exact rfl; exact rfl; exact bin_rem (by omega); exact rfl; apply wq_val; intro _ hw_; apply opv_move; exact rfl; exact rfl
            refine wq_call ok_caissonref01_mark (fun w hw => (mark_any (t % q) k (by omega) (by omega) w).mono (fun v w' h => ⟨(show v = Value.int .u8 ((mkb (t % q) k).toNat : Int) from h.1), h.2 ▸ hw⟩)) ⟨rfl, rfl, trivial⟩ rfl ?_
            apply wq_val; intro _ hw_; apply opv_bin; exact rfl; exact rfl; exact bin_neq; exact rfl; refine wq_nil fun w1 hw1 => ?_
            refine we_seq ?_
            refine wc_cond rfl (fun h => absurd rfl h) (fun _ => ?_)
            refine wc_skip ?_; refine we_block_norm ?_; refine we_seq ?_; refine wc_region ?_; refine wl_mv rfl rfl ?_; apply wl_val; apply opv_bin; exact rfl; exact rfl; exact bin_add64 (by omega); exact rfl; refine wl_as rfl rfl ?_; refine wl_nil ?_
            refine we_loop [(0, .slice Lp q c), (5, .slice P gs.length cp), (12, .int .i64 (t : Int)), (13, .int .i64 ((k + 1 : Nat) : Int))] (n - (k + 1)) ⟨k + 1, rfl, by omega, hb5.trans (hw1.mono hb5.size), rfl⟩ (by omega) ⟨rfl, rfl, rfl, by simp [lookT], trivial⟩
          · refine wc_exit ?_; refine we_seq_exit ?_; refine we_loop_exit ?_; refine we_block_exit ?_; refine we_block_norm ?_; refine we_seq ?_; refine wc_region ?_; refine wl_mv rfl rfl ?_; apply wl_val; apply opv_bin; exact rfl; exact rfl; exact bin_add64 (by omega); exact rfl; refine wl_as rfl rfl ?_; refine wl_nil ?_
            refine we_loop [(0, .slice Lp q c), (5, .slice P gs.length cp), (12, .int .i64 ((t + 1 : Nat) : Int))] (gs.length - (t + 1)) ⟨t + 1, rfl, by omega, hb5, rfl⟩ (by omega) ⟨rfl, rfl, by simp [lookT], trivial⟩
        · clear h1 ht
          refine wc_exit ?_; refine we_seq_exit ?_; refine we_loop_exit ?_; refine we_block_exit ?_; refine we_seq ?_; refine wc_seq ?_; refine wc_sr ?_; refine wl_as rfl rfl ?_; refine wl_ns ?_; refine wc_block ?_
          refine wc_loop (fun L wr m => ∃ t : Nat, L = [(0, .slice Lp q c), (14, .int .i64 (t : Int))] ∧ t ≤ q ∧ Below w3.heap.size w3 wr ∧ m = q - t)
            [(0, .slice Lp q c), (14, .int .i64 (0 : Nat))] q ⟨0, rfl, by omega, hb4, rfl⟩ ⟨rfl, rfl, trivial⟩ ?_
          rintro _ w4 m ⟨t, rfl, ht, hb4, rfl⟩
          refine wc_seq ?_; refine wc_sr ?_; refine wl_mv rfl rfl ?_; refine wl_mv rfl rfl ?_; apply wl_val; apply opv_len; exact rfl; exact tyBB.sl; exact rfl; refine wl_bin rfl rfl bin_lss rfl ?_; refine wl_ns ?_
          refine wc_cond rfl (fun h1 => ?_) (fun h1 => ?_)
          · obtain ⟨v, hv⟩ : ∃ v, vs[t]? = some v := ⟨_, List.getElem?_eq_getElem (by omega)⟩
            obtain ⟨A, n, cc, rfl, hd, hn2⟩ := s3.1.at hv
            refine wc_skip ?_; refine we_seq ?_; refine wc_seq ?_; refine wc_block ?_; refine wc_sr ?_; refine wl_as rfl rfl ?_; refine wl_ns ?_; refine wc_block ?_
            refine wc_loop (fun L wr m => ∃ k : Nat, L = [(0, .slice Lp q c), (14, .int .i64 (t : Int)), (15, .int .i64 (k : Int))] ∧ k ≤ n ∧ Below w3.heap.size w3 wr ∧ m = n - k)
              [(0, .slice Lp q c), (14, .int .i64 (t : Int)), (15, .int .i64 (0 : Nat))] n ⟨0, rfl, by omega, hb4, rfl⟩ ⟨rfl, rfl, rfl, trivial⟩ ?_
            rintro _ w5 m ⟨k, rfl, hk, hb5, rfl⟩
            have rv5 := rv.below hb5
            refine wc_seq ?_; refine wc_sr ?_; refine wl_mv rfl rfl ?_; refine wl_mv rfl rfl ?_; refine wl_mv rfl rfl ?_; apply wl_elK (T := tyBB) (hr := rv5) (hb := hv); exact rfl; exact rfl; exact rfl; exact rfl; exact rfl; intro _; apply wl_val; apply opv_len; exact rfl; exact tyB.sl; exact rfl; refine wl_bin rfl rfl bin_lss rfl ?_; refine wl_ns ?_
            refine wc_cond rfl (fun h2 => ?_) (fun h2 => ?_)
            · rcases hd with ⟨_, h0, _⟩ | ⟨g, cs, rfl, _, _, _, _⟩
              · omega
              have mb := s3.2.1 t _ n cc (by omega) hv
              have rb5 : Rd w5 (some ⟨g, 0, none⟩) n (bvs (mkl t n)) := by have := RdB.below mb.rd hb5; unfold RdB at this; rw [mkl_length] at this; exact this
              have hx := mkl_get (i := t) (show k < n by omega)
              refine wc_skip ?_; refine we_seq ?_; refine wc_seq ?_; refine wc_block ?_; refine wc_seq ?_
              refine wc_drawB mixed (by kernel_rfl) ?_
              apply wq_val; intro _ hw_; apply opv_move; exact rfl; exact rfl; apply wq_val; intro _ hw_; apply opv_move; exact rfl; exact rfl; apply wq_elK (T := tyBB) (hr := rv5) (hb := hv); exact rfl; exact rfl; exact rfl; exact rfl; exact rfl; intro _; apply wq_val; intro _ hw_; apply opv_move; exact rfl; exact rfl; apply wq_byK (T := tyB) (hr := rb5) (hb := hx); exact rfl; exact rfl; exact rfl; exact rfl; exact rfl; intro _; apply wq_val; intro _ hw_; apply opv_move; exact rfl; exact rfl; apply wq_val; intro _ hw_; apply opv_move; exact rfl; exact rfl
              refine wq_call ok_caissonref01_mark (fun w hw => (mark_any t k (by omega) (by omega) w).mono (fun v w' h => ⟨(show v = Value.int .u8 ((mkb t k).toNat : Int) from h.1), h.2 ▸ hw⟩)) ⟨rfl, rfl, trivial⟩ rfl ?_
              apply wq_val; intro _ hw_; apply opv_bin; exact rfl; exact rfl; exact bin_neq; exact rfl; refine wq_nil fun w1 hw1 => ?_
              refine we_seq ?_
              refine wc_cond rfl (fun h => absurd rfl h) (fun _ => ?_)
              refine wc_skip ?_; refine we_block_norm ?_; refine we_seq ?_; refine wc_region ?_; refine wl_mv rfl rfl ?_; apply wl_val; apply opv_bin; exact rfl; exact rfl; exact bin_add64 (by omega); exact rfl; refine wl_as rfl rfl ?_; refine wl_nil ?_
              refine we_loop [(0, .slice Lp q c), (14, .int .i64 (t : Int)), (15, .int .i64 ((k + 1 : Nat) : Int))] (n - (k + 1)) ⟨k + 1, rfl, by omega, hb5.trans (hw1.mono hb5.size), rfl⟩ (by omega) ⟨rfl, rfl, by simp [lookT], trivial⟩
            · refine wc_exit ?_; refine we_seq_exit ?_; refine we_loop_exit ?_; refine we_block_exit ?_; refine we_block_norm ?_; refine we_seq ?_; refine wc_region ?_; refine wl_mv rfl rfl ?_; apply wl_val; apply opv_bin; exact rfl; exact rfl; exact bin_add64 (by omega); exact rfl; refine wl_as rfl rfl ?_; refine wl_nil ?_
              refine we_loop [(0, .slice Lp q c), (14, .int .i64 ((t + 1 : Nat) : Int))] (q - (t + 1)) ⟨t + 1, rfl, by omega, hb5, rfl⟩ (by omega) ⟨rfl, by simp [lookT], trivial⟩
          · refine wc_exit ?_; refine we_seq_exit ?_; refine we_loop_exit ?_; refine we_block_exit ?_; refine we_seq ?_; refine wc_sr ?_; refine wl_as rfl rfl ?_; refine wl_ns ?_; refine wc_ret ?_
            exact we_ret1 rfl rfl ⟨_, rfl, rfl, (s3.2.2.1.bel hb4).below (fun v hv g hg => (ho.lt hv hg).2) hb⟩

end Go.Proofs.Ytpnckagibkdcpaa


/-
  Words for the laws that say that answers are memory of their own: what is answered is gathered in a list, each in a block of its own, and stays so.
-/
namespace Go.Proofs.Ytpnckagibkdcpaa
open Go.RowKit

/-- The slices of a list read as these rows. -/
def RdV (w : World) (vs : List Value) (rows : List (List UInt8)) : Prop :=
  vs.length = rows.length ∧ ∀ (i : Nat) (r : List UInt8), rows[i]? = some r → ∃ (A' : Option Addr) (c' : Nat), vs[i]? = some (Value.slice A' r.length c') ∧ RdB w A' r ∧ r.length ≤ c'
section
variable {w w' w0 : World} {A B : Option Addr} {vs vs' l1 l2 : List Value} {rows rows' : List (List UInt8)} {base b n c m : Nat}
theorem RdV.rd (h : RdV w vs rows) (hr : Rd w A n vs) (hn : rows.length = n) : RdBB w A rows := by subst hn; exact ⟨vs, hr, h.2⟩
theorem RdV.nil : RdV w [] [] := ⟨rfl, by simp⟩
theorem RdV.cons {r : List UInt8} (h : RdV w vs rows) (hr : RdB w A r) (hn : r.length = n) (hc : r.length ≤ c) : RdV w (.slice A n c :: vs) (r :: rows) := by
  subst hn
  refine ⟨by simp [h.1], fun i q hi => ?_⟩
  cases i with
  | zero => simp only [List.getElem?_cons_zero, Option.some.injEq] at hi; subst hi; exact ⟨A, c, rfl, hr, hc⟩
  | succ i => simpa using h.2 i q (by simpa using hi)
theorem RdV.append (h : RdV w vs rows) (h' : RdV w vs' rows') : RdV w (vs ++ vs') (rows ++ rows') := by
  refine ⟨by simp [h.1, h'.1], fun i q hi => ?_⟩
  rw [List.getElem?_append] at hi
  split at hi
  · rename_i hl
    rw [List.getElem?_append_left (by rw [h.1]; exact hl)]; exact h.2 i q hi
  · rename_i hl
    rw [List.getElem?_append_right (by rw [h.1]; omega), h.1]; exact h'.2 _ q hi
theorem RdV.bel (h : RdV w vs rows) (hb : Below w.heap.size w w') : RdV w' vs rows := ⟨h.1, fun i r hi => by
  obtain ⟨A', c', h1, h2, h3⟩ := h.2 i r hi
  exact ⟨A', c', h1, h2.below hb, h3⟩⟩
theorem RdV.gr (h : RdV w vs rows) (g : Gr w w' B) (hne : ∀ b, B = some b → ∀ v ∈ vs, v.ownBlock ≠ some b.block) : RdV w' vs rows := ⟨h.1, fun i r hi => by
  obtain ⟨A', c', h1, h2, h3⟩ := h.2 i r hi
  refine ⟨A', c', h1, Rd.gr h2 g fun a b ha hb => ?_, h3⟩
  have := hne b hb _ (List.mem_of_getElem? h1)
  rw [ownBlock_slice, ha] at this
  simpa using this⟩
theorem OwBB.rdv (h : OwBB w base A c rows) : ∃ vs, Ow w base 24 A rows.length c vs ∧ RdV w vs rows := by
  obtain ⟨vs, ho, hr, _⟩ := h
  refine ⟨vs, ho, ho.len, fun i r hi => ?_⟩
  obtain ⟨A', c', h1, h2, _⟩ := hr i r hi
  exact ⟨A', c', h1, OwB.rd h2, h2.cap⟩

theorem Own1.nil : Own1 w base [] := ⟨by simp, List.Pairwise.nil⟩
theorem Own1.bel (h : Own1 w base vs) (hb : Below w.heap.size w w') : Own1 w' base vs := h.st (X := none) (k := 0) (Sk.bel hb)
theorem Own1.mono {base' : Nat} (h : Own1 w base vs) (hb : base' ≤ base) : Own1 w base' vs := ⟨fun v hv => by
  obtain ⟨A, n, c, e, hd, hn⟩ := h.1 v hv
  refine ⟨A, n, c, e, ?_, hn⟩
  rcases hd with hd | ⟨g, cs, e1, e2, e3⟩
  · exact .inl hd
  · exact .inr ⟨g, cs, e1, Nat.le_trans hb e2, e3⟩, h.2⟩
theorem Own1.one (h : Hd w base A n c) (hn : n ≤ 1099511627776) : Own1 w base [.slice A n c] := ⟨by intro v hv; simp at hv; subst hv; exact ⟨A, n, c, rfl, h, hn⟩, by simp⟩
theorem own_symm {v v' : Value} (h : ∀ g, v.ownBlock = some g → v'.ownBlock ≠ some g) : ∀ g, v'.ownBlock = some g → v.ownBlock ≠ some g := fun g h1 h2 => h g h2 h1
/-- New lists are put between the others. -/
theorem Own1.ins (h : Own1 w base (l1 ++ l2)) (hb : Below w.heap.size w w') (h' : Own1 w' w.heap.size vs) (hbase : base ≤ w.heap.size) : Own1 w' base (l1 ++ (vs ++ l2)) := by
  have hk := h.bel hb
  have hp : (vs ++ l2 ++ l1).Pairwise fun v v' => ∀ g, v.ownBlock = some g → v'.ownBlock ≠ some g := by
    rw [List.append_assoc, List.pairwise_append]
    refine ⟨h'.2, ?_, fun v hv v' hv' g hg hg' => ?_⟩
    · have := h.2
      rw [List.pairwise_append] at this ⊢
      exact ⟨this.2.1, this.1, fun a ha b hb' => own_symm (this.2.2 b hb' a ha)⟩
    · have h1 := (h'.lt hv hg).2
      have h2 := (h.lt (show v' ∈ l1 ++ l2 by simp at hv' ⊢; exact hv'.symm) hg').1
      omega
  refine ⟨fun v hv => ?_, ?_⟩
  · simp only [List.mem_append] at hv
    rcases hv with hv | hv | hv
    · exact hk.1 v (by simp [hv])
    · exact (h'.mono hbase).1 v hv
    · exact hk.1 v (by simp [hv])
  · rw [List.pairwise_append] at hp ⊢
    exact ⟨hp.2.1, hp.1, fun a ha b hb' => own_symm (hp.2.2 b hb' a ha)⟩
/-- One new list is put at place k of the others. -/
theorem Own1.add {l : List Value} (k : Nat) (h : Own1 w base l) (hb : Below w.heap.size w w') (h' : Hd w' w.heap.size A n c) (hn : n ≤ 1099511627776) (hbase : base ≤ w.heap.size) : Own1 w' base (l.take k ++ .slice A n c :: l.drop k) :=
  Own1.ins (l1 := l.take k) (l2 := l.drop k) (by rw [List.take_append_drop]; exact h) hb (Own1.one h' hn) hbase
theorem OwBB.own (h : OwBB w base A c rows) (hl : rows.flatten.length ≤ 1099511627776) : ∃ vs, Ow w base 24 A rows.length c vs ∧ RdV w vs rows ∧ Own1 w base vs := by
  obtain ⟨vs, ho, hr, hp⟩ := h
  refine ⟨vs, ho, ⟨ho.len, fun i r hi => ?_⟩, fun v hv => ?_, hp⟩
  · obtain ⟨A', c', h1, h2, _⟩ := hr i r hi
    exact ⟨A', c', h1, OwB.rd h2, h2.cap⟩
  · obtain ⟨i, hi, rfl⟩ := List.getElem_of_mem hv
    have hil : i < rows.length := by have := ho.len; omega
    obtain ⟨A', c', h1, h2, _⟩ := hr i _ (List.getElem?_eq_getElem hil)
    rw [List.getElem?_eq_getElem hi] at h1
    simp only [Option.some.injEq] at h1
    have hm : rows[i].length ≤ rows.flatten.length := flat_mem (List.getElem?_eq_getElem hil)
    exact ⟨A', _, c', h1, h2.nw.hd, by omega⟩
theorem Own1.slices (h : Own1 w base vs) : ∀ u ∈ vs, u.oneCell' = true := fun u hu => by
  obtain ⟨A, n, c, rfl, _⟩ := h.1 u hu
  rfl
theorem own_ar {xs : List Value} (h : Ow w b 24 A n c xs) {a : Addr} (ha : A = some a) : ∃ cs, Ar w a.block 24 cs := by
  rcases h.2 with ⟨hv, _⟩ | ⟨g', cap, cur, hv, _, hg', _⟩
  · injection hv with hA; rw [ha] at hA; cases hA
  · injection hv with hA; rw [ha] at hA; cases hA
    exact ⟨cur.toList, by simpa [Ar] using hg'⟩
theorem ar_type {g : Nat} {t t' : TypeId} {cs cs' : List Value} (h : Ar w g t cs) (h' : Ar w g t' cs') : t = t' := by
  unfold Ar at h h'
  rw [h] at h'
  simp only [Option.some.injEq, Obj.cells.injEq] at h'
  exact h'.2.1
theorem Own1.row_ne {xs : List Value} (h : Own1 w base vs) (ho : Ow w b 24 A n c xs) : ∀ a, A = some a → ∀ v ∈ vs, v.ownBlock ≠ some a.block := fun a ha v hv hg => by
  obtain ⟨ds, hd⟩ := own_ar ho ha
  obtain ⟨A', n', c', rfl, hh, _⟩ := h.1 v hv
  rw [ownBlock_slice] at hg
  rcases hh with ⟨rfl, _⟩ | ⟨g, cs, rfl, _, har, _⟩
  · simp at hg
  · simp at hg; subst hg
    exact absurd (ar_type har hd) (by decide)
theorem Own1.row {xs : List Value} (h : Own1 w base vs) (ho : Ow w b 24 A n c xs) (g : Gr w w' A) : Own1 w' base vs := by
  refine h.st (X := none) (k := 0) ?_
  cases A with
  | none => exact Sk.other (g := 0) (t := 24) (cs := []) g (by simp) (.inl rfl) (by decide)
  | some a =>
    obtain ⟨ds, hd⟩ := own_ar ho rfl
    exact Sk.other (g := a.block) (t := 24) (cs := ds) g (by intro a' ha; cases ha; rfl) (.inr hd) (by decide)
/-- Bytes of one block change, and none other. -/
theorem Own1.sz {g : Nat} {cs cs' : List Value} (h : Own1 w base vs) (hg : Gr w w' (some ⟨g, 0, none⟩)) (ha : Ar w g 5 cs) (ha' : Ar w' g 5 cs') (hl : cs'.length = cs.length) : Own1 w' base vs := ⟨fun v hv => by
  obtain ⟨A, n, c, e, hd, hn⟩ := h.1 v hv
  refine ⟨A, n, c, e, ?_, hn⟩
  rcases hd with hd | ⟨g', ds, e1, e2, e3, e4, e5⟩
  · exact .inl hd
  · by_cases hgg : g' = g
    · subst hgg
      have : ds = cs := by
        unfold Ar at ha e3
        rw [ha] at e3
        simp only [Option.some.injEq, Obj.cells.injEq] at e3
        have := congrArg Array.toList e3.1
        simpa using this.symm
      subst this
      exact .inr ⟨g', cs', e1, e2, ha', e4, by omega⟩
    · refine .inr ⟨g', ds, e1, e2, ?_, e4, e5⟩
      unfold Ar
      rw [hg.block g' e3.lt (by simp; exact hgg)]
      exact e3, h.2⟩
/-- Where another block has changed. -/
theorem Ar.gr {g g' : Nat} {t : TypeId} {cs : List Value} (h : Ar w g t cs) (hg : Gr w w' (some ⟨g', 0, none⟩)) (hne : g ≠ g') : Ar w' g t cs := by
  unfold Ar
  rw [hg.block g h.lt (by simp; exact hne)]
  exact h
theorem OwBB.gr {g : Nat} (h : OwBB w base A c rows) (hg : Gr w w' (some ⟨g, 0, none⟩)) (hlt : g < base) : OwBB w' base A c rows := by
  obtain ⟨vs, ho, hr, hp⟩ := h
  refine ⟨vs, Ow.gr (base' := 0) (e' := 0) ho hg fun a b ha hb => ?_, fun i r hi => ?_, hp⟩
  · have := (Ow.lt ho a ha).1; cases hb; simp; omega
  · obtain ⟨A', c', h1, h2, h3⟩ := hr i r hi
    refine ⟨A', c', h1, Ow.gr (base' := 0) (e' := 0) h2 hg fun a b ha hb => ?_, h3⟩
    have := (Ow.lt h2 a ha).1; cases hb; simp; omega
/-- What has been gathered, ahead of the last test. -/
def Fin (w : World) (base : Nat) (vs ts : List Value) (rows : List (List UInt8)) (bA : Nat) (A : Option Addr) (n c : Nat) (bW : Nat) (W : Option Addr) (cW : Nat) : Prop :=
  Own1 w base (vs ++ ts) ∧ RdV w vs rows ∧ Ow w bA 24 A n c vs ∧ OwBB w bW W cW rows
theorem Fin.bel {ts : List Value} {bA bW cW : Nat} {W : Option Addr} (h : Fin w base vs ts rows bA A n c bW W cW) (hb : Below w.heap.size w w') : Fin w' base vs ts rows bA A n c bW W cW :=
  ⟨h.1.bel hb, h.2.1.bel hb, Ow.below h.2.2.1 hb (Nat.le_refl _), h.2.2.2.below hb⟩
theorem Fin.over {ts : List Value} {bA bW cW g : Nat} {W : Option Addr} {cs cs' : List Value} {v : Value} (h : Fin w base vs ts rows bA A n c bW W cW) (hg : Gr w w' (some ⟨g, 0, none⟩)) (ha : Ar w g 5 cs) (ha' : Ar w' g 5 cs') (hl : cs'.length = cs.length)
    (hv : v ∈ ts) (hvb : v.ownBlock = some g) (h1 : g < bA) (h2 : g < bW) : Fin w' base vs ts rows bA A n c bW W cW := by
  obtain ⟨o, r, a, W⟩ := h
  have hp := o.2
  rw [List.pairwise_append] at hp
  refine ⟨o.sz hg ha ha' hl, r.gr hg fun b hb u hu hc => hp.2.2 u hu v hv g ?_ hvb, Ow.gr (base' := 0) (e' := 0) a hg fun a' b ha' hb => ?_, W.gr hg h2⟩
  · cases hb; exact hc
  · have := (Ow.lt a a' ha').1; cases hb; simp; omega
end
end Go.Proofs.Ytpnckagibkdcpaa


/-
  Bytes of one's own that are turned over; twins of lists whose entries lie apart.
-/
namespace Go.Proofs.Ytpnckagibkdcpaa
open Go.RowKit

theorem bvs_setO (l : List UInt8) (i : Nat) (b : UInt8) : (bvs l).set i (bv b) = bvs (l.set i b) := by rw [bvs, bvs, List.map_set]
theorem overO_any {A : Option Addr} {n c base : Nat} {l : List UInt8} {w : World} (ho : OwB w base A c l) (hn : l.length = n) (hl : l.length ≤ 2199023255552) :
    CallsV Try.prog 36 #[.slice A n c] w fun v w' => v = .tuple #[] ∧ ∃ l' : List UInt8, l'.length = l.length ∧ OwB w' base A c l' ∧ Gr w w' A := by
  subst hn
  refine calls_in (N := _) Try.func36 rfl Try.ntmps36 rfl ?_; show WC _ _ _ _ _ _
  refine wc_sr ?_; refine wl_as rfl rfl ?_; refine wl_ns ?_; refine wc_block ?_
  refine wc_loop (fun L wr m => ∃ (i : Nat) (l' : List UInt8), L = [(0, .slice A l.length c), (2, .int .i64 (i : Int))] ∧ i ≤ l.length ∧ l'.length = l.length ∧ OwB wr base A c l' ∧ Gr w wr A ∧ m = l.length - i)
    [(0, .slice A l.length c), (2, .int .i64 (0 : Nat))] l.length ⟨0, l, rfl, by omega, rfl, ho, Gr.refl _ _, rfl⟩ ⟨rfl, rfl, trivial⟩ ?_
  rintro _ w1 m ⟨i, l', rfl, hi, hl', o1, g1, rfl⟩
  have o1' : Ow w1 base 5 A l.length c (bvs l') := by rw [← hl']; exact o1
  have r1 : Rd w1 A l.length (bvs l') := by rw [← hl']; exact o1.rd
  refine wc_seq ?_; refine wc_sr ?_; refine wl_mv rfl rfl ?_; refine wl_mv rfl rfl ?_; apply wl_val; apply opv_len; exact rfl; exact tyB.sl; exact rfl; refine wl_bin rfl rfl bin_lss rfl ?_; refine wl_ns ?_
  refine wc_cond rfl (fun h1 => ?_) (fun h1 => ?_)
  · obtain ⟨x, hx⟩ : ∃ x, l'[i]? = some x := ⟨_, List.getElem?_eq_getElem (by omega)⟩
    have hxl := x.toNat_lt
    have hxx : x.toNat ^^^ 90 < 256 := Nat.xor_lt_two_pow (n := 8) hxl (by decide)
    refine wc_skip ?_; refine we_seq ?_; refine wc_seq ?_; refine wc_block ?_; refine wc_region ?_; refine wl_mv rfl rfl ?_; refine wl_mv rfl rfl ?_; refine wl_mv rfl rfl ?_; refine wl_mv rfl rfl ?_; apply wl_byK (T := tyB) (hr := r1) (hb := hx); exact rfl; exact rfl; exact rfl; exact rfl; exact rfl; intro _
    refine wl_val (opv_bin (b := .int .u8 (90 : Nat)) rfl rfl (bin_xor rfl hxl (by decide))) rfl ?_
    refine wl_set (n := l.length) (kk := i) tyB rfl rfl o1' rfl (by omega) (fun _ => rfl) rfl rfl fun p w2 o2 g2 _ => ?_
    have eu : Value.int .u8 ((x.toNat ^^^ 90 : Nat) : Int) = bv (UInt8.ofNat (x.toNat ^^^ 90)) := by
      unfold bv; rw [UInt8.toNat_ofNat', Nat.mod_eq_of_lt hxx]
    rw [eu, bvs_setO] at o2
    have o2' : OwB w2 base A c (l'.set i (UInt8.ofNat (x.toNat ^^^ 90))) := by unfold OwB; rw [List.length_set, hl']; exact o2
    refine wl_nil ?_; refine we_block_norm ?_; refine we_seq ?_; refine wc_region ?_; refine wl_mv rfl rfl ?_; apply wl_val; apply opv_bin; exact rfl; exact rfl; exact bin_add64 (by omega); exact rfl; refine wl_as rfl rfl ?_; refine wl_nil ?_
    refine we_loop [(0, .slice A l.length c), (2, .int .i64 ((i + 1 : Nat) : Int))] (l.length - (i + 1)) ⟨i + 1, _, rfl, by omega, by rw [List.length_set]; exact hl', o2', g1.trans g2, rfl⟩ (by omega) ⟨rfl, by simp [lookT], trivial⟩
  · refine wc_exit ?_; refine we_seq_exit ?_; refine we_loop_exit ?_; refine we_block_exit ?_
    exact we_end0 rfl ⟨_, rfl, rfl, l', hl', o1, g1⟩
/-- Bytes of one's own, whatever they are. -/
def jk (A : Option Addr) (n c : Nat) : Ck := ⟨fun w S => ∃ xs : List UInt8, xs.length = n ∧ (Cd.ow 5 A n c (bvs xs)).P w S, fun ⟨xs, h, h2⟩ hz hm => ⟨xs, h, Cd.move (c := .ow 5 _ _ _ (bvs xs)) h2 hz hm⟩⟩
theorem jk_of {A : Option Addr} {c : Nat} {xs : List UInt8} {w : World} {S : BS} (h : (Cd.ow 5 A xs.length c (bvs xs)).P w S) : (jk A xs.length c).P w S := ⟨xs, rfl, h⟩
theorem over_jk {S : BS} {A : Option Addr} {n c : Nat} {w : World} (h0 : Sat w [.ck (jk A n c)] S) (hl : n ≤ 2199023255552) :
    CallsV Try.prog 36 #[.slice A n c] w fun v w' => v = .tuple #[] ∧ St S w w' [.ck (jk A n c)] := by
  obtain ⟨T, hT, ⟨xs, hx, hc⟩, _⟩ := h0
  subst hx
  refine (overO_any (base := 0) hc.2 rfl hl).mono fun v w' ⟨hv, l', hl', ho, hg⟩ => ⟨hv, Mod.of_gr hg fun a ha => hT _ (hc.1 a ha), T, fun b h => .inl (hT b h), ⟨l', hl', hc.1, ?_⟩, trivial⟩
  rw [← hl']; exact ho
theorem mem_perm {α : Type} {a : α} {l : List α} (h : a ∈ l) : ∃ r, l.Perm (a :: r) := by
  obtain ⟨s, t, rfl⟩ := List.append_of_mem h
  exact ⟨s ++ t, List.perm_middle⟩
/-- One of many pieces is turned over. -/
theorem over_in {S : BS} {A : Option Addr} {n c : Nat} {H : List Cd} {w : World} (h0 : Sat w [.ck (packC H)] S) (hm : Cd.ck (jk A n c) ∈ H) (hl : n ≤ 2199023255552) :
    CallsV Try.prog 36 #[.slice A n c] w fun v w' => v = .tuple #[] ∧ St S w w' [.ck (packC H)] := by
  obtain ⟨r, hp⟩ := mem_perm hm
  have hs : St S w w ([.ck (jk A n c)] ++ r) := (St.start h0).unpk.map fun _ h => Sat.permL (by simpa using hp) h
  obtain ⟨S2, hS2, _, _, _, hB⟩ := St.lend hs
  refine (over_jk hS2 hl).mono fun v w' ⟨hv, hsx⟩ => ⟨hv, ?_⟩
  have hs2 := hB _ _ hsx
  refine St.pk (H := []) ?_
  rw [List.append_nil]
  exact hs2.map fun _ h => Sat.permL hp.symm h
/-- Two new rows of bytes. -/
theorem St.two {w w' : World} {A B : Option Addr} {n c m d : Nat} {xs ys : List Value} (hb : Below w.heap.size w w') (h1 : Ow w' w.heap.size 5 A n c xs) (h2 : Ow w' w.heap.size 5 B m d ys) (hne : ∀ a b, A = some a → B = some b → a.block ≠ b.block) : St NoB w w' [.ow 5 A n c xs, .ow 5 B m d ys] :=
  ⟨Mod.of_below hb _, fun b => ∃ a, A = some a ∧ b = a.block, fun b ⟨a, ha, hb⟩ => .inr (by rw [hb]; exact (Ow.lt h1 a ha).1), ⟨fun a ha => ⟨a, ha, rfl⟩, h1.mono (Nat.zero_le _)⟩,
    fun b => ∃ a, B = some a ∧ b = a.block, fun b ⟨a, ha, hb⟩ => ⟨.inr (by rw [hb]; exact (Ow.lt h2 a ha).1), fun ⟨a', ha', hb'⟩ => hne a' a ha' ha (by rw [← hb', hb])⟩, ⟨fun a ha => ⟨a, ha, rfl⟩, h2.mono (Nat.zero_le _)⟩, trivial⟩
theorem twin2_any {x : En} {A B : Option Addr} {c d : Nat} {w : World} (rx : RdB w A x.key) (rx2 : RdB w B x.val) (hl : x.key.length ≤ 140737488355328) (hl2 : x.val.length ≤ 140737488355328) :
    CallsV Try.prog 49 #[.agg (enV x A c B d).toArray] w (RetE2 w x) :=
  (twinE_any rx rx2 hl hl2).mono fun v w' ⟨C, e, D, f, hv, h1, h2, h3, hb⟩ => ⟨C, e, D, f, hv, St.two hb h1 h2 h3⟩
/-- Twins of entries, each in memory that lies apart. -/
def RetEs2 (w : World) (l : List En) (v : Value) (w' : World) : Prop := ∃ (A : Option Addr) (c : Nat), v = .slice A l.length c ∧ St NoB w w' [.ck (rsC 4 56 A c (l.map oE))]
theorem twins3_any {A : Option Addr} {n c : Nat} {l : List En} {w : World} (hr : RdR 4 w All A (l.map enEl)) (hn : l.length = n) (hok : ∀ x ∈ l, x.key.length ≤ 140737488355328 ∧ x.val.length ≤ 140737488355328) (hl : l.length ≤ 1099511627776) :
    CallsV Try.prog 24 #[.slice A n c] w (RetEs2 w l) := by
  subst hn
  have hmax : maxLen = 9223372036854775807 := rfl
  have hs := (St.init w).nilS 4 56
  refine calls_in (N := _) Try.func24 rfl Try.ntmps24 rfl ?_; show WC _ _ _ _ _ _
  refine wc_sr ?_; refine wl_as rfl rfl ?_; refine wl_ns ?_; refine wc_sr ?_; refine wl_as rfl rfl ?_; refine wl_ns ?_; refine wc_seq ?_; refine wc_sr ?_; refine wl_as rfl rfl ?_; refine wl_ns ?_; refine wc_block ?_
  refine wc_loop (fun L wr m => ∃ (k : Nat) (P : Option Addr) (cp : Nat), L = [(0, .slice A l.length c), (3, .slice P k cp), (4, .int .i64 (k : Int))] ∧ k ≤ l.length ∧ St NoB w wr [.ck (rsC 4 56 P cp ((l.take k).map oE))] ∧ m = l.length - k)
    [(0, .slice A l.length c), (3, .slice none 0 0), (4, .int .i64 (0 : Nat))] l.length ⟨0, none, 0, rfl, by omega, hs, rfl⟩ ⟨rfl, rfl, rfl, trivial⟩ ?_
  clear hs
  rintro _ w1 m ⟨k, P, cp, rfl, hk, hs, rfl⟩
  refine wc_seq ?_; refine wc_sr ?_; refine wl_mv rfl rfl ?_; refine wl_mv rfl rfl ?_; apply wl_val; apply opv_len; exact rfl; exact tkE.sl; exact rfl; refine wl_bin rfl rfl bin_lss rfl ?_; refine wl_ns ?_
  refine wc_cond rfl (fun h1 => ?_) (fun h1 => ?_)
  · obtain ⟨x, hx⟩ : ∃ x, l[k]? = some x := ⟨_, List.getElem?_eq_getElem (by omega)⟩
    have hox := hok x (List.mem_of_getElem? hx)
    obtain ⟨b, o, cs, rfl, _, _, hp, i1⟩ := RdR.at (k := 4) (by decide) hr (E := enEl x) (i := k) (by rw [List.getElem?_map, hx]; rfl)
    obtain ⟨X, cx, Y, cy, rfl, rx, _, ry, _⟩ := enEl.rd hp
    replace i1 := i1.below hs.bel
    refine wc_skip ?_; refine we_seq ?_; refine wc_seq ?_; refine wc_block ?_; refine wc_region ?_; refine wl_mv rfl rfl ?_; refine wl_mv rfl rfl ?_; refine wl_mv rfl rfl ?_; apply wl_val; apply opv_idxG tkE; exact rfl; exact rfl; exact rfl; omega; exact rfl; apply wl_val; apply opv_ldG; exact rfl; assumption; exact sE; exact rfl
    refine wl_call ok_caissonref07_Twin (twin2_any (x := x) (rx.below hs.bel) (ry.below hs.bel) hox.1 hox.2) ⟨rfl, trivial⟩ rfl ?_
    rintro _ w2 ⟨C, e, D, f, rfl, hsx⟩
    replace hs := ((hs.call hsx).pack (H1 := enOw x C e D f) (.ce (oE x) (enV x C e D f)) oE_of).front 1 rfl
    dsimp only [delC] at hs
    refine ws_pushS hs tkE (fun _ => rfl) (by simp; omega) ⟨_, rfl, rfl⟩ rfl rfl (by decide) (by omega) (by simp only [maxLen]; omega) rfl rfl ?_; clear hs; intro _ R2 c2 _ hs
    refine wl_as rfl rfl ?_; refine wl_nil ?_; refine we_block_norm ?_; refine we_seq ?_; refine wc_region ?_; refine wl_mv rfl rfl ?_; apply wl_val; apply opv_bin; exact rfl; exact rfl; exact bin_add64 (by omega); exact rfl; refine wl_as rfl rfl ?_; refine wl_nil ?_
    refine we_loop _ (l.length - (k + 1)) ⟨k + 1, R2, c2, rfl, by omega, by rw [take_getR hx]; simpa using hs, rfl⟩ (by omega) ⟨rfl, rfl, by simp [lookT], trivial⟩
  · obtain rfl : k = l.length := by omega
    rw [List.take_length] at hs
    refine wc_exit ?_; refine we_seq_exit ?_; refine we_loop_exit ?_; refine we_block_exit ?_; refine we_seq ?_; refine wc_sr ?_; refine wl_mv rfl rfl ?_; refine wl_as rfl rfl ?_; refine wl_ns ?_; refine wc_ret ?_
    exact we_ret1 rfl rfl ⟨_, rfl, P, cp, rfl, hs⟩
end Go.Proofs.Ytpnckagibkdcpaa


/-
  Pieces of bytes that lie apart, told for the test of the reference's Apart.
-/
namespace Go.Proofs.Ytpnckagibkdcpaa
open Go.RowKit

/-- The slices of an entry. -/
def enSl (a : EnA) : List Value := [.slice a.A a.x.key.length a.c, .slice a.B a.x.val.length a.d]
/-- Pieces of bytes and their slices. -/
inductive ByP : List Cd → List Value → Prop
  | nil : ByP [] []
  | cons {A : Option Addr} {n c : Nat} {xs : List Value} {H : List Cd} {vs : List Value} : n ≤ 1099511627776 → ByP H vs → ByP (.ow 5 A n c xs :: H) (.slice A n c :: vs)
  | jk {A : Option Addr} {n c : Nat} {H : List Cd} {vs : List Value} : n ≤ 1099511627776 → ByP H vs → ByP (.ck (jk A n c) :: H) (.slice A n c :: vs)
theorem ByP.append {H H' : List Cd} {vs vs' : List Value} (h : ByP H vs) (h' : ByP H' vs') : ByP (H ++ H') (vs ++ vs') := by
  induction h with
  | nil => exact h'
  | cons hn _ ih => exact .cons hn ih
  | jk hn _ ih => exact .jk hn ih
theorem ow_hd {w : World} {A : Option Addr} {n c base : Nat} {xs : List Value} {S : BS} (h : (Cd.ow 5 A n c xs).P w S) (hb : ∀ b, S b → base ≤ b) : Hd w base A n c := by
  rcases h.2.2 with ⟨hv, hn⟩ | ⟨g, cap, cur, hv, _, hg, hnc, _, hsz, _⟩
  · injection hv with hA _ hc; exact .inl ⟨hA, hn, hc⟩
  · injection hv with hA _ hc
    refine .inr ⟨g, cur.toList, hA, hb g (h.1 ⟨g, 0, none⟩ hA), by unfold Ar; simpa using hg, by omega, by simp; omega⟩
/-- All blocks that the slices lie in are blocks of the set. -/
theorem byP_in {w : World} {H : List Cd} {vs : List Value} (h : ByP H vs) : ∀ {S : BS}, Sat w H S → ∀ v ∈ vs, ∀ g, v.ownBlock = some g → S g := by
  induction h with
  | nil => intro S _ v hv; cases hv
  | @cons A n c xs H vs hn _ ih =>
    rintro S ⟨T, hT, hc, hr⟩ v hv g hg
    rcases List.mem_cons.1 hv with rfl | hv
    · rw [ownBlock_slice] at hg
      cases A with
      | none => cases hg
      | some a => simp at hg; subst hg; exact hT _ (hc.1 a rfl)
    · exact (ih hr v hv g hg).1
  | @jk A n c H vs hn _ ih =>
    rintro S ⟨T, hT, ⟨xs, hx, hc⟩, hr⟩ v hv g hg
    rcases List.mem_cons.1 hv with rfl | hv
    · rw [ownBlock_slice] at hg
      cases A with
      | none => cases hg
      | some a => simp at hg; subst hg; exact hT _ (hc.1 a rfl)
    · exact (ih hr v hv g hg).1
theorem byP_own {w : World} {base : Nat} {H : List Cd} {vs : List Value} (h : ByP H vs) : ∀ {S : BS}, Sat w H S → (∀ b, S b → base ≤ b) → Own1 w base vs := by
  have key : ∀ {A : Option Addr} {n c : Nat} {vs : List Value} {T S' : BS}, (∀ a, A = some a → T a.block) → Hd w base A n c → n ≤ 1099511627776 → Own1 w base vs → (∀ v ∈ vs, ∀ g, v.ownBlock = some g → ¬ T g) → Own1 w base (.slice A n c :: vs) := by
    intro A n c vs T S' hA hd hn ho hin
    refine ⟨fun v hv => ?_, List.pairwise_cons.2 ⟨fun v hv g hg hg' => ?_, ho.2⟩⟩
    · rcases List.mem_cons.1 hv with rfl | hv
      · exact ⟨A, n, c, rfl, hd, hn⟩
      · exact ho.1 v hv
    · rw [ownBlock_slice] at hg
      cases A with
      | none => cases hg
      | some a => simp at hg; subst hg; exact hin v hv _ hg' (hA a rfl)
  induction h with
  | nil => intro S _ _; exact Own1.nil
  | @cons A n c xs H vs hn hH ih =>
    rintro S ⟨T, hT, hc, hr⟩ hb
    exact key (S' := S) hc.1 (ow_hd hc fun b h => hb b (hT b h)) hn (ih hr fun b h => hb b h.1) fun v hv g hg => (byP_in hH hr v hv g hg).2
  | @jk A n c H vs hn hH ih =>
    rintro S ⟨T, hT, ⟨xs, hx, hc⟩, hr⟩ hb
    exact key (S' := S) hc.1 (ow_hd hc fun b h => hb b (hT b h)) hn (ih hr fun b h => hb b h.1) fun v hv g hg => (byP_in hH hr v hv g hg).2
theorem es_byP : ∀ {es : List EnA}, (∀ a ∈ es, a.x.key.length ≤ 1099511627776 ∧ a.x.val.length ≤ 1099511627776) → ByP (es.flatMap enM) (es.flatMap enSl)
  | [], _ => .nil
  | a :: es, h => by
    obtain ⟨h1, h2⟩ := h a List.mem_cons_self
    exact .cons h1 (.cons h2 (es_byP fun b hb => h b (List.mem_cons_of_mem _ hb)))
end Go.Proofs.Ytpnckagibkdcpaa


/-
  Walk over the law MergeMemory.
-/
namespace Go.Proofs.Ytpnckagibkdcpaa
open Go.RowKit

theorem pos_end {l : List En} {x : En} (h : ∀ y ∈ l, lessE y x = true) : posE l x l.length = l.length := by
  cases hl : l.length with
  | zero => rfl
  | succ k =>
    obtain ⟨y, hy⟩ : ∃ y, l[k]? = some y := ⟨_, List.getElem?_eq_getElem (by omega)⟩
    have h1 := lessE_asym (h y (List.mem_of_getElem? hy))
    rw [posE, hy]; simp [h1]
theorem add_end {l : List En} {x : En} (h : ∀ y ∈ l, lessE y x = true) : addM l x = l ++ [x] := by
  have hin : inE l x = false := List.any_eq_false.2 fun y hy => by
    have := h y hy
    simp only [decide_eq_true_eq, not_and]
    intro hk hs
    rw [(lessE_congr (a := y) (b := x) (c := x) ⟨hk, hs⟩).1, lessE_irr] at this
    cases this
  rw [addM, hin, if_neg (by decide), insE, pos_end h, List.take_length, List.drop_length, List.append_nil]
theorem merge_ord : ∀ (l out : List En), Ord (out ++ l) → l.foldl addM out = out ++ l
  | [], out, _ => by simp
  | x :: l, out, h => by
    have hx : ∀ y ∈ out, lessE y x = true := fun y hy => (List.pairwise_append.1 h).2.2 y hy x List.mem_cons_self
    rw [List.foldl_cons, add_end hx, merge_ord l (out ++ [x]) (by rw [List.append_assoc]; exact h), List.append_assoc]; rfl
theorem merge_again {l : List En} : ∀ {l' : List En}, (∀ x ∈ l', x ∈ l) → l'.foldl addM l = l
  | [], _ => rfl
  | x :: l', h => by
    have hin : inE l x = true := List.any_eq_true.2 ⟨x, h x List.mem_cons_self, by simp⟩
    rw [List.foldl_cons, addM, if_pos hin]
    exact merge_again fun y hy => h y (List.mem_cons_of_mem _ hy)
theorem merge_two {l : List En} (h : Ord l) : mergeE [l, l] = l := by
  show (l.foldl addM (l.foldl addM [])) = l
  have := merge_ord l [] h
  rw [List.nil_append] at this
  rw [this]
  exact merge_again fun x hx => hx
theorem worst_two {l : List En} (h : worstE [l] = 0) : worstE [l, l] = 0 := by
  have h1 : stepW 0 l = 0 := h
  show stepW (stepW 0 l) l = 0
  rw [h1]; exact h1
theorem rows_two {w : World} {A : Option Addr} {n c : Nat} {l : List En} (hr : RdR 4 w All A (l.map enEl)) (hn : l.length = n) (hc : n ≤ c) : Grp 1 w All (rowsE [l, l]) [[.slice A n c], [.slice A n c]] :=
  (rows_one hr hn hc).append (rows_one hr hn hc)
theorem St.es {M : BS} {w0 w : World} {H : List Cd} {A : Option Addr} {c : Nat} {l : List En} (hs : St M w0 w (.ck (rsC 4 56 A c (l.map oE)) :: H)) : ∃ es : List EnA, es.map (·.x) = l ∧ St M w0 w (.rg 4 56 A c ((es.map eaV).map rawEl) :: .ck (packC (es.flatMap enM)) :: H) := by
  obtain ⟨⟨es, he⟩, h⟩ := hs.unpackE (α := { es : List EnA // es.map (·.x) = l }) (H1 := fun es => [.rg 4 56 A c ((es.1.map eaV).map rawEl), .ck (packC (es.1.flatMap enM))]) fun T h => by
    obtain ⟨es, e1, e2⟩ := rs_es h
    refine ⟨⟨es, e1⟩, ?_⟩
    rw [List.map_map]
    exact Sat.packR (X := [.rg 4 56 A c (es.map fun a => rawEl (eaV a))]) e2 fun T h => h
  exact ⟨es, he, h⟩
theorem ea_one (es : List EnA) : ∀ u ∈ (es.map eaV).flatten, u.oneCell' = true := by
  intro u hu
  obtain ⟨cs, hcs, hu⟩ := List.mem_flatten.1 hu
  obtain ⟨a, _, rfl⟩ := List.mem_map.1 hcs
  simp [eaV, enV] at hu
  rcases hu with rfl | rfl | rfl | rfl <;> rfl
theorem pks_join {w : World} : ∀ {Hs : List (List Cd)} {S : BS}, Sat w (Hs.map fun H => .ck (packC H)) S → Sat w Hs.flatten S
  | [], _, _ => trivial
  | H :: Hs, S, ⟨T, hT, hc, hr⟩ => by
    rw [List.flatten_cons]
    exact Sat.join hT hc (pks_join hr)
theorem ea_at {w w0 : World} {M : BS} {H : List Cd} {Z : Option Addr} {cz j : Nat} {ea : List EnA} {a : EnA} (hs : St M w0 w H) (i : Nat) (hi : nthC H i = some (.rg 4 56 Z cz ((ea.map eaV).map rawEl))) (hj : ea[j]? = some a) : ∃ b o, Z = some ⟨b, o, none⟩ ∧ Wi w b (o + j * 4) (eaV a) := by
  obtain ⟨b, o, cs, hqq, _, _, hp, i1⟩ := RdR.at (k := 4) (by decide) (OwR.rd (hs.rg i hi)) (E := rawEl (eaV a)) (i := j) (by rw [List.getElem?_map, List.getElem?_map, hj]; rfl)
  obtain rfl : cs = eaV a := hp
  exact ⟨b, o, hqq, i1⟩
theorem sl_take {ea : List EnA} {k : Nat} {a : EnA} (h : ea[k]? = some a) : (ea.take (k + 1)).flatMap enSl = (ea.take k).flatMap enSl ++ [.slice a.A a.x.key.length a.c, .slice a.B a.x.val.length a.d] := by rw [take_getR h, List.flatMap_append]; rfl
theorem sl_len (ea : List EnA) : (ea.flatMap enSl).length = 2 * ea.length := by
  induction ea with
  | nil => rfl
  | cons a ea ih => rw [List.flatMap_cons, List.length_append, ih]; simp [enSl]; omega
set_option maxRecDepth 8000 in
theorem memory_any {A : Option Addr} {n c m : Nat} {l0 : List En} {w : World} (hr : RdR 4 w All A (l0.map enEl)) (hn : l0.length = n) (hc : n ≤ c) (hsq : ∀ x ∈ l0, x.seq < 2 ^ 64) (hl : sumB enB l0 ≤ 1048576) (hm : m < 2 ^ 64) :
    CallsV Try.prog 9 #[.slice A n c, .int .u64 (m : Int)] w (RetTr w) := by
  obtain ⟨hl1, hok1⟩ := ent_small hl
  have hs := St.init w
  refine calls_in (N := _) Try.func9 rfl Try.ntmps9 rfl ?_; show WC _ _ _ _ _ _
  refine wc_sr ?_; refine wl_as rfl rfl ?_; refine wl_ns ?_; refine wc_seq ?_; refine wc_sr ?_
  refine wl_call ok_caissonlaw11_awake (awake_any _) trivial rfl ?_; rintro _ _ ⟨rfl, hbx⟩; replace hs := hs.below hbx; try dsimp only [List.cons_append, List.nil_append, setC, delC] at hs
  apply wl_val; apply opv_not; exact rfl; exact rfl; refine wl_ns ?_; apply wc_condFb; exact rfl; exact Bool.not_true; refine wc_skip ?_; refine we_seq ?_; refine wc_sr ?_; refine wl_mv rfl rfl ?_
  refine wl_call ok_caissonlaw11_few (few_any (m := 20) hn hc) ⟨rfl, rfl, trivial⟩ rfl ?_; rintro _ _ ⟨rfl, rfl⟩
  have hr2 := take_rdr (m := 20) hr (by omega)
  have hokA : ∀ x ∈ l0.take 20, (x.key.length ≤ 1048576 ∧ x.val.length ≤ 1048576) ∧ x.seq < 2 ^ 64 := fun x hx => ⟨hok1 x (few_mem hx), hsq x (few_mem hx)⟩
  have hlen : (l0.take 20).length ≤ 20 := by rw [List.length_take]; omega
  obtain ⟨k, hk⟩ : ∃ q, l0.take 20 = q := ⟨_, rfl⟩
  rw [hk] at hr2 hokA hlen
  rw [hk]
  clear hr hok1 hsq hk
  refine wl_call ok_caissonref07_Sorted (sorted_any (hr2.below hs.bel) rfl (fun x hx => by have := (hokA x hx).1; simp only [maxLen]; omega) (by omega)) ⟨rfl, trivial⟩ rfl ?_
  rintro _ w2 ⟨P, cp, rfl, hcp, hl2, hbx2⟩
  obtain ⟨hsl, hsm⟩ := sorted_mem hokA
  obtain ⟨hord, hchk⟩ := sorted_ok k
  have hlaw := same_law hord hchk false [m]
  have hwst := worst_of hord hchk
  obtain ⟨l, hld⟩ : ∃ q, sortedE k = q := ⟨_, rfl⟩
  rw [hld] at hl2 hsl hsm hord hchk hlaw hwst hcp
  rw [hld]
  have hbw2 := hs.bel.trans (hbx2.mono hs.size)
  have hl2 := hl2.all
  have hok : ∀ x ∈ l, x.key.length ≤ 1048576 ∧ x.val.length ≤ 1048576 := fun x hx => (hsm x hx).1
  clear hs hbx hld
  have hs := St.init w2
  refine wl_as rfl rfl ?_; refine wl_ns ?_; refine wc_sr ?_; refine wl_mv rfl rfl ?_
  refine wl_call ok_caissonref07_Twins (twins3_any (hl2.below hs.bel) rfl (fun x hx => by have := hok x hx; omega) (by omega)) ⟨rfl, trivial⟩ rfl ?_
  rintro _ w3 ⟨D, d, rfl, hsx⟩
  replace hs := hs.call hsx
  dsimp only [List.cons_append, List.nil_append] at hs
  have hBl := OwR.len_le (hs.rsE 0 rfl)
  rw [List.length_map] at hBl
  refine wl_as rfl rfl ?_; refine wl_ns ?_; refine wc_sr ?_; refine wl_mv rfl rfl ?_; refine wl_mv rfl rfl ?_
  refine wl_bsG (css := [[.slice D l.length d], [.slice D l.length d]]) tkEE ⟨rfl, ⟨_, rfl, rfl⟩, rfl, rfl, ⟨_, rfl, rfl⟩, rfl, trivial⟩ (els := rowsE [l, l]) rfl (by decide) (by decide) (rows_two (OwR.rd (hs.rsE 0 rfl)) rfl hBl) rfl fun R w4 hR hbx4 _ => ?_
  replace hs := hs.below hbx4
  have hok2 : ∀ l' ∈ [l, l], l'.length ≤ 1048576 ∧ ∀ x ∈ l', x.key.length ≤ 1048576 ∧ x.val.length ≤ 1048576 := fun l' h => by
    have e : l' = l := by simpa using h
    rw [e]; exact ⟨by omega, hok⟩
  refine wl_call ok_merge_Merge (merge_any (OwR.rd hR) rfl hok2 (by simp)) ⟨rfl, trivial⟩ rfl ?_
  rintro _ w5 (⟨_, R5, c5, rfl, hsx⟩ | ⟨hw, _⟩)
  case inr => exact absurd (worst_two hwst) hw
  rw [merge_two hord] at hsx
  rw [merge_two hord]
  replace hs := hs.call hsx
  dsimp only [List.cons_append, List.nil_append] at hs
  refine wl_mv rfl rfl ?_; apply wl_val; apply opv_extract; exact rfl; exact rfl; exact rfl; apply wl_val; apply opv_extract; exact rfl; exact rfl; exact rfl; refine wl_as rfl rfl ?_; refine wl_as rfl rfl ?_; refine wl_ns ?_; refine wc_sr ?_; refine wl_mv rfl rfl ?_; refine wl_mv rfl rfl ?_
  refine wl_call ok_merge_Visible (visible_any (m := m) (OwR.rd (hs.rsE 1 rfl)) rfl hBl (fun x hx => by have := hok x hx; omega) (by omega)) ⟨rfl, rfl, trivial⟩ rfl ?_
  rintro _ w6 ⟨V, cv, rfl, hsx⟩
  replace hs := hs.call hsx
  dsimp only [List.cons_append, List.nil_append] at hs
  rw [hwst, if_pos rfl] at hs
  rw [hwst, if_pos rfl]
  refine wl_mv rfl rfl ?_; apply wl_val; apply opv_extract; exact rfl; exact rfl; exact rfl; apply wl_val; apply opv_extract; exact rfl; exact rfl; exact rfl; refine wl_as rfl rfl ?_; refine wl_as rfl rfl ?_; refine wl_ns ?_; refine wc_sr ?_; refine wl_mv rfl rfl ?_; refine wl_mv rfl rfl ?_
  refine ws_bs (vs := [.int .u64 (m : Int)]) hs tyQ ⟨rfl, rfl, rfl, trivial⟩ rfl (by decide) rfl ?_
  clear hs; intro E0 w7 hs
  refine wl_call ok_merge_Keep (keep_any (bt := false) (ms := [m]) (OwR.rd (hs.rsE 3 rfl)) rfl hBl (hs.ow 0 rfl).rd (fun x hx => by have := hok x hx; omega) (by omega) (by simp)) ⟨rfl, rfl, rfl, trivial⟩ rfl ?_
  rintro _ w8 ⟨K, ck, rfl, hsx⟩
  replace hs := (hs.drop 0 rfl).call hsx
  dsimp only [delC, List.cons_append, List.nil_append] at hs
  rw [hwst, if_pos rfl] at hs
  rw [hwst, if_pos rfl]
  obtain ⟨hsub, -, -, -⟩ := hlaw
  have hvl : (visE l m).length ≤ 20 := by
    have := filterMap_len (visR m) (runsE l)
    have := (runsE_facts l).1
    show ((runsE l).filterMap (visR m)).length ≤ 20
    omega
  have hvm : ∀ x ∈ visE l m, x ∈ l := fun x hx => by rw [vis_eq hord] at hx; exact (List.mem_filter.1 hx).1
  have hkl : (keepE l false [m]).length ≤ 20 := by have := hsub.length_le; omega
  have hkm : ∀ x ∈ keepE l false [m], x ∈ l := fun x hx => hsub.subset hx
  obtain ⟨vv, hvd⟩ : ∃ q, visE l m = q := ⟨_, rfl⟩
  obtain ⟨kk, hkd⟩ : ∃ q, keepE l false [m] = q := ⟨_, rfl⟩
  rw [hvd] at hs hvl hvm
  rw [hkd] at hs hkl hkm
  rw [hvd, hkd]
  have hokn : ∀ x ∈ l, x.key.length ≤ maxLen ∧ x.val.length ≤ maxLen := fun x hx => by have := hok x hx; simp only [maxLen]; omega
  refine wl_mv rfl rfl ?_; apply wl_val; apply opv_extract; exact rfl; exact rfl; exact rfl; apply wl_val; apply opv_extract; exact rfl; exact rfl; exact rfl; refine wl_as rfl rfl ?_; refine wl_as rfl rfl ?_; refine wl_ns ?_; refine wc_seq ?_; refine wc_sr ?_; refine wl_mv rfl rfl ?_; refine wl_mv rfl rfl ?_
  refine wl_call ok_caissonref07_SameList (sameListE_any (OwR.rd (hs.rsE 3 rfl)) (hl2.below hs.bel) rfl rfl hokn (by omega) (by omega)) ⟨rfl, rfl, trivial⟩ rfl ?_
  rintro _ w9 ⟨⟨b, rfl, hb⟩, hbx7⟩
  obtain rfl := hb.2 rfl
  replace hs := hs.below hbx7
  apply wl_val; apply opv_not; exact rfl; exact rfl; refine wl_mv rfl rfl ?_; apply wl_take; exact rfl; exact rfl; exact rfl; exact Bool.not_true; refine wl_mv rfl rfl ?_; apply wl_take; exact rfl; exact rfl; exact rfl; exact Bool.not_true; refine wl_mv rfl rfl ?_; apply wl_take; exact rfl; exact rfl; exact rfl; exact Bool.not_true
  refine wl_call ok_caissonref07_SameList (sameListE_any (OwR.rd (hs.rsE 2 rfl)) (hl2.below hs.bel) rfl rfl hokn (by omega) (by omega)) ⟨rfl, rfl, trivial⟩ rfl ?_
  rintro _ w10 ⟨⟨b, rfl, hb⟩, hbx8⟩
  obtain rfl := hb.2 rfl
  replace hs := hs.below hbx8
  obtain ⟨esk, hek, hs⟩ := hs.es
  obtain ⟨esv, hev, hs⟩ := (hs.front 2 rfl).es
  obtain ⟨esa, hea, hs⟩ := (hs.front 4 rfl).es
  obtain ⟨esg, heg, hs⟩ := (hs.front 6 rfl).es
  dsimp only [delC] at hs
  have hlg : esg.length = l.length := by rw [← heg, List.length_map]
  have hla : esa.length = l.length := by rw [← hea, List.length_map]
  have hlv : esv.length = vv.length := by rw [← hev, List.length_map]
  have hlk : esk.length = kk.length := by rw [← hek, List.length_map]
  apply wl_take; exact rfl; exact rfl; exact rfl; exact Bool.not_true; apply wl_val; apply opv_not; exact rfl; exact rfl; apply wl_val; apply opv_pickF; exact rfl; exact Bool.not_true; exact rfl; exact rfl; refine wl_ns ?_; apply wc_condFb; exact rfl; exact Bool.not_true; refine wc_skip ?_; refine we_seq ?_; refine wc_sr ?_; refine wl_as rfl rfl ?_; refine wl_ns ?_; refine wc_seq ?_; refine wc_sr ?_
  refine ws_bsG0 (k := 4) (e := 56) hs (opv_bsG0 tkE) rfl ?_
  clear hs; intro Z0 w11 hs
  refine wl_mv rfl rfl ?_
  refine ws_appR (css := esg.map eaV) hs 0 rfl rfl tkE rfl rfl (OwR.rd (hs.rg 1 rfl)) (by rw [List.length_map, hlg]) (ea_one esg) (by omega) (by simp only [maxLen]; omega) rfl ?_
  clear hs; intro Z1 z1 w12 hs; dsimp only [setC] at hs
  rw [List.nil_append] at hs
  refine wl_mv rfl rfl ?_
  refine ws_appR (css := esa.map eaV) hs 0 rfl rfl tkE (by simp [hlg]) rfl (OwR.rd (hs.rg 3 rfl)) (by rw [List.length_map, hla]) (ea_one esa) (by omega) (by simp only [maxLen]; omega) rfl ?_
  clear hs; intro Z2 z2 w13 hs; dsimp only [setC] at hs
  refine wl_mv rfl rfl ?_
  refine ws_appR (css := esv.map eaV) hs 0 rfl rfl tkE (by simp [hlg, hla]) rfl (OwR.rd (hs.rg 5 rfl)) (by rw [List.length_map, hlv]) (ea_one esv) (by omega) (by simp only [maxLen]; omega) rfl ?_
  clear hs; intro Z3 z3 w14 hs; dsimp only [setC] at hs
  refine wl_mv rfl rfl ?_
  refine ws_appR (css := esk.map eaV) hs 0 rfl rfl tkE (by simp [hlg, hla, hlv]; omega) rfl (OwR.rd (hs.rg 7 rfl)) (by rw [List.length_map, hlk]) (ea_one esk) (by omega) (by simp only [maxLen]; omega) rfl ?_
  clear hs; intro Z4 z4 w15 hs; dsimp only [setC] at hs
  obtain ⟨ea, head⟩ : ∃ q, esg ++ esa ++ esv ++ esk = q := ⟨_, rfl⟩
  have hN : 0 + l.length + l.length + vv.length + kk.length = ea.length := by rw [← head]; simp; omega
  have hme : ∀ a ∈ ea, a.x.key.length ≤ 1099511627776 ∧ a.x.val.length ≤ 1099511627776 := fun a ha => by
    have hx : a.x ∈ l := by
      rw [← head] at ha
      simp only [List.mem_append] at ha
      rcases ha with ((h | h) | h) | h
      · rw [← heg]; exact List.mem_map.2 ⟨a, h, rfl⟩
      · rw [← hea]; exact List.mem_map.2 ⟨a, h, rfl⟩
      · exact hvm _ (by rw [← hev]; exact List.mem_map.2 ⟨a, h, rfl⟩)
      · exact hkm _ (by rw [← hek]; exact List.mem_map.2 ⟨a, h, rfl⟩)
    have := hok _ hx; omega
  replace hs := ((((hs.drop 1 rfl).drop 2 rfl).drop 3 rfl).drop 4 rfl)
  dsimp only [delC] at hs
  have hs := St.map (H' := [.rg 4 56 Z4 z4 ((ea.map eaV).map rawEl), .ck (packC (ea.flatMap enM))]) hs fun T h => by
    have e : (List.map eaV esg).map rawEl ++ (List.map eaV esa).map rawEl ++ (List.map eaV esv).map rawEl ++ (List.map eaV esk).map rawEl = (ea.map eaV).map rawEl := by rw [← head]; simp
    rw [e] at h
    refine Sat.packR (X := [.rg 4 56 Z4 z4 ((ea.map eaV).map rawEl)]) h fun T h => ?_
    have := pks_join (Hs := [esg.flatMap enM, esa.flatMap enM, esv.flatMap enM, esk.flatMap enM]) h
    rw [← head]
    show Sat _ ((esg ++ esa ++ esv ++ esk).flatMap enM) T
    simpa [List.flatMap_append] using this
  rw [hN]
  have heaN : ea.length ≤ 80 := by omega
  clear hN hlg hla hlv hlk hek hev hea heg head
  replace hs := hs.nilO 24
  have hmax : maxLen = 9223372036854775807 := rfl
  apply wl_val; apply opv_len; exact rfl; exact tkE.sl; exact rfl; refine wl_mv rfl rfl ?_; refine wl_ns ?_; refine wc_block ?_
  refine wc_loop (fun L wr mm => ∃ (j : Nat) (Vv : Option Addr) (cv : Nat), L = [(12, .slice Vv (2 * j) cv), (60, .slice Z4 ea.length z4), (61, .int .i64 (ea.length : Int)), (62, .int .i64 (j : Int))] ∧ j ≤ ea.length ∧ St NoB w2 wr [.ow 24 Vv (2 * j) cv ((ea.take j).flatMap enSl), .rg 4 56 Z4 z4 ((ea.map eaV).map rawEl), .ck (packC (ea.flatMap enM))] ∧ mm = ea.length - j)
    [(12, .slice none 0 0), (60, .slice Z4 ea.length z4), (61, .int .i64 (ea.length : Int)), (62, .int .i64 (0 : Nat))] ea.length ⟨0, none, 0, rfl, by omega, hs, rfl⟩ ⟨rfl, rfl, rfl, rfl, trivial⟩ ?_
  clear hs
  rintro _ w16 mm ⟨j, Vv, cv, rfl, hj, hs, rfl⟩
  refine wc_sr ?_; refine wl_bin rfl rfl bin_lss rfl ?_; refine wl_ns ?_; refine wc_seq ?_
  refine wc_cond rfl (fun h1 => ?_) (fun h1 => ?_)
  · obtain ⟨a, hx⟩ : ∃ a, ea[j]? = some a := ⟨_, List.getElem?_eq_getElem (by omega)⟩
    obtain ⟨b, o, rfl, i1⟩ := ea_at hs 1 rfl hx
    have hst := sl_take hx
    refine wc_skip ?_; refine we_seq ?_; refine wc_seq ?_; refine wc_block ?_; refine wc_sr ?_; apply wl_val; apply opv_idxG tkE; exact rfl; exact rfl; exact rfl; omega; exact rfl; apply wl_val; apply opv_ldG; exact rfl; assumption; exact sE; exact rfl
    refine ws_new hs zeroE rfl ?_; clear hs; intro g14 _ hs
    apply ws_stS hs 0; exact rfl; exact rfl; exact rfl; exact sE; exact rfl; exact rfl; clear hs; intro _ hs; dsimp only [setC] at hs; refine wl_ns ?_; refine wc_region ?_; refine wl_mv rfl rfl ?_; apply wl_val; apply opv_fa; exact fa_sE (by decide); exact rfl; exact rfl; apply wl_val; apply opv_ldX; exact rfl; exact hs.ar 0 rfl; exact e1_by; exact rfl; exact rfl; apply wl_val; apply opv_fa; exact fa_sE (by decide); exact rfl; exact rfl; apply wl_val; apply opv_ldX; exact rfl; exact hs.ar 0 rfl; exact e1_by; exact rfl; exact rfl
    refine ws_push (vs := [.slice a.A a.x.key.length a.c, .slice a.B a.x.val.length a.d]) hs 1 rfl rfl tyBB ⟨rfl, rfl, rfl, rfl, rfl, rfl, trivial⟩ rfl (by decide) rfl (by omega) (by omega) rfl rfl ?_
    clear hs; intro _ V2 c2 w17 hs; dsimp only [setC] at hs
    rw [← hst] at hs
    refine wl_as rfl rfl ?_; refine wl_nil ?_; refine we_block_norm ?_; refine we_seq ?_; refine wc_region ?_; apply wl_val; apply opv_bin; exact rfl; exact rfl; exact bin_add64 (by omega); exact rfl; refine wl_mv rfl rfl ?_; refine wl_nil ?_
    refine we_loop _ (ea.length - (j + 1)) ⟨j + 1, V2, c2, rfl, by omega, hs.drop 0 rfl, rfl⟩ (by omega) ⟨rfl, rfl, rfl, by simp [lookT], trivial⟩
  · obtain rfl : j = ea.length := by omega
    rw [List.take_length] at hs
    refine wc_exit ?_; refine we_seq_exit ?_; refine we_loop_exit ?_; refine we_block_exit ?_; refine we_seq ?_; refine wc_sr ?_; refine wl_mv rfl rfl ?_
    obtain ⟨T, hT, hV, h2⟩ := hs.2
    obtain ⟨U, hU, hpk, _⟩ := h2.dropC
    have hby := es_byP hme
    have hpk : Sat w16 (ea.flatMap enM) U := hpk
    refine wl_call ok_caissonref01_Apart (apart_any (base := w2.heap.size) (hs.ow 0 rfl).rd (fun a ha v hv hg => (hU _ (byP_in hby hpk v hv _ hg)).2 (hV.1 a ha)) (byP_own hby hpk fun b h => (hU b h).1.elim (fun h => h.elim) id) hs.size (by omega)) ⟨rfl, trivial⟩ rfl ?_
    rintro _ w17 ⟨rfl, hbx⟩
    refine wl_as rfl rfl ?_; refine wl_ns ?_; refine wc_ret ?_
    exact we_ret1 rfl rfl ⟨_, rfl, rfl, hbw2.trans ((hs.bel.trans hbx).mono hbw2.size)⟩
end Go.Proofs.Ytpnckagibkdcpaa
