/-
  The texts of this proof, joined: Ms, Ka, Kb, Kc, Kd, Ke, Yc, Mu, Mv.
-/
import Derived.Test.YtpnckagibkdcpaaDoorBloM5
import Derived.Test.YtpnckagibkdcpaaDoorBloM2
import Derived.Test.YtpnckagibkdcpaaDoorBloM3

/-
  Walk over the law MemTables.
-/
namespace Go.Proofs.YtpnckagibkdcpaaDoor
open Go.RowKit

theorem lists7_small {lists : List (List En)} (h : sumB lnE lists ≤ 1048576) : lists.length ≤ 1048576 ∧ ∀ l ∈ lists, l.length ≤ 1048576 ∧ ∀ x ∈ l, x.key.length ≤ 1048576 ∧ x.val.length ≤ 1048576 := by
  refine ⟨by have := sumB_len (bulk := lnE) lists; omega, fun l hl => ?_⟩
  have h1 : lnE l + 1 ≤ sumB lnE lists := sumB_mem hl
  have h2 : sumB enB l ≤ 1048576 := by have h3 : lnE l = sumB enB l := rfl; omega
  exact ent_small h2
/-- What the law knows of the list that the table should have. -/
structure WOk (xs : List En) (b : Nat) : Prop where
  ord : Ord xs
  len : xs.length ≤ b
  mem : ∀ x ∈ xs, (x.key.length ≤ 1048576 ∧ x.val.length ≤ 1048576) ∧ x.seq < 2 ^ 64
theorem WOk.tsz {xs : List En} {b : Nat} (h : WOk xs b) (hb : b ≤ 1048576) : tszE xs ≤ 1048576 * 2097152 := by
  have h2 := tsz_mem (l := xs) (b := 2097152) fun y hy => by have := (h.mem y hy).1; omega
  have h1 := h.len
  exact Nat.le_trans h2 (Nat.mul_le_mul_right _ (by omega))
theorem WOk.nil : WOk [] 0 := ⟨.nil, by simp, by simp⟩
theorem WOk.put {xs l : List En} {b m : Nat} (h : WOk xs b) (hl : l.length ≤ m) (hm : ∀ x ∈ l, (x.key.length ≤ 1048576 ∧ x.val.length ≤ 1048576) ∧ x.seq < 2 ^ 64) : WOk (putL xs l) (b + m) := by
  unfold putL
  by_cases hz : putC xs l = 0
  · rw [if_pos hz]
    have hck : checkE l = 0 := by
      rcases Decidable.em (checkE l = 0) with h1 | h1
      · exact h1
      · rw [putC, if_neg h1] at hz; exact hz
    have hok : okP xs l l.length = true := by
      rw [putC, if_pos hck] at hz
      cases h1 : okP xs l l.length with
      | true => rfl
      | false => rw [h1] at hz; cases hz
    have ho := okP_ord h.ord (Nat.le_refl _) hok
    rw [List.take_length] at ho
    refine ⟨ho, by rw [foldI_len]; have := h.len; omega, fun x hx => ?_⟩
    rcases foldI_mem.1 hx with h1 | h1
    · exact h.mem x h1
    · exact hm x h1
  · rw [if_neg hz]
    exact ⟨h.ord, by have := h.len; omega, h.mem⟩
theorem cmp_nil (xs : List UInt8) : 0 ≤ cmpB xs [] := by cases xs <;> simp [cmpB]
theorem range_nil (xs : List En) : rangeE xs [] [] = xs := List.filter_eq_self.2 fun x _ => by simp [cmp_nil]
set_option maxRecDepth 8000 in
theorem tables_any {A B : Option Addr} {n c nb cb : Nat} {lists0 : List (List En)} {asks0 : List Ak} {w : World} (hr : RdR 1 w All A (rowsE lists0)) (hn : lists0.length = n) (hc : n ≤ c) (hsq : ∀ l ∈ lists0, ∀ x ∈ l, x.seq < 2 ^ 64) (hl : sumB lnE lists0 ≤ 1048576)
    (hra : RdR 3 w All B (asks0.map akEl)) (hna : asks0.length = nb) (hcb : nb ≤ cb) (hoa : ∀ a ∈ asks0, a.at_ < 2 ^ 64) (hla : sumB akB asks0 ≤ 1048576) (hg : GT w) :
    CallsV Tryd.prog 5 #[.slice A n c, .slice B nb cb] w (RetTr w) := by
  subst hn hna
  obtain ⟨hl1, hok1⟩ := lists7_small hl
  have hs := St.init w
  refine calls_in (N := _) Tryd.func5 rfl Tryd.ntmps5 rfl ?_; show WC _ _ _ _ _ _
  refine wc_sr ?_; refine wl_as rfl rfl ?_; refine wl_ns ?_; refine wc_seq ?_; refine wc_sr ?_
  refine wl_call ok_caissonlaw07_awake (awake7_any hg) trivial rfl ?_; rintro _ _ ⟨rfl, hbx⟩; replace hs := hs.below hbx; try dsimp only [List.cons_append, List.nil_append, setC, delC] at hs
  apply wl_val; apply opv_not; exact rfl; exact rfl; refine wl_ns ?_; apply wc_condFb; exact rfl; exact Bool.not_true; refine wc_skip ?_; refine we_seq ?_; refine wc_seq ?_; refine wc_sr ?_; refine wl_mv rfl rfl ?_; apply wl_val; apply opv_len; exact rfl; exact tkEE.sl; exact rfl; refine wl_bin rfl rfl bin_gtr rfl ?_; refine wl_ns ?_
  refine wc_cutE (fun L' w' => L' = [(0, .slice A (lists0.take 30).length c), (1, .slice B asks0.length cb)] ∧ St NoB w w' []) ?_ ?_
  · refine wc_cond rfl (fun h1 => ?_) (fun h1 => ?_)
    · refine wc_region ?_; refine wl_mv rfl rfl ?_
      refine wl_slK (l := 0) (h := 30) tkEE rfl rfl ⟨_, rfl⟩ (by omega) (by omega) rfl ?_
      rw [cutK_zero]
      refine wl_as rfl rfl ?_; refine wl_nil ?_
      exact we_cut _ ⟨rfl, hs⟩ ⟨congrArg some (slice_eq (by simp; omega)), rfl, trivial⟩
    · refine wc_skip ?_
      exact we_cut _ ⟨rfl, hs⟩ ⟨congrArg some (slice_eq (by simp; omega)), rfl, trivial⟩
  clear hs hbx
  rintro _ w1 ⟨rfl, hs⟩
  refine we_seq ?_; refine wc_seq ?_; refine wc_sr ?_; refine wl_mv rfl rfl ?_; apply wl_val; apply opv_len; exact rfl; exact tkAk.sl; exact rfl; refine wl_bin rfl rfl bin_gtr rfl ?_; refine wl_ns ?_
  refine wc_cutE (fun L' w' => L' = [(0, .slice A (lists0.take 30).length c), (1, .slice B (asks0.take 30).length cb)] ∧ St NoB w w' []) ?_ ?_
  · refine wc_cond rfl (fun h1 => ?_) (fun h1 => ?_)
    · refine wc_region ?_; refine wl_mv rfl rfl ?_
      refine wl_slK (l := 0) (h := 30) tkAk rfl rfl ⟨_, rfl⟩ (by omega) (by omega) rfl ?_
      rw [cutK_zero]
      refine wl_as rfl rfl ?_; refine wl_nil ?_
      exact we_cut _ ⟨rfl, hs⟩ ⟨rfl, congrArg some (slice_eq (by simp; omega)), trivial⟩
    · refine wc_skip ?_
      exact we_cut _ ⟨rfl, hs⟩ ⟨rfl, congrArg some (slice_eq (by simp; omega)), trivial⟩
  clear hs
  rintro _ w2 ⟨rfl, hs⟩
  obtain ⟨N, hN, hN1, hN2⟩ : ∃ q, (lists0.take 30).length = q ∧ q ≤ lists0.length ∧ q ≤ 30 := ⟨_, rfl, by simp; omega, by simp; omega⟩
  obtain ⟨K, hK, hK1, hK2⟩ : ∃ q, (asks0.take 30).length = q ∧ q ≤ asks0.length ∧ q ≤ 30 := ⟨_, rfl, by simp; omega, by simp; omega⟩
  rw [hN, hK]
  refine we_seq ?_; refine wc_sr ?_
  refine wl_call ok_mem_New new_any trivial rfl ?_
  rintro _ w3 ⟨t, rfl, hsx⟩
  replace hs := (hs.call hsx).nilOld
  clear hsx
  dsimp only [List.cons_append, List.nil_append] at hs
  unfold pN
  refine wl_as rfl rfl ?_; refine wl_ns ?_; refine wc_sr ?_; refine wl_as rfl rfl ?_; refine wl_ns ?_; refine wc_seq ?_; refine wc_sr ?_; refine wl_mv rfl rfl ?_; apply wl_val; apply opv_len; exact rfl; exact tkEE.sl; exact rfl; refine wl_mv rfl rfl ?_; refine wl_ns ?_; refine wc_block ?_
  refine wc_loop (fun L wr mm => ∃ (j : Nat) (P : Option Addr) (cp : Nat) (xs : List En), L = [(1, .slice B K cb), (5, .pointer (some ⟨t, 0, none⟩)), (6, .slice P xs.length cp), (33, .slice A N c), (34, .int .i64 (N : Int)), (35, .int .i64 (j : Int))] ∧ j ≤ N ∧ xs.length ≤ cp ∧ WOk xs (j * 30) ∧ St NoB w wr [.ck (oldC w P cp xs), .ck (tblC t xs)] ∧ mm = N - j)
    [(1, .slice B K cb), (5, .pointer (some ⟨t, 0, none⟩)), (6, .slice none 0 0), (33, .slice A N c), (34, .int .i64 (N : Int)), (35, .int .i64 (0 : Nat))] N ⟨0, none, 0, [], rfl, by omega, by simp, WOk.nil, hs, rfl⟩ ⟨rfl, rfl, rfl, rfl, rfl, rfl, trivial⟩ ?_
  clear hs
  rintro _ w4 mm ⟨j, P, cp, xs, rfl, hj, hcp, hx, hs, rfl⟩
  refine wc_sr ?_; refine wl_bin rfl rfl bin_lss rfl ?_; refine wl_ns ?_; refine wc_seq ?_
  refine wc_cond rfl (fun h1 => ?_) (fun h1 => ?_)
  · obtain ⟨l, hlx⟩ : ∃ l, lists0[j]? = some l := ⟨_, List.getElem?_eq_getElem (by omega)⟩
    have hlm := List.mem_of_getElem? hlx
    obtain ⟨hll, hlo⟩ := hok1 l hlm
    have hlq := hsq l hlm
    obtain ⟨b, o, X, cx, rfl, hcx, rl, i1⟩ := rowsE_at hr hlx
    replace i1 := i1.below hs.bel
    refine wc_skip ?_; refine we_seq ?_; refine wc_seq ?_; refine wc_block ?_; refine wc_sr ?_; apply wl_val; apply opv_idxG tkEE; exact rfl; exact rfl; exact rfl; omega; exact rfl; apply wl_val; apply opv_ldW0; exact rfl; assumption; exact e1_row; exact rfl; exact rfl; refine wl_as rfl rfl ?_; refine wl_ns ?_; refine wc_sr ?_; refine wl_mv rfl rfl ?_
    refine wl_call ok_caissonlaw07_few (few7_any (m := 30) (l := l) rfl hcx) ⟨rfl, rfl, trivial⟩ rfl ?_; rintro _ _ ⟨rfl, rfl⟩
    have hr2 := take_rdr (m := 30) rl (by omega)
    have hmk : ∀ x ∈ l.take 30, (x.key.length ≤ 1048576 ∧ x.val.length ≤ 1048576) ∧ x.seq < 2 ^ 64 := fun x h => ⟨hlo x (few_mem h), hlq x (few_mem h)⟩
    have hlk : (l.take 30).length ≤ 30 := by simp; omega
    have hlc : (l.take 30).length ≤ cx := by simp; omega
    obtain ⟨k, hk⟩ : ∃ q, l.take 30 = q := ⟨_, rfl⟩
    rw [hk] at hr2 hmk hlk hlc
    rw [hk]
    clear i1 rl hlq hlo hll hlm hlx hk hcx
    have hst := hx.put hlk hmk
    have hxl := hx.len
    have htsz := hx.tsz (by omega)
    refine wl_as rfl rfl ?_; refine wl_ns ?_; refine wc_sr ?_; refine wl_mv rfl rfl ?_
    refine wl_call ok_caissonref07_Twins (twins3_any (l := k) (hr2.below hs.bel) rfl (fun x h => by have := (hmk x h).1; omega) (by omega)) ⟨rfl, trivial⟩ rfl ?_
    rintro _ w5 ⟨D, d, rfl, hsx⟩
    replace hs := hs.call hsx
    clear hsx
    dsimp only [List.cons_append, List.nil_append] at hs
    have hdl := OwR.len_le (hs.rsE 0 rfl)
    rw [List.length_map] at hdl
    refine wl_as rfl rfl ?_; refine wl_ns ?_; refine wc_sr ?_; refine wl_mv rfl rfl ?_; refine wl_mv rfl rfl ?_
    obtain ⟨S2, hS2, _, hM, hH, hB⟩ := St.lend (H1 := [.ck (tblC t xs)]) (H2 := [_, _]) (hs.front 2 rfl)
    have hrd : RdR 4 w5 (fun b => Fr NoB w b ∧ ¬ S2 b) D (k.map enEl) := by
      obtain ⟨T1, hT1, h1, _⟩ := hH w5 (Mod.refl _ _)
      exact RdR.mono (by decide) (rs_rdr h1) fun b _ h => hT1 b h
    refine wl_call ok_mem_Table_Put (put_any (c := d) (xs := xs) (l := k) hS2 hx.ord hrd (fun b _ h => h.2) rfl (by omega) (by omega) (by omega) fun w' hm => hg.mod (hM w' hm) id) ⟨rfl, rfl, trivial⟩ rfl ?_
    rintro _ w6 ⟨rfl, hsx⟩
    replace hs := hB _ _ hsx
    clear hB hsx hS2 hM hH hrd
    dsimp only [List.cons_append, List.nil_append] at hs
    refine wl_as rfl rfl ?_; refine wl_ns ?_; refine wc_sr ?_; refine wl_mv rfl rfl ?_; refine wl_mv rfl rfl ?_
    refine wl_call ok_caissonref07_PutAll (refPut_any (xs := xs) (l := k) (S := Old w) (hs.old 2 rfl) rfl hcp (RdR.below (RdR.move (by decide) hr2 (Nat.le_refl _) fun b hb _ => ⟨hb, rfl⟩) hs.bel) rfl (fun x h => by have := (hx.mem x h).1; simp only [maxLen]; omega) (fun x h => by have := (hmk x h).1; simp only [maxLen]; omega) (by omega) (by omega)) ⟨rfl, rfl, trivial⟩ rfl ?_
    rintro _ w7 ⟨P2, cp2, rfl, hP2, hbx⟩
    have hold : St NoB w w7 [.ck (oldC w P2 cp2 (putL xs k)), .ck (tblC t (putL xs k)), .ck (rsC 4 39 D d (k.map oE))] ∧ (putL xs k).length ≤ cp2 := by
      rcases hP2 with ⟨rfl, rfl, he⟩ | ho
      · refine ⟨?_, by rw [he]; exact hcp⟩
        have h2 := (hs.below hbx).front 2 rfl
        rw [show (if putC xs k = 0 then k.foldl insE xs else xs) = putL xs k from rfl] at h2
        rw [show oldC w P2 cp2 (putL xs k) = oldC w P2 cp2 xs by rw [he]]
        exact h2
      · have h2 := (hs.newOld hbx ho (Nat.le_refl _)).drop 3 rfl
        exact ⟨h2, by have := OwR.len_le ho; rwa [List.length_map] at this⟩
    clear hs hP2
    obtain ⟨hs, hcp2⟩ := hold
    obtain ⟨ys, hys⟩ : ∃ q, putL xs k = q := ⟨_, rfl⟩
    rw [hys] at hs hcp2 hst
    rw [hys]
    obtain ⟨es, hes, hs⟩ := (hs.front 2 rfl).esK
    dsimp only [delC] at hs
    have hel : es.length = k.length := by rw [← hes, List.length_map]
    have hmes : ∀ a ∈ es, a.x.key.length ≤ 1048576 ∧ a.x.val.length ≤ 1048576 := fun a ha => (hmk a.x (by rw [← hes]; exact List.mem_map_of_mem ha)).1
    refine wl_mv rfl rfl ?_; apply wl_val; apply opv_extract; exact rfl; exact rfl; exact rfl; apply wl_val; apply opv_extract; exact rfl; exact rfl; exact rfl; refine wl_as rfl rfl ?_; refine wl_as rfl rfl ?_; refine wl_ns ?_; refine wc_seq ?_; refine wc_sr ?_; refine wl_mv rfl rfl ?_; apply wl_val; apply opv_len; exact rfl; exact tkE.sl; exact rfl; refine wl_mv rfl rfl ?_; refine wl_ns ?_; refine wc_block ?_
    refine wc_loop (fun L wr mm => ∃ (i : Nat), L = [(1, .slice B K cb), (5, .pointer (some ⟨t, 0, none⟩)), (9, .slice D k.length d), (10, .int .i64 (putC xs k : Nat)), (11, .slice P2 ys.length cp2), (12, .int .i64 (putC xs k : Nat)), (33, .slice (some ⟨b, o, none⟩) N c), (34, .int .i64 (N : Int)), (35, .int .i64 (j : Int)), (53, .int .i64 (k.length : Int)), (54, .int .i64 (i : Int))] ∧ i ≤ k.length ∧ St NoB w wr [.rg 4 39 D d ((es.map eaV).map rawEl), .ck (packC (es.flatMap enK)), .ck (oldC w P2 cp2 ys), .ck (tblC t ys)] ∧ mm = k.length - i)
      [(1, .slice B K cb), (5, .pointer (some ⟨t, 0, none⟩)), (9, .slice D k.length d), (10, .int .i64 (putC xs k : Nat)), (11, .slice P2 ys.length cp2), (12, .int .i64 (putC xs k : Nat)), (33, .slice (some ⟨b, o, none⟩) N c), (34, .int .i64 (N : Int)), (35, .int .i64 (j : Int)), (53, .int .i64 (k.length : Int)), (54, .int .i64 (0 : Nat))] k.length ⟨0, rfl, by omega, hs, rfl⟩ ⟨rfl, rfl, rfl, rfl, rfl, rfl, rfl, rfl, rfl, rfl, rfl, trivial⟩ ?_
    clear hs hbx
    rintro _ w8 mm ⟨i, rfl, hi, hs, rfl⟩
    refine wc_sr ?_; refine wl_bin rfl rfl bin_lss rfl ?_; refine wl_ns ?_; refine wc_seq ?_
    refine wc_cond rfl (fun h2 => ?_) (fun h2 => ?_)
    · obtain ⟨a, haj⟩ : ∃ a, es[i]? = some a := ⟨_, List.getElem?_eq_getElem (by omega)⟩
      have ham := List.mem_of_getElem? haj
      obtain ⟨hk1, hk2⟩ := enK_mem ham
      obtain ⟨ho1, ho2⟩ := hmes a ham
      obtain ⟨b1, o1, hb1, i2⟩ := raw7 (by decide) (hs.rg 0 rfl) (j := i) (cs := eaV a) (by rw [List.getElem?_map, haj]; rfl)
      subst hb1
      unfold eaV enV at i2
      refine wc_skip ?_; refine we_seq ?_; refine wc_seq ?_; refine wc_block ?_; refine wc_sr ?_; refine wl_mv rfl rfl ?_; refine wl_as rfl rfl ?_; refine wl_ns ?_; refine wc_sr ?_; refine wl_mv rfl rfl ?_; refine wl_mv rfl rfl ?_; apply wl_val; apply opv_idxG tkE; exact rfl; exact rfl; exact rfl; omega; exact rfl; apply wl_val; apply opv_fa; exact fa_sE (by decide); exact rfl; exact rfl; apply wl_val; apply opv_ldW; exact rfl; assumption; exact e1_by; exact rfl; exact rfl
      obtain ⟨S2, hS2, _, _, _, hB⟩ := St.lend (H1 := [.ck (packC (es.flatMap enK))]) (H2 := [_, _, _]) (hs.front 1 rfl)
      refine wl_call ok_caissonref01_Over (over_in hS2 hk1 (by omega)) ⟨rfl, trivial⟩ rfl ?_
      rintro _ w11 ⟨rfl, hsx⟩
      replace hs := (hB _ _ hsx).front 1 rfl
      dsimp only [delC, List.cons_append, List.nil_append] at hs
      clear hB hsx hS2 i2
      obtain ⟨b1, o1, hb1, i2⟩ := raw7 (by decide) (hs.rg 0 rfl) (j := i) (cs := eaV a) (by rw [List.getElem?_map, haj]; rfl)
      simp only [Option.some.injEq, Addr.mk.injEq, and_true] at hb1
      obtain ⟨rfl, rfl⟩ := hb1
      unfold eaV enV at i2
      refine wl_ns ?_; refine wc_region ?_; refine wl_mv rfl rfl ?_; refine wl_mv rfl rfl ?_; apply wl_val; apply opv_idxG tkE; exact rfl; exact rfl; exact rfl; omega; exact rfl; apply wl_val; apply opv_fa; exact fa_sE (by decide); exact rfl; exact rfl; apply wl_val; apply opv_ldW; exact rfl; assumption; exact e1_by; exact rfl; exact rfl
      obtain ⟨S2, hS2, _, _, _, hB⟩ := St.lend (H1 := [.ck (packC (es.flatMap enK))]) (H2 := [_, _, _]) (hs.front 1 rfl)
      refine wl_call ok_caissonref01_Over (over_in hS2 hk2 (by omega)) ⟨rfl, trivial⟩ rfl ?_
      rintro _ w12 ⟨rfl, hsx⟩
      replace hs := (hB _ _ hsx).front 1 rfl
      dsimp only [delC, List.cons_append, List.nil_append] at hs
      clear hB hsx hS2
      refine wl_nil ?_; refine we_block_norm ?_; refine we_seq ?_; refine wc_region ?_; apply wl_val; apply opv_bin; exact rfl; exact rfl; exact bin_add64 (by omega); exact rfl; refine wl_mv rfl rfl ?_; refine wl_nil ?_
      refine we_loop _ (k.length - (i + 1)) ⟨i + 1, rfl, by omega, hs, rfl⟩ (by omega) ⟨rfl, rfl, rfl, rfl, rfl, rfl, rfl, rfl, rfl, rfl, by simp [lookT], trivial⟩
    · replace hs := (hs.drop 0 rfl).drop 0 rfl
      dsimp only [delC] at hs
      refine wc_exit ?_; refine we_seq_exit ?_; refine we_loop_exit ?_; refine we_block_exit ?_; refine we_seq ?_; refine wc_sr ?_; refine wl_mv rfl rfl ?_; refine wl_as rfl rfl ?_; refine wl_ns ?_; refine wc_sr ?_; refine wl_mv rfl rfl ?_; refine wl_mv rfl rfl ?_; refine wl_bin rfl rfl bin_neq rfl ?_; refine wl_mv rfl rfl ?_; apply wl_take; exact rfl; exact rfl; exact rfl; refine bF ?_; (with_reducible exact nne); refine wl_mv rfl rfl ?_; apply wl_take; exact rfl; exact rfl; exact rfl; refine bF ?_; (with_reducible exact nne)
      obtain ⟨S2, hS2, _, _, _, hB⟩ := St.lend (H1 := [.ck (tblC t ys)]) (H2 := [_]) (hs.front 1 rfl)
      refine wl_call ok_mem_Table_Len (tlen_any hS2) ⟨rfl, trivial⟩ rfl ?_
      rintro _ _ ⟨rfl, rfl⟩
      apply wl_take; exact rfl; exact rfl; exact rfl; refine bF ?_; (with_reducible exact nne); refine wl_mv rfl rfl ?_; apply wl_take; exact rfl; exact rfl; exact rfl; refine bF ?_; (with_reducible exact nne); apply wl_val; apply opv_len; exact rfl; exact tkE.sl; exact rfl; apply wl_take; exact rfl; exact rfl; exact rfl; refine bF ?_; (with_reducible exact nne); refine wl_bin rfl rfl bin_neq rfl ?_; apply wl_val; apply opv_pickF; exact rfl; refine bF ?_; (with_reducible exact nne); exact rfl; exact rfl; refine wl_mv rfl rfl ?_; apply wl_take; exact rfl; exact rfl; exact rfl; refine bF ?_; (with_reducible exact nne); refine wl_mv rfl rfl ?_; apply wl_take; exact rfl; exact rfl; exact rfl; refine bF ?_; (with_reducible exact nne)
      refine wl_call ok_mem_Table_Size (tsize_any hS2) ⟨rfl, trivial⟩ rfl ?_
      rintro _ _ ⟨rfl, rfl⟩
      apply wl_take; exact rfl; exact rfl; exact rfl; refine bF ?_; (with_reducible exact nne); refine wl_mv rfl rfl ?_; apply wl_take; exact rfl; exact rfl; exact rfl; refine bF ?_; (with_reducible exact nne)
      clear hB hS2
      refine wl_call ok_caissonref07_Size (refSize_any (l := ys) (hs.old 0 rfl).rd rfl (fun x h => by have := (hst.mem x h).1; omega) (by have := hst.len; omega)) ⟨rfl, trivial⟩ rfl ?_; rintro _ _ ⟨rfl, hbx⟩; replace hs := hs.below hbx; try dsimp only [List.cons_append, List.nil_append, setC, delC] at hs
      apply wl_take; exact rfl; exact rfl; exact rfl; refine bF ?_; (with_reducible exact nne); refine wl_bin rfl rfl bin_neq rfl ?_; apply wl_val; apply opv_pickF; exact rfl; refine bF ?_; (with_reducible exact nne); exact rfl; exact rfl; refine wl_ns ?_; apply wc_decF; exact rfl; (with_reducible exact nne); refine wc_skip ?_; refine we_block_norm ?_; refine we_seq ?_; refine wc_region ?_; apply wl_val; apply opv_bin; exact rfl; exact rfl; exact bin_add64 (by omega); exact rfl; refine wl_mv rfl rfl ?_; refine wl_nil ?_
      exact we_loop _ (N - (j + 1)) ⟨j + 1, P2, cp2, ys, rfl, by omega, hcp2, by rw [Nat.add_mul]; exact hst, hs, rfl⟩ (by omega) ⟨rfl, rfl, rfl, rfl, rfl, by simp [lookT], trivial⟩
  · obtain rfl : j = N := by omega
    obtain ⟨M, hM⟩ : ∃ q, j * 30 = q := ⟨_, rfl⟩
    rw [hM] at hx
    have hM2 : M ≤ 900 := by omega
    have hxl := hx.len
    clear hM hr hsq hok1 hl hl1 h1 hN1 hN
    refine wc_exit ?_; refine we_seq_exit ?_; refine we_loop_exit ?_; refine we_block_exit ?_; refine we_seq ?_; refine wc_seq ?_; refine wc_sr ?_; refine wl_mv rfl rfl ?_; apply wl_val; apply opv_len; exact rfl; exact tkAk.sl; exact rfl; refine wl_mv rfl rfl ?_; refine wl_ns ?_; refine wc_block ?_
    refine wc_loop (fun L wr mm => ∃ (i : Nat), L = [(5, .pointer (some ⟨t, 0, none⟩)), (6, .slice P xs.length cp), (89, .slice B K cb), (90, .int .i64 (K : Int)), (91, .int .i64 (i : Int))] ∧ i ≤ K ∧ St NoB w wr [.ck (oldC w P cp xs), .ck (tblC t xs)] ∧ mm = K - i)
      [(5, .pointer (some ⟨t, 0, none⟩)), (6, .slice P xs.length cp), (89, .slice B K cb), (90, .int .i64 (K : Int)), (91, .int .i64 (0 : Nat))] K ⟨0, rfl, by omega, hs, rfl⟩ ⟨rfl, rfl, rfl, rfl, rfl, trivial⟩ ?_
    clear hs
    rintro _ w5 mm ⟨i, rfl, hi, hs, rfl⟩
    refine wc_sr ?_; refine wl_bin rfl rfl bin_lss rfl ?_; refine wl_ns ?_; refine wc_seq ?_
    refine wc_cond rfl (fun h1 => ?_) (fun h1 => ?_)
    · obtain ⟨a, hax⟩ : ∃ a, asks0[i]? = some a := ⟨_, List.getElem?_eq_getElem (by omega)⟩
      have ham := List.mem_of_getElem? hax
      have haq := hoa a ham
      have hab := sumB_mem (bulk := akB) ham
      have hab1 : a.key.length ≤ 1048576 ∧ a.to.length ≤ 1048576 := by have h3 : akB a = a.key.length + a.to.length := rfl; omega
      obtain ⟨b, o, cs, rfl, _, _, hp, i1⟩ := RdR.at (k := 3) (by decide) hra (E := akEl a) (i := i) (by rw [List.getElem?_map, hax]; rfl)
      obtain ⟨X, cx, Y, cy, rfl, rk, rt⟩ := akEl.rd hp
      replace i1 := i1.below hs.bel
      refine wc_skip ?_; refine we_seq ?_; refine wc_seq ?_; refine wc_block ?_; refine wc_sr ?_; apply wl_val; apply opv_idxG tkAk; exact rfl; exact rfl; exact rfl; omega; exact rfl; apply wl_val; apply opv_ldG; exact rfl; assumption; exact sAk; exact rfl
      refine ws_var (cs := akV a X cx Y cy) hs zeroAk sAk rfl (fun _ => rfl) (by first | rfl | simp [Value.oneCell']) rfl ?_; clear hs; intro g15 _ hs
      unfold akV at hs
      refine wl_ns ?_; refine wc_seq ?_
      refine wc_cutE (fun L' w' => ∃ (g16 : Nat) (Z : Option Addr) (cz : Nat) (V : Option Addr) (cv : Nat), L' = [(5, .pointer (some ⟨t, 0, none⟩)), (6, .slice P xs.length cp), (15, .pointer (some ⟨g15, 0, none⟩)), (16, .pointer (some ⟨g16, 0, none⟩)), (17, .bool (getE xs a.key a.at_).isSome), (89, .slice (some ⟨b, o, none⟩) K cb), (90, .int .i64 (K : Int)), (91, .int .i64 (i : Int))] ∧ St NoB w w' [.blk g16 39 (enV (gtE xs a.key a.at_) Z cz V cv), .ow 5 Z (gtE xs a.key a.at_).key.length cz (bvs (gtE xs a.key a.at_).key), .ow 5 V (gtE xs a.key a.at_).val.length cv (bvs (gtE xs a.key a.at_).val), .blk g15 57 [.slice X a.key.length cx, .slice Y a.to.length cy, .int .u64 (a.at_ : Int)], .ck (oldC w P cp xs), .ck (tblC t xs)]) ?_ ?_
      · replace hs := hs.below (Below.refl _ _).drew
        have hS := hs.ar 0 rfl
        refine wc_heldS (fun w => Ar w g15 57 [.slice X a.key.length cx, .slice Y a.to.length cy, .int .u64 (a.at_ : Int)]) 11 mixed ?_
        apply wm_take 0; exact rfl; intro _ hw_; apply opv_move; exact rfl; exact rfl; kernel_rfl; exact hS; apply wm_take 1; exact rfl; intro _ hw_; apply opv_fa; exact fa_sAk (by decide); exact rfl; exact rfl; kernel_rfl; exact hS; apply wm_take 2; exact rfl; intro _ hw_; apply opv_ldX; exact rfl; assumption; exact e1_by; exact rfl; exact rfl; kernel_rfl; exact hS; apply wm_take 4; exact rfl; intro _ hw_; apply opv_fa; exact fa_sAk (by decide); exact rfl; exact rfl; kernel_rfl; exact hS; apply wm_take 5; exact rfl; intro _ hw_; apply opv_ldX; exact rfl; assumption; exact e1_u64; exact rfl; exact rfl; kernel_rfl; exact hS
        clear hS
        refine wm_two 3 10 (by kernel_rfl) rfl rfl ?_ ?_ <;> dsimp only [List.getElem_toArray, List.getElem_cons_succ, List.getElem_cons_zero]
        · refine wl_call ok_caissonref01_Copy (copy_any (rk.below hs.bel) rfl (by omega)) ⟨rfl, trivial⟩ rfl ?_; rintro _ _ ⟨K1, k1, rfl, o_, hbx⟩; replace hs := hs.newO hbx o_ (Nat.le_refl _); try dsimp only [List.cons_append, List.nil_append, setC, delC] at hs
          refine wl_nil ?_
          refine we_heldM (fun _ => hs.ar 1 rfl) ?_
          refine wm_two 6 10 (by kernel_rfl) rfl rfl ?_ ?_ <;> dsimp only [List.getElem_toArray, List.getElem_cons_succ, List.getElem_cons_zero]
          · obtain ⟨S2, hS2, _, hM, hH, hB⟩ := St.lend (H1 := [.ck (tblC t xs)]) (H2 := [_, _, _]) (hs.front 3 rfl)
            refine wl_call ok_mem_Table_Get (tget2_any (m := a.at_) hS2 hx.ord rfl (fun w' hm => ?_) fun x h => by have := (hx.mem x h).1; omega) ⟨rfl, rfl, rfl, trivial⟩ rfl ?_
            · obtain ⟨_, _, h⟩ := (hH w' hm).mem (c := .ow 5 K1 a.key.length k1 (bvs a.key)) (by simp)
              exact h.2.rd
            rintro _ w6 ⟨Z, cz, V, cv, rfl, hsx⟩
            replace hs := hB _ _ hsx
            clear hB hsx hS2 hM hH
            unfold enOw at hs
            dsimp only [List.cons_append, List.nil_append] at hs
            refine wl_nil ?_
            refine we_heldM (fun _ => hs.ar 4 rfl) ?_
            have hS := hs.ar 4 rfl
            apply wm_takeP 7; exact rfl; intro _; apply opv_move; exact rfl; exact rfl; kernel_rfl; exact fun _ => hS; apply wm_takeP 8; exact rfl; intro _; apply opv_extract; exact rfl; exact rfl; exact rfl; kernel_rfl; exact fun _ => hS; apply wm_takeP 9; exact rfl; intro _; apply opv_extract; exact rfl; exact rfl; exact rfl; kernel_rfl; exact fun _ => hS
            refine wm_one 10 (by kernel_rfl) rfl ?_; dsimp only [List.getElem_toArray, List.getElem_cons_succ, List.getElem_cons_zero]
            refine ws_new hs zeroE rfl ?_; clear hs; intro g16 _ hs
            unfold zE at hs
            refine wl_nil ?_
            refine we_heldM (fun _ => hs.ar 5 rfl) ?_
            refine wm_one 11 (by kernel_rfl) rfl ?_; dsimp only [List.getElem_toArray, List.getElem_cons_succ, List.getElem_cons_zero]
            apply ws_stS hs 0; exact rfl; exact rfl; exact rfl; exact sE; exact rfl; exact rfl; clear hs; intro _ hs; dsimp only [setC] at hs; refine wl_nil ?_
            refine we_heldM (fun h => absurd h (by decide)) ?_
            refine wm_one 12 (by kernel_rfl) rfl ?_; dsimp only [List.getElem_toArray, List.getElem_cons_succ, List.getElem_cons_zero]
            refine wl_as rfl rfl ?_; refine wl_nil ?_
            refine we_heldM (fun h => absurd h (by decide)) ?_
            refine wm_done (by kernel_rfl) ?_
            exact we_cut _ ⟨g16, Z, cz, V, cv, rfl, (((((((hs.drop 4 rfl).front 3 rfl).front 5 rfl).front 5 rfl).front 5 rfl).front 5 rfl).front 5 rfl)⟩ ⟨rfl, rfl, rfl, rfl, rfl, rfl, rfl, rfl, trivial⟩
          · refine ws_new hs zeroE rfl ?_; clear hs; intro g16 _ hs
            unfold zE at hs
            refine wl_nil ?_
            refine we_heldM (fun _ => hs.ar 2 rfl) ?_
            refine wm_one 6 (by kernel_rfl) rfl ?_; dsimp only [List.getElem_toArray, List.getElem_cons_succ, List.getElem_cons_zero]
            obtain ⟨S2, hS2, _, hM, hH, hB⟩ := St.lend (H1 := [.ck (tblC t xs)]) (H2 := [_, _, _, _]) (hs.front 4 rfl)
            refine wl_call ok_mem_Table_Get (tget2_any (m := a.at_) hS2 hx.ord rfl (fun w' hm => ?_) fun x h => by have := (hx.mem x h).1; omega) ⟨rfl, rfl, rfl, trivial⟩ rfl ?_
            · obtain ⟨_, _, h⟩ := (hH w' hm).mem (c := .ow 5 K1 a.key.length k1 (bvs a.key)) (by simp)
              exact h.2.rd
            rintro _ w6 ⟨Z, cz, V, cv, rfl, hsx⟩
            replace hs := hB _ _ hsx
            clear hB hsx hS2 hM hH
            unfold enOw at hs
            dsimp only [List.cons_append, List.nil_append] at hs
            refine wl_nil ?_
            refine we_heldM (fun _ => hs.ar 5 rfl) ?_
            have hS := hs.ar 5 rfl
            apply wm_takeP 7; exact rfl; intro _; apply opv_move; exact rfl; exact rfl; kernel_rfl; exact fun _ => hS; apply wm_takeP 8; exact rfl; intro _; apply opv_extract; exact rfl; exact rfl; exact rfl; kernel_rfl; exact fun _ => hS; apply wm_takeP 9; exact rfl; intro _; apply opv_extract; exact rfl; exact rfl; exact rfl; kernel_rfl; exact fun _ => hS
            refine wm_one 11 (by kernel_rfl) rfl ?_; dsimp only [List.getElem_toArray, List.getElem_cons_succ, List.getElem_cons_zero]
            apply ws_stS hs 3; exact rfl; exact rfl; exact rfl; exact sE; exact rfl; exact rfl; clear hs; intro _ hs; dsimp only [setC] at hs; refine wl_nil ?_
            refine we_heldM (fun h => absurd h (by decide)) ?_
            refine wm_one 12 (by kernel_rfl) rfl ?_; dsimp only [List.getElem_toArray, List.getElem_cons_succ, List.getElem_cons_zero]
            refine wl_as rfl rfl ?_; refine wl_nil ?_
            refine we_heldM (fun h => absurd h (by decide)) ?_
            refine wm_done (by kernel_rfl) ?_
            exact we_cut _ ⟨g16, Z, cz, V, cv, rfl, (((((((hs.drop 4 rfl).front 2 rfl).front 5 rfl).front 5 rfl).front 4 rfl).front 4 rfl).front 5 rfl)⟩ ⟨rfl, rfl, rfl, rfl, rfl, rfl, rfl, rfl, trivial⟩
        · refine ws_new hs zeroE rfl ?_; clear hs; intro g16 _ hs
          unfold zE at hs
          refine wl_nil ?_
          refine we_heldM (fun _ => hs.ar 1 rfl) ?_
          refine wm_one 3 (by kernel_rfl) rfl ?_; dsimp only [List.getElem_toArray, List.getElem_cons_succ, List.getElem_cons_zero]
          refine wl_call ok_caissonref01_Copy (copy_any (rk.below hs.bel) rfl (by omega)) ⟨rfl, trivial⟩ rfl ?_; rintro _ _ ⟨K1, k1, rfl, o_, hbx⟩; replace hs := hs.newO hbx o_ (Nat.le_refl _); try dsimp only [List.cons_append, List.nil_append, setC, delC] at hs
          refine wl_nil ?_
          refine we_heldM (fun _ => hs.ar 2 rfl) ?_
          refine wm_one 6 (by kernel_rfl) rfl ?_; dsimp only [List.getElem_toArray, List.getElem_cons_succ, List.getElem_cons_zero]
          obtain ⟨S2, hS2, _, hM, hH, hB⟩ := St.lend (H1 := [.ck (tblC t xs)]) (H2 := [_, _, _, _]) (hs.front 4 rfl)
          refine wl_call ok_mem_Table_Get (tget2_any (m := a.at_) hS2 hx.ord rfl (fun w' hm => ?_) fun x h => by have := (hx.mem x h).1; omega) ⟨rfl, rfl, rfl, trivial⟩ rfl ?_
          · obtain ⟨_, _, h⟩ := (hH w' hm).mem (c := .ow 5 K1 a.key.length k1 (bvs a.key)) (by simp)
            exact h.2.rd
          rintro _ w6 ⟨Z, cz, V, cv, rfl, hsx⟩
          replace hs := hB _ _ hsx
          clear hB hsx hS2 hM hH
          unfold enOw at hs
          dsimp only [List.cons_append, List.nil_append] at hs
          refine wl_nil ?_
          refine we_heldM (fun _ => hs.ar 5 rfl) ?_
          have hS := hs.ar 5 rfl
          apply wm_takeP 7; exact rfl; intro _; apply opv_move; exact rfl; exact rfl; kernel_rfl; exact fun _ => hS; apply wm_takeP 8; exact rfl; intro _; apply opv_extract; exact rfl; exact rfl; exact rfl; kernel_rfl; exact fun _ => hS; apply wm_takeP 9; exact rfl; intro _; apply opv_extract; exact rfl; exact rfl; exact rfl; kernel_rfl; exact fun _ => hS
          refine wm_one 11 (by kernel_rfl) rfl ?_; dsimp only [List.getElem_toArray, List.getElem_cons_succ, List.getElem_cons_zero]
          apply ws_stS hs 4; exact rfl; exact rfl; exact rfl; exact sE; exact rfl; exact rfl; clear hs; intro _ hs; dsimp only [setC] at hs; refine wl_nil ?_
          refine we_heldM (fun h => absurd h (by decide)) ?_
          refine wm_one 12 (by kernel_rfl) rfl ?_; dsimp only [List.getElem_toArray, List.getElem_cons_succ, List.getElem_cons_zero]
          refine wl_as rfl rfl ?_; refine wl_nil ?_
          refine we_heldM (fun h => absurd h (by decide)) ?_
          refine wm_done (by kernel_rfl) ?_
          exact we_cut _ ⟨g16, Z, cz, V, cv, rfl, (((((((hs.drop 3 rfl).front 2 rfl).front 5 rfl).front 5 rfl).front 4 rfl).front 4 rfl).front 5 rfl)⟩ ⟨rfl, rfl, rfl, rfl, rfl, rfl, rfl, rfl, trivial⟩
      clear hs
      rintro _ w6 ⟨g16, Z, cz, V, cv, rfl, hs⟩
      refine we_seq ?_; refine wc_sr ?_; refine wl_mv rfl rfl ?_; apply wl_val; apply opv_fa; exact fa_sAk (by decide); exact rfl; exact rfl; apply wl_val; apply opv_ldX; exact rfl; exact hs.ar 3 rfl; exact e1_by; exact rfl; exact rfl; apply wl_val; apply opv_fa; exact fa_sAk (by decide); exact rfl; exact rfl; apply wl_val; apply opv_ldX; exact rfl; exact hs.ar 3 rfl; exact e1_u64; exact rfl; exact rfl
      refine wl_call ok_caissonref07_Get (refGet2_any (at' := a.at_) (hs.old 4 rfl).rd rfl (rk.below hs.bel) rfl (fun x h => by have := (hx.mem x h).1; simp only [maxLen]; omega) (by omega)) ⟨rfl, rfl, rfl, trivial⟩ rfl ?_; rintro _ _ ⟨⟨Z2, cz2, V2, cv2, rfl, q1, q2⟩, hbx⟩; replace hs := hs.below hbx; try dsimp only [List.cons_append, List.nil_append, setC, delC] at hs
      have hgm : (gtE xs a.key a.at_).key.length ≤ 1048576 ∧ (gtE xs a.key a.at_).val.length ≤ 1048576 := by
        rcases gtE_mem (l := xs) (key := a.key) (m := a.at_) with h | h
        · rw [h]; exact ⟨Nat.zero_le _, Nat.zero_le _⟩
        · exact (hx.mem _ h).1
      obtain ⟨y, hy⟩ : ∃ q, gtE xs a.key a.at_ = q := ⟨_, rfl⟩
      obtain ⟨ib, hib⟩ : ∃ q, (getE xs a.key a.at_).isSome = q := ⟨_, rfl⟩
      rw [hy] at hs hgm q1 q2
      rw [hy, hib]
      clear hy hib hbx
      refine wl_mv rfl rfl ?_; apply wl_val; apply opv_extract; exact rfl; exact rfl; exact rfl; apply wl_val; apply opv_extract; exact rfl; exact rfl; exact rfl
      refine wl_var (cs := enV y Z2 cz2 V2 cv2) zeroE sE rfl (fun _ => rfl) rfl rfl fun g18 w8 hg18 a18 hbx => ?_
      replace hs := hs.newA hbx hg18 a18
      replace q1 := q1.below hbx
      replace q2 := q2.below hbx
      clear hbx hg18 a18
      refine wl_as rfl rfl ?_; refine wl_ns ?_; refine wc_seq ?_; refine wc_seq ?_
      replace hs := hs.below (Below.refl _ _).drew
      have q1' : RdB _ Z2 y.key := q1.below (Below.refl _ _).drew
      have q2' : RdB _ V2 y.val := q2.below (Below.refl _ _).drew
      have hS := And.intro (hs.ar 4 rfl) (And.intro (hs.ar 1 rfl) (hs.ar 0 rfl))
      refine wc_held (fun w => Ar w g15 57 [.slice X a.key.length cx, .slice Y a.to.length cy, .int .u64 (a.at_ : Int)] ∧ Ar w g16 39 (enV y Z cz V cv) ∧ Ar w g18 39 (enV y Z2 cz2 V2 cv2)) mixed ?_
      have hbb : (ib != ib) = false := by cases ib <;> rfl
      apply wh_takeH 0; exact rfl; intro _ hw_; apply opv_move; exact rfl; exact rfl; kernel_rfl; exact hS; apply wh_takeH 1; exact rfl; intro _ hw_; apply opv_move; exact rfl; exact rfl; kernel_rfl; exact hS; apply wh_takeH 2; exact rfl; intro _ hw_; apply opv_bin; exact rfl; exact rfl; exact bin_neqB tyBool; exact rfl; kernel_rfl; exact hS; apply wh_takeH 3; exact rfl; intro _ hw_; apply opv_move; exact rfl; exact rfl; kernel_rfl; exact hS; apply wh_takeGH 4; exact rfl; exact rfl; exact rfl; exact rfl; refine bF ?_; (with_reducible exact nne); intro _ hw_; apply opv_loadX; exact rfl; exact hw_.2.1; exact sE; exact rfl; kernel_rfl; exact hS; apply wh_takeGH 5; exact rfl; exact rfl; exact rfl; exact rfl; refine bF ?_; (with_reducible exact nne); intro _ hw_; apply opv_loadX; exact rfl; exact hw_.2.2; exact sE; exact rfl; kernel_rfl; exact hS
      refine wh_one 6 (o := ⟨_, _, _, _, _, _⟩) (by kernel_rfl) rfl ?_
      apply wl_take; exact rfl; exact rfl; exact rfl; refine bF ?_; (with_reducible exact nne)
      refine wl_call ok_caissonref07_Same (sameE_any (x := y) (y := y) (hs.ow 2 rfl).rd (hs.ow 3 rfl).rd q1' q2' (by simp only [maxLen]; omega) (by simp only [maxLen]; omega)) ⟨rfl, rfl, trivial⟩ rfl ?_
      rintro _ w9 ⟨⟨q, rfl, hq⟩, hbx⟩
      obtain rfl := hq.2 rfl
      replace hs := hs.below hbx
      clear hq hbx q1 q2 q1' q2' hS
      refine wl_nil ?_
      have hS := And.intro (hs.ar 4 rfl) (And.intro (hs.ar 1 rfl) (hs.ar 0 rfl))
      refine we_held hS ?_
      apply wh_takeGH 7; exact rfl; exact rfl; exact rfl; exact rfl; refine bF ?_; (with_reducible exact nne); intro _ hw_; apply opv_not; exact rfl; exact rfl; kernel_rfl; exact hS; apply wh_takeH 8; exact rfl; intro _ hw_; apply opv_pickF; exact rfl; refine bF ?_; (with_reducible exact nne); exact rfl; exact rfl; kernel_rfl; exact hS; apply wh_takeH 9; exact rfl; intro _ hw_; apply opv_move; exact rfl; exact rfl; kernel_rfl; exact hS; apply wh_takeGH 10; exact rfl; exact rfl; exact rfl; exact rfl; exact Bool.not_true; intro _ hw_; apply opv_move; exact rfl; exact rfl; kernel_rfl; exact hS; apply wh_takeGH 11; exact rfl; exact rfl; exact rfl; exact rfl; exact Bool.not_true; intro _ hw_; apply opv_fa; exact fa_sAk (by decide); exact rfl; exact rfl; kernel_rfl; exact hS; apply wh_takeGH 12; exact rfl; exact rfl; exact rfl; exact rfl; exact Bool.not_true; intro _ hw_; apply opv_ldX; exact rfl; exact hw_.1; exact e1_by; exact rfl; exact rfl; kernel_rfl; exact hS; apply wh_takeGH 14; exact rfl; exact rfl; exact rfl; exact rfl; exact Bool.not_true; intro _ hw_; apply opv_fa; exact fa_sAk (by decide); exact rfl; exact rfl; kernel_rfl; exact hS; apply wh_takeGH 15; exact rfl; exact rfl; exact rfl; exact rfl; exact Bool.not_true; intro _ hw_; apply opv_ldX; exact rfl; exact hw_.1; exact e1_by; exact rfl; exact rfl; kernel_rfl; exact hS; apply wh_takeGH 18; exact rfl; exact rfl; exact rfl; exact rfl; exact Bool.not_true; intro _ hw_; apply opv_move; exact rfl; exact rfl; kernel_rfl; exact hS; apply wh_takeGH 19; exact rfl; exact rfl; exact rfl; exact rfl; exact Bool.not_true; intro _ hw_; apply opv_fa; exact fa_sAk (by decide); exact rfl; exact rfl; kernel_rfl; exact hS; apply wh_takeGH 20; exact rfl; exact rfl; exact rfl; exact rfl; exact Bool.not_true; intro _ hw_; apply opv_ldX; exact rfl; exact hw_.1; exact e1_by; exact rfl; exact rfl; kernel_rfl; exact hS; apply wh_takeGH 21; exact rfl; exact rfl; exact rfl; exact rfl; exact Bool.not_true; intro _ hw_; apply opv_fa; exact fa_sAk (by decide); exact rfl; exact rfl; kernel_rfl; exact hS; apply wh_takeGH 22; exact rfl; exact rfl; exact rfl; exact rfl; exact Bool.not_true; intro _ hw_; apply opv_ldX; exact rfl; exact hw_.1; exact e1_by; exact rfl; exact rfl; kernel_rfl; exact hS
      refine wh_one 13 (o := ⟨_, _, _, _, _, _⟩) (by kernel_rfl) rfl ?_
      apply wl_take; exact rfl; exact rfl; exact rfl; exact Bool.not_true
      clear hS
      refine wl_call ok_caissonref01_Copy (copy_any (rk.below hs.bel) rfl (by omega)) ⟨rfl, trivial⟩ rfl ?_; rintro _ _ ⟨K1, k1, rfl, o_, hbx⟩; replace hs := hs.newO hbx o_ (Nat.le_refl _); try dsimp only [List.cons_append, List.nil_append, setC, delC] at hs
      clear o_ hbx
      refine wl_nil ?_
      have hS := And.intro (hs.ar 5 rfl) (And.intro (hs.ar 2 rfl) (hs.ar 1 rfl))
      refine we_held hS ?_
      refine wh_one 16 (o := ⟨_, _, _, _, _, _⟩) (by kernel_rfl) rfl ?_
      apply wl_take; exact rfl; exact rfl; exact rfl; exact Bool.not_true
      clear hS
      refine wl_call ok_caissonref01_Copy (copy_any (rt.below hs.bel) rfl (by omega)) ⟨rfl, trivial⟩ rfl ?_; rintro _ _ ⟨K2, k2, rfl, o_, hbx⟩; replace hs := hs.newO hbx o_ (Nat.le_refl _); try dsimp only [List.cons_append, List.nil_append, setC, delC] at hs
      clear o_ hbx
      refine wl_nil ?_
      have hS := And.intro (hs.ar 6 rfl) (And.intro (hs.ar 3 rfl) (hs.ar 2 rfl))
      refine we_held hS ?_
      refine wh_one 17 (o := ⟨_, _, _, _, _, _⟩) (by kernel_rfl) rfl ?_
      apply wl_take; exact rfl; exact rfl; exact rfl; exact Bool.not_true
      clear hS
      obtain ⟨S2, hS2, _, hM, hH, hB⟩ := St.lend (H1 := [.ck (tblC t xs)]) (H2 := [_, _, _, _, _, _, _, _]) (hs.front 8 rfl)
      have hkx : ∀ w', Mod S2 _ w' → RdB w' K1 a.key ∧ RdB w' K2 a.to := fun w' hm => by
        obtain ⟨_, _, h⟩ := (hH w' hm).mem (c := .ow 5 K1 a.key.length k1 (bvs a.key)) (by simp)
        obtain ⟨_, _, h'⟩ := (hH w' hm).mem (c := .ow 5 K2 a.to.length k2 (bvs a.to)) (by simp)
        exact ⟨h.2.rd, h'.2.rd⟩
      refine wl_call ok_mem_Table_Range (trange_any hS2 hx.ord rfl (fun w' hm => (hkx w' hm).1) rfl (fun w' hm => (hkx w' hm).2) (fun x h => by have := (hx.mem x h).1; omega) (fun x h => (hx.mem x h).2) (by omega)) ⟨rfl, rfl, rfl, trivial⟩ rfl ?_
      rintro _ w10 ⟨R, cr, rfl, hsx⟩
      replace hs := hB _ _ hsx
      clear hB hsx hS2 hM hH hkx
      dsimp only [List.cons_append, List.nil_append] at hs
      refine wl_nil ?_
      have hS := And.intro (hs.ar 8 rfl) (And.intro (hs.ar 5 rfl) (hs.ar 4 rfl))
      refine we_held hS ?_
      refine wh_one 23 (o := ⟨_, _, _, _, _, _⟩) (by kernel_rfl) rfl ?_
      apply wl_take; exact rfl; exact rfl; exact rfl; exact Bool.not_true
      clear hS
      refine wl_call ok_caissonref07_Range (refRange_any (S := All) (hs.old 9 rfl).rd rfl (rk.below hs.bel) rfl (rt.below hs.bel) rfl (fun x h => by have := (hx.mem x h).1; simp only [maxLen]; omega) (by simp only [maxLen]; omega) (by simp only [maxLen]; omega) (by omega)) ⟨rfl, rfl, rfl, trivial⟩ rfl ?_
      rintro _ w11 ⟨R2, cr2, rfl, hR2, hbx⟩
      replace hs := hs.below hbx
      clear hbx
      refine wl_nil ?_
      have hS := And.intro (hs.ar 8 rfl) (And.intro (hs.ar 5 rfl) (hs.ar 4 rfl))
      refine we_held hS ?_
      refine wh_one 24 (o := ⟨_, _, _, _, _, _⟩) (by kernel_rfl) rfl ?_
      apply wl_take; exact rfl; exact rfl; exact rfl; exact Bool.not_true
      clear hS
      have hrl : (rangeE xs a.key a.to).length ≤ 900 := by have := List.length_filter_le (fun x => decide (0 ≤ cmpB x.key a.key ∧ (a.to.length = 0 ∨ cmpB x.key a.to < 0))) xs; have h2 : (rangeE xs a.key a.to).length ≤ xs.length := this; omega
      refine wl_call ok_caissonref07_SameList (sameListE_any (OwR.rd (hs.rsE 0 rfl)) (OwR.rd hR2) rfl rfl (fun x h => by have := (hx.mem x (List.mem_filter.1 h).1).1; simp only [maxLen]; omega) (by omega) (by omega)) ⟨rfl, rfl, trivial⟩ rfl ?_
      rintro _ w12 ⟨⟨q, rfl, hq⟩, hbx⟩
      obtain rfl := hq.2 rfl
      replace hs := hs.below hbx
      clear hbx hq hR2
      refine wl_nil ?_
      have hS := And.intro (hs.ar 8 rfl) (And.intro (hs.ar 5 rfl) (hs.ar 4 rfl))
      refine we_held hS ?_
      apply wh_takeGH 25; exact rfl; exact rfl; exact rfl; exact rfl; exact Bool.not_true; intro _ hw_; apply opv_not; exact rfl; exact rfl; kernel_rfl; exact hS; apply wh_takeH 26; exact rfl; intro _ hw_; apply opv_pickF; exact rfl; exact Bool.not_true; exact rfl; exact rfl; kernel_rfl; exact hS
      refine wh_done (by kernel_rfl) ?_
      clear hS
      replace hs := ((((((((((hs.drop 0 rfl).drop 1 rfl).drop 1 rfl).drop 1 rfl).drop 4 rfl).front 0 rfl).front 4 rfl).front 4 rfl).front 4 rfl).front 4 rfl)
      unfold enV at hs
      refine we_seq ?_; apply wc_condFb; exact rfl; exact Bool.not_true; refine wc_skip ?_; refine we_seq ?_; refine wc_sr ?_; apply wl_val; apply opv_fa; exact fa_sE (by decide); exact rfl; exact rfl; apply wl_val; apply opv_ldX; exact rfl; exact hs.ar 0 rfl; exact e1_by; exact rfl; exact rfl
      replace hs := (hs.front 1 rfl).map (H' := .ck (jk Z y.key.length cz) :: _) fun _ h => h.mapC fun _ h => jk_of h
      dsimp only [delC] at hs
      obtain ⟨S2, hS2, _, _, _, hB⟩ := St.lend (H1 := [.ck (jk Z y.key.length cz)]) hs
      refine wl_call ok_caissonref01_Over (over_jk hS2 (by omega)) ⟨rfl, trivial⟩ rfl ?_
      rintro _ w13 ⟨rfl, hsx⟩
      replace hs := (hB _ _ hsx).drop 0 rfl
      dsimp only [delC, List.cons_append, List.nil_append] at hs
      clear hB hsx hS2
      refine wl_ns ?_; refine wc_region ?_; apply wl_val; apply opv_fa; exact fa_sE (by decide); exact rfl; exact rfl; apply wl_val; apply opv_ldX; exact rfl; exact hs.ar 0 rfl; exact e1_by; exact rfl; exact rfl
      replace hs := (hs.front 1 rfl).map (H' := .ck (jk V y.val.length cv) :: _) fun _ h => h.mapC fun _ h => jk_of h
      dsimp only [delC] at hs
      obtain ⟨S2, hS2, _, _, _, hB⟩ := St.lend (H1 := [.ck (jk V y.val.length cv)]) hs
      refine wl_call ok_caissonref01_Over (over_jk hS2 (by omega)) ⟨rfl, trivial⟩ rfl ?_
      rintro _ w14 ⟨rfl, hsx⟩
      replace hs := ((hB _ _ hsx).drop 0 rfl).drop 0 rfl
      dsimp only [delC, List.cons_append, List.nil_append] at hs
      clear hB hsx hS2
      refine wl_nil ?_; refine we_block_norm ?_; refine we_seq ?_; refine wc_region ?_; apply wl_val; apply opv_bin; exact rfl; exact rfl; exact bin_add64 (by omega); exact rfl; refine wl_mv rfl rfl ?_; refine wl_nil ?_
      exact we_loop _ (K - (i + 1)) ⟨i + 1, rfl, by omega, hs, rfl⟩ (by omega) ⟨rfl, rfl, rfl, rfl, by simp [lookT], trivial⟩
    · refine wc_exit ?_; refine we_seq_exit ?_; refine we_loop_exit ?_; refine we_block_exit ?_; refine we_seq ?_; refine wc_sr ?_; refine wl_mv rfl rfl ?_
      obtain ⟨S2, hS2, _, hM, hH, hB⟩ := St.lend (H1 := [.ck (tblC t xs)]) (H2 := [_]) (hs.front 1 rfl)
      refine wl_call ok_mem_Table_Range (trange_any (key := []) (to := []) hS2 hx.ord rfl (fun w' hm => Rd.nil _ _) rfl (fun w' hm => Rd.nil _ _) (fun x h => by have := (hx.mem x h).1; omega) (fun x h => (hx.mem x h).2) (by omega)) ⟨rfl, rfl, rfl, trivial⟩ rfl ?_
      rintro _ w6 ⟨R, cr, rfl, hsx⟩
      replace hs := hB _ _ hsx
      clear hB hsx hS2 hM hH
      dsimp only [List.cons_append, List.nil_append] at hs
      rw [range_nil] at hs
      rw [range_nil]
      refine wl_mv rfl rfl ?_
      refine wl_call ok_caissonref07_SameList (sameListE_any (OwR.rd (hs.rsE 0 rfl)) (hs.old 2 rfl).rd rfl rfl (fun x h => by have := (hx.mem x h).1; simp only [maxLen]; omega) (by omega) (by omega)) ⟨rfl, rfl, trivial⟩ rfl ?_
      rintro _ w7 ⟨⟨q, rfl, hq⟩, hbx⟩
      obtain rfl := hq.2 rfl
      replace hs := hs.below hbx
      refine wl_as rfl rfl ?_; refine wl_ns ?_; refine wc_ret ?_
      exact we_ret1 rfl rfl ⟨_, rfl, rfl, hs.bel⟩
end Go.Proofs.YtpnckagibkdcpaaDoor


/-
  Blocks that hold a list's marks: append onto a slice at the head of a block that is known whole, and what a step may change of such blocks.
-/
namespace Go.Proofs.YtpnckagibkdcpaaDoor
open Go.RowKit

section
variable {P : Program} {N : Nat} {ops : Array Oper} {Q : Exit → Act → World → Prop} {rest : List Oper} {L : FL} {w : World} {t e : TypeId} {z : Value} {bytes : Nat}
theorem opv_app {s x : Operand} {ty : TypeId} {u v r : Value} {w' : World} (hs : look L s = some u) (hx : look L x = some v) (hrun : ∀ ty, (Builtin.append_ #[t, t] ty #[u, v]).run P w = .ok r w') :
    OpV P (.call { callee := .builtin .append, args := #[s, x], argTypes := #[t, t] }) ty L w r w' := fun ρ o hρ ho _ => by
  unfold execOp
  simp only [ho, resolve, invoke, builtin, Sem.run_bind, Sem.run_pure, Result.andThen_ok, List.map_toArray, List.map_cons, List.map_nil, hρ s _ hs, hρ x _ hx, hrun]
/-- append onto a slice at the head of a block that is known whole. -/
theorem wl_appA {d : Nat} {s x : Operand} {ty : TypeId} {pos : String} {aft : Array Edge} {g n c m c' : Nat} {cs ys : List Value} {B : Option Addr} (T : Row1 P t e z bytes)
    (hs : look L s = some (.slice (some ⟨g, 0, none⟩) n c)) (ha : Ar w g e cs) (hnc : n ≤ c) (hc : c ≤ cs.length) (hx : look L x = some (.slice B m c')) (hr : Rd w B m ys) (hm : 0 < m) (h1 : ∀ u ∈ ys, u.oneCell' = true)
    (hbytes : (n + m) * bytes ≤ 140737488355328) (hmax : n + m ≤ maxLen) (hd : Nat.blt d N = true)
    (hA : n + m ≤ c → ∀ w', Ar w' g e (cs.take n ++ (ys ++ cs.drop (n + m))) → Gr w w' (some ⟨g, 0, none⟩) → WL P N ops Q rest ((d, .slice (some ⟨g, 0, none⟩) (n + m) c) :: L) w')
    (hB : ∀ A' c2 w', Ow w' w.heap.size e A' (n + m) c2 (cs.take n ++ ys) → Below w.heap.size w w' → WL P N ops Q rest ((d, .slice A' (n + m) c2) :: L) w') :
    WL P N ops Q (⟨some d, .call { callee := .builtin .append, args := #[s, x], argTypes := #[t, t] }, ty, pos, aft, none⟩ :: rest) L w := by
  obtain ⟨i, hi, hz, hsz, hby⟩ := info_parts T.info
  have hzs : z.cells.size = 1 := by rw [cells_one T.one]; rfl
  have hl : ys.length = m := hr.1
  obtain ⟨b, o, rfl, _, hcell⟩ := hr.2 hm
  have hnews : ∀ j u, ys[j]? = some u → w.cell? ((⟨b, o, none⟩ : Addr).add j) = some u := fun j u hu => by rw [Addr.add_lit]; exact hcell j u hu
  by_cases hroom : n + m ≤ c
  · refine wl_val (opv_app hs hx fun ty => run_append_room (P := P) w t ty e i T.sl hi g n c cs.toArray ha ⟨b, o, none⟩ m c' ys (by rw [hsz]; omega) hnews h1 hroom (by simp [hsz]; omega)) hd ?_
    have e1 : (cs.toArray.toList.take (n * i.size) ++ ys ++ cs.toArray.toList.drop (n * i.size + ys.length)) = cs.take n ++ (ys ++ cs.drop (n + m)) := by
      rw [hsz, hl, Nat.mul_one, List.append_assoc]
    rw [e1]
    exact hA hroom _ ha.setRow ⟨rfl, rfl, rfl, by simp [World.setRow], fun k _ hk => by
      simp only [World.setRow, Array.getElem?_modify]
      rw [if_neg (by simp at hk; exact fun h => hk h.symm)]⟩
  · have hol : (cs.take n).length = n := by simp; omega
    have hsmall : n + m ≤ 9223372036854775807 := by simp only [maxLen] at hmax; omega
    have hge := grownCap_ge w (n + m) c e
    have hcm : grownCap w (n + m) c e ≤ maxLen := grownCap_le_maxLen w (n + m) c e hmax
    refine wl_val (opv_app hs hx fun ty => run_append_grow (P := P) w t ty e i z T.sl hi hz ⟨g, 0, none⟩ n c (cs.take n) (by rw [hsz]; omega) (fun j u hu => by
      rw [Addr.add_lit, Nat.zero_add, ha.cell]
      rw [List.getElem?_take] at hu
      split at hu
      · exact hu
      · cases hu) ⟨b, o, none⟩ m c' ys (by rw [hsz]; omega) hnews (by omega) (by omega) (growslice_fits (by omega) (by rw [hby]; exact hbytes))) hd ?_
    refine hB _ _ _ ⟨by simp; omega, .inr ⟨w.heap.size, _, _, rfl, Nat.le_refl _, heap_alloc_new w.drew _, hge, hcm, ?_, ?_⟩⟩ ⟨rfl, rfl, rfl, by simp, fun k hk => heap_alloc_old w.drew _ hk⟩
    · simp only [Array.size_append, List.size_toArray, size_zeroCells, hzs, hol, hl]; omega
    · simp only [Array.toList_append, List.append_assoc]
      rw [← List.append_assoc]
      refine List.take_left' ?_
      simp; omega
end

/-- The byte that stands for place j of list i. -/
def mkb (i j : Nat) : UInt8 := UInt8.ofNat (17 * i + 3 * j + 1)
def mk (i j : Nat) : Value := bv (mkb i j)
def mkl (i n : Nat) : List UInt8 := (List.range n).map (mkb i)
theorem mkl_length (i n : Nat) : (mkl i n).length = n := by simp [mkl]
theorem mkl_get {i n j : Nat} (h : j < n) : (mkl i n)[j]? = some (mkb i j) := by simp [mkl, h]
/-- Block b holds the marks of list i, at its first n places. -/
def MkB (w : World) (b i n : Nat) : Prop := ∃ cs, Ar w b 5 cs ∧ n ≤ cs.length ∧ ∀ j, j < n → cs[j]? = some (mk i j)
/-- A step that may write marks of list i into block X, and changes no other block of bytes. -/
def Sk (w w' : World) (X : Option Nat) (i : Nat) : Prop :=
  ∀ b cs, Ar w b 5 cs → ∃ cs', Ar w' b 5 cs' ∧ cs'.length = cs.length ∧ (cs' = cs ∨ (X = some b ∧ ∀ j u, cs'[j]? = some u → cs[j]? = some u ∨ u = mk i j))
/-- A slice at the head of a block of the call's own, or nil. -/
def Hd (w : World) (base : Nat) (A : Option Addr) (n c : Nat) : Prop :=
  (A = none ∧ n = 0 ∧ c = 0) ∨ ∃ g cs, A = some ⟨g, 0, none⟩ ∧ base ≤ g ∧ Ar w g 5 cs ∧ n ≤ c ∧ c ≤ cs.length
section
variable {w w' w1 : World} {X : Option Nat} {A : Option Addr} {b i k n c base : Nat}
theorem MkB.rd (h : MkB w b i n) : RdB w (some ⟨b, 0, none⟩) (mkl i n) := by
  obtain ⟨cs, ha, hl, hm⟩ := h
  refine ⟨bvs_length _, fun _ => ⟨b, 0, rfl, ha.lt, fun j u hu => ?_⟩⟩
  rw [ha.cell, Nat.zero_add]
  have hj : j < n := by have := (List.getElem?_eq_some_iff.1 hu).1; rwa [bvs_length, mkl_length] at this
  rw [bvs, List.getElem?_map, mkl_get hj] at hu
  rw [hm j hj]; exact hu
theorem Sk.refl (w : World) (X : Option Nat) (i : Nat) : Sk w w X i := fun _ cs h => ⟨cs, h, rfl, .inl rfl⟩
theorem Sk.trans (h : Sk w w1 X i) (h2 : Sk w1 w' X i) : Sk w w' X i := fun b cs ha => by
  obtain ⟨c1, a1, l1, r1⟩ := h b cs ha
  obtain ⟨c2, a2, l2, r2⟩ := h2 b c1 a1
  refine ⟨c2, a2, l2.trans l1, ?_⟩
  rcases r2 with rfl | ⟨hX, r2⟩
  · exact r1
  · refine .inr ⟨hX, fun j u hu => ?_⟩
    rcases r2 j u hu with h | h
    · rcases r1 with rfl | ⟨_, r1⟩
      · exact .inl h
      · exact r1 j u h
    · exact .inr h
theorem Sk.bel (h : Below w.heap.size w w') : Sk w w' X i := fun _ cs ha => ⟨cs, ha.bel h, rfl, .inl rfl⟩
/-- A step that changes one block of another type alone. -/
theorem Sk.other {g : Nat} {t : TypeId} {cs : List Value} (h : Gr w w' A) (hA : ∀ a, A = some a → a.block = g) (ht : A = none ∨ Ar w g t cs) (hne : t ≠ 5) : Sk w w' X i := fun b ds hb => by
  refine ⟨ds, ?_, rfl, .inl rfl⟩
  unfold Ar
  rw [h.block b hb.lt fun hk => ?_]
  · exact hb
  · cases A with
    | none => simp at hk
    | some a =>
      simp only [Option.map_some, Option.some.injEq] at hk
      rcases ht with ht | ht
      · cases ht
      · rw [← hA a rfl, ← hk] at ht
        unfold Ar at ht hb
        rw [ht] at hb
        simp only [Option.some.injEq, Obj.cells.injEq] at hb
        exact hne hb.2.1
/-- A step that writes marks into block g. -/
theorem Sk.at {g : Nat} {cs cs' : List Value} (h : Gr w w' (some ⟨g, 0, none⟩)) (ha : Ar w g 5 cs) (ha' : Ar w' g 5 cs') (hl : cs'.length = cs.length) (hm : ∀ j u, cs'[j]? = some u → cs[j]? = some u ∨ u = mk i j) : Sk w w' (some g) i := fun b ds hb => by
  by_cases hbg : b = g
  · subst hbg
    have e : ds = cs := by
      unfold Ar at ha hb
      rw [ha] at hb
      simp only [Option.some.injEq, Obj.cells.injEq] at hb
      have := congrArg Array.toList hb.1
      simpa using this.symm
    subst e
    exact ⟨cs', ha', hl, .inr ⟨rfl, hm⟩⟩
  · refine ⟨ds, ?_, rfl, .inl rfl⟩
    unfold Ar
    rw [h.block b hb.lt (by simp; exact fun h => hbg h)]
    exact hb
theorem MkB.st (h : MkB w b i n) (s : Sk w w' X k) (hX : X = some b → k = i) : MkB w' b i n := by
  obtain ⟨cs, ha, hl, hm⟩ := h
  obtain ⟨cs', ha', hl', r⟩ := s b cs ha
  refine ⟨cs', ha', by omega, fun j hj => ?_⟩
  rcases r with rfl | ⟨hXb, r⟩
  · exact hm j hj
  · have hk := hX hXb
    subst hk
    rw [List.getElem?_eq_getElem (by omega)]
    rcases r j _ (List.getElem?_eq_getElem (by omega)) with h | h
    · rw [← h]; exact hm j hj
    · rw [h]
theorem Hd.st (h : Hd w base A n c) (s : Sk w w' X k) : Hd w' base A n c := by
  rcases h with h | ⟨g, cs, hA, hb, ha, h1, h2⟩
  · exact .inl h
  · obtain ⟨cs', ha', hl', _⟩ := s g cs ha
    exact .inr ⟨g, cs', hA, hb, ha', h1, by omega⟩
theorem NwB.hd {xs : List UInt8} (h : NwB w base A c xs) : Hd w base A xs.length c := by
  rcases h with ⟨hA, hc, rfl⟩ | ⟨g, cs, hA, hb, ha, h1, h2, _⟩
  · exact .inl ⟨hA, rfl, hc⟩
  · exact .inr ⟨g, cs, hA, hb, ha, h1, h2⟩
end

/-- All slices of a list lie at the heads of blocks of the call's own, each in another one. -/
def Own1 (w : World) (base : Nat) (vs : List Value) : Prop :=
  (∀ v ∈ vs, ∃ (A : Option Addr) (n c : Nat), v = .slice A n c ∧ Hd w base A n c ∧ n ≤ 1099511627776) ∧ vs.Pairwise fun v v' => ∀ g, v.ownBlock = some g → v'.ownBlock ≠ some g
section
variable {w w' w0 : World} {X : Option Nat} {vs : List Value} {base k : Nat}
theorem Own1.at (h : Own1 w base vs) {i : Nat} {v : Value} (hi : vs[i]? = some v) : ∃ (A : Option Addr) (n c : Nat), v = .slice A n c ∧ Hd w base A n c ∧ n ≤ 1099511627776 := h.1 v (List.mem_of_getElem? hi)
theorem Own1.inj (h : Own1 w base vs) {i j g : Nat} {v v' : Value} (hi : vs[i]? = some v) (hj : vs[j]? = some v') (hg : v.ownBlock = some g) (hg' : v'.ownBlock = some g) : i = j := by
  have hp := List.pairwise_iff_getElem.1 h.2
  obtain ⟨h1, e1⟩ := List.getElem?_eq_some_iff.1 hi
  obtain ⟨h2, e2⟩ := List.getElem?_eq_some_iff.1 hj
  rcases Nat.lt_trichotomy i j with hlt | heq | hgt
  · exact absurd (e2 ▸ hg') (hp i j h1 h2 hlt g (e1 ▸ hg))
  · exact heq
  · exact absurd (e1 ▸ hg) (hp j i h2 h1 hgt g (e2 ▸ hg'))
theorem Own1.st (h : Own1 w base vs) (s : Sk w w' X k) : Own1 w' base vs := ⟨fun v hv => by
  obtain ⟨A, n, c, e, hd, hn⟩ := h.1 v hv
  exact ⟨A, n, c, e, hd.st s, hn⟩, h.2⟩
/-- The marks of the first m lists stand. -/
def Mx (w : World) (vs : List Value) (m : Nat) : Prop := ∀ (k : Nat) (A : Addr) (n c : Nat), k < m → vs[k]? = some (.slice (some A) n c) → MkB w A.block k n
theorem Mx.st {i m : Nat} {A : Option Addr} {n c : Nat} (h : Mx w vs m) (ho : Own1 w base vs) (hi : vs[i]? = some (.slice A n c)) (s : Sk w w' (A.map (·.block)) i) : Mx w' vs m := fun k A' n' c' hk hv =>
  (h k A' n' c' hk hv).st s fun hX => ho.inj hi hv (by rw [ownBlock_slice]; exact hX) (by rw [ownBlock_slice]; rfl)
theorem Mx.bel {m : Nat} (h : Mx w vs m) (hb : Below w.heap.size w w') : Mx w' vs m := fun k A n c hk hv => (h k A n c hk hv).st (X := none) (k := 0) (Sk.bel hb) (by simp)
/-- A grown slice: marks of list i, in list i's own block or in another one. -/
def Gd (w : World) (vs : List Value) (i : Nat) (v : Value) : Prop := ∃ b n c, v = .slice (some ⟨b, 0, none⟩) n c ∧ n ≤ c ∧ n ≤ 2199023255552 ∧ MkB w b i n ∧ ∀ (k : Nat) (u : Value), vs[k]? = some u → u.ownBlock = some b → k = i
theorem Gd.st {i m : Nat} {A : Option Addr} {n c : Nat} {v : Value} (h : Gd w vs m v) (hi : vs[i]? = some (.slice A n c)) (s : Sk w w' (A.map (·.block)) i) : Gd w' vs m v := by
  obtain ⟨b, n', c', e, h1, h2, hm, ht⟩ := h
  exact ⟨b, n', c', e, h1, h2, hm.st s fun hX => ht i _ hi (by rw [ownBlock_slice]; exact hX), ht⟩
/-- Nothing below base changes, and of what stood at the start the lists' blocks alone. -/
def Kp (w0 w : World) (vs : List Value) : Prop := w.os = w0.os ∧ w.tape = w0.tape ∧ w.output = w0.output ∧ w0.heap.size ≤ w.heap.size ∧ ∀ k, k < w0.heap.size → (∀ v ∈ vs, v.ownBlock ≠ some k) → w.heap[k]? = w0.heap[k]?
theorem Kp.refl (w : World) (vs : List Value) : Kp w w vs := ⟨rfl, rfl, rfl, Nat.le_refl _, fun _ _ _ => rfl⟩
theorem Kp.gr {A : Option Addr} (h : Kp w0 w vs) (g : Gr w w' A) (hA : ∀ a, A = some a → a.block < w0.heap.size → ∃ v ∈ vs, v.ownBlock = some a.block) : Kp w0 w' vs := by
  obtain ⟨h1, h2, h3, h4, h5⟩ := h
  refine ⟨g.os.trans h1, g.tape.trans h2, g.output.trans h3, Nat.le_trans h4 g.size, fun k hk hv => ?_⟩
  rw [← h5 k hk hv]
  refine g.block k (by omega) fun hk' => ?_
  cases A with
  | none => simp at hk'
  | some a =>
    simp only [Option.map_some, Option.some.injEq] at hk'
    obtain ⟨v, hm, hv'⟩ := hA a rfl (by rw [← hk']; exact hk)
    exact hv v hm (by rw [hv', ← hk'])
theorem Kp.bel (h : Kp w0 w vs) (hb : Below w.heap.size w w') : Kp w0 w' vs := h.gr (Gr.of_below none hb (Nat.le_refl _)) (by simp)
theorem Kp.below (h : Kp w0 w vs) (ho : ∀ v ∈ vs, ∀ g, v.ownBlock = some g → base ≤ g) (hb : base ≤ w0.heap.size) : Below base w0 w :=
  ⟨h.1, h.2.1, h.2.2.1, h.2.2.2.1, fun j hj => h.2.2.2.2 j (by omega) fun v hv hc => by have := ho v hv j hc; omega⟩
theorem Kp.rd {A : Option Addr} {n : Nat} {xs : List Value} (h : Kp w0 w vs) (hr : Rd w0 A n xs) (hA : ∀ a, A = some a → ∀ v ∈ vs, v.ownBlock ≠ some a.block) : Rd w A n xs := ⟨hr.1, fun hn => by
  obtain ⟨b, o, rfl, hb, hc⟩ := hr.2 hn
  exact ⟨b, o, rfl, Nat.lt_of_lt_of_le hb h.2.2.2.1, fun j u hu => by
    rw [World.cell?_of_block (a := ⟨b, o + j, none⟩) (h.2.2.2.2 b hb (hA _ rfl))]; exact hc j u hu⟩⟩
end
end Go.Proofs.YtpnckagibkdcpaaDoor


/-
  Walks over the reference's mark, Spare, Kept and Over.
-/
namespace Go.Proofs.YtpnckagibkdcpaaDoor
open Go.RowKit

section
variable {P : Program} {N : Nat} {ops : Array Oper} {Q : Exit → Act → World → Prop} {rest : List Oper} {L : FL} {w : World} {t e : TypeId} {z : Value} {bytes : Nat}
/-- A row of the call's own as a block that is known whole. -/
theorem Ow.ar {base n : Nat} {A : Option Addr} {xs : List Value} (h : Ow w base e A n n xs) (hn : 0 < n) : ∃ g, A = some ⟨g, 0, none⟩ ∧ base ≤ g ∧ Ar w g e xs := by
  rcases h.2 with ⟨_, h0⟩ | ⟨g, cap, cur, hv, hb, hg, hnc, _, hs, ht⟩
  · omega
  · injection hv with hA hn' hc
    subst hc
    refine ⟨g, hA, hb, ?_⟩
    rw [List.take_of_length_le (by simp; omega)] at ht
    subst ht
    simpa [Ar] using hg
theorem Ar.rd {g n : Nat} {cs : List Value} (h : Ar w g e cs) (hn : n ≤ cs.length) : Rd w (some ⟨g, 0, none⟩) n (cs.take n) := ⟨by simp; omega, fun _ => ⟨g, 0, rfl, h.lt, fun j u hu => by
  rw [h.cell, Nat.zero_add]
  rw [List.getElem?_take] at hu
  split at hu
  · exact hu
  · cases hu⟩⟩
theorem gr_setCell {g k : Nat} {u : Value} : Gr w (w.setCell ⟨g, k, none⟩ u) (some ⟨g, 0, none⟩) := ⟨rfl, rfl, rfl, by simp [World.setCell], fun j _ hj => by
  simp only [World.setCell, Array.getElem?_modify]
  rw [if_neg (by simp at hj; exact fun h => hj h.symm)]⟩
/-- A store into a block that is known whole. -/
theorem wl_storeA {x y : Operand} {ty : TypeId} {pos : String} {aft : Array Edge} {g kk : Nat} {u : Value} {cs : List Value} (T : Row1 P t e z bytes) (ha : Ar w g e cs) (hk : kk < cs.length)
    (hx : look L x = some (.pointer (some ⟨g, 0 + kk, none⟩))) (hy : look L y = some u) (h1 : u.oneCell' = true)
    (h : ∀ w', Ar w' g e (cs.set kk u) → Gr w w' (some ⟨g, 0, none⟩) → w'.heap.size = w.heap.size → WL P N ops Q rest L w') :
    WL P N ops Q (⟨none, .store e x y, ty, pos, aft, none⟩ :: rest) L w := by
  rw [Nat.zero_add] at hx
  refine wl_unitN (opu_store T hx hy h1 (v := cs[kk]) (by rw [ha.cell]; exact List.getElem?_eq_getElem hk) (ha.frozen kk)) ?_
  exact h _ (ha.setCell kk u) gr_setCell (by simp [World.setCell])
theorem wl_setH {d1 : Nat} {x i y : Operand} {ty1 ty2 : TypeId} {p1 p2 : String} {f1 f2 : Array Edge} {g n c kk : Nat} {ik : IntKind} {q : Int} {u : Value} {cs : List Value} (T : Row1 P t e z bytes)
    (hx : look L x = some (.slice (some ⟨g, 0, none⟩) n c)) (hi : look L i = some (.int ik q)) (ha : Ar w g e cs) (hq : q = (kk : Int)) (hk : kk < n) (hc : n ≤ cs.length)
    (hy : ∀ p, look ((d1, p) :: L) y = some u) (h1 : u.oneCell' = true) (hd1 : Nat.blt d1 N = true)
    (h : ∀ p w', Ar w' g e (cs.set kk u) → Gr w w' (some ⟨g, 0, none⟩) → w'.heap.size = w.heap.size → WL P N ops Q rest ((d1, p) :: L) w') :
    WL P N ops Q (⟨some d1, .indexAddr t x i, ty1, p1, f1, none⟩ :: ⟨none, .store e (.tmp d1) y, ty2, p2, f2, none⟩ :: rest) L w :=
  wl_val (opv_idx T hx hi hq hk) hd1 (wl_storeA T ha (by omega) (by simp [look, lookT]) (hy _) h1 (h _))
theorem Gr.belowA {w0 w w' : World} {B g : Nat} (h : Gr w w' (some ⟨g, 0, none⟩)) (h0 : Below B w0 w) (hg : B ≤ g) (hB : B ≤ w.heap.size) : Below B w0 w' :=
  h0.grown h hB fun k hk => by simp at hk; omega
end

theorem mark_any (i j : Nat) (hi : i ≤ 1099511627776) (hj : j ≤ 4398046511104) (w : World) : CallsV Tryd.prog 58 #[.int .i64 i, .int .i64 j] w fun v w' => v = mk i j ∧ w = w' := by
  refine calls_in (N := _) Tryd.func58 rfl Tryd.ntmps58 rfl ?_; show WC _ _ _ _ _ _
  refine wc_sr ?_; refine wl_as rfl rfl ?_; refine wl_ns ?_; refine wc_sr ?_; refine wl_mv rfl rfl ?_; apply wl_val; apply opv_bin; exact rfl; exact rfl; exact bin_mul64 (by omega); exact rfl; refine wl_mv rfl rfl ?_; apply wl_val; apply opv_bin; exact rfl; exact rfl; exact bin_mul64 (by omega); exact rfl; apply wl_val; apply opv_bin; exact rfl; exact rfl; exact bin_add64 (by omega); exact rfl; apply wl_val; apply opv_bin; exact rfl; exact rfl; exact bin_add64 (by omega); exact rfl; apply wl_val; apply opv_convR; exact rfl; exact Tryd.underlying3; exact Tryd.underlying5; exact wrap_nat rfl _; exact rfl; refine wl_as rfl rfl ?_; refine wl_ns ?_; refine wc_ret ?_
  exact we_ret1 rfl rfl ⟨_, rfl, by rw [mk, mkb, ← byte_of], rfl⟩

/-- Bytes with forty marked ones behind them. -/
def spareL (b : List UInt8) : List UInt8 := b ++ (List.range 40).map fun k => UInt8.ofNat (160 + (b.length + k) % 31)
theorem spareL_length (b : List UInt8) : (spareL b).length = b.length + 40 := by simp [spareL]
theorem spareL_take (b : List UInt8) : (spareL b).take b.length = b := by simp [spareL]
theorem spareL_low {b : List UInt8} {i : Nat} (h : i < b.length) : (spareL b)[i]? = b[i]? := by rw [spareL, List.getElem?_append_left h]
theorem spareL_high {b : List UInt8} {i : Nat} (h : ¬ i < b.length) (h2 : i < b.length + 40) : (spareL b)[i]? = some (UInt8.ofNat (160 + i % 31)) := by
  rw [spareL, List.getElem?_append_right (by omega)]
  simp [show i - b.length < 40 by omega, show b.length + (i - b.length) = i by omega]
theorem take_set_next {α : Type} {l m : List α} {i : Nat} {x : α} (hl : i < l.length) (h : l.take i = m.take i) (hx : m[i]? = some x) : (l.set i x).take (i + 1) = m.take (i + 1) := by
  rw [List.take_add_one, List.take_add_one, List.take_set_of_le (by omega), h, hx]
  simp [hl]
/-- A copy with spare room, and the whole of it. -/
def RetSp (w : World) (xs : List UInt8) (v : Value) (w' : World) : Prop :=
  ∃ g, v = .tuple #[.slice (some ⟨g, 0, none⟩) xs.length (xs.length + 40), .slice (some ⟨g, 0, none⟩) (xs.length + 40) (xs.length + 40)] ∧ w.heap.size ≤ g ∧ Ar w' g 5 (bvs (spareL xs)) ∧ Below w.heap.size w w'
theorem spare_any {A : Option Addr} {n c : Nat} {xs : List UInt8} {w : World} (hr : RdB w A xs) (hn : xs.length = n) (hl : xs.length ≤ 1099511627776) :
    CallsV Tryd.prog 36 #[.slice A n c] w (RetSp w xs) := by
  subst hn
  refine calls_in (N := _) Tryd.func36 rfl Tryd.ntmps36 rfl ?_; show WC _ _ _ _ _ _
  refine wc_sr ?_; refine wl_as rfl rfl ?_; refine wl_as rfl rfl ?_; refine wl_ns ?_; refine wc_sr ?_; refine wl_mv rfl rfl ?_; apply wl_val; apply opv_len; exact rfl; exact tyB.sl; exact rfl; apply wl_val; apply opv_bin; exact rfl; exact rfl; exact bin_add64 (by omega); exact rfl
  refine wl_mk (n := xs.length + 40) (c := xs.length + 40) tyB rfl rfl rfl rfl (by omega) (by omega) (by simp only [maxLen]; omega) rfl fun A1 w1 o1 hb1 _ => ?_
  obtain ⟨g, rfl, hg, a1⟩ := o1.ar (by omega)
  refine wl_as rfl rfl ?_; refine wl_ns ?_; refine wc_sr ?_; refine wl_mv rfl rfl ?_; refine wl_mv rfl rfl ?_
  refine wl_copy (g := g) (off := 0) tyB rfl rfl a1 (RdB.below hr hb1) (bvs_one _) (fun _ => rfl) (by omega) (by simp) rfl fun w2 a2 hb2 => ?_
  have hb := hb1.trans (hb2.mono hg)
  rw [List.take_zero, List.nil_append, Nat.zero_add] at a2
  refine wl_ns ?_; refine wc_seq ?_; refine wc_sr ?_; refine wl_mv rfl rfl ?_; apply wl_val; apply opv_len; exact rfl; exact tyB.sl; exact rfl; refine wl_as rfl rfl ?_; refine wl_ns ?_; refine wc_block ?_
  refine wc_loop (fun L wr m => ∃ (i : Nat) (cs : List Value), L = [(0, .slice A xs.length c), (4, .slice (some ⟨g, 0, none⟩) (xs.length + 40) (xs.length + 40)), (5, .int .i64 (i : Int))] ∧ xs.length ≤ i ∧ i ≤ xs.length + 40 ∧ cs.length = xs.length + 40 ∧ cs.take i = (bvs (spareL xs)).take i ∧ Ar wr g 5 cs ∧ Below w.heap.size w wr ∧ m = xs.length + 40 - i)
    [(0, .slice A xs.length c), (4, .slice (some ⟨g, 0, none⟩) (xs.length + 40) (xs.length + 40)), (5, .int .i64 (xs.length : Int))] 40 ⟨xs.length, _, rfl, by omega, by omega, by simp [bvs_length], ?_, a2, hb, by omega⟩ ⟨rfl, rfl, rfl, trivial⟩ ?_
  · rw [spareL, bvs_append, List.take_append_of_le_length (by rw [bvs_length]; omega), List.take_append_of_le_length (by rw [bvs_length]; omega)]
  rintro _ w3 m ⟨i, cs, rfl, hi, hi2, hcl, hct, a3, hb3, rfl⟩
  refine wc_seq ?_; refine wc_sr ?_; refine wl_mv rfl rfl ?_; refine wl_mv rfl rfl ?_; apply wl_val; apply opv_len; exact rfl; exact tyB.sl; exact rfl; refine wl_bin rfl rfl bin_lss rfl ?_; refine wl_ns ?_
  refine wc_cond rfl (fun h1 => ?_) (fun h1 => ?_)
  · have hx := spareL_high (b := xs) (i := i) (by omega) (by omega)
    have eu : Value.int .u8 (160 + ((i % 31 : Nat) : Int)) = bv (UInt8.ofNat (160 + i % 31)) := by
      unfold bv; rw [UInt8.toNat_ofNat', Nat.mod_eq_of_lt (show 160 + i % 31 < 2 ^ 8 by omega)]; rfl
    refine wc_skip ?_; refine we_seq ?_; refine wc_seq ?_; refine wc_block ?_; refine wc_region ?_; refine wl_mv rfl rfl ?_; refine wl_mv rfl rfl ?_; refine wl_mv rfl rfl ?_; apply wl_val; apply opv_bin; exact rfl; exact rfl; exact bin_rem (b := 31) (by decide); exact rfl; apply wl_val; apply opv_bin; exact rfl; exact rfl; exact bin_add64 (by omega); exact rfl; apply wl_val; apply opv_convR; exact rfl; exact Tryd.underlying3; exact Tryd.underlying5; exact IntWalk.u8_in _ (by omega); exact rfl
    refine wl_setH (n := xs.length + 40) (kk := i) tyB rfl rfl a3 rfl (by omega) (by omega) (fun _ => rfl) rfl rfl fun p w4 a4 g4 _ => ?_
    rw [eu] at a4
    have hb4 := g4.belowA hb3 hg hb3.size
    refine wl_nil ?_; refine we_block_norm ?_; refine we_seq ?_; refine wc_region ?_; refine wl_mv rfl rfl ?_; apply wl_val; apply opv_bin; exact rfl; exact rfl; exact bin_add64 (by omega); exact rfl; refine wl_as rfl rfl ?_; refine wl_nil ?_
    refine we_loop [(0, .slice A xs.length c), (4, .slice (some ⟨g, 0, none⟩) (xs.length + 40) (xs.length + 40)), (5, .int .i64 ((i + 1 : Nat) : Int))] (xs.length + 40 - (i + 1)) ⟨i + 1, _, rfl, by omega, by omega, by simpa using hcl, take_set_next (by omega) hct (by rw [bvs, List.getElem?_map, hx]; rfl), a4, hb4, rfl⟩ (by omega) ⟨rfl, rfl, by simp [lookT], trivial⟩
  · obtain rfl : i = xs.length + 40 := by omega
    rw [List.take_of_length_le (by omega), List.take_of_length_le (by rw [bvs_length, spareL_length]; omega)] at hct
    subst hct
    refine wc_exit ?_; refine we_seq_exit ?_; refine we_loop_exit ?_; refine we_block_exit ?_; refine we_seq ?_; refine wc_sr ?_; refine wl_mv rfl rfl ?_; refine wl_mv rfl rfl ?_; apply wl_val; apply opv_len; exact rfl; exact tyB.sl; exact rfl
    refine wl_sl (l := 0) (h := xs.length) tyB rfl rfl ⟨_, rfl⟩ (by omega) (by omega) rfl ?_
    refine wl_mv rfl rfl ?_; refine wl_as rfl rfl ?_; refine wl_as rfl rfl ?_; refine wl_ns ?_; refine wc_ret ?_
    refine we_ret2 rfl rfl rfl ⟨_, rfl, g, ?_, hg, a3, hb3⟩
    rw [cutA_zero]; rfl

theorem kept_yes {A B : Option Addr} {n m c d : Nat} {xs : List UInt8} {w : World} (hx : RdB w A (spareL xs)) (hy : RdB w B xs) (hn : xs.length + 40 = n) (hm : xs.length = m) (hl : xs.length ≤ 1099511627776) :
    CallsV Tryd.prog 37 #[.slice A n c, .slice B m d] w fun v w' => v = .bool true ∧ Below w.heap.size w w' := by
  subst hn hm
  have hsl := spareL_length xs
  refine calls_in (N := _) Tryd.func37 rfl Tryd.ntmps37 rfl ?_; show WC _ _ _ _ _ _
  refine wc_sr ?_; refine wl_as rfl rfl ?_; refine wl_ns ?_; refine wc_seq ?_; refine wc_sr ?_; refine wl_mv rfl rfl ?_; apply wl_val; apply opv_len; exact rfl; exact tyB.sl; exact rfl; refine wl_mv rfl rfl ?_; apply wl_val; apply opv_len; exact rfl; exact tyB.sl; exact rfl; apply wl_val; apply opv_bin; exact rfl; exact rfl; exact bin_add64 (by omega); exact rfl; refine wl_bin rfl rfl bin_neq rfl ?_; refine wl_ns ?_
  refine wc_cond rfl (fun h => absurd h (by omega)) (fun _ => ?_)
  refine wc_skip ?_; refine we_seq ?_; refine wc_seq ?_; refine wc_sr ?_; refine wl_as rfl rfl ?_; refine wl_ns ?_; refine wc_block ?_
  refine wc_loop (fun L wr m => ∃ i : Nat, L = [(0, .slice A (xs.length + 40) c), (1, .slice B xs.length d), (5, .int .i64 (i : Int))] ∧ i ≤ xs.length + 40 ∧ Below w.heap.size w wr ∧ m = xs.length + 40 - i)
    [(0, .slice A (xs.length + 40) c), (1, .slice B xs.length d), (5, .int .i64 (0 : Nat))] (xs.length + 40) ⟨0, rfl, by omega, Below.refl _ _, by omega⟩ ⟨rfl, rfl, rfl, trivial⟩ ?_
  rintro _ w1 m ⟨i, rfl, hi, hb1, rfl⟩
  have rx : Rd w1 A (xs.length + 40) (bvs (spareL xs)) := by have := RdB.below hx hb1; unfold RdB at this; rw [hsl] at this; exact this
  have ry := RdB.below hy hb1
  refine wc_seq ?_; refine wc_sr ?_; refine wl_mv rfl rfl ?_; refine wl_mv rfl rfl ?_; apply wl_val; apply opv_len; exact rfl; exact tyB.sl; exact rfl; refine wl_bin rfl rfl bin_lss rfl ?_; refine wl_ns ?_
  refine wc_cond rfl (fun h1 => ?_) (fun h1 => ?_)
  · by_cases hlow : i < xs.length
    · obtain ⟨x, hxi⟩ : ∃ x, xs[i]? = some x := ⟨_, List.getElem?_eq_getElem hlow⟩
      have hsi := (spareL_low hlow).trans hxi
      refine wc_skip ?_; refine we_seq ?_; refine wc_seq ?_; refine wc_block ?_; refine wc_seq ?_
      refine wc_drawB mixed (by kernel_rfl) ?_
      apply wq_val; intro _ hw_; apply opv_move; exact rfl; exact rfl; apply wq_val; intro _ hw_; apply opv_move; exact rfl; exact rfl; apply wq_val; intro _ hw_; apply opv_len; exact rfl; exact tyB.sl; exact rfl; apply wq_val; intro _ hw_; apply opv_bin; exact rfl; exact rfl; exact bin_lss; exact rfl; apply wq_val; intro _ hw_; apply opv_move; exact rfl; exact rfl; apply wq_take; exact rfl; exact rfl; exact rfl; refine bT ?_; omega; apply wq_val; intro _ hw_; apply opv_move; exact rfl; exact rfl; apply wq_take; exact rfl; exact rfl; exact rfl; refine bT ?_; omega; apply wq_val; intro _ hw_; apply opv_move; exact rfl; exact rfl; apply wq_byTK (T := tyB) (hr := rx) (hb := hsi); exact rfl; exact rfl; exact rfl; refine bT ?_; omega; exact rfl; exact rfl; exact rfl; exact rfl; refine bT ?_; omega; exact rfl; exact rfl; exact rfl; exact rfl; exact rfl; intro _; apply wq_take; exact rfl; exact rfl; exact rfl; refine bT ?_; omega; apply wq_val; intro _ hw_; apply opv_move; exact rfl; exact rfl; apply wq_take; exact rfl; exact rfl; exact rfl; refine bT ?_; omega; apply wq_val; intro _ hw_; apply opv_move; exact rfl; exact rfl; apply wq_byTK (T := tyB) (hr := ry) (hb := hxi); exact rfl; exact rfl; exact rfl; refine bT ?_; omega; exact rfl; exact rfl; exact rfl; exact rfl; refine bT ?_; omega; exact rfl; exact rfl; exact rfl; exact rfl; exact rfl; intro _; apply wq_take; exact rfl; exact rfl; exact rfl; refine bT ?_; omega; apply wq_val; intro _ hw_; apply opv_bin; exact rfl; exact rfl; exact bin_neq; exact rfl; apply wq_val; intro _ hw_; apply opv_pickT; exact rfl; refine bT ?_; omega; exact rfl; exact rfl; apply wq_val; intro _ hw_; apply opv_move; exact rfl; exact rfl; apply wq_take; exact rfl; exact rfl; exact rfl; refine bF ?_; (with_reducible exact nne); apply wq_val; intro _ hw_; apply opv_move; exact rfl; exact rfl; apply wq_take; exact rfl; exact rfl; exact rfl; refine bF ?_; (with_reducible exact nne); apply wq_val; intro _ hw_; apply opv_move; exact rfl; exact rfl; apply wq_take; exact rfl; exact rfl; exact rfl; refine bF ?_; (with_reducible exact nne); apply wq_val; intro _ hw_; apply opv_len; exact rfl; exact tyB.sl; exact rfl; apply wq_take; exact rfl; exact rfl; exact rfl; refine bF ?_; (with_reducible exact nne); apply wq_val; intro _ hw_; apply opv_bin; exact rfl; exact rfl; exact bin_geq; exact rfl; apply wq_take; exact rfl; exact rfl; exact rfl; refine bF ?_; (with_reducible exact nne); apply wq_val; intro _ hw_; apply opv_move; exact rfl; exact rfl; apply wq_skip; exact rfl; exact rfl; exact rfl; refine bFn ?_; omega; exact rfl; apply wq_skip; exact rfl; exact rfl; exact rfl; refine bFn ?_; omega; exact rfl; apply wq_skip; exact rfl; exact rfl; exact rfl; refine bFn ?_; omega; exact rfl; apply wq_skip; exact rfl; exact rfl; exact rfl; refine bFn ?_; omega; exact rfl; apply wq_skip; exact rfl; exact rfl; exact rfl; refine bFn ?_; omega; exact rfl; apply wq_skip; exact rfl; exact rfl; exact rfl; refine bFn ?_; omega; exact rfl; apply wq_skip; exact rfl; exact rfl; exact rfl; refine bFn ?_; omega; exact rfl; apply wq_skip; exact rfl; exact rfl; exact rfl; refine bFn ?_; omega; exact rfl; apply wq_skip; exact rfl; exact rfl; exact rfl; refine bFn ?_; omega; exact rfl; apply wq_take; exact rfl; exact rfl; exact rfl; refine bF ?_; (with_reducible exact nne); apply wq_val; intro _ hw_; apply opv_pickF; exact rfl; refine bF ?_; omega; exact rfl; exact rfl; apply wq_val; intro _ hw_; apply opv_pickF; exact rfl; refine bF ?_; (with_reducible exact nne); exact rfl; exact rfl; refine wq_nil fun w1 hw1 => ?_
      refine we_seq ?_
      refine wc_condF rfl ?_
      refine wc_skip ?_; refine we_block_norm ?_; refine we_seq ?_; refine wc_region ?_; refine wl_mv rfl rfl ?_; apply wl_val; apply opv_bin; exact rfl; exact rfl; exact bin_add64 (by omega); exact rfl; refine wl_as rfl rfl ?_; refine wl_nil ?_
      refine we_loop [(0, .slice A (xs.length + 40) c), (1, .slice B xs.length d), (5, .int .i64 ((i + 1 : Nat) : Int))] (xs.length + 40 - (i + 1)) ⟨i + 1, rfl, by omega, hb1.trans (hw1.mono hb1.size), rfl⟩ (by omega) ⟨rfl, rfl, by simp [lookT], trivial⟩
    · have hsi := spareL_high (b := xs) (i := i) hlow (by omega)
      obtain ⟨y, hy0⟩ : ∃ y, UInt8.ofNat (160 + i % 31) = y := ⟨_, rfl⟩
      have hyn : y.toNat = 160 + i % 31 := by rw [← hy0, UInt8.toNat_ofNat', Nat.mod_eq_of_lt (show 160 + i % 31 < 2 ^ 8 by omega)]
      rw [hy0] at hsi
      refine wc_skip ?_; refine we_seq ?_; refine wc_seq ?_; refine wc_block ?_; refine wc_seq ?_
      refine wc_drawB mixed (by kernel_rfl) ?_
      apply wq_val; intro _ hw_; apply opv_move; exact rfl; exact rfl; apply wq_val; intro _ hw_; apply opv_move; exact rfl; exact rfl; apply wq_val; intro _ hw_; apply opv_len; exact rfl; exact tyB.sl; exact rfl; apply wq_val; intro _ hw_; apply opv_bin; exact rfl; exact rfl; exact bin_lss; exact rfl; apply wq_val; intro _ hw_; apply opv_move; exact rfl; exact rfl; apply wq_skip; exact rfl; exact rfl; exact rfl; refine bFn ?_; omega; exact rfl; apply wq_skip; exact rfl; exact rfl; exact rfl; refine bFn ?_; omega; exact rfl; apply wq_skip; exact rfl; exact rfl; exact rfl; refine bFn ?_; omega; exact rfl; apply wq_skip; exact rfl; exact rfl; exact rfl; refine bFn ?_; omega; exact rfl; apply wq_skip; exact rfl; exact rfl; exact rfl; refine bFn ?_; omega; exact rfl; apply wq_skip; exact rfl; exact rfl; exact rfl; refine bFn ?_; omega; exact rfl; apply wq_skip; exact rfl; exact rfl; exact rfl; refine bFn ?_; omega; exact rfl; apply wq_skip; exact rfl; exact rfl; exact rfl; refine bFn ?_; omega; exact rfl; apply wq_skip; exact rfl; exact rfl; exact rfl; refine bFn ?_; omega; exact rfl; apply wq_val; intro _ hw_; apply opv_pickF; exact rfl; refine bF ?_; omega; exact rfl; exact rfl; apply wq_val; intro _ hw_; apply opv_move; exact rfl; exact rfl; apply wq_take; exact rfl; exact rfl; exact rfl; exact rfl; apply wq_val; intro _ hw_; apply opv_move; exact rfl; exact rfl; apply wq_take; exact rfl; exact rfl; exact rfl; exact rfl; apply wq_val; intro _ hw_; apply opv_move; exact rfl; exact rfl; apply wq_take; exact rfl; exact rfl; exact rfl; exact rfl; apply wq_val; intro _ hw_; apply opv_len; exact rfl; exact tyB.sl; exact rfl; apply wq_take; exact rfl; exact rfl; exact rfl; exact rfl; apply wq_val; intro _ hw_; apply opv_bin; exact rfl; exact rfl; exact bin_geq; exact rfl; apply wq_take; exact rfl; exact rfl; exact rfl; exact rfl; apply wq_val; intro _ hw_; apply opv_move; exact rfl; exact rfl; apply wq_take; exact rfl; exact rfl; exact rfl; refine bT ?_; omega; apply wq_val; intro _ hw_; apply opv_move; exact rfl; exact rfl; apply wq_take; exact rfl; exact rfl; exact rfl; refine bT ?_; omega; apply wq_val; intro _ hw_; apply opv_move; exact rfl; exact rfl; apply wq_byTK (T := tyB) (hr := rx) (hb := hsi); exact rfl; exact rfl; exact rfl; refine bT ?_; omega; exact rfl; exact rfl; exact rfl; exact rfl; refine bT ?_; omega; exact rfl; exact rfl; exact rfl; exact rfl; exact rfl; intro _; apply wq_take; exact rfl; exact rfl; exact rfl; refine bT ?_; omega; apply wq_val; intro _ hw_; apply opv_move; exact rfl; exact rfl; apply wq_take; exact rfl; exact rfl; exact rfl; refine bT ?_; omega; apply wq_val; intro _ hw_; apply opv_bin; exact rfl; exact rfl; exact bin_rem (b := 31) (by decide); exact rfl; apply wq_take; exact rfl; exact rfl; exact rfl; refine bT ?_; omega; apply wq_val; intro _ hw_; apply opv_bin; exact rfl; exact rfl; exact bin_add64 (by omega); exact rfl; apply wq_take; exact rfl; exact rfl; exact rfl; refine bT ?_; omega; apply wq_val; intro _ hw_; apply opv_convR; exact rfl; exact Tryd.underlying3; exact Tryd.underlying5; exact IntWalk.u8_in _ (by omega); exact rfl; apply wq_take; exact rfl; exact rfl; exact rfl; refine bT ?_; omega; apply wq_val; intro _ hw_; apply opv_bin; exact rfl; exact rfl; exact bin_neq; exact rfl; apply wq_take; exact rfl; exact rfl; exact rfl; exact rfl; apply wq_val; intro _ hw_; apply opv_pickT; exact rfl; refine bT ?_; omega; exact rfl; exact rfl; apply wq_val; intro _ hw_; apply opv_pickF; exact rfl; exact rfl; exact rfl; exact rfl; refine wq_nil fun w1 hw1 => ?_
      refine we_seq ?_
      refine wc_cond rfl (fun h => absurd h (by omega)) (fun _ => ?_)
      refine wc_skip ?_; refine we_block_norm ?_; refine we_seq ?_; refine wc_region ?_; refine wl_mv rfl rfl ?_; apply wl_val; apply opv_bin; exact rfl; exact rfl; exact bin_add64 (by omega); exact rfl; refine wl_as rfl rfl ?_; refine wl_nil ?_
      refine we_loop [(0, .slice A (xs.length + 40) c), (1, .slice B xs.length d), (5, .int .i64 ((i + 1 : Nat) : Int))] (xs.length + 40 - (i + 1)) ⟨i + 1, rfl, by omega, hb1.trans (hw1.mono hb1.size), rfl⟩ (by omega) ⟨rfl, rfl, by simp [lookT], trivial⟩
  · refine wc_exit ?_; refine we_seq_exit ?_; refine we_loop_exit ?_; refine we_block_exit ?_; refine we_seq ?_; refine wc_sr ?_; refine wl_as rfl rfl ?_; refine wl_ns ?_; refine wc_ret ?_
    exact we_ret1 rfl rfl ⟨_, rfl, rfl, hb1⟩

theorem over_any {g n c : Nat} {l : List UInt8} {w : World} (ha : Ar w g 5 (bvs l)) (hn : n ≤ l.length) (hl : l.length ≤ 2199023255552) :
    CallsV Tryd.prog 30 #[.slice (some ⟨g, 0, none⟩) n c] w fun _ w' => ∃ l' : List UInt8, l'.length = l.length ∧ Ar w' g 5 (bvs l') ∧ Gr w w' (some ⟨g, 0, none⟩) := by
  refine calls_in (N := _) Tryd.func30 rfl Tryd.ntmps30 rfl ?_; show WC _ _ _ _ _ _
  refine wc_sr ?_; refine wl_as rfl rfl ?_; refine wl_ns ?_; refine wc_block ?_
  refine wc_loop (fun L wr m => ∃ (i : Nat) (l' : List UInt8), L = [(0, .slice (some ⟨g, 0, none⟩) n c), (2, .int .i64 (i : Int))] ∧ i ≤ n ∧ l'.length = l.length ∧ Ar wr g 5 (bvs l') ∧ Gr w wr (some ⟨g, 0, none⟩) ∧ m = n - i)
    [(0, .slice (some ⟨g, 0, none⟩) n c), (2, .int .i64 (0 : Nat))] n ⟨0, l, rfl, by omega, rfl, ha, Gr.refl _ _, rfl⟩ ⟨rfl, rfl, trivial⟩ ?_
  rintro _ w1 m ⟨i, l', rfl, hi, hl', a1, g1, rfl⟩
  have hbl := bvs_length l'
  have r1 : Rd w1 (some ⟨g, 0, none⟩) n (bvs (l'.take n)) := by have := a1.rd (n := n) (by omega); rw [bvs, ← List.map_take] at this; exact this
  refine wc_seq ?_; refine wc_sr ?_; refine wl_mv rfl rfl ?_; refine wl_mv rfl rfl ?_; apply wl_val; apply opv_len; exact rfl; exact tyB.sl; exact rfl; refine wl_bin rfl rfl bin_lss rfl ?_; refine wl_ns ?_
  refine wc_cond rfl (fun h1 => ?_) (fun h1 => ?_)
  · obtain ⟨x, hx⟩ : ∃ x, (l'.take n)[i]? = some x := ⟨_, List.getElem?_eq_getElem (by simp; omega)⟩
    have hxl := x.toNat_lt
    have hxx : x.toNat ^^^ 90 < 256 := Nat.xor_lt_two_pow (n := 8) hxl (by decide)
    refine wc_skip ?_; refine we_seq ?_; refine wc_seq ?_; refine wc_block ?_; refine wc_region ?_; refine wl_mv rfl rfl ?_; refine wl_mv rfl rfl ?_; refine wl_mv rfl rfl ?_; refine wl_mv rfl rfl ?_; apply wl_byK (T := tyB) (hr := r1) (hb := hx); exact rfl; exact rfl; exact rfl; exact rfl; exact rfl; intro _
    refine wl_val (opv_bin (b := .int .u8 (90 : Nat)) rfl rfl (bin_xor rfl hxl (by decide))) rfl ?_
    refine wl_setH (n := n) (kk := i) tyB rfl rfl a1 rfl (by omega) (by omega) (fun _ => rfl) rfl rfl fun p w2 a2 g2 _ => ?_
    have eu : Value.int .u8 ((x.toNat ^^^ 90 : Nat) : Int) = bv (UInt8.ofNat (x.toNat ^^^ 90)) := by
      unfold bv; rw [UInt8.toNat_ofNat', Nat.mod_eq_of_lt hxx]
    rw [eu, bvs_set] at a2
    refine wl_nil ?_; refine we_block_norm ?_; refine we_seq ?_; refine wc_region ?_; refine wl_mv rfl rfl ?_; apply wl_val; apply opv_bin; exact rfl; exact rfl; exact bin_add64 (by omega); exact rfl; refine wl_as rfl rfl ?_; refine wl_nil ?_
    refine we_loop [(0, .slice (some ⟨g, 0, none⟩) n c), (2, .int .i64 ((i + 1 : Nat) : Int))] (n - (i + 1)) ⟨i + 1, _, rfl, by omega, by rw [List.length_set]; exact hl', a2, g1.trans g2, rfl⟩ (by omega) ⟨rfl, by simp [lookT], trivial⟩
  · refine wc_exit ?_; refine we_seq_exit ?_; refine we_loop_exit ?_; refine we_block_exit ?_
    exact we_end0 rfl ⟨_, rfl, l', hl', a1, g1⟩
end Go.Proofs.YtpnckagibkdcpaaDoor


/-
  The walk over the reference's Apart: lists that each lie at the head of a block of their own are told to be apart.
-/
namespace Go.Proofs.YtpnckagibkdcpaaDoor
open Go.RowKit

section
variable {w w' w0 w1 : World} {A A' : Option Addr} {vs : List Value} {base n c i j : Nat}
theorem Own1.hd (h : Own1 w base vs) (hv : vs[i]? = some (.slice A n c)) : Hd w base A n c ∧ n ≤ 1099511627776 := by
  obtain ⟨A', n', c', e, h1, h2⟩ := h.at hv
  injection e with hA hn hc
  subst hA hn hc
  exact ⟨h1, h2⟩
theorem Own1.lt (h : Own1 w base vs) {v : Value} {g : Nat} (hv : v ∈ vs) (hg : v.ownBlock = some g) : g < w.heap.size ∧ base ≤ g := by
  obtain ⟨A, n, c, rfl, hd, _⟩ := h.1 v hv
  rw [ownBlock_slice] at hg
  rcases hd with ⟨rfl, _⟩ | ⟨g', cs, rfl, hb, ha, _⟩
  · simp at hg
  · simp at hg; subst hg; exact ⟨ha.lt, hb⟩
theorem Rd.cellAt {b o N : Nat} {v : Value} (h : Rd w (some ⟨b, o, none⟩) N vs) (hv : vs[i]? = some v) : w.cell? ⟨b, o + i, none⟩ = some v := by
  have hl := (List.getElem?_eq_some_iff.1 hv).1
  obtain ⟨b', o', e, _, hc⟩ := h.2 (by have := h.1; omega)
  injection e with e
  injection e with e1 e2
  subst e1 e2
  exact hc i v hv
theorem MkB.cs {b : Nat} {cs : List Value} (h : MkB w b i n) (ha : Ar w b 5 cs) : n ≤ cs.length ∧ ∀ j, j < n → cs[j]? = some (mk i j) := by
  obtain ⟨ds, hd, h1, h2⟩ := h
  have e : ds = cs := by
    unfold Ar at ha hd
    rw [ha] at hd
    simp only [Option.some.injEq, Obj.cells.injEq] at hd
    have := congrArg Array.toList hd.1
    simpa using this.symm
  subst e
  exact ⟨h1, h2⟩
theorem MkB.take {b : Nat} {cs : List Value} (h : MkB w b i n) (ha : Ar w b 5 cs) : cs.take n = bvs (mkl i n) := by
  obtain ⟨h1, h2⟩ := h.cs ha
  refine List.ext_getElem? fun j => ?_
  rw [List.getElem?_take, bvs, List.getElem?_map]
  by_cases hj : j < n
  · rw [if_pos hj, mkl_get hj, h2 j hj]; rfl
  · rw [if_neg hj, List.getElem?_eq_none (by rw [mkl_length]; omega)]; rfl
theorem set_marks {cs : List Value} : ∀ j' u, (cs.set j (mk i j))[j']? = some u → cs[j']? = some u ∨ u = mk i j' := fun j' u hu => by
  rw [List.getElem?_set] at hu
  split at hu
  · rename_i h
    subst h
    split at hu
    · simp at hu; exact .inr hu.symm
    · cases hu
  · exact .inl hu
theorem MkB.set {b : Nat} {cs : List Value} (h : MkB w b i j) (ha : Ar w b 5 cs) (hj : j < cs.length) (ha' : Ar w' b 5 (cs.set j (mk i j))) : MkB w' b i (j + 1) := by
  obtain ⟨_, h2⟩ := h.cs ha
  refine ⟨_, ha', by simp; omega, fun j' hj' => ?_⟩
  rw [List.getElem?_set]
  by_cases he : j = j'
  · subst he; simp [hj]
  · rw [if_neg he]; exact h2 j' (by omega)
/-- Marks from place n on. -/
def mkt (i n m : Nat) : List UInt8 := (List.range m).map fun k => mkb i (n + k)
theorem mkt_length {m : Nat} : (mkt i n m).length = m := by simp [mkt]
theorem mkt_get {m k : Nat} (h : k < m) : (mkt i n m)[k]? = some (mkb i (n + k)) := by simp [mkt, h]
theorem mkl_add {m : Nat} : mkl i (n + m) = mkl i n ++ mkt i n m := by
  refine List.ext_getElem? fun j => ?_
  by_cases h : j < n
  · rw [List.getElem?_append_left (by rw [mkl_length]; exact h), mkl_get h, mkl_get (by omega)]
  · rw [List.getElem?_append_right (by rw [mkl_length]; omega), mkl_length]
    by_cases h2 : j < n + m
    · rw [mkl_get h2, mkt_get (by omega)]; congr 2; omega
    · rw [List.getElem?_eq_none (by rw [mkl_length]; omega), List.getElem?_eq_none (by rw [mkt_length]; omega)]
theorem MkB.app {b m : Nat} {cs : List Value} (h : MkB w b i n) (ha : Ar w b 5 cs) (hm : n + m ≤ cs.length) (ha' : Ar w' b 5 (cs.take n ++ (bvs (mkt i n m) ++ cs.drop (n + m)))) : MkB w' b i (n + m) := by
  obtain ⟨h1, h2⟩ := h.cs ha
  refine ⟨_, ha', by simp [bvs_length, mkt_length]; omega, fun j hj => ?_⟩
  have hl : (cs.take n).length = n := by simp; omega
  by_cases h : j < n
  · rw [List.getElem?_append_left (by omega), List.getElem?_take, if_pos h]; exact h2 j h
  · rw [List.getElem?_append_right (by omega), hl, List.getElem?_append_left (by rw [bvs_length, mkt_length]; omega), bvs, List.getElem?_map, mkt_get (by omega), show n + (j - n) = j by omega]; rfl
theorem app_marks {m : Nat} {cs : List Value} (hm : n + m ≤ cs.length) : ∀ j u, (cs.take n ++ (bvs (mkt i n m) ++ cs.drop (n + m)))[j]? = some u → cs[j]? = some u ∨ u = mk i j := fun j u hu => by
  have hl : (cs.take n).length = n := by simp; omega
  by_cases h : j < n
  · rw [List.getElem?_append_left (by omega), List.getElem?_take, if_pos h] at hu; exact .inl hu
  · rw [List.getElem?_append_right (by omega), hl] at hu
    by_cases h2 : j < n + m
    · rw [List.getElem?_append_left (by rw [bvs_length, mkt_length]; omega), bvs, List.getElem?_map, mkt_get (by omega), show n + (j - n) = j by omega] at hu
      simp at hu; exact .inr hu.symm
    · rw [List.getElem?_append_right (by rw [bvs_length, mkt_length]; omega), bvs_length, mkt_length, List.getElem?_drop, show n + m + (j - n - m) = j by omega] at hu
      exact .inl hu
theorem Mx.succ (h : Mx w vs i) (hv : vs[i]? = some (.slice A n c)) (hm : ∀ a, A = some a → MkB w a.block i n) : Mx w vs (i + 1) := fun k A' n' c' hk hv' => by
  by_cases he : k = i
  · subst he
    rw [hv] at hv'
    simp only [Option.some.injEq] at hv'
    injection hv' with hA hn hc
    subst hn
    exact hm A' hA
  · exact h k A' n' c' (by omega) hv'
theorem Sk.far {X : Option Nat} (h : Sk w w1 X i) (hs : w.heap.size ≤ w1.heap.size) (g : Gr w1 w' A') (hA : ∀ a, A' = some a → w.heap.size ≤ a.block) : Sk w w' X i := fun b cs ha => by
  obtain ⟨cs', a1, l1, r⟩ := h b cs ha
  refine ⟨cs', ?_, l1, r⟩
  unfold Ar
  rw [g.block b a1.lt fun hk => ?_]
  · exact a1
  · cases A' with
    | none => simp at hk
    | some a => simp at hk; have := hA a rfl; have := ha.lt; omega
theorem Gr.far (h : Gr w w1 A) (g : Gr w1 w' A') (hA : ∀ a, A' = some a → w.heap.size ≤ a.block) : Gr w w' A :=
  ⟨g.os.trans h.os, g.tape.trans h.tape, g.output.trans h.output, Nat.le_trans h.size g.size, fun k hk hne => by
    rw [← h.block k hk hne]
    refine g.block k (Nat.lt_of_lt_of_le hk h.size) fun hk' => ?_
    cases A' with
    | none => simp at hk'
    | some a => simp at hk'; have := hA a rfl; omega⟩
theorem Gr.bel (h : Gr w w1 A) (g : Below w1.heap.size w1 w') : Gr w w' A := h.far (Gr.of_below none g (Nat.le_refl _)) (by simp)
/-- What stands of all that is followed. -/
def Sd (w0 w : World) (base : Nat) (vs : List Value) (N : Nat) (P : Option Addr) (cp : Nat) (gs : List Value) : Prop :=
  Own1 w base vs ∧ Mx w vs N ∧ Kp w0 w vs ∧ Ow w w0.heap.size 31 P gs.length cp gs ∧ ∀ k v, gs[k]? = some v → Gd w vs (k % N) v
variable {N cp : Nat} {P : Option Addr} {gs : List Value}
theorem Sd.bel (h : Sd w0 w base vs N P cp gs) (hb : Below w.heap.size w w') : Sd w0 w' base vs N P cp gs := by
  obtain ⟨h1, h2, h3, h4, h5⟩ := h
  refine ⟨h1.st (X := none) (k := 0) (Sk.bel hb), h2.bel hb, h3.bel hb, Ow.below h4 hb (Nat.le_refl _), fun k v hv => ?_⟩
  obtain ⟨b, n, c, e, hn, hn2, hm, ht⟩ := h5 k v hv
  exact ⟨b, n, c, e, hn, hn2, hm.st (X := none) (k := 0) (Sk.bel hb) (by simp), ht⟩
/-- A step that writes marks of list i into its own block alone. -/
theorem Sd.gr (h : Sd w0 w base vs N P cp gs) (hv : vs[i]? = some (.slice A n c)) (s : Sk w w' (A.map (·.block)) i) (g : Gr w w' A) (hv0 : ∀ a, A = some a → a.block < w0.heap.size) : Sd w0 w' base vs N P cp gs := by
  obtain ⟨h1, h2, h3, h4, h5⟩ := h
  refine ⟨h1.st s, h2.st h1 hv s, h3.gr g fun a ha _ => ⟨_, List.mem_of_getElem? hv, by rw [ha]; rfl⟩, Ow.gr (base' := 0) (e' := 0) h4 g fun a b ha hb => ?_, fun k v hk => (h5 k v hk).st hv s⟩
  have := (Ow.lt h4 a ha).1
  have := hv0 b hb
  omega
/-- A grown slice that has come to lie in a block of its own. -/
theorem gd_new {b0 : Nat} (h : Ow w b0 5 A' n c (bvs (mkl i n))) (hn : 0 < n) (hn2 : n ≤ 2199023255552) (hb : w0.heap.size ≤ b0) (ho : Own1 w0 base vs) : Gd w vs i (.slice A' n c) := by
  rcases h.2 with ⟨_, h0⟩ | ⟨g, cap, cur, hv, hbg, hg, hnc, _, hs, ht⟩
  · omega
  · injection hv with hA hn' hc
    subst hA hc
    refine ⟨g, n, c, rfl, hnc, hn2, ⟨cur.toList, by simpa [Ar] using hg, by simp; omega, fun j hj => ?_⟩, fun k u hu hub => ?_⟩
    · have e : (cur.toList.take n)[j]? = some (mk i j) := by
        rw [show cur.toList.take n = bvs (mkl i n) by simpa using ht, bvs, List.getElem?_map, mkl_get hj]; rfl
      rw [List.getElem?_take, if_pos hj] at e
      exact e
    · have := (ho.lt (List.mem_of_getElem? hu) hub).1
      omega
/-- A grown slice that lies in its list's own block. -/
theorem gd_own {g : Nat} (h : MkB w g i n) (hn : n ≤ c) (hn2 : n ≤ 2199023255552) {n0 c0 : Nat} (hv : vs[i]? = some (.slice (some ⟨g, 0, none⟩) n0 c0)) (ho : Own1 w base vs) : Gd w vs i (.slice (some ⟨g, 0, none⟩) n c) :=
  ⟨g, n, c, rfl, hn, hn2, h, fun k u hu hub => ho.inj hu hv hub rfl⟩
theorem Sd.push {cp' : Nat} {P' : Option Addr} {v : Value} (h : Sd w0 w base vs N P cp gs) (ho : Ow w' w0.heap.size 31 P' (gs.length + 1) cp' (gs ++ [v])) (g : Gr w w' P) (hg : Gd w vs (gs.length % N) v) : Sd w0 w' base vs N P' cp' (gs ++ [v]) := by
  obtain ⟨h1, h2, h3, h4, h5⟩ := h
  have s : ∀ k, Sk w w' none k := fun k => by
    rcases h4.2 with ⟨hv, _⟩ | ⟨g', cap, cur, hv, _, hg', _⟩
    · injection hv with hA
      subst hA
      exact Sk.other (g := 0) (t := 31) (cs := []) g (by simp) (.inl rfl) (by decide)
    · injection hv with hA
      subst hA
      exact Sk.other (g := g') (t := 31) (cs := cur.toList) g (by intro a ha; cases ha; rfl) (.inr (by simpa [Ar] using hg')) (by decide)
  have hk : ∀ {m : Nat} {u : Value}, Gd w vs m u → Gd w' vs m u := fun {m u} hgd => by
    obtain ⟨b, n, c, e, hn, hn2, hm, ht⟩ := hgd
    exact ⟨b, n, c, e, hn, hn2, hm.st (s 0) (by simp), ht⟩
  refine ⟨h1.st (s 0), fun k A n c hk hv => (h2 k A n c hk hv).st (s 0) (by simp), h3.gr g fun a ha hlt => ?_, by rw [List.length_append]; exact ho, fun k u hu => ?_⟩
  · have := (Ow.lt h4 a ha).1; omega
  · rw [List.getElem?_append] at hu
    split at hu
    · exact hk (h5 k u hu)
    · have hk0 : k = gs.length := by
        have := (List.getElem?_eq_some_iff.1 hu).1
        simp at this; omega
      subst hk0
      simp at hu
      subst hu
      exact hk hg
end
end Go.Proofs.YtpnckagibkdcpaaDoor


/-
  The walk over the reference's Apart.
-/
namespace Go.Proofs.YtpnckagibkdcpaaDoor
open Go.RowKit

/-- Phase 1: every list is filled with its marks. -/
def Ap1 (w0 w : World) (base : Nat) (vs : List Value) (i : Nat) : Prop := Own1 w base vs ∧ Mx w vs i ∧ Kp w0 w vs
theorem apartK_any {Lp : Option Addr} {N c base : Nat} {vs : List Value} {w : World} (hr : Rd w Lp N vs) (hL : ∀ a, Lp = some a → ∀ v ∈ vs, v.ownBlock ≠ some a.block) (ho : Own1 w base vs) (hb : base ≤ w.heap.size) (hN : N ≤ 4194304) :
    CallsV Tryd.prog 38 #[.slice Lp N c] w fun v w' => v = .bool true ∧ Kp w w' vs := by
  have hvl : vs.length = N := hr.1
  have hlt0 : ∀ {A : Option Addr} {n c i : Nat}, vs[i]? = some (.slice A n c) → ∀ a, A = some a → a.block < w.heap.size := fun hv a ha => (ho.lt (List.mem_of_getElem? hv) (by rw [ownBlock_slice, ha]; rfl)).1
  refine calls_in (N := _) Tryd.func38 rfl Tryd.ntmps38 rfl ?_; show WC _ _ _ _ _ _
  refine wc_sr ?_; refine wl_as rfl rfl ?_; refine wl_ns ?_; refine wc_seq ?_; refine wc_sr ?_; refine wl_as rfl rfl ?_; refine wl_ns ?_; refine wc_block ?_
  refine wc_loop (fun L wr m => ∃ i : Nat, L = [(0, .slice Lp N c), (3, .int .i64 (i : Int))] ∧ i ≤ N ∧ Ap1 w wr base vs i ∧ m = N - i)
    [(0, .slice Lp N c), (3, .int .i64 (0 : Nat))] N ⟨0, rfl, by omega, ⟨ho, fun k A n c hk => by omega, Kp.refl _ _⟩, rfl⟩ ⟨rfl, rfl, trivial⟩ ?_
  rintro _ w1 m ⟨i, rfl, hi, ⟨o1, m1, k1⟩, rfl⟩
  refine wc_seq ?_; refine wc_sr ?_; refine wl_mv rfl rfl ?_; refine wl_mv rfl rfl ?_; apply wl_val; apply opv_len; exact rfl; exact tyBB.sl; exact rfl; refine wl_bin rfl rfl bin_lss rfl ?_; refine wl_ns ?_
  refine wc_cond rfl (fun h1 => ?_) (fun h1 => ?_)
  · obtain ⟨v, hv⟩ : ∃ v, vs[i]? = some v := ⟨_, List.getElem?_eq_getElem (by omega)⟩
    obtain ⟨A, n, cc, rfl, hd1, hnl⟩ := o1.at hv
    refine wc_skip ?_; refine we_seq ?_; refine wc_seq ?_; refine wc_block ?_; refine wc_sr ?_; refine wl_as rfl rfl ?_; refine wl_ns ?_; refine wc_block ?_
    refine wc_loop (fun L wr m => ∃ j : Nat, L = [(0, .slice Lp N c), (3, .int .i64 (i : Int)), (4, .int .i64 (j : Int))] ∧ j ≤ n ∧ Ap1 w wr base vs i ∧ (∀ a, A = some a → MkB wr a.block i j) ∧ m = n - j)
      [(0, .slice Lp N c), (3, .int .i64 (i : Int)), (4, .int .i64 (0 : Nat))] n ⟨0, rfl, by omega, ⟨o1, m1, k1⟩, ?_, rfl⟩ ⟨rfl, rfl, rfl, trivial⟩ ?_
    · intro a ha
      rcases hd1 with ⟨h, _⟩ | ⟨g, cs, h, _, ha1, _⟩
      · rw [h] at ha; cases ha
      · rw [h] at ha; cases ha
        exact ⟨cs, ha1, by omega, by omega⟩
    rintro _ w2 m ⟨j, rfl, hj, ⟨o2, m2, k2⟩, b2, rfl⟩
    have r2 := k2.rd hr hL
    refine wc_seq ?_; refine wc_sr ?_; refine wl_mv rfl rfl ?_; refine wl_mv rfl rfl ?_; refine wl_mv rfl rfl ?_; apply wl_elK (T := tyBB) (hr := r2) (hb := hv); exact rfl; exact rfl; exact rfl; exact rfl; exact rfl; intro _; apply wl_val; apply opv_len; exact rfl; exact tyB.sl; exact rfl; refine wl_bin rfl rfl bin_lss rfl ?_; refine wl_ns ?_
    refine wc_cond rfl (fun h2 => ?_) (fun h2 => ?_)
    · have hd2 := (o2.hd hv).1
      rcases hd2 with ⟨_, h0, _⟩ | ⟨g, cs, rfl, hg, ha, hnc, hcc⟩
      · omega
      obtain ⟨bl, ol, rfl, _, _⟩ := hr.2 (by omega)
      have mb := b2 _ rfl
      have hgr := (Gr.of_below (some ⟨g, 0, none⟩) ((Below.refl w2.heap.size w2).drew) (Nat.le_refl _))
      refine wc_skip ?_; refine we_seq ?_; refine wc_seq ?_; refine wc_block ?_
      refine wc_held (fun w' => Rd w' (some ⟨bl, ol, none⟩) N vs) mixed ?_
      apply wh_take 0; exact rfl; kernel_rfl; kernel_rfl; kernel_rfl; exact r2; intro _ hw_; apply opv_move; exact rfl; exact rfl; apply wh_take 1; exact rfl; kernel_rfl; kernel_rfl; kernel_rfl; exact r2; intro _ hw_; apply opv_move; exact rfl; exact rfl
      refine wh_take 2 rfl (by kernel_rfl) (by kernel_rfl) (by kernel_rfl) r2 (fun _ _ => opv_idx (kk := i) tyBB rfl rfl rfl (by omega)) rfl ?_
      refine wh_take 3 rfl (by kernel_rfl) (by kernel_rfl) (by kernel_rfl) r2 (fun _ hw => opv_load tyBB rfl (hw.cellAt hv)) rfl ?_
      apply wh_take 4; exact rfl; kernel_rfl; kernel_rfl; kernel_rfl; exact r2; intro _ hw_; apply opv_move; exact rfl; exact rfl; apply wh_take 5; exact rfl; kernel_rfl; kernel_rfl; kernel_rfl; exact r2; intro _ hw_; apply opv_move; exact rfl; exact rfl; apply wh_take 6; exact rfl; kernel_rfl; kernel_rfl; kernel_rfl; exact r2; intro _ hw_; apply opv_move; exact rfl; exact rfl
      refine wh_one 7 (o := ⟨_, _, _, _, _, _⟩) (by kernel_rfl) rfl ?_
      refine wl_call ok_caissonref01_mark (mark_any i j (by omega) (by omega) _) ⟨rfl, rfl, trivial⟩ rfl ?_
      rintro _ _ ⟨rfl, rfl⟩
      refine wl_nil ?_
      refine we_held r2 ?_
      refine wh_take 8 rfl (by kernel_rfl) (by kernel_rfl) (by kernel_rfl) r2 (fun _ _ => opv_idx (kk := j) tyB rfl rfl rfl (by omega)) rfl ?_
      refine wh_one 9 (o := ⟨_, _, _, _, _, _⟩) (by kernel_rfl) rfl ?_
      refine wl_storeA (w := w2.drew) (kk := j) tyB ha (by omega) rfl rfl rfl fun w3 a3 g3 _ => ?_
      have g3' := hgr.trans g3
      have s3 : Sk w2 w3 (some g) i := Sk.at g3' ha a3 (by simp) set_marks
      have o3 := o2.st s3
      have m3 := m2.st o2 hv s3
      have k3 := k2.gr g3' fun a ha' _ => ⟨_, List.mem_of_getElem? hv, by rw [ownBlock_slice, ha']; rfl⟩
      have b3 := mb.set ha (by omega) a3
      have r3 := k3.rd hr hL
      refine wl_nil ?_
      refine we_held r3 ?_
      refine wh_done (by kernel_rfl) ?_
      refine we_block_norm ?_; refine we_seq ?_; refine wc_region ?_; refine wl_mv rfl rfl ?_; apply wl_val; apply opv_bin; exact rfl; exact rfl; exact bin_add64 (by omega); exact rfl; refine wl_as rfl rfl ?_; refine wl_nil ?_
      refine we_loop [(0, .slice (some ⟨bl, ol, none⟩) N c), (3, .int .i64 (i : Int)), (4, .int .i64 ((j + 1 : Nat) : Int))] (n - (j + 1)) ⟨j + 1, rfl, by omega, ⟨o3, m3, k3⟩, by intro a ha; cases ha; exact b3, rfl⟩ (by omega) ⟨rfl, rfl, by simp [lookT], trivial⟩
    · obtain rfl : j = n := by omega
      have m2' := m2.succ hv b2
      refine wc_exit ?_; refine we_seq_exit ?_; refine we_loop_exit ?_; refine we_block_exit ?_; refine we_block_norm ?_; refine we_seq ?_; refine wc_region ?_; refine wl_mv rfl rfl ?_; apply wl_val; apply opv_bin; exact rfl; exact rfl; exact bin_add64 (by omega); exact rfl; refine wl_as rfl rfl ?_; refine wl_nil ?_
      refine we_loop [(0, .slice Lp N c), (3, .int .i64 ((i + 1 : Nat) : Int))] (N - (i + 1)) ⟨i + 1, rfl, by omega, ⟨o2, m2', k2⟩, rfl⟩ (by omega) ⟨rfl, by simp [lookT], trivial⟩
  · obtain rfl : i = N := by omega
    clear h1 hi
    refine wc_exit ?_; refine we_seq_exit ?_; refine we_loop_exit ?_; refine we_block_exit ?_; refine we_seq ?_; refine wc_sr ?_; refine wl_as rfl rfl ?_; refine wl_ns ?_; refine wc_seq ?_; refine wc_sr ?_; refine wl_as rfl rfl ?_; refine wl_ns ?_; refine wc_block ?_
    refine wc_loop (fun L wr m => ∃ (j : Nat) (P : Option Addr) (cp : Nat) (gs : List Value), L = [(0, .slice Lp i c), (5, .slice P gs.length cp), (6, .int .i64 (j : Int))] ∧ j ≤ i ∧ gs.length = j ∧ Sd w wr base vs i P cp gs ∧ m = i - j)
      [(0, .slice Lp i c), (5, .slice none 0 0), (6, .int .i64 (0 : Nat))] i ⟨0, none, 0, [], rfl, by omega, rfl, ⟨o1, m1, k1, Ow.nil _ _ _, by simp⟩, rfl⟩ ⟨rfl, rfl, rfl, trivial⟩ ?_
    rintro _ w2 m ⟨j, P, cp, gs, rfl, hj, hgl, s2, rfl⟩
    refine wc_seq ?_; refine wc_sr ?_; refine wl_mv rfl rfl ?_; refine wl_mv rfl rfl ?_; apply wl_val; apply opv_len; exact rfl; exact tyBB.sl; exact rfl; refine wl_bin rfl rfl bin_lss rfl ?_; refine wl_ns ?_
    refine wc_cond rfl (fun h1 => ?_) (fun h1 => ?_)
    · obtain ⟨v, hv⟩ : ∃ v, vs[j]? = some v := ⟨_, List.getElem?_eq_getElem (by omega)⟩
      obtain ⟨A, n, cc, rfl, hd2, hnl⟩ := s2.1.at hv
      have hv0 := hlt0 hv
      have r2 := s2.2.2.1.rd hr hL
      have hs20 := s2.2.2.1.2.2.2.1
      refine wc_skip ?_; refine we_seq ?_; refine wc_seq ?_; refine wc_block ?_; refine wc_sr ?_; refine wl_mv rfl rfl ?_; refine wl_mv rfl rfl ?_; apply wl_elK (T := tyBB) (hr := r2) (hb := hv); exact rfl; exact rfl; exact rfl; exact rfl; exact rfl; intro _; refine wl_as rfl rfl ?_; refine wl_ns ?_; refine wc_seq ?_; refine wc_sr ?_; refine wl_as rfl rfl ?_; refine wl_ns ?_; refine wc_block ?_
      refine wc_loop (fun L wr m => ∃ (k : Nat) (A' : Option Addr) (c' : Nat), L = [(0, .slice Lp i c), (5, .slice P gs.length cp), (6, .int .i64 (j : Int)), (7, .slice A' (n + k) c'), (8, .int .i64 (k : Int))] ∧ k ≤ 16 ∧ Sk w2 wr (A.map (·.block)) j ∧ Gr w2 wr A ∧ ((∃ g, A = some ⟨g, 0, none⟩ ∧ A' = some ⟨g, 0, none⟩ ∧ c' = cc ∧ n + k ≤ cc ∧ MkB wr g j (n + k)) ∨ Ow wr w2.heap.size 5 A' (n + k) c' (bvs (mkl j (n + k)))) ∧ m = 16 - k)
        [(0, .slice Lp i c), (5, .slice P gs.length cp), (6, .int .i64 (j : Int)), (7, .slice A n cc), (8, .int .i64 (0 : Nat))] 16 ⟨0, A, cc, rfl, by omega, Sk.refl _ _ _, Gr.refl _ _, ?_, rfl⟩ ⟨rfl, rfl, rfl, rfl, rfl, trivial⟩ ?_
      · rcases hd2 with ⟨rfl, rfl, rfl⟩ | ⟨g, cs, rfl, _, _, hnc, _⟩
        · exact .inr (Ow.nil _ _ _)
        · exact .inl ⟨g, rfl, rfl, rfl, hnc, s2.2.1 j _ n cc (by omega) hv⟩
      rintro _ w3 m ⟨k, A', c', rfl, hk, t3, g3, hg3, rfl⟩
      have r3 := (s2.2.2.1.gr g3 fun a ha' _ => ⟨_, List.mem_of_getElem? hv, by rw [ownBlock_slice, ha']; rfl⟩).rd hr hL
      refine wc_seq ?_; refine wc_sr ?_; refine wl_mv rfl rfl ?_; refine wl_bin rfl rfl bin_lss rfl ?_; refine wl_ns ?_
      refine wc_cond rfl (fun h2 => ?_) (fun h2 => ?_)
      · refine wc_skip ?_; refine we_seq ?_; refine wc_seq ?_; refine wc_block ?_; refine wc_region ?_; refine wl_mv rfl rfl ?_; refine wl_mv rfl rfl ?_; refine wl_mv rfl rfl ?_; refine wl_mv rfl rfl ?_; apply wl_elK (T := tyBB) (hr := r3) (hb := hv); exact rfl; exact rfl; exact rfl; exact rfl; exact rfl; intro _; apply wl_val; apply opv_len; exact rfl; exact tyB.sl; exact rfl; refine wl_mv rfl rfl ?_; apply wl_val; apply opv_bin; exact rfl; exact rfl; exact bin_add64 (by omega); exact rfl
        refine wl_call ok_caissonref01_mark (mark_any j (n + k) (by omega) (by omega) _) ⟨rfl, rfl, trivial⟩ rfl ?_
        rintro _ _ ⟨rfl, rfl⟩
        have hmk : [mk j (n + k)] = bvs (mkt j (n + k) 1) := rfl
        have hs3 := g3.size
        refine wl_bs (vs := [_]) tyB ⟨rfl, rfl, rfl, trivial⟩ rfl (by decide) rfl fun A4 w4 o4 hb4 _ => ?_
        rw [hmk] at o4
        rcases hg3 with ⟨g, rfl, rfl, rfl, hle, mb⟩ | hown
        · rcases hd2.st t3 with ⟨h, _⟩ | ⟨g', cs, he, _, ha, _, hcc⟩
          · cases h
          cases he
          have ha4 := ha.bel hb4
          have mb4 := mb.st (X := none) (k := j) (Sk.bel hb4) (by simp)
          have t4 := t3.trans (Sk.bel hb4)
          have g4 := g3.bel hb4
          refine wl_appA (n := n + k) tyB rfl ha4 hle hcc rfl o4.rd (by decide) (bvs_one _) (by omega) (by simp only [maxLen]; omega) rfl (fun hfit w5 a5 g5 => ?_) (fun A5 c5 w5 o5 hb5 => ?_)
          · have t5 : Sk w4 w5 (some g) j := Sk.at g5 ha4 a5 (by simp [bvs_length, mkt_length]; omega) (app_marks (by omega))
            refine wl_as rfl rfl ?_; refine wl_nil ?_; refine we_block_norm ?_; refine we_seq ?_; refine wc_region ?_; refine wl_mv rfl rfl ?_; apply wl_val; apply opv_bin; exact rfl; exact rfl; exact bin_add64 (by omega); exact rfl; refine wl_as rfl rfl ?_; refine wl_nil ?_
            refine we_loop [(0, .slice Lp i c), (5, .slice P gs.length cp), (6, .int .i64 (j : Int)), (7, .slice (some ⟨g, 0, none⟩) (n + (k + 1)) _), (8, .int .i64 ((k + 1 : Nat) : Int))] (16 - (k + 1)) ⟨k + 1, _, _, rfl, by omega, t4.trans t5, g4.trans g5, .inl ⟨g, rfl, rfl, rfl, by omega, mb4.app ha4 (by omega) a5⟩, rfl⟩ (by omega) ⟨rfl, rfl, rfl, rfl, by simp [lookT], trivial⟩
          · rw [mb4.take ha4, ← bvs_append, ← mkl_add] at o5
            refine wl_as rfl rfl ?_; refine wl_nil ?_; refine we_block_norm ?_; refine we_seq ?_; refine wc_region ?_; refine wl_mv rfl rfl ?_; apply wl_val; apply opv_bin; exact rfl; exact rfl; exact bin_add64 (by omega); exact rfl; refine wl_as rfl rfl ?_; refine wl_nil ?_
            refine we_loop [(0, .slice Lp i c), (5, .slice P gs.length cp), (6, .int .i64 (j : Int)), (7, .slice A5 (n + (k + 1)) c5), (8, .int .i64 ((k + 1 : Nat) : Int))] (16 - (k + 1)) ⟨k + 1, A5, c5, rfl, by omega, t4.trans (Sk.bel hb5), g4.bel hb5, .inr (Ow.mono o5 (by have := hb4.size; omega)), rfl⟩ (by omega) ⟨rfl, rfl, rfl, rfl, by simp [lookT], trivial⟩
        · have hown4 := Ow.below hown hb4 (Nat.le_refl _)
          have hs4 := hb4.size
          refine wl_app (n := n + k) tyB rfl hown4 rfl o4.rd (bvs_one _) (by omega) (by simp only [maxLen]; omega) (by omega) rfl fun A5 c5 w5 o5 g5 _ => ?_
          rw [← bvs_append, ← mkl_add] at o5
          have hfar : ∀ a, A' = some a → w2.heap.size ≤ a.block := fun a ha => (Ow.lt hown a ha).1
          refine wl_as rfl rfl ?_; refine wl_nil ?_; refine we_block_norm ?_; refine we_seq ?_; refine wc_region ?_; refine wl_mv rfl rfl ?_; apply wl_val; apply opv_bin; exact rfl; exact rfl; exact bin_add64 (by omega); exact rfl; refine wl_as rfl rfl ?_; refine wl_nil ?_
          refine we_loop [(0, .slice Lp i c), (5, .slice P gs.length cp), (6, .int .i64 (j : Int)), (7, .slice A5 (n + (k + 1)) c5), (8, .int .i64 ((k + 1 : Nat) : Int))] (16 - (k + 1)) ⟨k + 1, A5, c5, rfl, by omega, (t3.trans (Sk.bel hb4)).far (by omega) g5 hfar, (g3.bel hb4).far g5 hfar, .inr o5, rfl⟩ (by omega) ⟨rfl, rfl, rfl, rfl, by simp [lookT], trivial⟩
      · obtain rfl : k = 16 := by omega
        have s3 := s2.gr hv t3 g3 hv0
        have hgd : Gd w3 vs (gs.length % i) (.slice A' (n + 16) c') := by
          rw [hgl, Nat.mod_eq_of_lt (by omega)]
          rcases hg3 with ⟨g, rfl, rfl, rfl, hle, mb⟩ | hown
          · exact gd_own mb hle (by omega) hv s3.1
          · exact gd_new hown (by omega) (by omega) hs20 ho
        refine wc_exit ?_; refine we_seq_exit ?_; refine we_loop_exit ?_; refine we_block_exit ?_; refine we_seq ?_; refine wc_region ?_; refine wl_mv rfl rfl ?_; refine wl_mv rfl rfl ?_
        refine wl_push (vs := [.slice A' (n + 16) c']) tyBB rfl s3.2.2.2.1 ⟨rfl, rfl, rfl, trivial⟩ rfl (by decide) rfl (by omega) (by simp only [maxLen]; omega) s3.2.2.1.2.2.2.1 rfl rfl fun p P4 cp4 w4 o4 g4 _ => ?_
        refine wl_as rfl rfl ?_; refine wl_nil ?_; refine we_block_norm ?_; refine we_seq ?_; refine wc_region ?_; refine wl_mv rfl rfl ?_; apply wl_val; apply opv_bin; exact rfl; exact rfl; exact bin_add64 (by omega); exact rfl; refine wl_as rfl rfl ?_; refine wl_nil ?_
        refine we_loop [(0, .slice Lp i c), (5, .slice P4 (gs ++ [Value.slice A' (n + 16) c']).length cp4), (6, .int .i64 ((j + 1 : Nat) : Int))] (i - (j + 1)) ⟨j + 1, P4, cp4, _, rfl, by omega, by simp [hgl], s3.push o4 g4 hgd, rfl⟩ (by omega) ⟨rfl, by rw [List.length_append]; rfl, by simp [lookT], trivial⟩
    · obtain rfl : j = i := by omega
      clear h1 hj o1 m1 k1
      refine wc_exit ?_; refine we_seq_exit ?_; refine we_loop_exit ?_; refine we_block_exit ?_; refine we_seq ?_; refine wc_seq ?_; refine wc_sr ?_; refine wl_as rfl rfl ?_; refine wl_ns ?_; refine wc_block ?_
      refine wc_loop (fun L wr m => ∃ (q : Nat) (P : Option Addr) (cp : Nat) (gs : List Value), L = [(0, .slice Lp j c), (5, .slice P gs.length cp), (9, .int .i64 (q : Int))] ∧ q ≤ j ∧ gs.length = j + q ∧ Sd w wr base vs j P cp gs ∧ m = j - q)
        [(0, .slice Lp j c), (5, .slice P gs.length cp), (9, .int .i64 (0 : Nat))] j ⟨0, P, cp, gs, rfl, by omega, hgl, s2, rfl⟩ ⟨rfl, rfl, rfl, trivial⟩ ?_
      clear s2 hgl
      rintro _ w3 m ⟨q, P, cp, gs, rfl, hq, hgl, s3, rfl⟩
      refine wc_seq ?_; refine wc_sr ?_; refine wl_mv rfl rfl ?_; refine wl_mv rfl rfl ?_; apply wl_val; apply opv_len; exact rfl; exact tyBB.sl; exact rfl; refine wl_bin rfl rfl bin_lss rfl ?_; refine wl_ns ?_
      refine wc_cond rfl (fun h1 => ?_) (fun h1 => ?_)
      · obtain ⟨v, hv⟩ : ∃ v, vs[q]? = some v := ⟨_, List.getElem?_eq_getElem (by omega)⟩
        obtain ⟨A, n, cc, rfl, hd3, hnl⟩ := s3.1.at hv
        have hv0 := hlt0 hv
        have hs30 := s3.2.2.1.2.2.2.1
        refine wc_skip ?_; refine we_seq ?_; refine wc_seq ?_; refine wc_block ?_; refine wc_sr ?_
        refine wl_mk (n := 40) (c := 40) tyB rfl rfl rfl rfl (by omega) (by omega) (by simp only [maxLen]; omega) rfl fun A4 w4 o4 hb4 _ => ?_
        refine wl_as rfl rfl ?_; refine wl_ns ?_; refine wc_seq ?_; refine wc_sr ?_; refine wl_as rfl rfl ?_; refine wl_ns ?_; refine wc_block ?_
        refine wc_loop (fun L wr m => ∃ k : Nat, L = [(0, .slice Lp j c), (5, .slice P gs.length cp), (9, .int .i64 (q : Int)), (10, .slice A4 40 40), (11, .int .i64 (k : Int))] ∧ k ≤ 40 ∧ Ow wr w3.heap.size 5 A4 40 40 (bvs (mkt q n k ++ List.replicate (40 - k) 0)) ∧ Below w3.heap.size w3 wr ∧ m = 40 - k)
          [(0, .slice Lp j c), (5, .slice P gs.length cp), (9, .int .i64 (q : Int)), (10, .slice A4 40 40), (11, .int .i64 (0 : Nat))] 40 ⟨0, rfl, by omega, by simpa [bvs, bv, mkt] using o4, hb4, rfl⟩ ⟨rfl, rfl, rfl, rfl, rfl, trivial⟩ ?_
        rintro _ w5 m ⟨k, rfl, hk, o5, hb5, rfl⟩
        have s5 := s3.bel hb5
        have r5 := s5.2.2.1.rd hr hL
        have hs5 := hb5.size
        refine wc_seq ?_; refine wc_sr ?_; refine wl_mv rfl rfl ?_; refine wl_bin rfl rfl bin_lss rfl ?_; refine wl_ns ?_
        refine wc_cond rfl (fun h2 => ?_) (fun h2 => ?_)
        · refine wc_skip ?_; refine we_seq ?_; refine wc_seq ?_; refine wc_block ?_; refine wc_region ?_; refine wl_mv rfl rfl ?_; refine wl_mv rfl rfl ?_; refine wl_mv rfl rfl ?_; refine wl_mv rfl rfl ?_; refine wl_mv rfl rfl ?_; apply wl_elK (T := tyBB) (hr := r5) (hb := hv); exact rfl; exact rfl; exact rfl; exact rfl; exact rfl; intro _; apply wl_val; apply opv_len; exact rfl; exact tyB.sl; exact rfl; refine wl_mv rfl rfl ?_; apply wl_val; apply opv_bin; exact rfl; exact rfl; exact bin_add64 (by omega); exact rfl
          refine wl_call ok_caissonref01_mark (mark_any q (n + k) (by omega) (by omega) _) ⟨rfl, rfl, trivial⟩ rfl ?_
          rintro _ _ ⟨rfl, rfl⟩
          refine wl_set (n := 40) (kk := k) tyB rfl rfl o5 rfl (by omega) (fun _ => rfl) rfl rfl fun p w6 o6 g6 _ => ?_
          have hb6 := g6.below hb5 o5 (Nat.le_refl _) hs5
          have e6 : (bvs (mkt q n k ++ List.replicate (40 - k) 0)).set k (mk q (n + k)) = bvs (mkt q n (k + 1) ++ List.replicate (40 - (k + 1)) 0) := by
            rw [mk, bvs_set]
            congr 1
            rw [List.set_append_right _ _ (by rw [mkt_length]; omega), mkt_length, Nat.sub_self, show 40 - k = (40 - (k + 1)) + 1 by omega, List.replicate_succ, List.set_cons_zero]
            simp [mkt, List.range_succ]
          rw [e6] at o6
          refine wl_nil ?_; refine we_block_norm ?_; refine we_seq ?_; refine wc_region ?_; refine wl_mv rfl rfl ?_; apply wl_val; apply opv_bin; exact rfl; exact rfl; exact bin_add64 (by omega); exact rfl; refine wl_as rfl rfl ?_; refine wl_nil ?_
          refine we_loop [(0, .slice Lp j c), (5, .slice P gs.length cp), (9, .int .i64 (q : Int)), (10, .slice A4 40 40), (11, .int .i64 ((k + 1 : Nat) : Int))] (40 - (k + 1)) ⟨k + 1, rfl, by omega, o6, hb6, rfl⟩ (by omega) ⟨rfl, rfl, rfl, rfl, by simp [lookT], trivial⟩
        · obtain rfl : k = 40 := by omega
          rw [Nat.sub_self, List.replicate_zero, List.append_nil] at o5
          refine wc_exit ?_; refine we_seq_exit ?_; refine we_loop_exit ?_; refine we_block_exit ?_; refine we_seq ?_; refine wc_region ?_; refine wl_mv rfl rfl ?_; refine wl_mv rfl rfl ?_; refine wl_mv rfl rfl ?_; apply wl_elK (T := tyBB) (hr := r5) (hb := hv); exact rfl; exact rfl; exact rfl; exact rfl; exact rfl; intro _; refine wl_mv rfl rfl ?_
          rcases (s5.1.hd hv).1 with ⟨rfl, rfl, rfl⟩ | ⟨g, cs, rfl, _, ha, hnc, hcc⟩
          · refine wl_app tyB rfl (Ow.nil w5 w5.heap.size _) rfl o5.rd (bvs_one _) (by omega) (by simp only [maxLen]; omega) (Nat.le_refl _) rfl fun A7 c7 w7 o7 g7 _ => ?_
            have hb7 := g7.below (Below.refl w5.heap.size w5) (Ow.nil w5 w5.heap.size 5) (Nat.le_refl _) (Nat.le_refl _)
            have em : mkl q (0 + 40) = mkt q 0 40 := by rw [mkl_add]; rfl
            rw [List.nil_append, ← em] at o7
            have s7 := s5.bel hb7
            have hgd : Gd w7 vs (gs.length % j) (.slice A7 (0 + 40) c7) := by
              rw [hgl, Nat.add_mod_left, Nat.mod_eq_of_lt (by omega)]
              exact gd_new o7 (by omega) (by omega) (by omega) ho
            refine wl_push (vs := [.slice A7 (0 + 40) c7]) tyBB rfl s7.2.2.2.1 ⟨rfl, rfl, rfl, trivial⟩ rfl (by decide) rfl (by omega) (by simp only [maxLen]; omega) s7.2.2.1.2.2.2.1 rfl rfl fun p P8 cp8 w8 o8 g8 _ => ?_
            refine wl_as rfl rfl ?_; refine wl_nil ?_; refine we_block_norm ?_; refine we_seq ?_; refine wc_region ?_; refine wl_mv rfl rfl ?_; apply wl_val; apply opv_bin; exact rfl; exact rfl; exact bin_add64 (by omega); exact rfl; refine wl_as rfl rfl ?_; refine wl_nil ?_
            refine we_loop [(0, .slice Lp j c), (5, .slice P8 (gs ++ [Value.slice A7 (0 + 40) c7]).length cp8), (9, .int .i64 ((q + 1 : Nat) : Int))] (j - (q + 1)) ⟨q + 1, P8, cp8, _, rfl, by omega, by simp [hgl]; omega, s7.push o8 g8 hgd, rfl⟩ (by omega) ⟨rfl, by rw [List.length_append]; rfl, by simp [lookT], trivial⟩
          · have mb := s5.2.1 q _ n cc (by omega) hv
            refine wl_appA tyB rfl ha hnc hcc rfl o5.rd (by decide) (bvs_one _) (by omega) (by simp only [maxLen]; omega) rfl (fun hfit w7 a7 g7 => ?_) (fun A7 c7 w7 o7 hb7 => ?_)
            · have t7 : Sk w5 w7 (some g) q := Sk.at g7 ha a7 (by simp [bvs_length, mkt_length]; omega) (app_marks (by omega))
              have s7 := s5.gr hv t7 g7 hv0
              have hgd : Gd w7 vs (gs.length % j) (.slice (some ⟨g, 0, none⟩) (n + 40) cc) := by
                rw [hgl, Nat.add_mod_left, Nat.mod_eq_of_lt (by omega)]
                exact gd_own (mb.app ha (by omega) a7) hfit (by omega) hv s7.1
              refine wl_push (vs := [.slice (some ⟨g, 0, none⟩) (n + 40) cc]) tyBB rfl s7.2.2.2.1 ⟨rfl, rfl, rfl, trivial⟩ rfl (by decide) rfl (by omega) (by simp only [maxLen]; omega) s7.2.2.1.2.2.2.1 rfl rfl fun p P8 cp8 w8 o8 g8 _ => ?_
              refine wl_as rfl rfl ?_; refine wl_nil ?_; refine we_block_norm ?_; refine we_seq ?_; refine wc_region ?_; refine wl_mv rfl rfl ?_; apply wl_val; apply opv_bin; exact rfl; exact rfl; exact bin_add64 (by omega); exact rfl; refine wl_as rfl rfl ?_; refine wl_nil ?_
              refine we_loop [(0, .slice Lp j c), (5, .slice P8 (gs ++ [Value.slice (some ⟨g, 0, none⟩) (n + 40) cc]).length cp8), (9, .int .i64 ((q + 1 : Nat) : Int))] (j - (q + 1)) ⟨q + 1, P8, cp8, _, rfl, by omega, by simp [hgl]; omega, s7.push o8 g8 hgd, rfl⟩ (by omega) ⟨rfl, by rw [List.length_append]; rfl, by simp [lookT], trivial⟩
            · rw [mb.take ha, ← bvs_append, ← mkl_add] at o7
              have s7 := s5.bel hb7
              have hgd : Gd w7 vs (gs.length % j) (.slice A7 (n + 40) c7) := by
                rw [hgl, Nat.add_mod_left, Nat.mod_eq_of_lt (by omega)]
                exact gd_new o7 (by omega) (by omega) (by omega) ho
              refine wl_push (vs := [.slice A7 (n + 40) c7]) tyBB rfl s7.2.2.2.1 ⟨rfl, rfl, rfl, trivial⟩ rfl (by decide) rfl (by omega) (by simp only [maxLen]; omega) s7.2.2.1.2.2.2.1 rfl rfl fun p P8 cp8 w8 o8 g8 _ => ?_
              refine wl_as rfl rfl ?_; refine wl_nil ?_; refine we_block_norm ?_; refine we_seq ?_; refine wc_region ?_; refine wl_mv rfl rfl ?_; apply wl_val; apply opv_bin; exact rfl; exact rfl; exact bin_add64 (by omega); exact rfl; refine wl_as rfl rfl ?_; refine wl_nil ?_
              refine we_loop [(0, .slice Lp j c), (5, .slice P8 (gs ++ [Value.slice A7 (n + 40) c7]).length cp8), (9, .int .i64 ((q + 1 : Nat) : Int))] (j - (q + 1)) ⟨q + 1, P8, cp8, _, rfl, by omega, by simp [hgl]; omega, s7.push o8 g8 hgd, rfl⟩ (by omega) ⟨rfl, by rw [List.length_append]; rfl, by simp [lookT], trivial⟩
      · obtain rfl : q = j := by omega
        clear h1 hq
        have rg := Ow.rd s3.2.2.2.1
        have rv := s3.2.2.1.rd hr hL
        refine wc_exit ?_; refine we_seq_exit ?_; refine we_loop_exit ?_; refine we_block_exit ?_; refine we_seq ?_; refine wc_seq ?_; refine wc_sr ?_; refine wl_as rfl rfl ?_; refine wl_ns ?_; refine wc_block ?_
        refine wc_loop (fun L wr m => ∃ t : Nat, L = [(0, .slice Lp q c), (5, .slice P gs.length cp), (12, .int .i64 (t : Int))] ∧ t ≤ gs.length ∧ Below w3.heap.size w3 wr ∧ m = gs.length - t)
          [(0, .slice Lp q c), (5, .slice P gs.length cp), (12, .int .i64 (0 : Nat))] gs.length ⟨0, rfl, by omega, Below.refl _ _, rfl⟩ ⟨rfl, rfl, rfl, trivial⟩ ?_
        rintro _ w4 m ⟨t, rfl, ht, hb4, rfl⟩
        have rg4 := rg.below hb4
        refine wc_seq ?_; refine wc_sr ?_; refine wl_mv rfl rfl ?_; refine wl_mv rfl rfl ?_; apply wl_val; apply opv_len; exact rfl; exact tyBB.sl; exact rfl; refine wl_bin rfl rfl bin_lss rfl ?_; refine wl_ns ?_
        refine wc_cond rfl (fun h1 => ?_) (fun h1 => ?_)
        · obtain ⟨v, hv⟩ : ∃ v, gs[t]? = some v := ⟨_, List.getElem?_eq_getElem (by omega)⟩
          obtain ⟨b, n, cc, rfl, hnc, hn2, mb, _⟩ := s3.2.2.2.2 t v hv
          have rb : Rd w3 (some ⟨b, 0, none⟩) n (bvs (mkl (t % q) n)) := by have := mb.rd; unfold RdB at this; rw [mkl_length] at this; exact this
          have hq0 : 0 < q := by omega
          have htq : t % q < q := Nat.mod_lt _ hq0
          refine wc_skip ?_; refine we_seq ?_; refine wc_seq ?_; refine wc_block ?_; refine wc_sr ?_; refine wl_as rfl rfl ?_; refine wl_ns ?_; refine wc_block ?_
          refine wc_loop (fun L wr m => ∃ k : Nat, L = [(0, .slice Lp q c), (5, .slice P gs.length cp), (12, .int .i64 (t : Int)), (13, .int .i64 (k : Int))] ∧ k ≤ n ∧ Below w3.heap.size w3 wr ∧ m = n - k)
            [(0, .slice Lp q c), (5, .slice P gs.length cp), (12, .int .i64 (t : Int)), (13, .int .i64 (0 : Nat))] n ⟨0, rfl, by omega, hb4, rfl⟩ ⟨rfl, rfl, rfl, rfl, trivial⟩ ?_
          rintro _ w5 m ⟨k, rfl, hk, hb5, rfl⟩
          have rg5 := rg.below hb5
          have rb5 := rb.below hb5
          refine wc_seq ?_; refine wc_sr ?_; refine wl_mv rfl rfl ?_; refine wl_mv rfl rfl ?_; refine wl_mv rfl rfl ?_; apply wl_elK (T := tyBB) (hr := rg5) (hb := hv); exact rfl; exact rfl; exact rfl; exact rfl; exact rfl; intro _; apply wl_val; apply opv_len; exact rfl; exact tyB.sl; exact rfl; refine wl_bin rfl rfl bin_lss rfl ?_; refine wl_ns ?_
          refine wc_cond rfl (fun h2 => ?_) (fun h2 => ?_)
          · have hx := mkl_get (i := t % q) (show k < n by omega)
            refine wc_skip ?_; refine we_seq ?_; refine wc_seq ?_; refine wc_block ?_; refine wc_seq ?_
            refine wc_drawB mixed (by kernel_rfl) ?_
            apply wq_val; intro _ hw_; apply opv_move; exact rfl; exact rfl; apply wq_val; intro _ hw_; apply opv_move; exact rfl; exact rfl; apply wq_elK (T := tyBB) (hr := rg5) (hb := hv); exact rfl; exact rfl; exact rfl; exact rfl; exact rfl; intro _; apply wq_val; intro _ hw_; apply opv_move; exact rfl; exact rfl; apply wq_byK (T := tyB) (hr := rb5) (hb := hx); exact rfl; exact rfl; exact rfl; exact rfl; exact rfl; intro _; apply wq_val; intro _ hw_; apply opv_move; exact rfl; exact rfl; apply wq_val; intro _ hw_; apply opv_move; exact rfl; exact rfl; apply wq_val; intro _ hw_; apply opv_len; exact rfl; exact tyBB.sl; exact rfl; apply wq_val; intro _ hw_; apply opv_bin; exact rfl; exact rfl; exact bin_rem (by omega); exact rfl; apply wq_val; intro _ hw_; apply opv_move; exact rfl; exact rfl
            refine wq_call ok_caissonref01_mark (fun w hw => (mark_any (t % q) k (by omega) (by omega) w).mono (fun v w' h => ⟨(show v = Value.int .u8 ((mkb (t % q) k).toNat : Int) from h.1), h.2 ▸ hw⟩)) ⟨rfl, rfl, trivial⟩ rfl ?_
            apply wq_val; intro _ hw_; apply opv_bin; exact rfl; exact rfl; exact bin_neq; exact rfl; refine wq_nil fun w1 hw1 => ?_
            refine we_seq ?_
            refine wc_cond rfl (fun h => absurd rfl h) (fun _ => ?_)
            refine wc_skip ?_; refine we_block_norm ?_; refine we_seq ?_; refine wc_region ?_; refine wl_mv rfl rfl ?_; apply wl_val; apply opv_bin; exact rfl; exact rfl; exact bin_add64 (by omega); exact rfl; refine wl_as rfl rfl ?_; refine wl_nil ?_
            refine we_loop [(0, .slice Lp q c), (5, .slice P gs.length cp), (12, .int .i64 (t : Int)), (13, .int .i64 ((k + 1 : Nat) : Int))] (n - (k + 1)) ⟨k + 1, rfl, by omega, hb5.trans (hw1.mono hb5.size), rfl⟩ (by omega) ⟨rfl, rfl, rfl, by simp [lookT], trivial⟩
          · refine wc_exit ?_; refine we_seq_exit ?_; refine we_loop_exit ?_; refine we_block_exit ?_; refine we_block_norm ?_; refine we_seq ?_; refine wc_region ?_; refine wl_mv rfl rfl ?_; apply wl_val; apply opv_bin; exact rfl; exact rfl; exact bin_add64 (by omega); exact rfl; refine wl_as rfl rfl ?_; refine wl_nil ?_
            refine we_loop [(0, .slice Lp q c), (5, .slice P gs.length cp), (12, .int .i64 ((t + 1 : Nat) : Int))] (gs.length - (t + 1)) ⟨t + 1, rfl, by omega, hb5, rfl⟩ (by omega) ⟨rfl, rfl, by simp [lookT], trivial⟩
        · clear h1 ht
          refine wc_exit ?_; refine we_seq_exit ?_; refine we_loop_exit ?_; refine we_block_exit ?_; refine we_seq ?_; refine wc_seq ?_; refine wc_sr ?_; refine wl_as rfl rfl ?_; refine wl_ns ?_; refine wc_block ?_
          refine wc_loop (fun L wr m => ∃ t : Nat, L = [(0, .slice Lp q c), (14, .int .i64 (t : Int))] ∧ t ≤ q ∧ Below w3.heap.size w3 wr ∧ m = q - t)
            [(0, .slice Lp q c), (14, .int .i64 (0 : Nat))] q ⟨0, rfl, by omega, hb4, rfl⟩ ⟨rfl, rfl, trivial⟩ ?_
          rintro _ w4 m ⟨t, rfl, ht, hb4, rfl⟩
          refine wc_seq ?_; refine wc_sr ?_; refine wl_mv rfl rfl ?_; refine wl_mv rfl rfl ?_; apply wl_val; apply opv_len; exact rfl; exact tyBB.sl; exact rfl; refine wl_bin rfl rfl bin_lss rfl ?_; refine wl_ns ?_
          refine wc_cond rfl (fun h1 => ?_) (fun h1 => ?_)
          · obtain ⟨v, hv⟩ : ∃ v, vs[t]? = some v := ⟨_, List.getElem?_eq_getElem (by omega)⟩
            obtain ⟨A, n, cc, rfl, hd, hn2⟩ := s3.1.at hv
            refine wc_skip ?_; refine we_seq ?_; refine wc_seq ?_; refine wc_block ?_; refine wc_sr ?_; refine wl_as rfl rfl ?_; refine wl_ns ?_; refine wc_block ?_
            refine wc_loop (fun L wr m => ∃ k : Nat, L = [(0, .slice Lp q c), (14, .int .i64 (t : Int)), (15, .int .i64 (k : Int))] ∧ k ≤ n ∧ Below w3.heap.size w3 wr ∧ m = n - k)
              [(0, .slice Lp q c), (14, .int .i64 (t : Int)), (15, .int .i64 (0 : Nat))] n ⟨0, rfl, by omega, hb4, rfl⟩ ⟨rfl, rfl, rfl, trivial⟩ ?_
            rintro _ w5 m ⟨k, rfl, hk, hb5, rfl⟩
            have rv5 := rv.below hb5
            refine wc_seq ?_; refine wc_sr ?_; refine wl_mv rfl rfl ?_; refine wl_mv rfl rfl ?_; refine wl_mv rfl rfl ?_; apply wl_elK (T := tyBB) (hr := rv5) (hb := hv); exact rfl; exact rfl; exact rfl; exact rfl; exact rfl; intro _; apply wl_val; apply opv_len; exact rfl; exact tyB.sl; exact rfl; refine wl_bin rfl rfl bin_lss rfl ?_; refine wl_ns ?_
            refine wc_cond rfl (fun h2 => ?_) (fun h2 => ?_)
            · rcases hd with ⟨_, h0, _⟩ | ⟨g, cs, rfl, _, _, _, _⟩
              · omega
              have mb := s3.2.1 t _ n cc (by omega) hv
              have rb5 : Rd w5 (some ⟨g, 0, none⟩) n (bvs (mkl t n)) := by have := RdB.below mb.rd hb5; unfold RdB at this; rw [mkl_length] at this; exact this
              have hx := mkl_get (i := t) (show k < n by omega)
              refine wc_skip ?_; refine we_seq ?_; refine wc_seq ?_; refine wc_block ?_; refine wc_seq ?_
              refine wc_drawB mixed (by kernel_rfl) ?_
              apply wq_val; intro _ hw_; apply opv_move; exact rfl; exact rfl; apply wq_val; intro _ hw_; apply opv_move; exact rfl; exact rfl; apply wq_elK (T := tyBB) (hr := rv5) (hb := hv); exact rfl; exact rfl; exact rfl; exact rfl; exact rfl; intro _; apply wq_val; intro _ hw_; apply opv_move; exact rfl; exact rfl; apply wq_byK (T := tyB) (hr := rb5) (hb := hx); exact rfl; exact rfl; exact rfl; exact rfl; exact rfl; intro _; apply wq_val; intro _ hw_; apply opv_move; exact rfl; exact rfl; apply wq_val; intro _ hw_; apply opv_move; exact rfl; exact rfl
              refine wq_call ok_caissonref01_mark (fun w hw => (mark_any t k (by omega) (by omega) w).mono (fun v w' h => ⟨(show v = Value.int .u8 ((mkb t k).toNat : Int) from h.1), h.2 ▸ hw⟩)) ⟨rfl, rfl, trivial⟩ rfl ?_
              apply wq_val; intro _ hw_; apply opv_bin; exact rfl; exact rfl; exact bin_neq; exact rfl; refine wq_nil fun w1 hw1 => ?_
              refine we_seq ?_
              refine wc_cond rfl (fun h => absurd rfl h) (fun _ => ?_)
              refine wc_skip ?_; refine we_block_norm ?_; refine we_seq ?_; refine wc_region ?_; refine wl_mv rfl rfl ?_; apply wl_val; apply opv_bin; exact rfl; exact rfl; exact bin_add64 (by omega); exact rfl; refine wl_as rfl rfl ?_; refine wl_nil ?_
              refine we_loop [(0, .slice Lp q c), (14, .int .i64 (t : Int)), (15, .int .i64 ((k + 1 : Nat) : Int))] (n - (k + 1)) ⟨k + 1, rfl, by omega, hb5.trans (hw1.mono hb5.size), rfl⟩ (by omega) ⟨rfl, rfl, by simp [lookT], trivial⟩
            · refine wc_exit ?_; refine we_seq_exit ?_; refine we_loop_exit ?_; refine we_block_exit ?_; refine we_block_norm ?_; refine we_seq ?_; refine wc_region ?_; refine wl_mv rfl rfl ?_; apply wl_val; apply opv_bin; exact rfl; exact rfl; exact bin_add64 (by omega); exact rfl; refine wl_as rfl rfl ?_; refine wl_nil ?_
              refine we_loop [(0, .slice Lp q c), (14, .int .i64 ((t + 1 : Nat) : Int))] (q - (t + 1)) ⟨t + 1, rfl, by omega, hb5, rfl⟩ (by omega) ⟨rfl, by simp [lookT], trivial⟩
          · refine wc_exit ?_; refine we_seq_exit ?_; refine we_loop_exit ?_; refine we_block_exit ?_; refine we_seq ?_; refine wc_sr ?_; refine wl_as rfl rfl ?_; refine wl_ns ?_; refine wc_ret ?_
            exact we_ret1 rfl rfl ⟨_, rfl, rfl, s3.2.2.1.bel hb4⟩
theorem apart_any {Lp : Option Addr} {N c base : Nat} {vs : List Value} {w : World} (hr : Rd w Lp N vs) (hL : ∀ a, Lp = some a → ∀ v ∈ vs, v.ownBlock ≠ some a.block) (ho : Own1 w base vs) (hb : base ≤ w.heap.size) (hN : N ≤ 4194304) :
    CallsV Tryd.prog 38 #[.slice Lp N c] w fun v w' => v = .bool true ∧ Below base w w' :=
  (apartK_any hr hL ho hb hN).mono fun v w' ⟨h1, h2⟩ => ⟨h1, h2.below (fun v hv g hg => (ho.lt hv hg).2) hb⟩
end Go.Proofs.YtpnckagibkdcpaaDoor


/-
  Words for the laws that say that answers are memory of their own: what is answered is gathered in a list, each in a block of its own, and stays so.
-/
namespace Go.Proofs.YtpnckagibkdcpaaDoor
open Go.RowKit

/-- The slices of a list read as these rows. -/
def RdV (w : World) (vs : List Value) (rows : List (List UInt8)) : Prop :=
  vs.length = rows.length ∧ ∀ (i : Nat) (r : List UInt8), rows[i]? = some r → ∃ (A' : Option Addr) (c' : Nat), vs[i]? = some (Value.slice A' r.length c') ∧ RdB w A' r ∧ r.length ≤ c'
section
variable {w w' w0 : World} {A B : Option Addr} {vs vs' l1 l2 : List Value} {rows rows' : List (List UInt8)} {base b n c m : Nat}
theorem RdV.rd (h : RdV w vs rows) (hr : Rd w A n vs) (hn : rows.length = n) : RdBB w A rows := by subst hn; exact ⟨vs, hr, h.2⟩
theorem RdV.nil : RdV w [] [] := ⟨rfl, by simp⟩
theorem RdV.cons {r : List UInt8} (h : RdV w vs rows) (hr : RdB w A r) (hn : r.length = n) (hc : r.length ≤ c) : RdV w (.slice A n c :: vs) (r :: rows) := by
  subst hn
  refine ⟨by simp [h.1], fun i q hi => ?_⟩
  cases i with
  | zero => simp only [List.getElem?_cons_zero, Option.some.injEq] at hi; subst hi; exact ⟨A, c, rfl, hr, hc⟩
  | succ i => simpa using h.2 i q (by simpa using hi)
theorem RdV.append (h : RdV w vs rows) (h' : RdV w vs' rows') : RdV w (vs ++ vs') (rows ++ rows') := by
  refine ⟨by simp [h.1, h'.1], fun i q hi => ?_⟩
  rw [List.getElem?_append] at hi
  split at hi
  · rename_i hl
    rw [List.getElem?_append_left (by rw [h.1]; exact hl)]; exact h.2 i q hi
  · rename_i hl
    rw [List.getElem?_append_right (by rw [h.1]; omega), h.1]; exact h'.2 _ q hi
theorem RdV.bel (h : RdV w vs rows) (hb : Below w.heap.size w w') : RdV w' vs rows := ⟨h.1, fun i r hi => by
  obtain ⟨A', c', h1, h2, h3⟩ := h.2 i r hi
  exact ⟨A', c', h1, h2.below hb, h3⟩⟩
theorem RdV.gr (h : RdV w vs rows) (g : Gr w w' B) (hne : ∀ b, B = some b → ∀ v ∈ vs, v.ownBlock ≠ some b.block) : RdV w' vs rows := ⟨h.1, fun i r hi => by
  obtain ⟨A', c', h1, h2, h3⟩ := h.2 i r hi
  refine ⟨A', c', h1, Rd.gr h2 g fun a b ha hb => ?_, h3⟩
  have := hne b hb _ (List.mem_of_getElem? h1)
  rw [ownBlock_slice, ha] at this
  simpa using this⟩
theorem OwBB.rdv (h : OwBB w base A c rows) : ∃ vs, Ow w base 31 A rows.length c vs ∧ RdV w vs rows := by
  obtain ⟨vs, ho, hr, _⟩ := h
  refine ⟨vs, ho, ho.len, fun i r hi => ?_⟩
  obtain ⟨A', c', h1, h2, _⟩ := hr i r hi
  exact ⟨A', c', h1, OwB.rd h2, h2.cap⟩

theorem Own1.nil : Own1 w base [] := ⟨by simp, List.Pairwise.nil⟩
theorem Own1.bel (h : Own1 w base vs) (hb : Below w.heap.size w w') : Own1 w' base vs := h.st (X := none) (k := 0) (Sk.bel hb)
theorem Own1.mono {base' : Nat} (h : Own1 w base vs) (hb : base' ≤ base) : Own1 w base' vs := ⟨fun v hv => by
  obtain ⟨A, n, c, e, hd, hn⟩ := h.1 v hv
  refine ⟨A, n, c, e, ?_, hn⟩
  rcases hd with hd | ⟨g, cs, e1, e2, e3⟩
  · exact .inl hd
  · exact .inr ⟨g, cs, e1, Nat.le_trans hb e2, e3⟩, h.2⟩
theorem Own1.one (h : Hd w base A n c) (hn : n ≤ 1099511627776) : Own1 w base [.slice A n c] := ⟨by intro v hv; simp at hv; subst hv; exact ⟨A, n, c, rfl, h, hn⟩, by simp⟩
theorem own_symm {v v' : Value} (h : ∀ g, v.ownBlock = some g → v'.ownBlock ≠ some g) : ∀ g, v'.ownBlock = some g → v.ownBlock ≠ some g := fun g h1 h2 => h g h2 h1
/-- New lists are put between the others. -/
theorem Own1.ins (h : Own1 w base (l1 ++ l2)) (hb : Below w.heap.size w w') (h' : Own1 w' w.heap.size vs) (hbase : base ≤ w.heap.size) : Own1 w' base (l1 ++ (vs ++ l2)) := by
  have hk := h.bel hb
  have hp : (vs ++ l2 ++ l1).Pairwise fun v v' => ∀ g, v.ownBlock = some g → v'.ownBlock ≠ some g := by
    rw [List.append_assoc, List.pairwise_append]
    refine ⟨h'.2, ?_, fun v hv v' hv' g hg hg' => ?_⟩
    · have := h.2
      rw [List.pairwise_append] at this ⊢
      exact ⟨this.2.1, this.1, fun a ha b hb' => own_symm (this.2.2 b hb' a ha)⟩
    · have h1 := (h'.lt hv hg).2
      have h2 := (h.lt (show v' ∈ l1 ++ l2 by simp at hv' ⊢; exact hv'.symm) hg').1
      omega
  refine ⟨fun v hv => ?_, ?_⟩
  · simp only [List.mem_append] at hv
    rcases hv with hv | hv | hv
    · exact hk.1 v (by simp [hv])
    · exact (h'.mono hbase).1 v hv
    · exact hk.1 v (by simp [hv])
  · rw [List.pairwise_append] at hp ⊢
    exact ⟨hp.2.1, hp.1, fun a ha b hb' => own_symm (hp.2.2 b hb' a ha)⟩
/-- One new list is put at place k of the others. -/
theorem Own1.add {l : List Value} (k : Nat) (h : Own1 w base l) (hb : Below w.heap.size w w') (h' : Hd w' w.heap.size A n c) (hn : n ≤ 1099511627776) (hbase : base ≤ w.heap.size) : Own1 w' base (l.take k ++ .slice A n c :: l.drop k) :=
  Own1.ins (l1 := l.take k) (l2 := l.drop k) (by rw [List.take_append_drop]; exact h) hb (Own1.one h' hn) hbase
theorem OwBB.own (h : OwBB w base A c rows) (hl : rows.flatten.length ≤ 1099511627776) : ∃ vs, Ow w base 31 A rows.length c vs ∧ RdV w vs rows ∧ Own1 w base vs := by
  obtain ⟨vs, ho, hr, hp⟩ := h
  refine ⟨vs, ho, ⟨ho.len, fun i r hi => ?_⟩, fun v hv => ?_, hp⟩
  · obtain ⟨A', c', h1, h2, _⟩ := hr i r hi
    exact ⟨A', c', h1, OwB.rd h2, h2.cap⟩
  · obtain ⟨i, hi, rfl⟩ := List.getElem_of_mem hv
    have hil : i < rows.length := by have := ho.len; omega
    obtain ⟨A', c', h1, h2, _⟩ := hr i _ (List.getElem?_eq_getElem hil)
    rw [List.getElem?_eq_getElem hi] at h1
    simp only [Option.some.injEq] at h1
    have hm : rows[i].length ≤ rows.flatten.length := flat_mem (List.getElem?_eq_getElem hil)
    exact ⟨A', _, c', h1, h2.nw.hd, by omega⟩
theorem Own1.slices (h : Own1 w base vs) : ∀ u ∈ vs, u.oneCell' = true := fun u hu => by
  obtain ⟨A, n, c, rfl, _⟩ := h.1 u hu
  rfl
theorem own_ar {xs : List Value} (h : Ow w b 31 A n c xs) {a : Addr} (ha : A = some a) : ∃ cs, Ar w a.block 31 cs := by
  rcases h.2 with ⟨hv, _⟩ | ⟨g', cap, cur, hv, _, hg', _⟩
  · injection hv with hA; rw [ha] at hA; cases hA
  · injection hv with hA; rw [ha] at hA; cases hA
    exact ⟨cur.toList, by simpa [Ar] using hg'⟩
theorem ar_type {g : Nat} {t t' : TypeId} {cs cs' : List Value} (h : Ar w g t cs) (h' : Ar w g t' cs') : t = t' := by
  unfold Ar at h h'
  rw [h] at h'
  simp only [Option.some.injEq, Obj.cells.injEq] at h'
  exact h'.2.1
theorem Own1.row_ne {xs : List Value} (h : Own1 w base vs) (ho : Ow w b 31 A n c xs) : ∀ a, A = some a → ∀ v ∈ vs, v.ownBlock ≠ some a.block := fun a ha v hv hg => by
  obtain ⟨ds, hd⟩ := own_ar ho ha
  obtain ⟨A', n', c', rfl, hh, _⟩ := h.1 v hv
  rw [ownBlock_slice] at hg
  rcases hh with ⟨rfl, _⟩ | ⟨g, cs, rfl, _, har, _⟩
  · simp at hg
  · simp at hg; subst hg
    exact absurd (ar_type har hd) (by decide)
theorem Own1.row {xs : List Value} (h : Own1 w base vs) (ho : Ow w b 31 A n c xs) (g : Gr w w' A) : Own1 w' base vs := by
  refine h.st (X := none) (k := 0) ?_
  cases A with
  | none => exact Sk.other (g := 0) (t := 31) (cs := []) g (by simp) (.inl rfl) (by decide)
  | some a =>
    obtain ⟨ds, hd⟩ := own_ar ho rfl
    exact Sk.other (g := a.block) (t := 31) (cs := ds) g (by intro a' ha; cases ha; rfl) (.inr hd) (by decide)
/-- Bytes of one block change, and none other. -/
theorem Own1.sz {g : Nat} {cs cs' : List Value} (h : Own1 w base vs) (hg : Gr w w' (some ⟨g, 0, none⟩)) (ha : Ar w g 5 cs) (ha' : Ar w' g 5 cs') (hl : cs'.length = cs.length) : Own1 w' base vs := ⟨fun v hv => by
  obtain ⟨A, n, c, e, hd, hn⟩ := h.1 v hv
  refine ⟨A, n, c, e, ?_, hn⟩
  rcases hd with hd | ⟨g', ds, e1, e2, e3, e4, e5⟩
  · exact .inl hd
  · by_cases hgg : g' = g
    · subst hgg
      have : ds = cs := by
        unfold Ar at ha e3
        rw [ha] at e3
        simp only [Option.some.injEq, Obj.cells.injEq] at e3
        have := congrArg Array.toList e3.1
        simpa using this.symm
      subst this
      exact .inr ⟨g', cs', e1, e2, ha', e4, by omega⟩
    · refine .inr ⟨g', ds, e1, e2, ?_, e4, e5⟩
      unfold Ar
      rw [hg.block g' e3.lt (by simp; exact hgg)]
      exact e3, h.2⟩
/-- Where another block has changed. -/
theorem Ar.gr {g g' : Nat} {t : TypeId} {cs : List Value} (h : Ar w g t cs) (hg : Gr w w' (some ⟨g', 0, none⟩)) (hne : g ≠ g') : Ar w' g t cs := by
  unfold Ar
  rw [hg.block g h.lt (by simp; exact hne)]
  exact h
theorem OwBB.gr {g : Nat} (h : OwBB w base A c rows) (hg : Gr w w' (some ⟨g, 0, none⟩)) (hlt : g < base) : OwBB w' base A c rows := by
  obtain ⟨vs, ho, hr, hp⟩ := h
  refine ⟨vs, Ow.gr (base' := 0) (e' := 0) ho hg fun a b ha hb => ?_, fun i r hi => ?_, hp⟩
  · have := (Ow.lt ho a ha).1; cases hb; simp; omega
  · obtain ⟨A', c', h1, h2, h3⟩ := hr i r hi
    refine ⟨A', c', h1, Ow.gr (base' := 0) (e' := 0) h2 hg fun a b ha hb => ?_, h3⟩
    have := (Ow.lt h2 a ha).1; cases hb; simp; omega
/-- What has been gathered, ahead of the last test. -/
def Fin (w : World) (base : Nat) (vs ts : List Value) (rows : List (List UInt8)) (bA : Nat) (A : Option Addr) (n c : Nat) (bW : Nat) (W : Option Addr) (cW : Nat) : Prop :=
  Own1 w base (vs ++ ts) ∧ RdV w vs rows ∧ Ow w bA 31 A n c vs ∧ OwBB w bW W cW rows
theorem Fin.bel {ts : List Value} {bA bW cW : Nat} {W : Option Addr} (h : Fin w base vs ts rows bA A n c bW W cW) (hb : Below w.heap.size w w') : Fin w' base vs ts rows bA A n c bW W cW :=
  ⟨h.1.bel hb, h.2.1.bel hb, Ow.below h.2.2.1 hb (Nat.le_refl _), h.2.2.2.below hb⟩
theorem Fin.over {ts : List Value} {bA bW cW g : Nat} {W : Option Addr} {cs cs' : List Value} {v : Value} (h : Fin w base vs ts rows bA A n c bW W cW) (hg : Gr w w' (some ⟨g, 0, none⟩)) (ha : Ar w g 5 cs) (ha' : Ar w' g 5 cs') (hl : cs'.length = cs.length)
    (hv : v ∈ ts) (hvb : v.ownBlock = some g) (h1 : g < bA) (h2 : g < bW) : Fin w' base vs ts rows bA A n c bW W cW := by
  obtain ⟨o, r, a, W⟩ := h
  have hp := o.2
  rw [List.pairwise_append] at hp
  refine ⟨o.sz hg ha ha' hl, r.gr hg fun b hb u hu hc => hp.2.2 u hu v hv g ?_ hvb, Ow.gr (base' := 0) (e' := 0) a hg fun a' b ha' hb => ?_, W.gr hg h2⟩
  · cases hb; exact hc
  · have := (Ow.lt a a' ha').1; cases hb; simp; omega
end
end Go.Proofs.YtpnckagibkdcpaaDoor


/-
  Pieces of bytes that lie apart, told for the test of the reference's Apart.
-/
namespace Go.Proofs.YtpnckagibkdcpaaDoor
open Go.RowKit

/-- The slices of an entry. -/
def enSl (a : EnA) : List Value := [.slice a.A a.x.key.length a.c, .slice a.B a.x.val.length a.d]
/-- Pieces of bytes and their slices. -/
inductive ByP : List Cd → List Value → Prop
  | nil : ByP [] []
  | cons {A : Option Addr} {n c : Nat} {xs : List Value} {H : List Cd} {vs : List Value} : n ≤ 1099511627776 → ByP H vs → ByP (.ow 5 A n c xs :: H) (.slice A n c :: vs)
  | jk {A : Option Addr} {n c : Nat} {H : List Cd} {vs : List Value} : n ≤ 1099511627776 → ByP H vs → ByP (.ck (jk A n c) :: H) (.slice A n c :: vs)
theorem ByP.append {H H' : List Cd} {vs vs' : List Value} (h : ByP H vs) (h' : ByP H' vs') : ByP (H ++ H') (vs ++ vs') := by
  induction h with
  | nil => exact h'
  | cons hn _ ih => exact .cons hn ih
  | jk hn _ ih => exact .jk hn ih
theorem ow_hd {w : World} {A : Option Addr} {n c base : Nat} {xs : List Value} {S : BS} (h : (Cd.ow 5 A n c xs).P w S) (hb : ∀ b, S b → base ≤ b) : Hd w base A n c := by
  rcases h.2.2 with ⟨hv, hn⟩ | ⟨g, cap, cur, hv, _, hg, hnc, _, hsz, _⟩
  · injection hv with hA _ hc; exact .inl ⟨hA, hn, hc⟩
  · injection hv with hA _ hc
    refine .inr ⟨g, cur.toList, hA, hb g (h.1 ⟨g, 0, none⟩ hA), by unfold Ar; simpa using hg, by omega, by simp; omega⟩
/-- All blocks that the slices lie in are blocks of the set. -/
theorem byP_in {w : World} {H : List Cd} {vs : List Value} (h : ByP H vs) : ∀ {S : BS}, Sat w H S → ∀ v ∈ vs, ∀ g, v.ownBlock = some g → S g := by
  induction h with
  | nil => intro S _ v hv; cases hv
  | @cons A n c xs H vs hn _ ih =>
    rintro S ⟨T, hT, hc, hr⟩ v hv g hg
    rcases List.mem_cons.1 hv with rfl | hv
    · rw [ownBlock_slice] at hg
      cases A with
      | none => cases hg
      | some a => simp at hg; subst hg; exact hT _ (hc.1 a rfl)
    · exact (ih hr v hv g hg).1
  | @jk A n c H vs hn _ ih =>
    rintro S ⟨T, hT, ⟨xs, hx, hc⟩, hr⟩ v hv g hg
    rcases List.mem_cons.1 hv with rfl | hv
    · rw [ownBlock_slice] at hg
      cases A with
      | none => cases hg
      | some a => simp at hg; subst hg; exact hT _ (hc.1 a rfl)
    · exact (ih hr v hv g hg).1
theorem byP_own {w : World} {base : Nat} {H : List Cd} {vs : List Value} (h : ByP H vs) : ∀ {S : BS}, Sat w H S → (∀ b, S b → base ≤ b) → Own1 w base vs := by
  have key : ∀ {A : Option Addr} {n c : Nat} {vs : List Value} {T S' : BS}, (∀ a, A = some a → T a.block) → Hd w base A n c → n ≤ 1099511627776 → Own1 w base vs → (∀ v ∈ vs, ∀ g, v.ownBlock = some g → ¬ T g) → Own1 w base (.slice A n c :: vs) := by
    intro A n c vs T S' hA hd hn ho hin
    refine ⟨fun v hv => ?_, List.pairwise_cons.2 ⟨fun v hv g hg hg' => ?_, ho.2⟩⟩
    · rcases List.mem_cons.1 hv with rfl | hv
      · exact ⟨A, n, c, rfl, hd, hn⟩
      · exact ho.1 v hv
    · rw [ownBlock_slice] at hg
      cases A with
      | none => cases hg
      | some a => simp at hg; subst hg; exact hin v hv _ hg' (hA a rfl)
  induction h with
  | nil => intro S _ _; exact Own1.nil
  | @cons A n c xs H vs hn hH ih =>
    rintro S ⟨T, hT, hc, hr⟩ hb
    exact key (S' := S) hc.1 (ow_hd hc fun b h => hb b (hT b h)) hn (ih hr fun b h => hb b h.1) fun v hv g hg => (byP_in hH hr v hv g hg).2
  | @jk A n c H vs hn hH ih =>
    rintro S ⟨T, hT, ⟨xs, hx, hc⟩, hr⟩ hb
    exact key (S' := S) hc.1 (ow_hd hc fun b h => hb b (hT b h)) hn (ih hr fun b h => hb b h.1) fun v hv g hg => (byP_in hH hr v hv g hg).2
theorem es_byP : ∀ {es : List EnA}, (∀ a ∈ es, a.x.key.length ≤ 1099511627776 ∧ a.x.val.length ≤ 1099511627776) → ByP (es.flatMap enM) (es.flatMap enSl)
  | [], _ => .nil
  | a :: es, h => by
    obtain ⟨h1, h2⟩ := h a List.mem_cons_self
    exact .cons h1 (.cons h2 (es_byP fun b hb => h b (List.mem_cons_of_mem _ hb)))
end Go.Proofs.YtpnckagibkdcpaaDoor


/-
  Walk over the law MemKeeps.
-/
namespace Go.Proofs.YtpnckagibkdcpaaDoor
open Go.RowKit

theorem blk_ow {w : World} {g : Nat} {cs : List Value} {S : BS} (h : (Cd.blk g 5 cs).P w S) (hl : cs.length ≤ maxLen) : (Cd.ow 5 (some ⟨g, 0, none⟩) cs.length cs.length cs).P w S := by
  refine ⟨fun a ha => by cases ha; exact h.1, by simp, .inr ⟨g, cs.length, cs.toArray, rfl, Nat.zero_le _, h.2, Nat.le_refl _, hl, by simp, by simp⟩⟩
/-- A copy with its spare room, as one piece. -/
def spP (x : List UInt8 × Nat) : Cd := .ow 5 (some ⟨x.2, 0, none⟩) (x.1.length + 40) (x.1.length + 40) (bvs (spareL x.1))
def spV (x : List UInt8 × Nat) : Value := .slice (some ⟨x.2, 0, none⟩) (x.1.length + 40) (x.1.length + 40)
theorem St.newSp {M : BS} {w0 w w' : World} {H : List Cd} {g : Nat} {xs : List UInt8} (hs : St M w0 w H) (hb : Below w.heap.size w w') (hg : w.heap.size ≤ g) (ha : Ar w' g 5 (bvs (spareL xs))) (hl : xs.length ≤ 1099511627776) : St M w0 w' (spP (xs, g) :: H) := by
  refine (hs.newA hb hg ha).map fun S h => h.mapC fun T h => ?_
  have hlen : (bvs (spareL xs)).length = xs.length + 40 := by rw [bvs_length, spareL_length]
  have := blk_ow h (by rw [hlen]; simp only [maxLen]; omega)
  rwa [hlen] at this
theorem sp_rd {w : World} {x : List UInt8 × Nat} {S : BS} (h : (spP x).P w S) : RdB w (some ⟨x.2, 0, none⟩) (spareL x.1) ∧ RdB w (some ⟨x.2, 0, none⟩) x.1 := by
  have h1 : RdB w (some ⟨x.2, 0, none⟩) (spareL x.1) := by
    have := h.2.rd
    unfold RdB
    rw [spareL_length]; exact this
  refine ⟨h1, ?_⟩
  have h2 := Rd.cut (l := 0) (h := x.1.length) (c := x.1.length + 40) h.2.rd (Nat.zero_le _) (by omega) (Nat.le_refl _)
  rw [cutA_zero, Nat.sub_zero, List.drop_zero] at h2
  unfold RdB
  have e : (bvs (spareL x.1)).take x.1.length = bvs x.1 := by rw [bvs, ← List.map_take, spareL_take]; rfl
  rw [e] at h2
  exact h2
theorem St.sp {M : BS} {w0 w : World} {H : List Cd} {x : List UInt8 × Nat} (hs : St M w0 w H) (i : Nat) (hi : nthC H i = some (spP x)) : RdB w (some ⟨x.2, 0, none⟩) (spareL x.1) := by
  obtain ⟨T, hc, _⟩ := hs.get i hi
  exact (sp_rd hc).1
theorem sp_byP : ∀ {xs : List (List UInt8 × Nat)}, (∀ x ∈ xs, x.1.length ≤ 1048576) → ByP (xs.map spP) (xs.map spV)
  | [], _ => .nil
  | x :: xs, h => .cons (by have := h x List.mem_cons_self; omega) (sp_byP fun y hy => h y (List.mem_cons_of_mem _ hy))
theorem zip_take {α β : Type} {l : List α} {r : List β} {i : Nat} {a : α} {b : β} (ha : l[i]? = some a) (hb : r[i]? = some b) : (l.zip r).take (i + 1) = (l.zip r).take i ++ [(a, b)] := take_getR (by rw [List.getElem?_zip_eq_some]; exact ⟨ha, hb⟩)
theorem sorted_mem7 {l : List En} {p : En → Prop} (h : ∀ x ∈ l, p x) : (sortedE l).length ≤ l.length ∧ ∀ x ∈ sortedE l, p x := by
  have := fold_facts h l.length
  rw [List.take_length] at this
  exact this
theorem lessE_asym7 {a b : En} (h : lessE a b = true) : lessE b a = false := by
  cases h2 : lessE b a with
  | false => rfl
  | true => have := lessE_trans h h2; rw [lessE_irr] at this; cases this
theorem pos_end7 {l : List En} {x : En} (h : ∀ y ∈ l, lessE y x = true) : posE l x l.length = l.length := by
  cases hl : l.length with
  | zero => rfl
  | succ k =>
    obtain ⟨y, hy⟩ : ∃ y, l[k]? = some y := ⟨_, List.getElem?_eq_getElem (by omega)⟩
    have h1 := lessE_asym7 (h y (List.mem_of_getElem? hy))
    rw [posE, hy]; simp [h1]
/-- What stands behind all others is put in at the end. -/
theorem ins_end7 {l : List En} {x : En} (h : ∀ y ∈ l, lessE y x = true) : inE l x = false ∧ insE l x = l ++ [x] := by
  refine ⟨List.any_eq_false.2 fun y hy => ?_, by rw [insE, pos_end7 h, List.take_length, List.drop_length, List.append_nil]⟩
  have := h y hy
  simp only [decide_eq_true_eq, not_and]
  intro hk hs
  rw [lessE_iff, hk, cmp_refl] at this
  omega
theorem put_one {l : List En} {x : En} (h : ∀ y ∈ l, lessE y x = true) (hc : bigE x = false ∧ badE x = false) : putC l [x] = 0 ∧ putL l [x] = l ++ [x] := by
  obtain ⟨h1, h2⟩ := ins_end7 h
  have hck : checkE [x] = 0 := check_of fun y hy => by rw [List.mem_singleton.1 hy]; exact hc
  have hz : putC l [x] = 0 := by
    rw [putC, if_pos hck, show okP l [x] [x].length = true by rw [show [x].length = 0 + 1 from rfl, okP_succ (x := x) rfl, h1]; rfl]; rfl
  exact ⟨hz, by rw [putL, if_pos hz]; exact h2⟩
theorem ord_take {l : List En} (ho : Ord l) {j : Nat} {x : En} (hx : l[j]? = some x) : ∀ y ∈ l.take j, lessE y x = true := fun y hy => by
  obtain ⟨i, hi, rfl⟩ := List.getElem_of_mem hy
  rw [List.length_take] at hi
  obtain ⟨hj, rfl⟩ := List.getElem?_eq_some_iff.1 hx
  rw [List.getElem_take]
  exact (List.pairwise_iff_getElem.1 ho) i j (by omega) hj (by omega)
theorem Rd.mod_old {w0 w : World} {A : Option Addr} {n : Nat} {xs : List Value} (h : Rd w0 A n xs) (hm : Mod NoB w0 w) : Rd w A n xs := h.below hm.below
/-- Pieces of bytes are told apart by the reference; the other pieces stay. -/
theorem apartS_any {w0 w : World} {V : Option Addr} {N c : Nat} {vs : List Value} {H1 H2 : List Cd} (hs : St NoB w0 w (.ow 31 V N c vs :: .ck (packC H1) :: H2)) (hby : ByP H1 vs) (hN : N ≤ 4194304) :
    CallsV Tryd.prog 38 #[.slice V N c] w fun v w' => v = .bool true ∧ St NoB w0 w' H2 := by
  have hrd := (hs.ow 0 rfl).rd
  obtain ⟨hm, T, hT, hV, U, hU, hpk, hr⟩ := hs
  have hpk : Sat w H1 U := hpk
  have hin := byP_in hby hpk
  have hbase : ∀ b, U b → w0.heap.size ≤ b := fun b h => (hU b h).1.elim (fun k => k.elim) id
  refine (apartK_any (base := w0.heap.size) hrd (fun a ha v hv hg => (hU _ (hin v hv _ hg)).2 (hV.1 a ha)) (byP_own hby hpk hbase) hm.size hN).mono fun v w' ⟨hv, h1, h2, h3, h4, h5⟩ => ⟨hv, ?_, ?_⟩
  · refine ⟨h1.trans hm.os, h2.trans hm.tape, h3.trans hm.output, Nat.le_trans hm.size h4, fun b hb hn => ?_⟩
    rw [h5 b (Nat.lt_of_lt_of_le hb hm.size) fun v hv hg => by have := hbase b (hin v hv b hg); omega]
    exact hm.block b hb hn
  · exact hr.move h4 fun b hb k => ⟨k.1.1, h5 b hb fun v hv hg => k.2 (hin v hv b hg)⟩
theorem zip_perm {α β : Type} (f : α → List β) : ∀ {l r : List α}, l.length = r.length → (l.flatMap f ++ r.flatMap f).Perm ((l.zip r).flatMap fun p => f p.1 ++ f p.2)
  | [], [], _ => .refl _
  | a :: l, b :: r, h => by
    have ih := zip_perm f (l := l) (r := r) (by simpa using h)
    rw [List.zip_cons_cons, List.flatMap_cons, List.flatMap_cons, List.flatMap_cons, List.append_assoc, List.append_assoc]
    refine List.Perm.append_left _ ?_
    rw [← List.append_assoc]
    refine (List.perm_append_comm.append_right _).trans ?_
    rw [List.append_assoc]
    exact ih.append_left _
  | [], _ :: _, h => by simp at h
  | _ :: _, [], h => by simp at h
abbrev prM (p : EnA × EnA) : List Cd := enM p.1 ++ enM p.2
abbrev prSl (p : EnA × EnA) : List Value := enSl p.1 ++ enSl p.2
theorem zip_byP : ∀ {zs : List (EnA × EnA)}, (∀ p ∈ zs, (p.1.x.key.length ≤ 1048576 ∧ p.1.x.val.length ≤ 1048576) ∧ (p.2.x.key.length ≤ 1048576 ∧ p.2.x.val.length ≤ 1048576)) → ByP (zs.flatMap prM) (zs.flatMap prSl)
  | [], _ => .nil
  | p :: zs, h => by
    obtain ⟨⟨h1, h2⟩, h3, h4⟩ := h p List.mem_cons_self
    exact .cons (by omega) (.cons (by omega) (.cons (by omega) (.cons (by omega) (zip_byP fun q hq => h q (List.mem_cons_of_mem _ hq)))))
theorem St.es7 {M : BS} {w0 w : World} {H : List Cd} {A : Option Addr} {c : Nat} {l : List En} (hs : St M w0 w (.ck (rsC 4 39 A c (l.map oE)) :: H)) : ∃ es : List EnA, es.map (·.x) = l ∧ St M w0 w (.rg 4 39 A c ((es.map eaV).map rawEl) :: .ck (packC (es.flatMap enM)) :: H) := by
  obtain ⟨⟨es, he⟩, h⟩ := hs.unpackE (α := { es : List EnA // es.map (·.x) = l }) (H1 := fun es => [.rg 4 39 A c ((es.1.map eaV).map rawEl), .ck (packC (es.1.flatMap enM))]) fun T h => by
    obtain ⟨es, e1, e2⟩ := rs_es h
    refine ⟨⟨es, e1⟩, ?_⟩
    rw [List.map_map]
    exact Sat.packR (X := [.rg 4 39 A c (es.map fun a => rawEl (eaV a))]) e2 fun T h => h
  exact ⟨es, he, h⟩
theorem zip_of_es {w : World} : ∀ {es : List EnA} {S : BS}, Sat w (es.flatMap enM) S → Sat w (zipCe ((es.map (·.x)).map oE) (es.map eaV)) S
  | [], _, _ => trivial
  | a :: es, S, h => by
    rw [List.flatMap_cons] at h
    obtain ⟨T, hT, h1, h2⟩ := h.append
    exact ⟨T, hT, ⟨a.A, a.c, a.B, a.d, rfl, h1⟩, zip_of_es h2⟩
/-- The other way round. -/
theorem St.es_rs {M : BS} {w0 w : World} {H : List Cd} {A : Option Addr} {c : Nat} {es : List EnA} (hs : St M w0 w (.rg 4 39 A c ((es.map eaV).map rawEl) :: .ck (packC (es.flatMap enM)) :: H)) : St M w0 w (.ck (rsC 4 39 A c ((es.map (·.x)).map oE)) :: H) := by
  refine St.pack (H1 := [.rg 4 39 A c ((es.map eaV).map rawEl), .ck (packC (es.flatMap enM))]) hs _ fun w S ⟨T, hT, h1, U, hU, h2, _⟩ => ⟨es.map eaV, by simp, T, hT, h1, ?_⟩
  exact (zip_of_es (show Sat w (es.flatMap enM) U from h2)).mono fun b _ h => hU b h
theorem pks7 {w : World} : ∀ {Hs : List (List Cd)} {S : BS}, Sat w (Hs.map fun H => .ck (packC H)) S → Sat w Hs.flatten S
  | [], _, _ => trivial
  | H :: Hs, S, ⟨T, hT, hc, hr⟩ => by
    rw [List.flatten_cons]
    exact Sat.join hT hc (pks7 hr)
set_option maxRecDepth 8000 in
theorem keeps7_any {A B : Option Addr} {n c nb cb : Nat} {l0 : List En} {key : List UInt8} {w : World} (hr : RdR 4 w All A (l0.map enEl)) (hn : l0.length = n) (hc : n ≤ c) (hsq : ∀ x ∈ l0, x.seq < 2 ^ 64) (hl : sumB enB l0 ≤ 1048576) (hk : RdB w B key) (hnb : key.length = nb) (_hkl : nb ≤ cb) (_hkl2 : key.length ≤ 1048576) (hg : GT w) :
    CallsV Tryd.prog 6 #[.slice A n c, .slice B nb cb] w (RetTr w) := by
  obtain ⟨hl1, hok1⟩ := ent_small hl
  subst hnb
  have hs := St.init w
  refine calls_in (N := _) Tryd.func6 rfl Tryd.ntmps6 rfl ?_; show WC _ _ _ _ _ _
  refine wc_sr ?_; refine wl_as rfl rfl ?_; refine wl_ns ?_; refine wc_seq ?_; refine wc_sr ?_
  refine wl_call ok_caissonlaw07_awake (awake7_any hg) trivial rfl ?_; rintro _ _ ⟨rfl, hbx⟩; replace hs := hs.below hbx; try dsimp only [List.cons_append, List.nil_append, setC, delC] at hs
  apply wl_val; apply opv_not; exact rfl; exact rfl; refine wl_ns ?_; apply wc_condFb; exact rfl; exact Bool.not_true; refine wc_skip ?_; refine we_seq ?_; refine wc_sr ?_; refine wl_mv rfl rfl ?_
  refine wl_call ok_caissonlaw07_few (few7_any (m := 20) hn hc) ⟨rfl, rfl, trivial⟩ rfl ?_; rintro _ _ ⟨rfl, rfl⟩
  have hr2 := take_rdr (m := 20) hr (by omega)
  have hokA : ∀ x ∈ l0.take 20, (x.key.length ≤ 1048576 ∧ x.val.length ≤ 1048576) ∧ x.seq < 2 ^ 64 := fun x hx => ⟨hok1 x (few_mem hx), hsq x (few_mem hx)⟩
  have hlen : (l0.take 20).length ≤ 20 := by rw [List.length_take]; omega
  obtain ⟨k, hk'⟩ : ∃ q, l0.take 20 = q := ⟨_, rfl⟩
  rw [hk'] at hr2 hokA hlen
  rw [hk']
  clear hr hok1 hsq hk'
  refine wl_call ok_caissonref07_Sorted (sorted_any (hr2.below hs.bel) rfl (fun x hx => by have := (hokA x hx).1; simp only [maxLen]; omega) (by omega)) ⟨rfl, trivial⟩ rfl ?_
  rintro _ w2 ⟨P, cp, rfl, hcp, hl2, hbx2⟩
  obtain ⟨hsl, hsm⟩ := sorted_mem7 hokA
  obtain ⟨hord, hchk⟩ := sorted_ok k
  obtain ⟨l, hld⟩ : ∃ q, sortedE k = q := ⟨_, rfl⟩
  rw [hld] at hl2 hsl hsm hord hchk hcp
  rw [hld]
  have hbw2 := hs.bel.trans (hbx2.mono hs.size)
  have hl2 := hl2.all
  replace hg := hg.below hbw2
  replace hk := hk.below hbw2
  clear hs hbx hld hbx2 hr2 hokA
  have hs := St.init w2
  have hmx : ∀ x ∈ l, x.key.length ≤ 1048576 ∧ x.val.length ≤ 1048576 := fun x hx => (hsm x hx).1
  have htz : ∀ j, tszE (l.take j) ≤ 1048576 * 2097152 := fun j => by
    have h2 := tsz_mem (l := l.take j) (b := 2097152) fun y hy => by have := hmx y (List.mem_of_mem_take hy); omega
    have h3 : (l.take j).length ≤ 1048576 := by simp; omega
    exact Nat.le_trans h2 (Nat.mul_le_mul_right _ h3)
  refine wl_as rfl rfl ?_; refine wl_ns ?_; refine wc_sr ?_
  refine wl_call ok_mem_New new_any trivial rfl ?_
  rintro _ w3 ⟨t, rfl, hsx⟩
  replace hs := (St.pk (H1 := []) (show St NoB w2 w3 ([] ++ [Cd.ck (tblC t [])]) from hs.call hsx)).nilO 31
  clear hsx
  unfold pN
  refine wl_as rfl rfl ?_; refine wl_ns ?_; refine wc_sr ?_; refine wl_as rfl rfl ?_; refine wl_ns ?_; refine wc_seq ?_; refine wc_sr ?_; refine wl_mv rfl rfl ?_; apply wl_val; apply opv_len; exact rfl; exact tkE.sl; exact rfl; refine wl_mv rfl rfl ?_; refine wl_ns ?_; refine wc_block ?_
  refine wc_loop (fun L wr mm => ∃ (j : Nat) (V : Option Addr) (cv : Nat) (sps : List (List UInt8 × Nat)), L = [(0, .slice P l.length cp), (1, .slice B key.length cb), (5, .pointer (some ⟨t, 0, none⟩)), (6, .slice V (2 * j) cv), (24, .slice P l.length cp), (25, .int .i64 (l.length : Int)), (26, .int .i64 (j : Int))] ∧ j ≤ l.length ∧ sps.length = 2 * j ∧ (∀ x ∈ sps, x.1.length ≤ 1048576) ∧ St NoB w2 wr [.ow 31 V (2 * j) cv (sps.map spV), .ck (packC (sps.map spP)), .ck (tblC t (l.take j))] ∧ mm = l.length - j)
    [(0, .slice P l.length cp), (1, .slice B key.length cb), (5, .pointer (some ⟨t, 0, none⟩)), (6, .slice none 0 0), (24, .slice P l.length cp), (25, .int .i64 (l.length : Int)), (26, .int .i64 (0 : Nat))] l.length ⟨0, none, 0, [], rfl, by omega, rfl, by simp, hs, rfl⟩ ⟨rfl, rfl, rfl, rfl, rfl, rfl, rfl, trivial⟩ ?_
  clear hs
  rintro _ w4 mm ⟨j, V, cv, sps, rfl, hj, hsp, hspm, hs, rfl⟩
  refine wc_sr ?_; refine wl_bin rfl rfl bin_lss rfl ?_; refine wl_ns ?_; refine wc_seq ?_
  refine wc_cond rfl (fun h1 => ?_) (fun h1 => ?_)
  · obtain ⟨x, hx⟩ : ∃ x, l[j]? = some x := ⟨_, List.getElem?_eq_getElem (by omega)⟩
    have hxm := List.mem_of_getElem? hx
    have hox := hmx x hxm
    obtain ⟨hput, hputL⟩ := put_one (ord_take hord hx) (hchk x hxm)
    rw [← take_getR hx] at hputL
    obtain ⟨b, o, cs, rfl, _, _, hp, i1⟩ := RdR.at (k := 4) (by decide) hl2 (E := enEl x) (i := j) (by rw [List.getElem?_map, hx]; rfl)
    obtain ⟨X, cx, Y, cy, rfl, rx, _, ry, _⟩ := enEl.rd hp
    replace i1 := i1.below hs.bel
    refine wc_skip ?_; refine we_seq ?_; refine wc_seq ?_; refine wc_block ?_; refine wc_sr ?_; apply wl_val; apply opv_idxG tkE; exact rfl; exact rfl; exact rfl; omega; exact rfl; apply wl_val; apply opv_ldG; exact rfl; assumption; exact sE; exact rfl
    refine ws_var (cs := enV x X cx Y cy) hs zeroE sE rfl (fun _ => rfl) (by first | rfl | simp [Value.oneCell']) rfl ?_; clear hs; intro g8 _ hs
    unfold enV at hs
    refine wl_ns ?_; refine wc_sr ?_; apply wl_val; apply opv_fa; exact fa_sE (by decide); exact rfl; exact rfl; apply wl_val; apply opv_ldX; exact rfl; exact hs.ar 0 rfl; exact e1_by; exact rfl; exact rfl
    refine wl_call ok_caissonref01_Spare (spare_any (xs := x.key) (rx.below hs.bel) rfl (by omega)) ⟨rfl, trivial⟩ rfl ?_
    rintro _ w5 ⟨g1, rfl, hg1, ha1, hbx⟩
    replace hs := hs.newSp hbx hg1 ha1 (by omega)
    clear hg1 ha1 hbx
    refine wl_mv rfl rfl ?_; apply wl_val; apply opv_extract; exact rfl; exact rfl; exact rfl; apply wl_val; apply opv_extract; exact rfl; exact rfl; exact rfl; refine wl_as rfl rfl ?_; refine wl_as rfl rfl ?_; refine wl_ns ?_; refine wc_sr ?_; apply wl_val; apply opv_fa; exact fa_sE (by decide); exact rfl; exact rfl; apply wl_val; apply opv_ldX; exact rfl; exact hs.ar 1 rfl; exact e1_by; exact rfl; exact rfl
    refine wl_call ok_caissonref01_Spare (spare_any (xs := x.val) (ry.below hs.bel) rfl (by omega)) ⟨rfl, trivial⟩ rfl ?_
    rintro _ w6 ⟨g2, rfl, hg2, ha2, hbx⟩
    replace hs := hs.newSp hbx hg2 ha2 (by omega)
    clear hg2 ha2 hbx
    refine wl_mv rfl rfl ?_; apply wl_val; apply opv_extract; exact rfl; exact rfl; exact rfl; apply wl_val; apply opv_extract; exact rfl; exact rfl; exact rfl; refine wl_as rfl rfl ?_; refine wl_as rfl rfl ?_; refine wl_ns ?_; refine wc_seq ?_; refine wc_sr ?_; refine wl_mv rfl rfl ?_; refine wl_mv rfl rfl ?_; apply wl_val; apply opv_fa; exact fa_sE (by decide); exact rfl; exact rfl; apply wl_val; apply opv_ldX; exact rfl; exact hs.ar 2 rfl; exact e1_u64; exact rfl; exact rfl; apply wl_val; apply opv_fa; exact fa_sE (by decide); exact rfl; exact rfl; apply wl_val; apply opv_ldX; exact rfl; exact hs.ar 2 rfl; exact e1_u8; exact rfl; exact rfl; refine wl_mv rfl rfl ?_
    refine wl_val (opv_build (vs := [(0, .slice (some ⟨g1, 0, none⟩) x.key.length (x.key.length + 40)), (1, .int .u64 (x.seq : Int)), (2, .int .u8 (x.kind.toNat : Int)), (3, .slice (some ⟨g2, 0, none⟩) x.val.length (x.val.length + 40))]) (cs := enV x (some ⟨g1, 0, none⟩) (x.key.length + 40) (some ⟨g2, 0, none⟩) (x.val.length + 40)) ⟨rfl, rfl, rfl, rfl, rfl, rfl, rfl, rfl, trivial⟩ (by kernel_rfl)) rfl ?_
    skip
    refine wl_bsG (css := [enV x (some ⟨g1, 0, none⟩) (x.key.length + 40) (some ⟨g2, 0, none⟩) (x.val.length + 40)]) tkE ⟨rfl, ⟨_, rfl, rfl⟩, rfl, trivial⟩ (els := [enV x (some ⟨g1, 0, none⟩) (x.key.length + 40) (some ⟨g2, 0, none⟩) (x.val.length + 40)].map rawEl) (S := NoB) rfl (by decide) (by decide) (grp_raw (by simp [enV])) rfl fun R w7 hR hbx _ => ?_
    replace hs := hs.newG hbx hR (Nat.le_refl _) fun _ _ h => h.elim
    clear hR hbx
    skip
    obtain ⟨S2, hS2, _, hM, hH, hB⟩ := St.lend (H1 := [.ck (tblC t (l.take j))]) (H2 := [_, _, _, _, _, _]) (hs.front 6 rfl)
    have hrd : RdR 4 w7 (fun b => Fr NoB w2 b ∧ ¬ S2 b) R ([x].map enEl) := by
      obtain ⟨T1, hT1, hrg, T2, hT2, h2, T3, hT3, h3, _⟩ := hH w7 (Mod.refl _ _)
      obtain ⟨ho, _⟩ := OwR.raw (css := [enV x (some ⟨g1, 0, none⟩) (x.key.length + 40) (some ⟨g2, 0, none⟩) (x.val.length + 40)]) hrg.2
      refine ⟨[enV x (some ⟨g1, 0, none⟩) (x.key.length + 40) (some ⟨g2, 0, none⟩) (x.val.length + 40)], Grp.one (E := enEl x) (enEl.mk (byEl.mk (sp_rd h3).2 (by omega) fun a ha _ => ?_) (byEl.mk (sp_rd h2).2 (by omega) fun a ha _ => ?_)) rfl, own_rd ho, fun a ha _ => hT1 _ (hrg.1 a ha)⟩
      · exact (hT3 _ (h3.1 a ha)).1.1
      · exact (hT2 _ (h2.1 a ha)).1
    refine wl_call ok_mem_Table_Put (put_any (n := 1) (c := 1) (xs := l.take j) (l := [x]) hS2 (hord.sublist (List.take_sublist _ _)) hrd (fun b _ h => h.2) rfl (by simp) (by simp; omega) (by have := htz j; omega) fun w' hm => hg.mod (hM w' hm) id) ⟨rfl, rfl, trivial⟩ rfl ?_
    rintro _ w8 ⟨rfl, hsx⟩
    replace hs := hB _ _ hsx
    clear hB hsx hS2 hM hH hrd
    rw [show (if putC (l.take j) [x] = 0 then [x].foldl insE (l.take j) else l.take j) = l.take (j + 1) from hputL] at hs
    rw [hput]
    dsimp only [List.cons_append, List.nil_append] at hs
    refine wl_bin rfl rfl bin_neq rfl ?_; refine wl_mv rfl rfl ?_; apply wl_take; exact rfl; exact rfl; exact rfl; refine bF ?_; omega; refine wl_mv rfl rfl ?_; apply wl_take; exact rfl; exact rfl; exact rfl; refine bF ?_; omega; apply wl_val; apply opv_fa; exact fa_sE (by decide); exact rfl; exact rfl; apply wl_take; exact rfl; exact rfl; exact rfl; refine bF ?_; omega; apply wl_val; apply opv_ldX; exact rfl; exact hs.ar 4 rfl; exact e1_by; exact rfl; exact rfl; apply wl_take; exact rfl; exact rfl; exact rfl; refine bF ?_; omega
    refine wl_call ok_caissonref01_Kept (kept_yes (xs := x.key) (hs.sp 3 rfl) (rx.below hs.bel) rfl rfl (by omega)) ⟨rfl, rfl, trivial⟩ rfl ?_
    rintro _ w9 ⟨rfl, hbx⟩
    replace hs := hs.below hbx
    clear hbx
    apply wl_take; exact rfl; exact rfl; exact rfl; refine bF ?_; omega; apply wl_val; apply opv_not; exact rfl; exact rfl; apply wl_val; apply opv_pickF; exact rfl; refine bF ?_; omega; exact rfl; exact rfl; refine wl_mv rfl rfl ?_; apply wl_take; exact rfl; exact rfl; exact rfl; exact Bool.not_true; refine wl_mv rfl rfl ?_; apply wl_take; exact rfl; exact rfl; exact rfl; exact Bool.not_true; apply wl_val; apply opv_fa; exact fa_sE (by decide); exact rfl; exact rfl; apply wl_take; exact rfl; exact rfl; exact rfl; exact Bool.not_true; apply wl_val; apply opv_ldX; exact rfl; exact hs.ar 4 rfl; exact e1_by; exact rfl; exact rfl; apply wl_take; exact rfl; exact rfl; exact rfl; exact Bool.not_true
    refine wl_call ok_caissonref01_Kept (kept_yes (xs := x.val) (hs.sp 2 rfl) (ry.below hs.bel) rfl rfl (by omega)) ⟨rfl, rfl, trivial⟩ rfl ?_
    rintro _ w10 ⟨rfl, hbx⟩
    replace hs := hs.below hbx
    clear hbx
    apply wl_take; exact rfl; exact rfl; exact rfl; exact Bool.not_true; apply wl_val; apply opv_not; exact rfl; exact rfl; apply wl_val; apply opv_pickF; exact rfl; exact Bool.not_true; exact rfl; exact rfl; refine wl_ns ?_; apply wc_condFb; exact rfl; exact Bool.not_true; refine wc_skip ?_; refine we_seq ?_; refine wc_region ?_; refine wl_mv rfl rfl ?_; refine wl_mv rfl rfl ?_; refine wl_mv rfl rfl ?_
    refine ws_push (vs := [spV (x.key, g1), spV (x.val, g2)]) hs 5 rfl rfl tyBB ⟨rfl, rfl, rfl, rfl, rfl, rfl, trivial⟩ rfl (by decide) rfl (by omega) (by simp only [maxLen]; omega) rfl rfl ?_
    clear hs; intro _ V2 cv2 w11 hs; dsimp only [setC] at hs
    replace hs := St.unpk (((((((hs.drop 1 rfl).drop 3 rfl).front 0 rfl).front 3 rfl).front 2 rfl).front 3 rfl).front 4 rfl)
    have e1 : sps.map spP ++ (spP (x.key, g1) :: spP (x.val, g2) :: [.ow 31 V2 (2 * j + 2) cv2 (sps.map spV ++ [spV (x.key, g1), spV (x.val, g2)]), .ck (tblC t (l.take (j + 1)))]) = (sps ++ [(x.key, g1), (x.val, g2)]).map spP ++ [.ow 31 V2 (2 * j + 2) cv2 ((sps ++ [(x.key, g1), (x.val, g2)]).map spV), .ck (tblC t (l.take (j + 1)))] := by simp
    dsimp only [delC] at hs
    rw [e1] at hs
    replace hs := hs.pk.front 1 rfl
    dsimp only [delC] at hs
    refine wl_as rfl rfl ?_; refine wl_nil ?_; refine we_block_norm ?_; refine we_seq ?_; refine wc_region ?_; apply wl_val; apply opv_bin; exact rfl; exact rfl; exact bin_add64 (by omega); exact rfl; refine wl_mv rfl rfl ?_; refine wl_nil ?_
    exact we_loop _ (l.length - (j + 1)) ⟨j + 1, V2, cv2, sps ++ [(x.key, g1), (x.val, g2)], rfl, by omega, by simp; omega, fun y hy => by
      simp only [List.mem_append, List.mem_cons, List.not_mem_nil, or_false] at hy
      rcases hy with h | rfl | rfl
      · exact hspm y h
      · exact hox.1
      · exact hox.2, hs, rfl⟩ (by omega) ⟨rfl, rfl, rfl, rfl, rfl, rfl, by simp [lookT], trivial⟩
  · obtain rfl : j = l.length := by omega
    rw [List.take_length] at hs
    clear h1
    refine wc_exit ?_; refine we_seq_exit ?_; refine we_loop_exit ?_; refine we_block_exit ?_; refine we_seq ?_; refine wc_sr ?_; refine wl_mv rfl rfl ?_
    obtain ⟨S2, hS2, _, hM, hH, hB⟩ := St.lend (H1 := [.ck (tblC t l)]) (H2 := [_, _]) (hs.front 2 rfl)
    refine wl_call ok_mem_Table_Range (trange_any (key := []) (to := []) hS2 hord rfl (fun w' hm => Rd.nil _ _) rfl (fun w' hm => Rd.nil _ _) (fun x h => by have := hmx x h; omega) (fun x h => (hsm x h).2) (by omega)) ⟨rfl, rfl, rfl, trivial⟩ rfl ?_
    rintro _ w5 ⟨R1, c1, rfl, hsx⟩
    replace hs := hB _ _ hsx
    clear hB hsx hS2 hM hH
    dsimp only [List.cons_append, List.nil_append] at hs
    rw [range_nil] at hs
    rw [range_nil]
    refine wl_mv rfl rfl ?_
    obtain ⟨S2, hS2, _, hM, hH, hB⟩ := St.lend (H1 := [.ck (tblC t l)]) (H2 := [_, _, _]) (hs.front 1 rfl)
    refine wl_call ok_mem_Table_Range (trange_any (key := []) (to := []) hS2 hord rfl (fun w' hm => Rd.nil _ _) rfl (fun w' hm => Rd.nil _ _) (fun x h => by have := hmx x h; omega) (fun x h => (hsm x h).2) (by omega)) ⟨rfl, rfl, rfl, trivial⟩ rfl ?_
    rintro _ w6 ⟨R2, c2, rfl, hsx⟩
    replace hs := hB _ _ hsx
    clear hB hsx hS2 hM hH
    dsimp only [List.cons_append, List.nil_append] at hs
    rw [range_nil] at hs
    rw [range_nil]
    refine wl_as rfl rfl ?_; refine wl_as rfl rfl ?_; refine wl_ns ?_; refine wc_sr ?_; refine wl_mv rfl rfl ?_; refine wl_mv rfl rfl ?_
    obtain ⟨S2, hS2, _, hM, hH, hB⟩ := St.lend (H1 := [.ck (tblC t l)]) (H2 := [_, _, _, _]) (hs.front 1 rfl)
    refine wl_call ok_mem_Table_Get (tget2_any (m := 9223372036854775808) hS2 hord rfl (fun w' hm => Rd.mod_old hk (hM w' hm)) fun x h => by have := hmx x h; omega) ⟨rfl, rfl, rfl, trivial⟩ rfl ?_
    rintro _ w7 ⟨Z, cz, W, cw, rfl, hsx⟩
    replace hs := hB _ _ hsx
    clear hB hsx hS2 hM hH
    have hgm : (gtE l key 9223372036854775808).key.length ≤ 1048576 ∧ (gtE l key 9223372036854775808).val.length ≤ 1048576 := by
      rcases gtE_mem (l := l) (key := key) (m := 9223372036854775808) with h | h
      · rw [h]; exact ⟨Nat.zero_le _, Nat.zero_le _⟩
      · exact hmx _ h
    obtain ⟨y, hy⟩ : ∃ q, gtE l key 9223372036854775808 = q := ⟨_, rfl⟩
    rw [hy] at hs hgm
    rw [hy]
    clear hy
    unfold enOw at hs
    dsimp only [List.cons_append, List.nil_append] at hs
    refine wl_mv rfl rfl ?_; apply wl_val; apply opv_extract; exact rfl; exact rfl; exact rfl; apply wl_val; apply opv_extract; exact rfl; exact rfl; exact rfl
    refine ws_var (cs := enV y Z cz W cw) hs zeroE sE rfl (fun _ => rfl) (by first | rfl | simp [Value.oneCell']) rfl ?_; clear hs; intro g15 _ hs
    replace hs := ((((((((hs.front 0 rfl).front 2 rfl).front 2 rfl).front 3 rfl).front 7 rfl).front 7 rfl).front 6 rfl).front 7 rfl)
    obtain ⟨es1, he1, hs⟩ := hs.es7
    obtain ⟨es2, he2, hs⟩ := (hs.front 2 rfl).es7
    dsimp only [delC] at hs
    have hl1' : es1.length = l.length := by rw [← he1, List.length_map]
    have hl2' : es2.length = l.length := by rw [← he2, List.length_map]
    replace hs := ((((((((((hs.front 9 rfl).front 9 rfl).front 9 rfl).front 9 rfl).front 9 rfl).front 6 rfl).front 8 rfl).front 7 rfl).front 8 rfl).front 9 rfl)
    dsimp only [delC] at hs
    refine wl_as rfl rfl ?_; refine wl_ns ?_; refine wc_seq ?_; refine wc_sr ?_; refine wl_mv rfl rfl ?_; apply wl_val; apply opv_len; exact rfl; exact tkE.sl; exact rfl; refine wl_mv rfl rfl ?_; refine wl_ns ?_; refine wc_block ?_
    have hspN : sps.length ≤ 40 := by omega
    have hlm : l.length ≤ 20 := by omega
    have hzl : (es1.zip es2).length = l.length := by rw [List.length_zip, hl1', hl2']; omega
    refine wc_loop (fun L wr mm => ∃ (i : Nat) (V : Option Addr) (cv : Nat), L = [(0, .slice P l.length cp), (5, .pointer (some ⟨t, 0, none⟩)), (6, .slice V (2 * l.length + 4 * i) cv), (13, .slice R1 l.length c1), (14, .slice R2 l.length c2), (15, .pointer (some ⟨g15, 0, none⟩)), (84, .int .i64 (l.length : Int)), (85, .int .i64 (i : Int))] ∧ i ≤ l.length ∧ St NoB w2 wr [.ow 31 V (2 * l.length + 4 * i) cv (sps.map spV ++ ((es1.zip es2).take i).flatMap prSl), .rg 4 39 R1 c1 ((es1.map eaV).map rawEl), .rg 4 39 R2 c2 ((es2.map eaV).map rawEl), .ck (packC (es1.flatMap enM)), .ck (packC (es2.flatMap enM)), .ck (packC (sps.map spP)), .ck (tblC t l), .ow 5 Z y.key.length cz (bvs y.key), .ow 5 W y.val.length cw (bvs y.val), .blk g15 39 (enV y Z cz W cw)] ∧ mm = l.length - i)
      [(0, .slice P l.length cp), (5, .pointer (some ⟨t, 0, none⟩)), (6, .slice V (2 * l.length) cv), (13, .slice R1 l.length c1), (14, .slice R2 l.length c2), (15, .pointer (some ⟨g15, 0, none⟩)), (84, .int .i64 (l.length : Int)), (85, .int .i64 (0 : Nat))] l.length ⟨0, V, cv, rfl, by omega, by rw [List.take_zero, List.flatMap_nil, List.append_nil]; exact hs, rfl⟩ ⟨rfl, rfl, rfl, rfl, rfl, rfl, rfl, rfl, trivial⟩ ?_
    clear hs
    rintro _ w8 mm ⟨i, V, cv, rfl, hi, hs, rfl⟩
    refine wc_sr ?_; refine wl_bin rfl rfl bin_lss rfl ?_; refine wl_ns ?_; refine wc_seq ?_
    refine wc_cond rfl (fun h1 => ?_) (fun h1 => ?_)
    · obtain ⟨a, ha⟩ : ∃ a, es1[i]? = some a := ⟨_, List.getElem?_eq_getElem (by omega)⟩
      obtain ⟨a', ha'⟩ : ∃ a, es2[i]? = some a := ⟨_, List.getElem?_eq_getElem (by omega)⟩
      have hzt := zip_take ha ha'
      have hki : a.x.key.length = a.x.key.length := rfl
      replace hs := hs.below (Below.refl _ _).drew
      obtain ⟨b1, o1, hb1, i1⟩ := raw7 (by decide) (hs.rg 1 rfl) (j := i) (cs := eaV a) (by rw [List.getElem?_map, ha]; rfl)
      obtain ⟨b2, o2, hb2, i2⟩ := raw7 (by decide) (hs.rg 2 rfl) (j := i) (cs := eaV a') (by rw [List.getElem?_map, ha']; rfl)
      subst hb1 hb2
      refine wc_skip ?_; refine we_seq ?_; refine wc_seq ?_; refine wc_block ?_; refine wc_sr ?_; refine wl_mv rfl rfl ?_; refine wl_as rfl rfl ?_; refine wl_ns ?_
      refine wc_held (fun w => Wi w b1 (o1 + i * 4) [.slice a.A a.x.key.length a.c, .int .u64 (a.x.seq : Int), .int .u8 (a.x.kind.toNat : Int), .slice a.B a.x.val.length a.d] ∧ Wi w b2 (o2 + i * 4) [.slice a'.A a'.x.key.length a'.c, .int .u64 (a'.x.seq : Int), .int .u8 (a'.x.kind.toNat : Int), .slice a'.B a'.x.val.length a'.d]) mixed ?_
      have hS := And.intro i1 i2
      unfold eaV enV at hS
      apply wh_takeH 0; exact rfl; intro _ hw_; apply opv_move; exact rfl; exact rfl; kernel_rfl; exact hS; apply wh_takeH 1; exact rfl; intro _ hw_; apply opv_move; exact rfl; exact rfl; kernel_rfl; exact hS; apply wh_takeH 2; exact rfl; intro _ hw_; apply opv_move; exact rfl; exact rfl; kernel_rfl; exact hS; apply wh_takeH 3; exact rfl; intro _ hw_; apply opv_idxG tkE; exact rfl; exact rfl; exact rfl; omega; exact rfl; kernel_rfl; exact hS; apply wh_takeH 4; exact rfl; intro _ hw_; apply opv_fa; exact fa_sE (by decide); exact rfl; exact rfl; kernel_rfl; exact hS; apply wh_takeH 5; exact rfl; intro _ hw_; apply opv_ldW; exact rfl; exact hw_.1; exact e1_by; exact rfl; exact rfl; kernel_rfl; exact hS; apply wh_takeH 6; exact rfl; intro _ hw_; apply opv_move; exact rfl; exact rfl; kernel_rfl; exact hS; apply wh_takeH 7; exact rfl; intro _ hw_; apply opv_move; exact rfl; exact rfl; kernel_rfl; exact hS; apply wh_takeH 8; exact rfl; intro _ hw_; apply opv_idxG tkE; exact rfl; exact rfl; exact rfl; omega; exact rfl; kernel_rfl; exact hS; apply wh_takeH 9; exact rfl; intro _ hw_; apply opv_fa; exact fa_sE (by decide); exact rfl; exact rfl; kernel_rfl; exact hS; apply wh_takeH 10; exact rfl; intro _ hw_; apply opv_ldW; exact rfl; exact hw_.1; exact e1_by; exact rfl; exact rfl; kernel_rfl; exact hS; apply wh_takeH 11; exact rfl; intro _ hw_; apply opv_move; exact rfl; exact rfl; kernel_rfl; exact hS; apply wh_takeH 12; exact rfl; intro _ hw_; apply opv_move; exact rfl; exact rfl; kernel_rfl; exact hS; apply wh_takeH 13; exact rfl; intro _ hw_; apply opv_idxG tkE; exact rfl; exact rfl; exact rfl; omega; exact rfl; kernel_rfl; exact hS; apply wh_takeH 14; exact rfl; intro _ hw_; apply opv_fa; exact fa_sE (by decide); exact rfl; exact rfl; kernel_rfl; exact hS; apply wh_takeH 15; exact rfl; intro _ hw_; apply opv_ldW; exact rfl; exact hw_.2; exact e1_by; exact rfl; exact rfl; kernel_rfl; exact hS; apply wh_takeH 16; exact rfl; intro _ hw_; apply opv_move; exact rfl; exact rfl; kernel_rfl; exact hS; apply wh_takeH 17; exact rfl; intro _ hw_; apply opv_move; exact rfl; exact rfl; kernel_rfl; exact hS; apply wh_takeH 18; exact rfl; intro _ hw_; apply opv_idxG tkE; exact rfl; exact rfl; exact rfl; omega; exact rfl; kernel_rfl; exact hS; apply wh_takeH 19; exact rfl; intro _ hw_; apply opv_fa; exact fa_sE (by decide); exact rfl; exact rfl; kernel_rfl; exact hS; apply wh_takeH 20; exact rfl; intro _ hw_; apply opv_ldW; exact rfl; exact hw_.2; exact e1_by; exact rfl; exact rfl; kernel_rfl; exact hS
      clear hS i1 i2
      refine wh_one 21 (o := ⟨_, _, _, _, _, _⟩) (by kernel_rfl) rfl ?_
      refine ws_bs (vs := [.slice a.A a.x.key.length a.c, .slice a.B a.x.val.length a.d, .slice a'.A a'.x.key.length a'.c, .slice a'.B a'.x.val.length a'.d]) hs tyBB ⟨rfl, rfl, rfl, rfl, rfl, rfl, rfl, rfl, rfl, rfl, rfl, rfl, trivial⟩ rfl (by decide) rfl ?_
      clear hs; intro Q w9 hs
      have hS : ∀ {w' : World} {H : List Cd} (k1 k2 : Nat), St NoB w2 w' H → nthC H k1 = some (.rg 4 39 (some ⟨b1, o1, none⟩) c1 ((es1.map eaV).map rawEl)) → nthC H k2 = some (.rg 4 39 (some ⟨b2, o2, none⟩) c2 ((es2.map eaV).map rawEl)) → Wi w' b1 (o1 + i * 4) (eaV a) ∧ Wi w' b2 (o2 + i * 4) (eaV a') := fun {w' H} k1 k2 hs h1 h2 => by
        obtain ⟨_, _, hb1, i1⟩ := raw7 (by decide) (hs.rg k1 h1) (j := i) (cs := eaV a) (by rw [List.getElem?_map, ha]; rfl)
        obtain ⟨_, _, hb2, i2⟩ := raw7 (by decide) (hs.rg k2 h2) (j := i) (cs := eaV a') (by rw [List.getElem?_map, ha']; rfl)
        cases hb1; cases hb2
        exact ⟨i1, i2⟩
      refine wl_nil ?_
      refine we_held (hS 2 3 hs rfl rfl) ?_
      refine wh_one 22 (o := ⟨_, _, _, _, _, _⟩) (by kernel_rfl) rfl ?_
      refine ws_app (ys := [.slice a.A a.x.key.length a.c, .slice a.B a.x.val.length a.d, .slice a'.A a'.x.key.length a'.c, .slice a'.B a'.x.val.length a'.d]) (m := 4) hs 1 rfl rfl tyBB rfl (hs.ow 0 rfl).rd (by simp [Value.oneCell']) (by omega) (by simp only [maxLen]; omega) rfl ?_
      clear hs; intro V2 cv2 w10 hs; dsimp only [setC] at hs
      refine wl_nil ?_
      refine we_held (hS 2 3 hs rfl rfl) ?_
      refine wh_one 23 (o := ⟨_, _, _, _, _, _⟩) (by kernel_rfl) rfl ?_
      refine wl_as rfl rfl ?_; refine wl_nil ?_
      refine we_held (hS 2 3 hs rfl rfl) ?_
      refine wh_done (by kernel_rfl) ?_
      refine we_block_norm ?_; refine we_seq ?_; refine wc_region ?_; apply wl_val; apply opv_bin; exact rfl; exact rfl; exact bin_add64 (by omega); exact rfl; refine wl_mv rfl rfl ?_; refine wl_nil ?_
      refine we_loop _ (l.length - (i + 1)) ⟨i + 1, V2, cv2, rfl, by omega, ?_, rfl⟩ (by omega) ⟨rfl, rfl, rfl, rfl, rfl, rfl, rfl, by simp [lookT], trivial⟩
      rw [hzt, List.flatMap_append, ← List.append_assoc]
      exact hs.drop 0 rfl
    · obtain rfl : i = l.length := by omega
      rw [List.take_of_length_le (by omega)] at hs
      have hR1 : RdR 4 w8 All R1 (l.map enEl) := by
        have h2 := St.es_rs ((((((((((hs.front 9 rfl).front 9 rfl).front 9 rfl).front 9 rfl).front 9 rfl).front 9 rfl).front 8 rfl).front 7 rfl).front 9 rfl).front 9 rfl)
        have := OwR.rd (h2.rsE 0 rfl)
        rwa [he1] at this
      have hbw := hs.bel
      refine wc_exit ?_; refine we_seq_exit ?_; refine we_loop_exit ?_; refine we_block_exit ?_; refine we_seq ?_; refine wc_seq ?_; refine wc_sr ?_; refine wl_mv rfl rfl ?_; refine wl_mv rfl rfl ?_
      refine wl_call ok_caissonref07_SameList (sameListE_any hR1 (hl2.below hbw) rfl rfl (fun x h => by have := hmx x h; simp only [maxLen]; omega) (by omega) (by omega)) ⟨rfl, rfl, trivial⟩ rfl ?_
      rintro _ w9 ⟨⟨q, rfl, hq⟩, hbx⟩
      obtain rfl := hq.2 rfl
      replace hs := hs.below hbx
      clear hbx hq hR1 hbw
      unfold enV at hs
      have a15 := hs.ar 9 rfl
      apply wl_val; apply opv_not; exact rfl; exact rfl; refine wl_mv rfl rfl ?_; apply wl_take; exact rfl; exact rfl; exact rfl; exact Bool.not_true; refine wl_mv rfl rfl ?_; apply wl_take; exact rfl; exact rfl; exact rfl; exact Bool.not_true; apply wl_val; apply opv_fa; exact fa_sE (by decide); exact rfl; exact rfl; apply wl_take; exact rfl; exact rfl; exact rfl; exact Bool.not_true; apply wl_val; apply opv_ldX; exact rfl; assumption; exact e1_by; exact rfl; exact rfl; apply wl_take; exact rfl; exact rfl; exact rfl; exact Bool.not_true; apply wl_val; apply opv_fa; exact fa_sE (by decide); exact rfl; exact rfl; apply wl_take; exact rfl; exact rfl; exact rfl; exact Bool.not_true; apply wl_val; apply opv_ldX; exact rfl; assumption; exact e1_by; exact rfl; exact rfl; apply wl_take; exact rfl; exact rfl; exact rfl; exact Bool.not_true
      skip
      refine ws_bs (vs := [.slice Z y.key.length cz, .slice W y.val.length cw]) hs tyBB ⟨rfl, rfl, rfl, rfl, rfl, rfl, trivial⟩ rfl (by decide) rfl ?_
      clear hs; intro Q w10 hs
      apply wl_take; exact rfl; exact rfl; exact rfl; exact Bool.not_true
      refine ws_app (ys := [.slice Z y.key.length cz, .slice W y.val.length cw]) (m := 2) hs 1 rfl rfl tyBB rfl (hs.ow 0 rfl).rd (by simp [Value.oneCell']) (by omega) (by simp only [maxLen]; omega) rfl ?_
      clear hs; intro V2 cv2 w11 hs; dsimp only [setC] at hs
      replace hs := (((((((((((hs.drop 0 rfl).drop 1 rfl).drop 1 rfl).drop 7 rfl).front 4 rfl).front 1 rfl).front 6 rfl).front 6 rfl).front 5 rfl).front 5 rfl).front 6 rfl)
      replace hs := (St.pack (H1 := [_, _, _, _, _]) hs (.ck (packC (sps.map spP ++ ((es1.zip es2).flatMap prM ++ [.ow 5 Z y.key.length cz (bvs y.key), .ow 5 W y.val.length cw (bvs y.val)])))) fun w S h => by
        obtain ⟨T, hT, h1, h2⟩ := Sat.append (H1 := [.ck (packC (sps.map spP)), .ck (packC (es1.flatMap enM)), .ck (packC (es2.flatMap enM))]) (H2 := [.ow 5 Z y.key.length cz (bvs y.key), .ow 5 W y.val.length cw (bvs y.val)]) h
        have h3 := pks7 (Hs := [sps.map spP, es1.flatMap enM, es2.flatMap enM]) h1
        have h4 := Sat.permL (H' := sps.map spP ++ (es1.zip es2).flatMap prM) (by
          rw [List.flatten_cons, List.flatten_cons, List.flatten_cons, List.flatten_nil, List.append_nil]
          exact (zip_perm enM (by omega)).append_left _) h3
        have h5 := Sat.join hT h4 h2
        rw [List.append_assoc] at h5
        exact h5).front 1 rfl
      dsimp only [delC] at hs
      rw [List.append_assoc] at hs
      have hes : ∀ (es : List EnA), es.map (·.x) = l → ∀ a ∈ es, a.x.key.length ≤ 1048576 ∧ a.x.val.length ≤ 1048576 := fun es he a ha => hmx a.x (by rw [← he]; exact List.mem_map_of_mem ha)
      have hby : ByP (sps.map spP ++ ((es1.zip es2).flatMap prM ++ [.ow 5 Z y.key.length cz (bvs y.key), .ow 5 W y.val.length cw (bvs y.val)])) (sps.map spV ++ ((es1.zip es2).flatMap prSl ++ [.slice Z y.key.length cz, .slice W y.val.length cw])) :=
        (sp_byP hspm).append ((zip_byP fun p hp => ⟨hes es1 he1 _ (List.of_mem_zip hp).1, hes es2 he2 _ (List.of_mem_zip hp).2⟩).append (.cons (by omega) (.cons (by omega) .nil)))
      apply wl_take; exact rfl; exact rfl; exact rfl; exact Bool.not_true
      refine wl_call ok_caissonref01_Apart (apartS_any hs hby (by omega)) ⟨rfl, trivial⟩ rfl ?_
      clear hs
      rintro _ w12 ⟨rfl, hs⟩
      apply wl_take; exact rfl; exact rfl; exact rfl; exact Bool.not_true; apply wl_val; apply opv_not; exact rfl; exact rfl; apply wl_val; apply opv_pickF; exact rfl; exact Bool.not_true; exact rfl; exact rfl; refine wl_ns ?_; apply wc_condFb; exact rfl; exact Bool.not_true; refine wc_skip ?_; refine we_seq ?_; refine wc_sr ?_; refine wl_mv rfl rfl ?_
      obtain ⟨S2, hS2, _, hM, hH, hB⟩ := St.lend (H1 := [.ck (tblC t l)]) (H2 := []) hs
      refine wl_call ok_mem_Table_Range (trange_any (key := []) (to := []) hS2 hord rfl (fun w' hm => Rd.nil _ _) rfl (fun w' hm => Rd.nil _ _) (fun x h => by have := hmx x h; omega) (fun x h => (hsm x h).2) (by omega)) ⟨rfl, rfl, rfl, trivial⟩ rfl ?_
      rintro _ w13 ⟨R3, c3, rfl, hsx⟩
      replace hs := hB _ _ hsx
      clear hB hsx hS2 hM hH
      dsimp only [List.cons_append, List.nil_append] at hs
      rw [range_nil] at hs
      rw [range_nil]
      refine wl_mv rfl rfl ?_
      refine wl_call ok_caissonref07_SameList (sameListE_any (OwR.rd (hs.rsE 0 rfl)) (hl2.below hs.bel) rfl rfl (fun x h => by have := hmx x h; simp only [maxLen]; omega) (by omega) (by omega)) ⟨rfl, rfl, trivial⟩ rfl ?_
      rintro _ w14 ⟨⟨q, rfl, hq⟩, hbx⟩
      obtain rfl := hq.2 rfl
      replace hs := hs.below hbx
      refine wl_as rfl rfl ?_; refine wl_ns ?_; refine wc_ret ?_
      exact we_ret1 rfl rfl ⟨_, rfl, rfl, hbw2.trans (hs.bel.mono hbw2.size)⟩
end Go.Proofs.YtpnckagibkdcpaaDoor


/-
  Walks over Get of a table that counts, and over the law MemCounts.
-/
namespace Go.Proofs.YtpnckagibkdcpaaDoor
open Go.RowKit

theorem fa_C0 : FieldAt Tryd.prog 74 0 0 := fieldAt_mk Tryd.underlying74 rfl rfl (by kernel_rfl)
theorem fa_C1 : FieldAt Tryd.prog 74 1 7 := fieldAt_mk Tryd.underlying74 rfl rfl (by kernel_rfl)
/-- A table that counts. -/
abbrev cntX (n : Nat) : TypeId × List Value := (74, [.int .i64 (n : Int)])
abbrev cntC (t n : Nat) (xs : List En) : Ck := tblX (cntX n) t xs
theorem cnt_open {M : BS} {w0 w : World} {H : List Cd} {t n : Nat} {xs : List En} (hs : St M w0 w (.ck (cntC t n xs) :: H)) :
    ∃ r0 ns, (ns.map (·.a.x) = xs ∧ (r0 = none → ns = []) ∧ ∀ n ∈ ns, 1 ≤ n.h) ∧ St M w0 w (.blk t 74 (tbV (hdS r0) ns.length (tszE xs : Nat) [.int .i64 (n : Int)]) :: .ck (packC (hdP r0 ns)) :: .ck (packC (nodP ns)) :: H) := by
  obtain ⟨⟨⟨r0, ns⟩, h⟩, hs⟩ := hs.unpackE (α := { p : Option Nat × List Nd // p.2.map (·.a.x) = xs ∧ (p.1 = none → p.2 = []) ∧ ∀ n ∈ p.2, 1 ≤ n.h }) (H1 := fun p => tabP (cntX n) t p.1.1 p.1.2 (tszE xs : Nat)) fun T ⟨r0, ns, h1, h2⟩ => ⟨⟨(r0, ns), h2⟩, h1⟩
  exact ⟨r0, ns, h, hs⟩
theorem cnt_shut {M : BS} {w0 w : World} {H : List Cd} {t n : Nat} {xs : List En} {r0 : Option Nat} {ns : List Nd} (h : ns.map (·.a.x) = xs ∧ (r0 = none → ns = []) ∧ ∀ n ∈ ns, 1 ≤ n.h) (hs : St M w0 w (.blk t 74 (tbV (hdS r0) ns.length (tszE xs : Nat) [.int .i64 (n : Int)]) :: .ck (packC (hdP r0 ns)) :: .ck (packC (nodP ns)) :: H)) : St M w0 w (.ck (cntC t n xs) :: H) :=
  St.pack (H1 := tabP (cntX n) t r0 ns (tszE xs : Nat)) hs _ fun _ _ h1 => ⟨r0, ns, h1, h⟩
set_option maxRecDepth 8000 in
theorem cget_any {S : BS} {t kn e m n : Nat} {xs : List En} {K : Option Addr} {key : List UInt8} {w : World} (h0 : Sat w [.ck (cntC t n xs)] S) (ho : Ord xs) (hkn : key.length = kn) (hkey : ∀ w', Mod S w w' → RdB w' K key) (hok : ∀ x ∈ xs, x.key.length ≤ 140737488355328 ∧ x.val.length ≤ 140737488355328) (hn : n ≤ 1099511627776) :
    CallsV Tryd.prog 39 #[pN t, .slice K kn e, .int .u64 (m : Int)] w fun v w' => ∃ (X : Option Addr) (cx : Nat) (Y : Option Addr) (cy : Nat), v = .tuple #[.agg (enV (gtE xs key m) X cx Y cy).toArray, .bool (getE xs key m).isSome] ∧ St S w w' (enOw (gtE xs key m) X cx Y cy ++ [.ck (cntC t (n + 1) xs)]) := by
  have hs := St.start h0
  unfold pN
  refine calls_in (N := _) Tryd.func39 rfl Tryd.ntmps39 rfl ?_; show WC _ _ _ _ _ _
  refine wc_sr ?_
  refine ws_new hs zeroE rfl ?_; clear hs; intro g6 _ hs
  obtain ⟨r0, ns, hns, hs⟩ := cnt_open (hs.front 1 rfl)
  dsimp only [delC] at hs
  unfold tbV at hs
  have hn1 : (n : Int) + 1 = ((n + 1 : Nat) : Int) := by omega
  refine wl_as rfl rfl ?_; refine wl_ns ?_; refine wc_sr ?_; refine wl_mv rfl rfl ?_; apply wl_val; apply opv_nilOk; exact rfl; exact rfl; apply wl_val; apply opv_fa; exact fa_C1; exact rfl; exact rfl; apply wl_val; apply opv_ldX; exact rfl; exact hs.ar 0 rfl; exact e1_int; exact rfl; exact rfl; apply wl_val; apply opv_bin; exact rfl; exact rfl; exact bin_add64 (by omega); exact rfl; apply wl_val; apply opv_nilOk; exact rfl; exact rfl; apply wl_val; apply opv_fa; exact fa_C1; exact rfl; exact rfl; apply ws_st hs 0; exact rfl; exact rfl; exact e1_int; exact rfl; exact rfl; exact rfl; clear hs; intro _ hs; dsimp only [setC, List.set] at hs; refine wl_ns ?_; refine wc_sr ?_; refine wl_mv rfl rfl ?_; apply wl_val; apply opv_nilOk; exact rfl; exact rfl; apply wl_val; apply opv_fa; exact fa_C0; exact rfl; exact rfl; refine wl_mv rfl rfl ?_; refine wl_mv rfl rfl ?_
  obtain ⟨S2, hS2, _, hM, hH, hB⟩ := St.lend (H1 := [.ck (cntC t (n + 1) xs)]) (H2 := [.blk g6 39 zE]) ((cnt_shut (n := n + 1) hns hs))
  refine wl_call ok_mem_Table_Get (tget2_any (TX := cntX (n + 1)) (m := m) (key := key) hS2 ho hkn (fun w' hm => hkey _ (hM w' hm)) hok) ⟨rfl, rfl, rfl, trivial⟩ rfl ?_
  rintro _ w2 ⟨Z, cz, V, cv, rfl, hsx⟩
  replace hs := hB _ _ hsx
  clear hB hsx hS2 hM hH
  unfold enOw at hs
  dsimp only [List.cons_append, List.nil_append] at hs
  unfold zE at hs
  apply wl_val; apply opv_extract; exact rfl; exact rfl; exact rfl; apply wl_val; apply opv_extract; exact rfl; exact rfl; exact rfl; apply ws_stS hs 3; exact rfl; exact rfl; exact rfl; exact sE; exact rfl; exact rfl; clear hs; intro _ hs; dsimp only [setC] at hs; refine wl_as rfl rfl ?_; refine wl_ns ?_; refine wc_ret ?_
  exact we_retC1 rfl rfl rfl (hs.ar 3 rfl) sE ⟨_, rfl, Z, cz, V, cv, rfl, hs.drop 3 rfl⟩
theorem mod_rdr {M : BS} {w w' : World} {k : Nat} {S : BS} {A : Option Addr} {els : List El} (hm : Mod M w w') (hk : 0 < k) (hS : ∀ b, b < w.heap.size → S b → ¬ M b) (h : RdR k w S A els) : RdR k w' S A els := RdR.move hk h hm.size fun b hb hs => ⟨hs, hm.block b hb (hS b hb hs)⟩
theorem len_flat {rows : List (List UInt8)} {r : List UInt8} (h : r ∈ rows) : r.length ≤ rows.flatten.length := by
  induction rows with
  | nil => cases h
  | cons a rows ih =>
    rw [List.flatten_cons, List.length_append]
    rcases List.mem_cons.1 h with rfl | h
    · omega
    · have := ih h; omega
theorem zeroC : (Tryd.prog.info? 74).map (·.zero) = some (some (.agg (tbV (hdS none) 0 0 [.int .i64 0]).toArray)) := by kernel_rfl
theorem zeroT : (Tryd.prog.info? 72).map (·.zero) = some (some (.agg (tbV (hdS none) 0 0 []).toArray)) := by kernel_rfl
theorem new_tab {TX : TypeId × List Value} {M : BS} {w0 w : World} {H : List Cd} {t : Nat} (hs : St M w0 w (.blk t TX.1 (tbV (hdS none) 0 0 TX.2) :: H)) : St M w0 w (.ck (tblX TX t []) :: H) := by
  have h1 := St.pk (H1 := []) (show St M w0 w ([] ++ (.blk t TX.1 (tbV (hdS none) 0 0 TX.2) :: H)) from hs)
  have h2 := (St.pk (H1 := []) (show St M w0 w ([] ++ (.ck (packC []) :: .blk t TX.1 (tbV (hdS none) 0 0 TX.2) :: H)) from h1)).front 2 rfl
  exact St.pack (H1 := tabP TX t none [] (tszE [] : Nat)) h2 _ fun _ _ h => ⟨none, [], h, rfl, fun _ => rfl, by simp⟩
theorem put_sorted {l : List En} (ho : Ord l) (hc : ∀ x ∈ l, bigE x = false ∧ badE x = false) : putC [] l = 0 ∧ putL [] l = l := by
  have key : ∀ j, j ≤ l.length → (l.take j).foldl insE [] = l.take j ∧ okP [] l j = true := by
    intro j
    induction j with
    | zero => exact fun _ => ⟨rfl, rfl⟩
    | succ j ih =>
      intro hj
      obtain ⟨h1, h2⟩ := ih (by omega)
      have hx : l[j]? = some (l[j]'(by omega)) := List.getElem?_eq_getElem (by omega)
      obtain ⟨h3, h4⟩ := ins_end7 (ord_take ho hx)
      refine ⟨by rw [fold_succ hx, h1, h4, ← take_getR hx], by rw [okP_step hx, h2, h1, h3]; rfl⟩
  obtain ⟨h1, h2⟩ := key l.length (Nat.le_refl _)
  rw [List.take_length] at h1
  have hz : putC [] l = 0 := by rw [putC, if_pos (check_of hc), h2]; rfl
  exact ⟨hz, by rw [putL, if_pos hz]; exact h1⟩
set_option maxRecDepth 8000 in
theorem counts_any {A B : Option Addr} {n c nb cb : Nat} {l0 : List En} {keys : List (List UInt8)} {w : World} (hr : RdR 4 w All A (l0.map enEl)) (hn : l0.length = n) (hc : n ≤ c) (hsq : ∀ x ∈ l0, x.seq < 2 ^ 64) (hl : sumB enB l0 ≤ 1048576) (hk : RdBB w B keys) (hnb : keys.length = nb) (hkf : keys.flatten.length ≤ 1048576) (hks : keys.length ≤ 1048576) (hg : GT w) :
    CallsV Tryd.prog 7 #[.slice A n c, .slice B nb cb] w (RetTr w) := by
  obtain ⟨hl1, hok1⟩ := ent_small hl
  subst hnb
  have hkb : ∀ k ∈ keys, k.length ≤ 1048576 := fun k hk => Nat.le_trans (len_flat hk) hkf
  have hs := St.init w
  refine calls_in (N := _) Tryd.func7 rfl Tryd.ntmps7 rfl ?_; show WC _ _ _ _ _ _
  refine wc_sr ?_; refine wl_as rfl rfl ?_; refine wl_ns ?_; refine wc_seq ?_; refine wc_sr ?_
  refine wl_call ok_caissonlaw07_awake (awake7_any hg) trivial rfl ?_; rintro _ _ ⟨rfl, hbx⟩; replace hs := hs.below hbx; try dsimp only [List.cons_append, List.nil_append, setC, delC] at hs
  apply wl_val; apply opv_not; exact rfl; exact rfl; refine wl_ns ?_; apply wc_condFb; exact rfl; exact Bool.not_true; refine wc_skip ?_; refine we_seq ?_; refine wc_sr ?_
  refine ws_new hs zeroC rfl ?_; clear hs; intro g5 _ hs
  replace hs := new_tab (TX := cntX 0) hs
  refine wl_ns ?_; refine wc_sr ?_
  refine ws_new hs zeroT rfl ?_; clear hs; intro g6 _ hs
  replace hs := new_tab (TX := (72, [])) hs
  refine wl_ns ?_; refine wc_seq ?_; refine wc_sr ?_
  obtain ⟨S2, hS2, _, hM, hH, hB⟩ := St.lend (H1 := [.ck (tblC g6 [])]) (H2 := [_]) hs
  refine wl_call ok_mem_Table_Len (tlen_any hS2) ⟨rfl, trivial⟩ rfl ?_
  rintro _ _ ⟨rfl, rfl⟩
  refine wl_bin rfl rfl bin_neq rfl ?_; refine wl_mv rfl rfl ?_; apply wl_take; exact rfl; exact rfl; exact rfl; exact rfl
  refine wl_call ok_mem_Table_Range (trange_any (xs := []) (key := []) (to := []) hS2 .nil rfl (fun w' hm => Rd.nil _ _) rfl (fun w' hm => Rd.nil _ _) (by simp) (by simp) (by simp)) ⟨rfl, rfl, rfl, trivial⟩ rfl ?_
  rintro _ w1 ⟨R0, c0, rfl, hsx⟩
  replace hs := ((hB _ _ hsx).drop 0 rfl).drop 0 rfl
  clear hB hsx hS2 hM hH
  dsimp only [List.cons_append, List.nil_append, delC] at hs
  have h00 : (([] : List En).length : Int) = 0 := rfl
  have h01 : ((rangeE [] [] []).length : Int) = 0 := rfl
  apply wl_take; exact rfl; exact rfl; exact rfl; refine bF ?_; omega; apply wl_val; apply opv_len; exact rfl; exact tkE.sl; exact rfl; apply wl_take; exact rfl; exact rfl; exact rfl; refine bF ?_; omega; refine wl_bin rfl rfl bin_neq rfl ?_; apply wl_val; apply opv_pickF; exact rfl; refine bF ?_; omega; exact rfl; exact rfl; refine wl_ns ?_; apply wc_condFb; exact rfl; exact rfl; refine wc_skip ?_; refine we_seq ?_; refine wc_sr ?_; refine wl_mv rfl rfl ?_
  refine wl_call ok_caissonlaw07_few (few7_any (m := 40) hn hc) ⟨rfl, rfl, trivial⟩ rfl ?_; rintro _ _ ⟨rfl, rfl⟩
  have hr2 := take_rdr (m := 40) hr (by omega)
  have hokA : ∀ x ∈ l0.take 40, (x.key.length ≤ 1048576 ∧ x.val.length ≤ 1048576) ∧ x.seq < 2 ^ 64 := fun x hx => ⟨hok1 x (few_mem hx), hsq x (few_mem hx)⟩
  have hlen : (l0.take 40).length ≤ 40 := by rw [List.length_take]; omega
  obtain ⟨k, hk'⟩ : ∃ q, l0.take 40 = q := ⟨_, rfl⟩
  rw [hk'] at hr2 hokA hlen
  rw [hk']
  clear hr hok1 hsq hk'
  refine wl_call ok_caissonref07_Sorted (sorted_any (S := Old w) (RdR.move (by decide) hr2 hs.size fun b hb _ => ⟨hb, hs.bel.block b hb⟩) rfl (fun x hx => by have := (hokA x hx).1; simp only [maxLen]; omega) (by omega)) ⟨rfl, trivial⟩ rfl ?_
  rintro _ w2 ⟨P, cp, rfl, hcp, hl2, hbx2⟩
  obtain ⟨hsl, hsm⟩ := sorted_mem7 hokA
  obtain ⟨hord, hchk⟩ := sorted_ok k
  obtain ⟨l, hld⟩ : ∃ q, sortedE k = q := ⟨_, rfl⟩
  rw [hld] at hl2 hsl hsm hord hchk hcp
  rw [hld]
  have hsz1 := hs.size
  have hbw2 := hs.bel.trans (hbx2.mono hs.size)
  have hst : Sat w1 [.ck (cntC g5 0 [])] (fun b => w.heap.size ≤ b ∧ b < w1.heap.size) := hs.2.mono fun b hb h => ⟨h.elim (fun k => k.elim) id, hb⟩
  replace hs : St (fun b => w.heap.size ≤ b ∧ b < w1.heap.size) w2 w2 [.ck (cntC g5 0 [])] := St.start (hst.move hbx2.size fun b hb h => ⟨h, hbx2.block b hb⟩)
  have hend : ∀ {wr : World}, Mod (fun b => w.heap.size ≤ b ∧ b < w1.heap.size) w2 wr → Below w.heap.size w wr := fun hm => hbw2.trans (hm.below_of hbw2.size fun b h => h.1)
  have hlr : ∀ {wr : World}, Mod (fun b => w.heap.size ≤ b ∧ b < w1.heap.size) w2 wr → RdR 4 wr All P (l.map enEl) := fun hm => (mod_rdr hm (by decide) (fun b _ h k => by
    rcases h with h | h
    · exact absurd h (Nat.not_lt.2 k.1)
    · omega) hl2).all
  obtain ⟨M6, hM6⟩ : ∃ q : BS, (fun b => w.heap.size ≤ b ∧ b < w1.heap.size) = q := ⟨_, rfl⟩
  rw [hM6] at hs
  replace hend : ∀ {wr : World}, Mod M6 w2 wr → Below w.heap.size w wr := fun {wr} h => hend (by rw [hM6]; exact h)
  replace hlr : ∀ {wr : World}, Mod M6 w2 wr → RdR 4 wr All P (l.map enEl) := fun {wr} h => hlr (by rw [hM6]; exact h)
  have hmx : ∀ x ∈ l, x.key.length ≤ 1048576 ∧ x.val.length ≤ 1048576 := fun x hx => (hsm x hx).1
  have htz : tszE l ≤ 1048576 * 2097152 := by
    have h2 := tsz_mem (l := l) (b := 2097152) fun y hy => by have := hmx y hy; omega
    exact Nat.le_trans h2 (Nat.mul_le_mul_right _ (by omega))
  obtain ⟨hput, hputL⟩ := put_sorted hord hchk
  clear hst hM6 hl2 hbx2 hld hr2 hokA hsz1
  refine wl_as rfl rfl ?_; refine wl_ns ?_; refine wc_seq ?_; refine wc_sr ?_; apply wl_val; apply opv_fa; exact fa_C0; exact rfl; exact rfl; refine wl_mv rfl rfl ?_
  refine wl_call ok_caissonref07_Twins (twins3_any (l := l) (hlr hs.1) rfl (fun x h => by have := hmx x h; omega) (by omega)) ⟨rfl, trivial⟩ rfl ?_
  rintro _ w3 ⟨D, d, rfl, hsx⟩
  replace hs := hs.call hsx
  clear hsx
  dsimp only [List.cons_append, List.nil_append] at hs
  obtain ⟨S2, hS2, _, hM, hH, hB⟩ := St.lend (H1 := [.ck (cntC g5 0 [])]) (H2 := [_]) (hs.front 1 rfl)
  have hrd : RdR 4 w3 (fun b => Fr M6 w2 b ∧ ¬ S2 b) D (l.map enEl) := by
    obtain ⟨T1, hT1, h1, _⟩ := hH w3 (Mod.refl _ _)
    exact RdR.mono (by decide) (rs_rdr h1) fun b _ h => hT1 b h
  refine wl_call ok_mem_Table_Put (put_any (TX := cntX 0) (c := d) (xs := []) (l := l) hS2 .nil hrd (fun b _ h => h.2) rfl (by omega) (by simp) (by simp [tszE]) fun w' hm => hg.below (hend (hM w' hm))) ⟨rfl, rfl, trivial⟩ rfl ?_
  rintro _ w4 ⟨rfl, hsx⟩
  replace hs := (hB _ _ hsx).drop 1 rfl
  clear hB hsx hS2 hM hH hrd
  rw [show (if putC [] l = 0 then l.foldl insE [] else []) = l from hputL] at hs
  rw [hput]
  dsimp only [List.cons_append, List.nil_append, delC] at hs
  refine wl_bin rfl rfl bin_neq rfl ?_; refine wl_ns ?_; apply wc_condFb; exact rfl; exact rfl; refine wc_skip ?_; refine we_seq ?_; refine wc_seq ?_; refine wc_sr ?_; refine wl_mv rfl rfl ?_; apply wl_val; apply opv_len; exact rfl; exact tyBB.sl; exact rfl; refine wl_mv rfl rfl ?_; refine wl_ns ?_; refine wc_block ?_
  have hlc : ((l.length : Nat) : Int) = (l.length : Int) := rfl
  refine wc_loop (fun L wr mm => ∃ (i : Nat), L = [(0, .slice P l.length cp), (1, .slice B keys.length cb), (5, .pointer (some ⟨g5, 0, none⟩)), (30, .slice B keys.length cb), (31, .int .i64 (keys.length : Int)), (32, .int .i64 (i : Int))] ∧ i ≤ keys.length ∧ St M6 w2 wr [.ck (cntC g5 i l)] ∧ mm = keys.length - i)
    [(0, .slice P l.length cp), (1, .slice B keys.length cb), (5, .pointer (some ⟨g5, 0, none⟩)), (30, .slice B keys.length cb), (31, .int .i64 (keys.length : Int)), (32, .int .i64 (0 : Nat))] keys.length ⟨0, rfl, by omega, hs, rfl⟩ ⟨rfl, rfl, rfl, rfl, rfl, rfl, trivial⟩ ?_
  clear hs
  rintro _ w5 mm ⟨i, rfl, hi, hs, rfl⟩
  refine wc_sr ?_; refine wl_bin rfl rfl bin_lss rfl ?_; refine wl_ns ?_; refine wc_seq ?_
  refine wc_cond rfl (fun h1 => ?_) (fun h1 => ?_)
  · obtain ⟨kk, hkk⟩ : ∃ k, keys[i]? = some k := ⟨_, List.getElem?_eq_getElem (by omega)⟩
    have hkl := hkb kk (List.mem_of_getElem? hkk)
    obtain ⟨vs, A', c', hrow0, hu, rk0, hcl⟩ := RdBB.at hk hkk
    have hrow := hrow0.below (hend hs.1)
    refine wc_skip ?_; refine we_seq ?_; refine wc_seq ?_; refine wc_block ?_; refine wc_sr ?_; refine wl_mv rfl rfl ?_; apply wl_elK (T := tyBB) (hr := hrow) (hb := hu); exact rfl; exact rfl; exact rfl; exact rfl; exact rfl; intro _; refine wl_as rfl rfl ?_; refine wl_as rfl rfl ?_; refine wl_ns ?_; refine wc_sr ?_; refine wl_mv rfl rfl ?_
    refine wl_call ok_caissonref01_Copy (copy_any (rk0.below (hend hs.1)) rfl (by omega)) ⟨rfl, trivial⟩ rfl ?_
    rintro _ w6 ⟨K1, k1, rfl, o_, hbx⟩
    replace hs := hs.newO hbx o_ (Nat.le_refl _)
    clear o_ hrow hbx
    obtain ⟨S2, hS2, _, hM, hH, hB⟩ := St.lend (H1 := [.ck (cntC g5 i l)]) (H2 := [_]) (hs.front 1 rfl)
    refine wl_call ok_mem_Counted_Get (cget_any (m := 5) (key := kk) hS2 hord rfl (fun w' hm => ?_) (fun x h => by have := hmx x h; omega) (by omega)) ⟨rfl, rfl, rfl, trivial⟩ rfl ?_
    · obtain ⟨_, _, h⟩ := (hH w' hm).mem (c := .ow 5 K1 kk.length k1 (bvs kk)) (by simp)
      exact h.2.rd
    rintro _ w7 ⟨Z, cz, V, cv, rfl, hsx⟩
    replace hs := hB _ _ hsx
    clear hB hsx hS2 hM hH
    unfold enOw at hs
    dsimp only [List.cons_append, List.nil_append] at hs
    refine wl_mv rfl rfl ?_; apply wl_val; apply opv_extract; exact rfl; exact rfl; exact rfl; apply wl_val; apply opv_extract; exact rfl; exact rfl; exact rfl
    refine ws_var (cs := enV (gtE l kk 5) Z cz V cv) hs zeroE sE rfl (fun _ => rfl) (by first | rfl | simp [Value.oneCell']) rfl ?_; clear hs; intro g9 _ hs
    refine wl_as rfl rfl ?_; refine wl_ns ?_; refine wc_sr ?_; refine wl_mv rfl rfl ?_; refine wl_mv rfl rfl ?_
    refine wl_call ok_caissonref07_Get (refGet2_any (at' := 5) (hlr hs.1) rfl (rk0.below (hend hs.1)) rfl (fun x h => by have := hmx x h; simp only [maxLen]; omega) (by omega)) ⟨rfl, rfl, rfl, trivial⟩ rfl ?_; rintro _ _ ⟨⟨Z2, cz2, V2, cv2, rfl, q1, q2⟩, hbx⟩; replace hs := hs.below hbx; try dsimp only [List.cons_append, List.nil_append, setC, delC] at hs
    have hgm : (gtE l kk 5).key.length ≤ 1048576 ∧ (gtE l kk 5).val.length ≤ 1048576 := by
      rcases gtE_mem (l := l) (key := kk) (m := 5) with h | h
      · rw [h]; exact ⟨Nat.zero_le _, Nat.zero_le _⟩
      · exact hmx _ h
    obtain ⟨y, hy⟩ : ∃ q, gtE l kk 5 = q := ⟨_, rfl⟩
    obtain ⟨ib, hib⟩ : ∃ q, (getE l kk 5).isSome = q := ⟨_, rfl⟩
    rw [hy] at hs hgm q1 q2
    rw [hy, hib]
    clear hy hib hbx
    refine wl_mv rfl rfl ?_; apply wl_val; apply opv_extract; exact rfl; exact rfl; exact rfl; apply wl_val; apply opv_extract; exact rfl; exact rfl; exact rfl
    refine wl_var (cs := enV y Z2 cz2 V2 cv2) zeroE sE rfl (fun _ => rfl) rfl rfl fun g11 w8 hg11 a11 hbx => ?_
    replace hs := hs.newA hbx hg11 a11
    replace q1 := q1.below hbx
    replace q2 := q2.below hbx
    clear hbx hg11 a11
    obtain ⟨r0, ns, hns, hs⟩ := cnt_open (hs.front 4 rfl)
    dsimp only [delC] at hs
    unfold tbV at hs
    have hbb : (ib != ib) = false := by cases ib <;> rfl
    have hi1 : ((i + 1 : Nat) : Int) = (i : Int) + 1 := by omega
    have a11 := hs.ar 3 rfl
    have a9 := hs.ar 4 rfl
    refine wl_as rfl rfl ?_; refine wl_ns ?_; refine wc_sr ?_; refine wl_mv rfl rfl ?_; refine wl_mv rfl rfl ?_; apply wl_val; apply opv_bin; exact rfl; exact rfl; exact bin_neqB tyBool; exact rfl; refine wl_mv rfl rfl ?_; apply wl_take; exact rfl; exact rfl; exact rfl; refine bF ?_; (with_reducible exact nne); apply wl_val; apply opv_loadX; exact rfl; assumption; exact sE; exact rfl; apply wl_take; exact rfl; exact rfl; exact rfl; refine bF ?_; (with_reducible exact nne); apply wl_val; apply opv_loadX; exact rfl; assumption; exact sE; exact rfl; apply wl_take; exact rfl; exact rfl; exact rfl; refine bF ?_; (with_reducible exact nne)
    refine wl_call ok_caissonref07_Same (sameE_any (x := y) (y := y) (hs.ow 5 rfl).rd (hs.ow 6 rfl).rd q1 q2 (by simp only [maxLen]; omega) (by simp only [maxLen]; omega)) ⟨rfl, rfl, trivial⟩ rfl ?_
    rintro _ w9 ⟨⟨q, rfl, hq⟩, hbx⟩
    obtain rfl := hq.2 rfl
    replace hs := hs.below hbx
    clear hq hbx q1 q2 a11 a9
    apply wl_take; exact rfl; exact rfl; exact rfl; refine bF ?_; (with_reducible exact nne); apply wl_val; apply opv_not; exact rfl; exact rfl; apply wl_val; apply opv_pickF; exact rfl; refine bF ?_; (with_reducible exact nne); exact rfl; exact rfl; refine wl_mv rfl rfl ?_; apply wl_take; exact rfl; exact rfl; exact rfl; exact Bool.not_true; apply wl_val; apply opv_fa; exact fa_C1; exact rfl; exact rfl; apply wl_take; exact rfl; exact rfl; exact rfl; exact Bool.not_true; apply wl_val; apply opv_ldX; exact rfl; exact hs.ar 0 rfl; exact e1_int; exact rfl; exact rfl; apply wl_take; exact rfl; exact rfl; exact rfl; exact Bool.not_true; refine wl_mv rfl rfl ?_; apply wl_take; exact rfl; exact rfl; exact rfl; exact Bool.not_true; apply wl_val; apply opv_bin; exact rfl; exact rfl; exact bin_add64 (by omega); exact rfl; apply wl_take; exact rfl; exact rfl; exact rfl; exact Bool.not_true; refine wl_bin rfl rfl bin_neq rfl ?_; apply wl_val; apply opv_pickF; exact rfl; exact Bool.not_true; exact rfl; exact rfl; refine wl_ns ?_; apply wc_decF; exact rfl; omega; refine wc_skip ?_; refine we_block_norm ?_; refine we_seq ?_; refine wc_region ?_; apply wl_val; apply opv_bin; exact rfl; exact rfl; exact bin_add64 (by omega); exact rfl; refine wl_mv rfl rfl ?_; refine wl_nil ?_
    replace hs := cnt_shut (n := i + 1) hns hs
    replace hs := ((((((hs.drop 1 rfl).drop 1 rfl).drop 1 rfl).drop 1 rfl).drop 1 rfl).front 0 rfl)
    exact we_loop _ (keys.length - (i + 1)) ⟨i + 1, rfl, by omega, hs, rfl⟩ (by omega) ⟨rfl, rfl, rfl, rfl, rfl, by simp [lookT], trivial⟩
  · obtain rfl : i = keys.length := by omega
    refine wc_exit ?_; refine we_seq_exit ?_; refine we_loop_exit ?_; refine we_block_exit ?_; refine we_seq ?_; refine wc_sr ?_; apply wl_val; apply opv_fa; exact fa_C0; exact rfl; exact rfl
    obtain ⟨S2, hS2, _, hM, hH, hB⟩ := St.lend (H1 := [.ck (cntC g5 keys.length l)]) (H2 := []) hs
    refine wl_call ok_mem_Table_Get (tget2_any (TX := cntX keys.length) (m := 1) (key := []) hS2 hord rfl (fun w' hm => Rd.nil _ _) fun x h => by have := hmx x h; omega) ⟨rfl, rfl, rfl, trivial⟩ rfl ?_
    rintro _ w6 ⟨Z, cz, V, cv, rfl, hsx⟩
    replace hs := hB _ _ hsx
    clear hB hsx hS2 hM hH
    unfold enOw at hs
    dsimp only [List.cons_append, List.nil_append] at hs
    replace hs := (((hs.drop 0 rfl).drop 0 rfl).front 0 rfl)
    obtain ⟨r0, ns, hns, hs⟩ := cnt_open hs
    unfold tbV at hs
    refine wl_ns ?_; refine wc_sr ?_; apply wl_val; apply opv_fa; exact fa_C1; exact rfl; exact rfl; apply wl_val; apply opv_ldX; exact rfl; exact hs.ar 0 rfl; exact e1_int; exact rfl; exact rfl; refine wl_mv rfl rfl ?_; apply wl_val; apply opv_len; exact rfl; exact tyBB.sl; exact rfl; refine wl_bin rfl rfl bin_eql rfl ?_; refine wl_mv rfl rfl ?_; apply wl_take; exact rfl; exact rfl; exact rfl; refine bT ?_; (with_reducible rfl); apply wl_val; apply opv_fa; exact fa_C0; exact rfl; exact rfl; apply wl_take; exact rfl; exact rfl; exact rfl; refine bT ?_; (with_reducible rfl)
    replace hs := cnt_shut (n := keys.length) hns hs
    obtain ⟨S2, hS2, _, hM, hH, hB⟩ := St.lend (H1 := [.ck (cntC g5 keys.length l)]) (H2 := []) hs
    refine wl_call ok_mem_Table_Len (tlen_any (TX := cntX keys.length) hS2) ⟨rfl, trivial⟩ rfl ?_
    rintro _ _ ⟨rfl, rfl⟩
    apply wl_take; exact rfl; exact rfl; exact rfl; refine bT ?_; (with_reducible rfl); refine wl_mv rfl rfl ?_; apply wl_take; exact rfl; exact rfl; exact rfl; refine bT ?_; (with_reducible rfl); apply wl_val; apply opv_len; exact rfl; exact tkE.sl; exact rfl; apply wl_take; exact rfl; exact rfl; exact rfl; refine bT ?_; (with_reducible rfl); refine wl_bin rfl rfl bin_eql rfl ?_; apply wl_val; apply opv_pickT; exact rfl; refine bT ?_; (with_reducible rfl); exact rfl; exact rfl; refine wl_mv rfl rfl ?_; apply wl_take; exact rfl; exact rfl; exact rfl; refine bT ?_; (with_reducible assumption); apply wl_val; apply opv_fa; exact fa_C0; exact rfl; exact rfl; apply wl_take; exact rfl; exact rfl; exact rfl; refine bT ?_; (with_reducible assumption)
    refine wl_call ok_mem_Table_Range (trange_any (TX := cntX keys.length) (key := []) (to := []) hS2 hord rfl (fun w' hm => Rd.nil _ _) rfl (fun w' hm => Rd.nil _ _) (fun x h => by have := hmx x h; omega) (fun x h => (hsm x h).2) (by omega)) ⟨rfl, rfl, rfl, trivial⟩ rfl ?_
    rintro _ w7 ⟨R0, c0, rfl, hsx⟩
    replace hs := hB _ _ hsx
    clear hB hsx hS2 hM hH
    dsimp only [List.cons_append, List.nil_append] at hs
    rw [range_nil] at hs
    rw [range_nil]
    apply wl_take; exact rfl; exact rfl; exact rfl; refine bT ?_; (with_reducible assumption); refine wl_mv rfl rfl ?_; apply wl_take; exact rfl; exact rfl; exact rfl; refine bT ?_; (with_reducible assumption)
    refine wl_call ok_caissonref07_SameList (sameListE_any (OwR.rd (hs.rsE 0 rfl)) (hlr hs.1) rfl rfl (fun x h => by have := hmx x h; simp only [maxLen]; omega) (by omega) (by omega)) ⟨rfl, rfl, trivial⟩ rfl ?_
    rintro _ w8 ⟨⟨q, rfl, hq⟩, hbx⟩
    obtain rfl := hq.2 rfl
    replace hs := hs.below hbx
    apply wl_val; apply opv_pickT; exact rfl; refine bT ?_; (with_reducible assumption); exact rfl; exact rfl; refine wl_as rfl rfl ?_; refine wl_ns ?_; refine wc_ret ?_
    exact we_ret1 rfl rfl ⟨_, rfl, rfl, hend hs.1⟩
end Go.Proofs.YtpnckagibkdcpaaDoor
