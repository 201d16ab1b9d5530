/-
  The texts of this proof, joined: Ml, Mm, Zd, Jq, Mn, Mo, T0, Mp, Ib, Ic, Id, I1, Wb, Pd, Wi, Wj, Pe, Wk, I2, I3, T1, I4, Shelf, I5.
-/
import Derived.Test.YtdgagffieobiiaaGreatDoorTabM3
import Derived.Test.YtdgagffieobiiaaGreatDoorTabM2
import Derived.Test.YtdgagffieobiiaaGreatDoorTabM1
import Derived.Test.YtdgagffieobiiaaGreatDoorRows
import Derived.Lib.LaidU8
import Derived.Lib.LaidIn
import Derived.Deep.DeepHandedRow
import Derived.Deep.DeepWitnessRowRef
import Derived.SevenTiedAt
import Derived.MapKept
import Derived.Maps.RangeRun
import Derived.Shelf.SlIter.Nil
import Derived.Shelf.SortM.Plain
import Derived.Shelf.SortM.SortNone
import Derived.Test.YtdgagffieobiiaaGreatDoorProg

/-
  Walk over Range of a table.
-/
namespace Go.Proofs.YtdgagffieobiiaaGreatDoor
open Go.RowKit

/-- Is a key ahead of the end? -/
def befE (to : List UInt8) (x : En) : Bool := decide (to.length = 0 ∨ cmpB x.key to < 0)
def rgN (to : List UInt8) (post : List Nd) : List En := (post.map (·.a.x)).takeWhile (befE to)
set_option maxRecDepth 8000 in
set_option maxHeartbeats 2000000 in
theorem trange0_any {TX : TypeId × List Value} {S : BS} {t kn e tn te : Nat} {r0 : Option Nat} {ns pre post : List Nd} {sz : Int} {K T : Option Addr} {key to : List UInt8} {w : World} (h0 : Sat w (tabP TX t r0 ns sz) S) (hn : r0 = none → ns = []) (hns : ns = pre ++ post) (hpre : ∀ n ∈ pre, cmpE n.a.x key 18446744073709551615 < 0) (hpost : ∀ n ∈ post, ¬ cmpE n.a.x key 18446744073709551615 < 0)
    (hh : ∀ n ∈ ns, 1 ≤ n.h) (hkn : key.length = kn) (hkey : ∀ w', Mod S w w' → RdB w' K key) (htn : to.length = tn) (hto : ∀ w', Mod S w w' → RdB w' T to) (hok : ∀ n ∈ ns, n.a.x.key.length ≤ 140737488355328 ∧ n.a.x.val.length ≤ 140737488355328) (hlen : ns.length ≤ 1099511627776) :
    CallsV Tryz.prog 12 #[pN t, .slice K kn e, .slice T tn te] w fun v w' => ∃ r R c, v = .slice R (rgN to post).length c ∧ St S w w' (.ck (rsC 4 31 R c ((rgN to post).map oE)) :: tabP TX t (some r) ns sz) := by
  have hs := St.start h0
  unfold pN
  refine calls_in (N := _) Tryz.func12 rfl Tryz.ntmps12 rfl ?_; show WC _ _ _ _ _ _
  refine wc_sr ?_; refine wl_as rfl rfl ?_; refine wl_ns ?_; refine wc_sr ?_; refine wl_as rfl rfl ?_; refine wl_ns ?_; refine wc_seq ?_; refine wc_sr ?_; refine wl_mv rfl rfl ?_; refine wl_mv rfl rfl ?_
  obtain ⟨S2, hS2, _, hM, _, hB⟩ := St.lend (H1 := tabP TX t r0 ns sz) (H2 := []) (by rw [List.append_nil]; exact hs)
  refine wl_call ok_mem_Table_seek (seek_any (seq := 18446744073709551615) hS2 hn hns hpre hpost hh hkn fun w' hm => hkey w' (hM w' hm)) ⟨rfl, rfl, rfl, trivial⟩ rfl ?_
  rintro _ w2 ⟨r, rfl, hsx⟩
  replace hs := hB _ _ hsx
  rw [List.append_nil] at hs
  clear hB hsx hS2 hM
  simp only [tabP, tabQ] at hs
  replace hs := hs.nilS 4 31
  refine wl_as rfl rfl ?_; refine wl_ns ?_; refine wc_block ?_
  refine wc_loop (fun L wr mm => ∃ (d rest : List Nd) (R : Option Addr) (c : Nat), L = [(2, .slice T tn te), (7, .slice R d.length c), (8, fstN rest)] ∧ post = d ++ rest ∧ (∀ n ∈ d, befE to n.a.x = true) ∧ St S w wr [.ck (rsC 4 31 R c ((d.map (·.a.x)).map oE)), .blk t TX.1 (tbV (hdS (some r)) ns.length sz TX.2), .ck (packC (hdP (some r) ns)), .ck (packC (nodP ns))] ∧ mm = rest.length)
    [(2, .slice T tn te), (7, .slice none 0 0), (8, fstN post)] post.length ⟨[], post, none, 0, rfl, rfl, by simp, hs, rfl⟩ ⟨rfl, rfl, rfl, trivial⟩ ?_
  clear hs
  rintro _ w4 mm ⟨d, rest, R, c, rfl, hd, hbef, hs, rfl⟩
  cases rest with
  | nil =>
    unfold fstN
    have hz : rgN to post = d.map (·.a.x) := by
      rw [rgN, hd, List.map_append, List.takeWhile_append_of_pos (fun x hx => by obtain ⟨n, hn, rfl⟩ := List.mem_map.1 hx; exact hbef n hn)]; simp
    rw [hz]
    refine wc_seq ?_; refine wc_sr ?_; refine wl_mv rfl rfl ?_; apply wl_val; apply opv_bin; exact rfl; exact rfl; exact bin_neqNilNil tyPN; exact rfl; refine wl_mv rfl rfl ?_; apply wl_skip; exact rfl; exact rfl; exact rfl; exact bR2; exact rfl; apply wl_skip; exact rfl; exact rfl; exact rfl; exact bR2; exact rfl; apply wl_skip; exact rfl; exact rfl; exact rfl; exact bR2; exact rfl; apply wl_skip; exact rfl; exact rfl; exact rfl; exact bR2; exact rfl; apply wl_skipU; exact rfl; exact rfl; exact rfl; exact rfl; apply wl_skipU; exact rfl; exact rfl; exact rfl; exact rfl; apply wl_skipU; exact rfl; exact rfl; exact rfl; exact rfl; apply wl_skipU; exact rfl; exact rfl; exact rfl; exact rfl; apply wl_skipU; exact rfl; exact rfl; exact rfl; exact rfl; apply wl_skipU; exact rfl; exact rfl; exact rfl; exact rfl; apply wl_skipU; exact rfl; exact rfl; exact rfl; exact rfl; apply wl_skipU; exact rfl; exact rfl; exact rfl; exact rfl; apply wl_skip; exact rfl; exact rfl; exact rfl; exact bR2; exact rfl; apply wl_val; apply opv_pickF; exact rfl; exact rfl; exact rfl; exact rfl; refine wl_ns ?_; apply wc_condFb; exact rfl; exact rfl; refine wc_exit ?_; refine we_seq_exit ?_; refine we_loop_exit ?_; refine we_block_exit ?_; refine we_seq ?_; refine wc_sr ?_; refine wl_mv rfl rfl ?_; refine wl_as rfl rfl ?_; refine wl_ns ?_; refine wc_ret ?_
    exact we_ret1 rfl rfl ⟨_, rfl, r, R, c, by rw [List.length_map], hs⟩
  | cons n rest =>
    have hns2 : ns = (pre ++ d) ++ n :: rest := by rw [hns, hd, List.append_assoc]
    have hdl : d.length < ns.length := by rw [hns2]; simp; omega
    unfold fstN pN
    obtain ⟨j1, _⟩ := node_wi hs 3 rfl hns2
    obtain ⟨_, _, rn, rn2⟩ := node_read hs 3 rfl hns2
    unfold eaV at j1
    have hstop : befE to n.a.x = false → rgN to post = d.map (·.a.x) := fun hb => by
      rw [rgN, hd, List.map_append, List.takeWhile_append_of_pos (fun x hx => by obtain ⟨n, hn, rfl⟩ := List.mem_map.1 hx; exact hbef n hn), List.map_cons, List.takeWhile_cons, hb]; simp
    by_cases h1 : to.length = 0
    · have hb : befE to n.a.x = true := decide_eq_true (.inl h1)
      have h1' : (tn : Int) = 0 := by omega
      refine wc_seq ?_; refine wc_sr ?_; refine wl_mv rfl rfl ?_; apply wl_val; apply opv_bin; exact rfl; exact rfl; exact bin_neqPtrNil tyPN; exact rfl; refine wl_mv rfl rfl ?_; apply wl_take; exact rfl; exact rfl; exact rfl; exact rfl; refine wl_mv rfl rfl ?_; apply wl_take; exact rfl; exact rfl; exact rfl; exact rfl; apply wl_val; apply opv_len; exact rfl; exact tyB.sl; exact rfl; apply wl_take; exact rfl; exact rfl; exact rfl; exact rfl; refine wl_bin rfl rfl bin_eql rfl ?_; apply wl_take; exact rfl; exact rfl; exact rfl; exact rfl; refine wl_mv rfl rfl ?_; apply wl_skip; exact rfl; exact rfl; exact rfl; refine bTn ?_; (with_reducible assumption); exact rfl; apply wl_skip; exact rfl; exact rfl; exact rfl; refine bTn ?_; (with_reducible assumption); exact rfl; apply wl_skip; exact rfl; exact rfl; exact rfl; refine bTn ?_; (with_reducible assumption); exact rfl; apply wl_skip; exact rfl; exact rfl; exact rfl; refine bTn ?_; (with_reducible assumption); exact rfl; apply wl_skip; exact rfl; exact rfl; exact rfl; refine bTn ?_; (with_reducible assumption); exact rfl; apply wl_skip; exact rfl; exact rfl; exact rfl; refine bTn ?_; (with_reducible assumption); exact rfl; apply wl_skip; exact rfl; exact rfl; exact rfl; refine bTn ?_; (with_reducible assumption); exact rfl; apply wl_skip; exact rfl; exact rfl; exact rfl; refine bTn ?_; (with_reducible assumption); exact rfl; apply wl_take; exact rfl; exact rfl; exact rfl; exact rfl; apply wl_val; apply opv_pickT; exact rfl; refine bT ?_; (with_reducible assumption); exact rfl; exact rfl; apply wl_val; apply opv_pickT; exact rfl; exact rfl; exact rfl; exact rfl; refine wl_ns ?_; apply wc_condTb; exact rfl; exact rfl; refine wc_skip ?_; refine we_seq ?_; refine wc_seq ?_; refine wc_block ?_; refine wc_region ?_; refine wl_mv rfl rfl ?_; refine wl_mv rfl rfl ?_; apply wl_val; apply opv_nilOk; exact rfl; exact rfl; apply wl_val; apply opv_fa; exact fa_N0; exact rfl; exact rfl; apply wl_val; apply opv_ldG; exact rfl; assumption; exact sE; exact rfl
      refine wl_call ok_mem_twin (ttwin_any rn rn2 (hok n (by rw [hns2]; simp)).1 (hok n (by rw [hns2]; simp)).2) ⟨rfl, trivial⟩ rfl ?_
      rintro _ w5 ⟨C, e2, D, f2, rfl, hsx⟩
      replace hs := ((hs.call hsx).pack (H1 := enOw n.a.x C e2 D f2) (.ce (oE n.a.x) (enV n.a.x C e2 D f2)) oE_of).front 1 rfl
      dsimp only [delC] at hs
      refine ws_pushS hs tkE (fun _ => rfl) (by simp) ⟨_, rfl, rfl⟩ rfl rfl (by decide) (by omega) (by simp only [maxLen]; omega) rfl rfl ?_; clear hs; intro _ R2 c2 _ hs
      refine wl_as rfl rfl ?_; refine wl_nil ?_; refine we_block_norm ?_; refine we_seq ?_; refine wc_region ?_; refine wl_mv rfl rfl ?_; apply wl_val; apply opv_nilOk; exact rfl; exact rfl; apply wl_val; apply opv_fa; exact fa_N1; exact rfl; exact rfl
      obtain ⟨_, j2⟩ := node_wi hs 3 rfl hns2
      obtain ⟨_, hrow, _, _⟩ := node_read hs 3 rfl hns2
      have hu := rowV_get (ns := rest) (show 0 < n.h from hh n (by rw [hns2]; simp))
      rw [nxt_zero fun m hm => hh m (by rw [hns2]; simp [hm])] at hu
      apply wl_val; apply opv_ldX; exact rfl; assumption; exact e1_ns; exact rfl; exact rfl; apply wl_elK (T := tyN) (hr := hrow) (hb := hu); exact rfl; exact rfl; exact rfl; exact rfl; exact rfl; intro _; refine wl_as rfl rfl ?_; refine wl_nil ?_
      refine we_loop _ rest.length ⟨d ++ [n], rest, R2, c2, rfl, by rw [hd]; simp, fun m hm => ?_, by rw [List.map_append, List.map_append]; exact hs, rfl⟩ (by simp) ⟨rfl, by rw [List.length_append]; rfl, rfl, trivial⟩
      rcases List.mem_append.1 hm with hm | hm
      · exact hbef m hm
      · rw [List.mem_singleton.1 hm]; exact hb
    · have h1' : ¬ (tn : Int) = 0 := by omega
      refine wc_seq ?_; refine wc_sr ?_; refine wl_mv rfl rfl ?_; apply wl_val; apply opv_bin; exact rfl; exact rfl; exact bin_neqPtrNil tyPN; exact rfl; refine wl_mv rfl rfl ?_; apply wl_take; exact rfl; exact rfl; exact rfl; exact rfl; refine wl_mv rfl rfl ?_; apply wl_take; exact rfl; exact rfl; exact rfl; exact rfl; apply wl_val; apply opv_len; exact rfl; exact tyB.sl; exact rfl; apply wl_take; exact rfl; exact rfl; exact rfl; exact rfl; refine wl_bin rfl rfl bin_eql rfl ?_; apply wl_take; exact rfl; exact rfl; exact rfl; exact rfl; refine wl_mv rfl rfl ?_; apply wl_take; exact rfl; exact rfl; exact rfl; refine bF ?_; (with_reducible assumption); refine wl_mv rfl rfl ?_; apply wl_take; exact rfl; exact rfl; exact rfl; refine bF ?_; (with_reducible assumption); apply wl_val; apply opv_nilOk; exact rfl; exact rfl; apply wl_take; exact rfl; exact rfl; exact rfl; refine bF ?_; (with_reducible assumption); apply wl_val; apply opv_fa; exact fa_N0; exact rfl; exact rfl; apply wl_take; exact rfl; exact rfl; exact rfl; refine bF ?_; (with_reducible assumption); apply wl_val; apply opv_fa; exact fa_sE (by decide); exact rfl; exact rfl; apply wl_take; exact rfl; exact rfl; exact rfl; refine bF ?_; (with_reducible assumption); apply wl_val; apply opv_ldX; exact rfl; assumption; exact e1_by; exact rfl; exact rfl; apply wl_take; exact rfl; exact rfl; exact rfl; refine bF ?_; (with_reducible assumption); refine wl_mv rfl rfl ?_; apply wl_take; exact rfl; exact rfl; exact rfl; refine bF ?_; (with_reducible assumption)
      refine wl_call ok_codec_Cmp (cmp_any rn (hto _ hs.1) rfl htn) ⟨rfl, rfl, trivial⟩ rfl ?_
      rintro _ _ ⟨rfl, rfl⟩
      by_cases h2 : cmpB n.a.x.key to < 0
      · have hb : befE to n.a.x = true := decide_eq_true (.inr h2)
        apply wl_take; exact rfl; exact rfl; exact rfl; refine bF ?_; (with_reducible assumption); refine wl_bin rfl rfl bin_lss rfl ?_; apply wl_take; exact rfl; exact rfl; exact rfl; exact rfl; apply wl_val; apply opv_pickF; exact rfl; refine bF ?_; (with_reducible assumption); exact rfl; exact rfl; apply wl_val; apply opv_pickT; exact rfl; exact rfl; exact rfl; exact rfl; refine wl_ns ?_; apply wc_decT; exact rfl; (with_reducible assumption); refine wc_skip ?_; refine we_seq ?_; refine wc_seq ?_; refine wc_block ?_; refine wc_region ?_; refine wl_mv rfl rfl ?_; refine wl_mv rfl rfl ?_; apply wl_val; apply opv_nilOk; exact rfl; exact rfl; apply wl_val; apply opv_fa; exact fa_N0; exact rfl; exact rfl; apply wl_val; apply opv_ldG; exact rfl; assumption; exact sE; exact rfl
        refine wl_call ok_mem_twin (ttwin_any rn rn2 (hok n (by rw [hns2]; simp)).1 (hok n (by rw [hns2]; simp)).2) ⟨rfl, trivial⟩ rfl ?_
        rintro _ w5 ⟨C, e2, D, f2, rfl, hsx⟩
        replace hs := ((hs.call hsx).pack (H1 := enOw n.a.x C e2 D f2) (.ce (oE n.a.x) (enV n.a.x C e2 D f2)) oE_of).front 1 rfl
        dsimp only [delC] at hs
        refine ws_pushS hs tkE (fun _ => rfl) (by simp) ⟨_, rfl, rfl⟩ rfl rfl (by decide) (by omega) (by simp only [maxLen]; omega) rfl rfl ?_; clear hs; intro _ R2 c2 _ hs
        refine wl_as rfl rfl ?_; refine wl_nil ?_; refine we_block_norm ?_; refine we_seq ?_; refine wc_region ?_; refine wl_mv rfl rfl ?_; apply wl_val; apply opv_nilOk; exact rfl; exact rfl; apply wl_val; apply opv_fa; exact fa_N1; exact rfl; exact rfl
        obtain ⟨_, j2⟩ := node_wi hs 3 rfl hns2
        obtain ⟨_, hrow, _, _⟩ := node_read hs 3 rfl hns2
        have hu := rowV_get (ns := rest) (show 0 < n.h from hh n (by rw [hns2]; simp))
        rw [nxt_zero fun m hm => hh m (by rw [hns2]; simp [hm])] at hu
        apply wl_val; apply opv_ldX; exact rfl; assumption; exact e1_ns; exact rfl; exact rfl; apply wl_elK (T := tyN) (hr := hrow) (hb := hu); exact rfl; exact rfl; exact rfl; exact rfl; exact rfl; intro _; refine wl_as rfl rfl ?_; refine wl_nil ?_
        refine we_loop _ rest.length ⟨d ++ [n], rest, R2, c2, rfl, by rw [hd]; simp, fun m hm => ?_, by rw [List.map_append, List.map_append]; exact hs, rfl⟩ (by simp) ⟨rfl, by rw [List.length_append]; rfl, rfl, trivial⟩
        rcases List.mem_append.1 hm with hm | hm
        · exact hbef m hm
        · rw [List.mem_singleton.1 hm]; exact hb
      · rw [hstop (decide_eq_false fun h => h.elim h1 h2)]
        apply wl_take; exact rfl; exact rfl; exact rfl; refine bF ?_; (with_reducible assumption); refine wl_bin rfl rfl bin_lss rfl ?_; apply wl_take; exact rfl; exact rfl; exact rfl; exact rfl; apply wl_val; apply opv_pickF; exact rfl; refine bF ?_; (with_reducible assumption); exact rfl; exact rfl; apply wl_val; apply opv_pickT; exact rfl; exact rfl; exact rfl; exact rfl; refine wl_ns ?_; apply wc_decF; exact rfl; (with_reducible assumption); refine wc_exit ?_; refine we_seq_exit ?_; refine we_loop_exit ?_; refine we_block_exit ?_; refine we_seq ?_; refine wc_sr ?_; refine wl_mv rfl rfl ?_; refine wl_as rfl rfl ?_; refine wl_ns ?_; refine wc_ret ?_
        exact we_ret1 rfl rfl ⟨_, rfl, r, R, c, by rw [List.length_map], hs⟩
end Go.Proofs.YtdgagffieobiiaaGreatDoor

/-
  Range of a table told by its entries.
-/
namespace Go.Proofs.YtdgagffieobiiaaGreatDoor
open Go.RowKit

def rangeE (l : List En) (f t : List UInt8) : List En := l.filter fun x => decide (0 ≤ cmpB x.key f ∧ (t.length = 0 ∨ cmpB x.key t < 0))
theorem filter_while {l : List En} (t : List UInt8) (ho : Ord l) : l.filter (befE t) = l.takeWhile (befE t) := by
  induction l with
  | nil => rfl
  | cons x l ih =>
    obtain ⟨h1, h2⟩ := List.pairwise_cons.1 ho
    rw [List.filter_cons, List.takeWhile_cons]
    cases hb : befE t x with
    | true => simp only [if_true]; rw [ih h2]
    | false =>
      simp only [Bool.false_eq_true, if_false]
      refine List.filter_eq_nil_iff.2 fun y hy => ?_
      have h3 := of_decide_eq_false hb
      intro h4
      have h5 := of_decide_eq_true h4
      rcases h5 with h5 | h5
      · exact h3 (.inl h5)
      · refine h3 (.inr ?_)
        rcases lessE_iff.1 (h1 y hy) with h6 | ⟨h6, _⟩
        · exact cmp_trans h6 h5
        · rw [h6]; exact h5
theorem range_eq {pre post : List Nd} {f : List UInt8} (t : List UInt8) (ho : Ord ((pre ++ post).map (·.a.x))) (hsq : ∀ n ∈ pre ++ post, n.a.x.seq < 18446744073709551616) (hpre : ∀ n ∈ pre, cmpE n.a.x f 18446744073709551615 < 0) (hpost : ∀ n ∈ post, ¬ cmpE n.a.x f 18446744073709551615 < 0) :
    rangeE ((pre ++ post).map (·.a.x)) f t = rgN t post := by
  have h1 : (pre.map (·.a.x)).filter (fun x => decide (0 ≤ cmpB x.key f ∧ (t.length = 0 ∨ cmpB x.key t < 0))) = [] := List.filter_eq_nil_iff.2 fun x hx => by
    obtain ⟨n, hn, rfl⟩ := List.mem_map.1 hx
    rw [decide_eq_true_eq]
    rintro ⟨h, _⟩
    have h2 := hpre n hn
    by_cases hk : n.a.x.key = f
    · have := (cmpE_same hk).1 h2
      have := hsq n (List.mem_append_left _ hn)
      omega
    · rw [cmpE_diff hk] at h2; omega
  have h2 : (post.map (·.a.x)).filter (fun x => decide (0 ≤ cmpB x.key f ∧ (t.length = 0 ∨ cmpB x.key t < 0))) = (post.map (·.a.x)).filter (befE t) := List.filter_congr fun x hx => by
    obtain ⟨n, hn, rfl⟩ := List.mem_map.1 hx
    have h3 : 0 ≤ cmpB n.a.x.key f := by
      have h4 := hpost n hn
      by_cases hk : n.a.x.key = f
      · rw [hk, cmp_refl]; decide
      · rw [cmpE_diff hk] at h4; omega
    rw [befE]
    simp [h3]
  rw [rangeE, List.map_append, List.filter_append, h1, List.nil_append, h2, rgN]
  rw [List.map_append] at ho
  exact filter_while t (List.pairwise_append.1 ho).2.1
theorem trange_any {TX : TypeId × List Value} {S : BS} {t kn e tn te : Nat} {xs : List En} {K T : Option Addr} {key to : List UInt8} {w : World} (h0 : Sat w [.ck (tblX TX t xs)] S) (ho : Ord xs) (hkn : key.length = kn) (hkey : ∀ w', Mod S w w' → RdB w' K key) (htn : to.length = tn) (hto : ∀ w', Mod S w w' → RdB w' T to) (hok : ∀ x ∈ xs, x.key.length ≤ 140737488355328 ∧ x.val.length ≤ 140737488355328) (hsq : ∀ x ∈ xs, x.seq < 18446744073709551616) (hlen : xs.length ≤ 1099511627776) :
    CallsV Tryz.prog 12 #[pN t, .slice K kn e, .slice T tn te] w fun v w' => ∃ R c, v = .slice R (rangeE xs key to).length c ∧ St S w w' [.ck (rsC 4 31 R c ((rangeE xs key to).map oE)), .ck (tblX TX t xs)] := by
  obtain ⟨r0, ns, h1, h2, h3, h4⟩ := tblC_get h0
  obtain ⟨pre, post, h5, h6, h7⟩ := ord_split ⟨key, 18446744073709551615, 0, []⟩ (h2 ▸ ho)
  subst h2
  refine (trange0_any (e := e) (te := te) h1 h3 h5 h6 h7 h4 hkn hkey htn hto (fun n hn => hok _ (List.mem_map_of_mem hn)) (by simpa using hlen)).mono fun v w' ⟨r, R, c, hv, hs⟩ => ?_
  subst h5
  rw [range_eq to ho (fun n hn => hsq _ (List.mem_map_of_mem hn)) h6 h7]
  exact ⟨R, c, hv, tblC_back (H := [_]) hs rfl (by simp) h4⟩
end Go.Proofs.YtdgagffieobiiaaGreatDoor

/-
  The bytes of a constant string, over pieces: made, marked, and read from then on. Nothing here names the program.
-/
namespace Go.Proofs.YtdgagffieobiiaaGreatDoor
open Go.RowKit

theorem zell_freeze (w : World) (a : Addr) (n : Nat) (p : Addr) : (w.freeze a n).cell? p = w.cell? p := by
  unfold World.freeze
  split
  · rfl
  · unfold World.cell?
    simp only [Array.getElem?_modify]
    by_cases h : a.block = p.block
    · rw [if_pos h]
      cases w.heap[p.block]? with
      | none => rfl
      | some o => cases o <;> rfl
    · rw [if_neg h]
section
variable {P : Program} {N : Nat} {ops : Array Oper} {Q : Exit → Act → World → Prop} {rest : List Oper} {L : FL} {w0 w : World} {M : BS} {H : List Cd} {t e : TypeId} {bytes : Nat}
end
end Go.Proofs.YtdgagffieobiiaaGreatDoor

/-
  How arguments that are entries, or lists of them, are read; walks over awake and over the laws MergeSees and MergeKeeps.
-/
namespace Go.Proofs.YtdgagffieobiiaaGreatDoor
open Go.RowKit Go.ChangeShapes Go.WideShapes Go.ChangeAt Go.Deep

def enB (x : En) : Nat := x.key.length + x.val.length
theorem opens_entry : Opens Tryz.prog 31 enEl 4 enB (fun x => x.seq < 2 ^ 64) := fun {H} enc W fuel cs x h => by
  obtain ⟨xs, n, rfl, rfl, hl, hx, hf⟩ := DataW.trod_struct Tryz.underlying31 h
  replace hl : cs.length = 4 := hl.trans (by kernel_rfl)
  obtain ⟨c0, c1, c2, c3, rfl⟩ := len4 hl
  obtain ⟨y0, y1, y2, y3, rfl⟩ := len4 hx
  obtain ⟨a0, h0, _, k0, b0⟩ := opens_bytes enc W n [c0] y0 (field_at hf (i := 0) (off := 0) (k := 1) (t := 28) rfl rfl rfl (by kernel_rfl))
  obtain ⟨a1, h1, _, k1, b1⟩ := opens_int Tryz.underlying29 enc W n [c1] y1 (field_at hf (i := 1) (off := 1) (k := 1) (t := 29) rfl rfl rfl (by kernel_rfl))
  obtain ⟨a2, h2, _, k2, b2⟩ := opens_int Tryz.underlying5 enc W n [c2] y2 (field_at hf (i := 2) (off := 2) (k := 1) (t := 5) rfl rfl rfl (by kernel_rfl))
  obtain ⟨a3, h3, _, k3, b3⟩ := opens_bytes enc W n [c3] y3 (field_at hf (i := 3) (off := 3) (k := 1) (t := 28) rfl rfl rfl (by kernel_rfl))
  obtain rfl : c1 = .int .u64 a1 := by simpa [vEl] using h1
  obtain rfl : c2 = .int .u8 a2 := by simpa [vEl] using h2
  have k1' : 0 ≤ a1 ∧ a1 ≤ 18446744073709551615 := by simpa [Lit.wf, IntKind.min, IntKind.max, IntKind.signed, IntKind.bits] using k1
  have k2' : 0 ≤ a2 ∧ a2 ≤ 255 := by simpa [Lit.wf, IntKind.min, IntKind.max, IntKind.signed, IntKind.bits] using k2
  obtain ⟨s, rfl⟩ := Int.eq_ofNat_of_zero_le k1'.1
  obtain ⟨q, rfl⟩ := Int.eq_ofNat_of_zero_le k2'.1
  have h0' := h0
  have h3' := h3
  obtain ⟨A, c, e0, _⟩ := h0
  obtain ⟨B, d, e3, _⟩ := h3
  obtain rfl : c0 = .slice A a0.length c := by simpa using e0
  obtain rfl : c3 = .slice B a3.length d := by simpa using e3
  refine ⟨⟨a0, s, UInt8.ofNat q, a3⟩, ⟨A, c, B, d, ?_, h0', h3'⟩, rfl, ?_, ?_⟩
  · have : (UInt8.ofNat q).toNat = q := by rw [UInt8.toNat_ofNat', Nat.mod_eq_of_lt (by omega)]
    simp [enV, this]
  · show s < 2 ^ 64; omega
  · replace b0 : a0.length + 1 ≤ _ := b0
    replace b3 : a3.length + 1 ≤ _ := b3
    simp only [enB, Rows.uptoBulk, Rows.uptoBulkAll, List.map_cons, List.map_nil]
    omega
theorem opens_entries : Opens Tryz.prog 22 (fun l : List En => rowEl 4 (l.map enEl)) 1 (sumB enB) (fun l => ∀ x ∈ l, x.seq < 2 ^ 64) := opens_slice tkE (by kernel_rfl) opens_entry
theorem ent_small {l : List En} (h : sumB enB l ≤ 1048576) : l.length ≤ 1048576 ∧ ∀ x ∈ l, x.key.length ≤ 1048576 ∧ x.val.length ≤ 1048576 := by
  have h1 := sumB_len (bulk := enB) l
  refine ⟨by omega, fun x hx => ?_⟩
  have h2 := sumB_mem (bulk := enB) hx
  have h3 : enB x = x.key.length + x.val.length := rfl
  omega
theorem few_mem {l : List En} {n : Nat} {x : En} (h : x ∈ l.take n) : x ∈ l := List.mem_of_mem_take h
abbrev RetTr (w : World) (v : Value) (w' : World) : Prop := v = .bool true ∧ Below w.heap.size w w'
end Go.Proofs.YtdgagffieobiiaaGreatDoor

/-
  Literal bytes among pieces; walks over awake and over the law MemChecks.
-/
namespace Go.Proofs.YtdgagffieobiiaaGreatDoor
open Go.RowKit

section
variable {P : Program} {N : Nat} {ops : Array Oper} {Q : Exit → Act → World → Prop} {rest : List Oper} {L : FL} {w0 w : World} {M : BS} {H : List Cd} {t e : TypeId} {bytes : Nat}
end
theorem rs_rdr {e : TypeId} {A : Option Addr} {c : Nat} {l : List En} {w : World} {T : BS} (h : (Cd.ck (rsC 4 e A c (l.map oE))).P w T) : RdR 4 w T A (l.map enEl) := by
  obtain ⟨h1, h2⟩ := rs_rg h
  obtain ⟨css, g1, g2⟩ := owr_en h2
  exact ⟨css, g1.mono fun b _ hb => hb.1, own_rd g2, fun a ha _ => h1 a ha⟩
end Go.Proofs.YtdgagffieobiiaaGreatDoor

/-
  Rows that list the tables of math/bits: what the listed data give, the witness's world.
-/
namespace Go.Proofs.YtdgagffieobiiaaGreatDoor
open Go.RowKit Go.ChangeShapes Go.WideShapes Go.ChangeAt Go.Lib

abbrev tabs : List (String × DataW Unit) := [("math/bits.deBruijn32tab", Rows.laid_math_bits_deBruijn32tab), ("math/bits.deBruijn64tab", Rows.laid_math_bits_deBruijn64tab)]
theorem gt_of {W : World} (h : laidMetH Tryz.prog tabs W) : GT W := by
  rw [MakeChecks.laidMetH_plain _ _ _ (by kernel_rfl)] at h
  obtain ⟨g, t, cs, fuel, p, hg, hty, hvar, hd⟩ := Lib.laidMet.reads h (.tail _ (.head _))
  obtain rfl : 2 = g := Option.some.inj ((show Tryz.prog.globalNamed "math/bits.deBruijn64tab" = some 2 by kernel_rfl).symm.trans hg)
  obtain rfl : 159 = t := Option.some.inj ((show (Tryz.prog.globals[2]?).map (·.type) = some 159 by kernel_rfl).symm.trans hty)
  have key : ∀ i, i < 64 → ∃ x : UInt8, W.cell? ⟨2, i, none⟩ = some (bv x) := fun i hi => by
    obtain ⟨fuel', d, q, _, he⟩ := Lib.array_elem Tryz.underlying159 hd i hi
    rw [show Tryz.prog.cellsOf 5 = 1 by kernel_rfl, Nat.mul_one] at he
    obtain ⟨z, hz, _, hwf⟩ := DataW.trod_int Tryz.underlying5 he
    have h2 := congrArg (·[0]?) hz
    simp only [List.getElem?_take, List.getElem?_drop] at h2
    have h3 : 0 ≤ z ∧ z ≤ 255 := by simpa [Lit.wf, IntKind.min, IntKind.max, IntKind.signed, IntKind.bits] using hwf
    obtain ⟨q, rfl⟩ := Int.eq_ofNat_of_zero_le h3.1
    refine ⟨UInt8.ofNat q, ?_⟩
    rw [World.var?_cell hg hvar i, ← Array.getElem?_toList]
    have : (UInt8.ofNat q).toNat = q := by rw [UInt8.toNat_ofNat', Nat.mod_eq_of_lt (by omega)]
    simp at h2
    simp [bv, this, h2]
  refine ⟨?_, key⟩
  obtain ⟨x, hx⟩ := key 0 (by decide)
  unfold World.cell? at hx
  rcases Nat.lt_or_ge 2 W.heap.size with h1 | h1
  · exact h1
  · rw [Array.getElem?_eq_none h1] at hx; cases hx
def dbCells (d : DataW Unit) : List Value := match d with
  | .agg ds => ds.filterMap fun x => match x with | .lit (.int k z) => some (.int k z) | _ => none
  | _ => []
/-- The settled world, the two variables holding what their initialisers lay. -/
noncomputable def laidWorld (os : Os) : World :=
  let w0 := World.holding Tryz.prog os ⟨#[], #[], []⟩
  let put (h : Array Obj) (g : Nat) (cs : Array Value) : Array Obj := h.modify g fun
    | .cells _ t frozen => .cells cs t frozen
    | o => o
  let h1 := put w0.heap 1 (dbCells Rows.laid_math_bits_deBruijn32tab).toArray
  let h2 := put h1 2 (dbCells Rows.laid_math_bits_deBruijn64tab).toArray
  { w0 with heap := h2 }
theorem laid_met (os : Os) (args : Array Value) : laidMet Tryz.prog tabs ((laidWorld os).forCall (fun _ _ => 0) ⟨#[], args, []⟩).memory :=
  (LaidIn.of_run (l := tabs) [1, 2] 8 (by kernel_rfl) (by kernel_rfl) (by kernel_rfl) (by kernel_rfl)).met
end Go.Proofs.YtdgagffieobiiaaGreatDoor

/-
  Plain laws of a filter of keys.
-/
namespace Go.Proofs.YtdgagffieobiiaaGreatDoor

def hashS (h : Nat) (b : UInt8) : Nat := ((h ^^^ b.toNat) * 1099511628211) % 2 ^ 64
def hash0 : Nat := 14695981039346656037
theorem hash0_int : ((hash0 : Nat) : Int) = 14695981039346656037 := rfl
theorem hash0_lt : hash0 < 2 ^ 64 := by decide
def hashB (key : List UInt8) : Nat := key.foldl hashS hash0
def loB (key : List UInt8) : Nat := hashB key &&& 4294967295
def hiB (key : List UInt8) : Nat := hashB key / 2 ^ 32 ||| 1
def plB (key : List UInt8) (m i : Nat) : Nat := (loB key + i * hiB key) % m
def plsB (key : List UInt8) (m k : Nat) : List Nat := (List.range k).map (plB key m)
/-- How many bits a filter of n keys has. -/
def mB (n : Nat) : Nat := (max 64 (10 * n) + 7) / 8 * 8
def setB (f : List UInt8) (b : Nat) : List UInt8 := f.set (b / 8) (UInt8.ofNat ((f.getD (b / 8) 0).toNat ||| 2 ^ (b % 8)))
def getB (f : List UInt8) (b : Nat) : Bool := (f.getD (b / 8) 0).toNat.testBit (b % 8)
def bitsB (m : Nat) (keys : List (List UInt8)) : List UInt8 := keys.foldl (fun f key => (plsB key m 6).foldl setB f) (List.replicate (m / 8 + 1) 0)
def filtB (keys : List (List UInt8)) : List UInt8 := (bitsB (mB keys.length) keys).set (mB keys.length / 8) 6
def mayB (f key : List UInt8) : Bool := (plsB key (8 * (f.length - 1)) 6).all (getB f)
theorem hash_lt (key : List UInt8) : hashB key < 2 ^ 64 := by
  have : ∀ (l : List UInt8) (h : Nat), h < 2 ^ 64 → l.foldl hashS h < 2 ^ 64 := by
    intro l
    induction l with
    | nil => intro h hh; exact hh
    | cons b l ih => intro h _; exact ih _ (Nat.mod_lt _ (by decide))
  exact this key _ hash0_lt
theorem lo_lt (key : List UInt8) : loB key < 2 ^ 32 := Nat.lt_of_le_of_lt Nat.and_le_right (by decide)
theorem hi_lt (key : List UInt8) : hiB key < 2 ^ 32 := Nat.or_lt_two_pow (by have := hash_lt key; omega) (by decide)
theorem mB_ok {n : Nat} (h : n ≤ 40) : 64 ≤ mB n ∧ mB n ≤ 400 ∧ mB n / 8 * 8 = mB n := by unfold mB; omega
theorem pl_lt {key : List UInt8} {m i : Nat} (h : 0 < m) : plB key m i < m := Nat.mod_lt _ h
theorem pls_lt {key : List UInt8} {m k b : Nat} (h : 0 < m) (hb : b ∈ plsB key m k) : b < m := by
  obtain ⟨i, _, rfl⟩ := List.mem_map.1 hb
  exact pl_lt h
theorem setB_len (f : List UInt8) (b : Nat) : (setB f b).length = f.length := by simp [setB]
theorem sets_len (bs : List Nat) : ∀ f : List UInt8, (bs.foldl setB f).length = f.length := by
  induction bs with
  | nil => intro f; rfl
  | cons b bs ih => intro f; rw [List.foldl_cons, ih, setB_len]
theorem bits_len (m : Nat) (keys : List (List UInt8)) : (bitsB m keys).length = m / 8 + 1 := by
  have : ∀ (l : List (List UInt8)) (f : List UInt8), (l.foldl (fun f key => (plsB key m 6).foldl setB f) f).length = f.length := by
    intro l
    induction l with
    | nil => intro f; rfl
    | cons a l ih => intro f; rw [List.foldl_cons, ih, sets_len]
  rw [bitsB, this, List.length_replicate]
theorem filt_len (keys : List (List UInt8)) : (filtB keys).length = mB keys.length / 8 + 1 := by rw [filtB, List.length_set, bits_len]
theorem getD_set (f : List UInt8) (i j : Nat) (v : UInt8) (h : i < f.length) : (f.set i v).getD j 0 = if i = j then v else f.getD j 0 := by
  rw [List.getD_eq_getElem?_getD, List.getD_eq_getElem?_getD, List.getElem?_set]
  by_cases e : i = j
  · subst e; rw [if_pos rfl, if_pos rfl, if_pos h]; rfl
  · rw [if_neg e, if_neg e]
theorem or_u8 (x : UInt8) (k : Nat) (hk : k < 8) : x.toNat ||| 2 ^ k < 256 := Nat.or_lt_two_pow (n := 8) x.toNat_lt (Nat.pow_lt_pow_right (by decide) hk)
theorem setB_at {f : List UInt8} {b : Nat} (h : b / 8 < f.length) (c : Nat) : getB (setB f b) c = (getB f c || decide (b = c)) := by
  unfold getB setB
  rw [getD_set _ _ _ _ h]
  by_cases e : b / 8 = c / 8
  · rw [if_pos e, UInt8.toNat_ofNat', Nat.mod_eq_of_lt (or_u8 _ _ (Nat.mod_lt _ (by decide))), Nat.testBit_or, e, Nat.testBit_two_pow]
    congr 1
    apply decide_eq_decide.2
    omega
  · rw [if_neg e, decide_eq_false (fun h => e (by rw [h])), Bool.or_false]
theorem sets_at {c : Nat} : ∀ (bs : List Nat) (f : List UInt8), (∀ b ∈ bs, b / 8 < f.length) → (getB f c = true ∨ c ∈ bs) → getB (bs.foldl setB f) c = true
  | [], f, _, h => by
    rcases h with h | h
    · exact h
    · cases h
  | b :: bs, f, hb, h => by
    rw [List.foldl_cons]
    refine sets_at bs (setB f b) (fun x hx => by rw [setB_len]; exact hb x (List.mem_cons_of_mem _ hx)) ?_
    rw [setB_at (hb b List.mem_cons_self)]
    rcases h with h | h
    · rw [h]; exact .inl rfl
    · rcases List.mem_cons.1 h with rfl | h
      · exact .inl (by simp)
      · exact .inr h
theorem bits_at {m c : Nat} (hm : 0 < m) : ∀ (l : List (List UInt8)) (f : List UInt8), m ≤ 8 * (f.length - 1) → (getB f c = true ∨ ∃ key ∈ l, c ∈ plsB key m 6) → getB (l.foldl (fun f key => (plsB key m 6).foldl setB f) f) c = true
  | [], f, _, h => by
    rcases h with h | ⟨_, h, _⟩
    · exact h
    · cases h
  | a :: l, f, hf, h => by
    rw [List.foldl_cons]
    have hb : ∀ b ∈ plsB a m 6, b / 8 < f.length := fun b hb => by have := pls_lt hm hb; omega
    refine bits_at hm l _ (by rw [sets_len]; exact hf) ?_
    rcases h with h | ⟨key, hk, hc⟩
    · exact .inl (sets_at _ _ hb (.inl h))
    · rcases List.mem_cons.1 hk with rfl | hk
      · exact .inl (sets_at _ _ hb (.inr hc))
      · exact .inr ⟨key, hk, hc⟩
/-- A key that is in is told to be in. -/
theorem may_in {keys : List (List UInt8)} {key : List UInt8} (hn : keys.length ≤ 40) (h : key ∈ keys) : mayB (filtB keys) key = true := by
  obtain ⟨h1, h2, h3⟩ := mB_ok hn
  have hl : 8 * ((filtB keys).length - 1) = mB keys.length := by rw [filt_len]; omega
  unfold mayB
  rw [hl, List.all_eq_true]
  intro c hc
  have hcm := pls_lt (show 0 < mB keys.length by omega) hc
  have := bits_at (m := mB keys.length) (c := c) (by omega) keys (List.replicate (mB keys.length / 8 + 1) 0) (by rw [List.length_replicate]; omega) (.inr ⟨key, h, hc⟩)
  unfold getB filtB
  rw [getD_set _ _ _ _ (by rw [bits_len]; omega), if_neg (by omega)]
  exact this
end Go.Proofs.YtdgagffieobiiaaGreatDoor

/-
  The engine's rules for maps whose keys are strings and of which nothing is deleted: made, asked, written, counted, and gone through in whatever order. Nothing here names the program.
-/
namespace Go.Proofs.YtdgagffieobiiaaGreatDoor
open Go.RowKit

/-- An entry: its key, its value, its stamp. -/
abbrev ME := List UInt8 × Value × Nat
def toE (x : ME) : MapEntry := { key := str x.1, val := x.2.1, born := x.2.2 }
/-- Block b is a map with these entries. -/
def Mp (w : World) (b : Nat) (es : List ME) (clk : Nat) : Prop := w.heap[b]? = some (.map (es.map toE).toArray clk)
def fnd (k : List UInt8) : List ME → Nat → Option (Nat × Value)
  | [], _ => none
  | e :: es, i => if k = e.1 then some (i, e.2.1) else fnd k es (i + 1)
def mget (es : List ME) (k : List UInt8) : Option Value := (fnd k es 0).map (·.2)
def mput (es : List ME) (clk : Nat) (k : List UInt8) (v : Value) : List ME × Nat :=
  match fnd k es 0 with
  | some (i, _) => (es.modify i fun e => (k, v, e.2.2), clk)
  | none => (es ++ [(k, v, clk)], clk + 1)
section
variable {P : Program} {N : Nat} {ops : Array Oper} {Q : Exit → Act → World → Prop} {rest : List Oper} {L : FL} {w w' : World} {t e kt : TypeId} {b clk : Nat} {es : List ME} {k : List UInt8}
theorem Mp.lt (h : Mp w b es clk) : b < w.heap.size := (Array.getElem?_eq_some_iff.1 h).1
theorem Mp.bel (h : Mp w b es clk) (hb : Below w.heap.size w w') : Mp w' b es clk := (hb.block b h.lt).trans h
theorem Mp.gr {A : Option Addr} (h : Mp w b es clk) (g : Gr w w' A) (hA : ∀ a, A = some a → a.block ≠ b) : Mp w' b es clk :=
  (g.block b h.lt fun hk => by
    cases A with
    | none => simp at hk
    | some a => simp at hk; exact hA a rfl hk.symm).trans h
theorem ba_eq (a c : List UInt8) : ((⟨a.toArray⟩ : ByteArray) == ⟨c.toArray⟩) = decide (a = c) := by
  rw [Bool.eq_iff_iff, MapKept.bytes_beq, decide_eq_true_eq]
  exact ⟨fun h => by injection h with h1; simpa using h1, fun h => by rw [h]⟩
theorem findNow_str (k : List UInt8) : ∀ (es : List ME) (i : Nat), Instr.findNow .string (str k) (es.map toE) i = some (fnd k es i)
  | [], i => rfl
  | e :: es, i => by
    have hs : Instr.sameNow .string (str k) (toE e).key = some (decide (k = e.1)) := by
      show some ((⟨k.toArray⟩ : ByteArray) == ⟨e.1.toArray⟩) = _
      rw [ba_eq]
    simp only [List.map_cons, Instr.findNow, hs, fnd]
    by_cases h : k = e.1
    · simp [h]; rfl
    · simp [h, findNow_str k es (i + 1)]
theorem run_findKey (hk : P.underlying kt = some .string) : (Instr.findKey kt (str k) (es.map toE)).run P w = .ok (fnd k es 0) w := by
  simp only [Instr.findKey, Sem.run_bind, run_underlying hk, Result.andThen_ok, findNow_str]
  simp
theorem opv_mkMap {ty : TypeId} : OpV P (.makeMap t none) ty L w (.map (some w.heap.size)) (w.alloc (.map #[] 0)) := fun ρ o hρ ho _ => by
  simp [execOp, ho, Instr.makeMap]
theorem wl_mkMap {d : Nat} {ty : TypeId} {pos : String} {aft : Array Edge} (hd : Nat.blt d N = true)
    (h : ∀ g w', w.heap.size ≤ g → Mp w' g [] 0 → Below w.heap.size w w' → WL P N ops Q rest ((d, .map (some g)) :: L) w') :
    WL P N ops Q (⟨some d, .makeMap t none, ty, pos, aft, none⟩ :: rest) L w :=
  wl_val opv_mkMap hd (h _ _ (Nat.le_refl _) (heap_alloc_new w _) ((Below.refl _ _).alloc (Nat.le_refl _) _))
theorem opv_lookup {x y : Operand} {ty : TypeId} {z : Value} (ht : P.underlying t = some (.map kt e)) (hk : P.underlying kt = some .string) (hz : (P.info? e).map (·.zero) = some (some z)) (hx : look L x = some (.map (some b))) (hy : look L y = some (str k)) (hm : Mp w b es clk) :
    OpV P (.lookup t x y false) ty L w ((mget es k).getD z) w := fun ρ o hρ ho _ => by
  have hzr : (zeroValue e).run P w = .ok z w := by
    cases hq : P.info? e with
    | none => simp [hq] at hz
    | some i => have : i.zero = some z := by simpa [hq] using hz
                simp [zeroValue, typeInfo, hq, this]
  have hg : (getObj b).run P w = .ok (.map (es.map toE).toArray clk) w := by simp [getObj, Sem.run, show w.heap[b]? = _ from hm]
  have hck : ∀ em, (Instr.checkKey em 10000 kt (str k)).run P w = .ok () w := fun em => MapKept.run_checkKey hk (show MapKept.IsKey .string (str k) from trivial) em 9999
  unfold execOp
  simp only [ho, Instr.lookup, Sem.run_bind, run_underlying ht, Result.andThen_ok, hρ x _ hx, hρ y _ hy, hg, hck, Sem.run_pure]
  rw [run_findKey hk]
  unfold mget
  cases fnd k es 0 with
  | none => simp [hzr]
  | some p => simp
theorem sameBits_str (n : Nat) (a : List UInt8) : Instr.sameBits n (str a) (str a) = true := by cases n <;> simp only [Instr.sameBits, ba_eq, decide_true]
theorem fnd_get : ∀ (es : List ME) (j i : Nat) (v : Value), fnd k es j = some (i, v) → j ≤ i ∧ ∃ x, es[i - j]? = some x ∧ x.1 = k ∧ x.2.1 = v
  | [], j, i, v, h => by simp [fnd] at h
  | x :: es, j, i, v, h => by
    unfold fnd at h
    split at h
    · rename_i hk
      simp only [Option.some.injEq, Prod.mk.injEq] at h
      obtain ⟨rfl, rfl⟩ := h
      exact ⟨Nat.le_refl _, x, by simp, hk.symm, rfl⟩
    · obtain ⟨h1, y, h2, h3⟩ := fnd_get es (j + 1) i v h
      refine ⟨by omega, y, ?_, h3⟩
      rw [show i - j = (i - (j + 1)) + 1 by omega]; simpa using h2
theorem opu_mput {m y z : Operand} {ty : TypeId} {v : Value} (ht : P.underlying t = some (.map kt e)) (hk : P.underlying kt = some .string) (hx : look L m = some (.map (some b))) (hy : look L y = some (str k)) (hz : look L z = some v) (hm : Mp w b es clk) :
    ∃ w', OpU P (.mapUpdate t m y z) ty L w w' ∧ Mp w' b (mput es clk k v).1 (mput es clk k v).2 ∧ Gr w w' (some ⟨b, 0, none⟩) ∧ w'.heap.size = w.heap.size := by
  refine ⟨{ w with heap := w.heap.setIfInBounds b (.map ((mput es clk k v).1.map toE).toArray (mput es clk k v).2) }, fun ρ o hρ ho _ => ?_, ?_, ⟨rfl, rfl, rfl, by simp, fun j _ hj => ?_⟩, by simp⟩
  · have hg : (getObj b).run P w = .ok (.map (es.map toE).toArray clk) w := by simp [getObj, Sem.run, show w.heap[b]? = _ from hm]
    have hs : ∀ o' : Obj, (∃ a c, o' = .map a c) → (setObj b o').run P w = .ok () { w with heap := w.heap.setIfInBounds b o' } := fun o' ⟨a, c, ho'⟩ => by
      subst ho'; simp [setObj, Sem.run, show w.heap[b]? = _ from hm]
    have hck : ∀ em, (Instr.checkKey em 10000 kt (str k)).run P w = .ok () w := fun em => MapKept.run_checkKey hk (show MapKept.IsKey .string (str k) from trivial) em 9999
    unfold execOp
    simp only [ho, Instr.mapUpdate, Sem.run_bind, run_underlying ht, Result.andThen_ok, hρ m _ hx, hρ y _ hy, hρ z _ hz, hg, hck]
    rw [run_findKey hk]
    unfold mput
    cases hf : fnd k es 0 with
    | none =>
      simp only [Result.andThen_ok]
      rw [hs _ ⟨_, _, rfl⟩]
      simp [toE]
    | some p =>
      obtain ⟨i, u⟩ := p
      obtain ⟨_, x, h2, h3, h4⟩ := fnd_get es 0 i u hf
      rw [Nat.sub_zero] at h2
      have hi := (List.getElem?_eq_some_iff.1 h2).1
      have hkey : ((((es.map toE).toArray)[i]?).map (·.key)).getD (str k) = str k := by
        simp [h2, toE, h3]
      simp only [Result.andThen_ok, Sem.run_bind, hkey, Instr.keyThatStays, sameBits_str, if_true, Sem.run_pure]
      rw [hs _ ⟨_, _, rfl⟩]
      have e : (es.map toE).toArray.modify i (fun e => { e with key := str k, val := v }) = ((es.modify i fun e => (k, v, e.2.2)).map toE).toArray := by
        apply Array.ext'
        apply List.ext_getElem?
        intro j
        simp only [Array.toList_modify, List.getElem?_modify, List.getElem?_map]
        by_cases hij : i = j
        · subst hij; simp [h2, toE]
        · simp [hij]
      simp only [e]
      simp
  · simp [Mp, hm.lt]
  · simp only [Array.getElem?_setIfInBounds]
    rw [if_neg (by simp at hj; exact fun h => hj h.symm)]
theorem wl_mput {m y z : Operand} {ty : TypeId} {pos : String} {aft : Array Edge} {v : Value} (ht : P.underlying t = some (.map kt e)) (hk : P.underlying kt = some .string) (hx : look L m = some (.map (some b))) (hy : look L y = some (str k)) (hz : look L z = some v) (hm : Mp w b es clk)
    (h : ∀ w', Mp w' b (mput es clk k v).1 (mput es clk k v).2 → Gr w w' (some ⟨b, 0, none⟩) → w'.heap.size = w.heap.size → WL P N ops Q rest L w') :
    WL P N ops Q (⟨none, .mapUpdate t m y z, ty, pos, aft, none⟩ :: rest) L w := by
  obtain ⟨w', h1, h2, h3, h4⟩ := opu_mput (ty := ty) ht hk hx hy hz hm
  exact wl_unitN h1 (h w' h2 h3 h4)

/-- An iterator over the map in block b. -/
def MI (w : World) (r b since : Nat) (seen : List Nat) (last : Nat) : Prop := w.heap[r]? = some (.mapIter (some b) since seen.toArray last)
variable {r since last : Nat} {seen : List Nat}
theorem MI.lt (h : MI w r b since seen last) : r < w.heap.size := (Array.getElem?_eq_some_iff.1 h).1
theorem MI.bel (h : MI w r b since seen last) (hb : Below w.heap.size w w') : MI w' r b since seen last := (hb.block r h.lt).trans h
theorem wl_rangeM {d : Nat} {x : Operand} {ty : TypeId} {pos : String} {aft : Array Edge} (ht : P.underlying t = some (.map kt e)) (hx : look L x = some (.map (some b))) (hm : Mp w b es clk) (hd : Nat.blt d N = true)
    (h : ∀ r w', w.heap.size ≤ r → MI w' r b clk [] clk → Below w.heap.size w w' → WL P N ops Q rest ((d, .pointer (some ⟨r, 0, none⟩)) :: L) w') :
    WL P N ops Q (⟨some d, .range t x, ty, pos, aft, none⟩ :: rest) L w := by
  have hg : (getObj b).run P w = .ok (.map (es.map toE).toArray clk) w := by simp [getObj, Sem.run, show w.heap[b]? = _ from hm]
  refine wl_val (v := .pointer (some ⟨w.heap.size, 0, none⟩)) (w' := w.alloc (.mapIter (some b) clk #[] clk)) (fun ρ o hρ ho _ => ?_) hd (h _ _ (Nat.le_refl _) (heap_alloc_new w _) ((Below.refl _ _).alloc (Nat.le_refl _) _))
  simp [execOp, ho, Instr.range, run_underlying ht, hρ x _ hx, hg]
/-- What is left to come. -/
def left (es : List ME) (seen : List Nat) : List ME := es.filter fun x => !seen.contains x.2.2
theorem wl_nextM {d : Nat} {x : Operand} {ty : TypeId} {pos : String} {aft : Array Edge} (hx : look L x = some (.pointer (some ⟨r, 0, none⟩))) (hi : MI w r b since seen last) (hm : Mp w b es clk) (hold : ∀ y ∈ es, y.2.2 < since) (hsc : since ≤ last) (hd : Nat.blt d N = true)
    (hend : left es seen = [] → WL P N ops Q rest ((d, .tuple #[.bool false]) :: L) w)
    (hone : ∀ y w', y ∈ left es seen → MI w' r b since (seen ++ [y.2.2]) clk → Gr w w' (some ⟨r, 0, none⟩) → w'.heap.size = w.heap.size → WL P N ops Q rest ((d, .tuple #[.bool true, str y.1, y.2.1]) :: L) w') :
    WL P N ops Q (⟨some d, .next x false, ty, pos, aft, none⟩ :: rest) L w := by
  have hl : (leftOf (es.map toE).toArray seen.toArray).toList = (left es seen).map toE := by
    simp only [leftOf, left, List.filter_toArray, List.filter_map]
    congr 1
    apply List.filter_congr
    intro x _
    show (!(seen.toArray.contains x.2.2)) = (!(seen.contains x.2.2))
    rw [List.contains_toArray]
  rcases run_next_at (P := P) w ty r b since last seen.toArray (es.map toE).toArray clk hi hm (fun x hx => by obtain ⟨y, hy, rfl⟩ := List.mem_map.1 (show x ∈ es.map toE by simpa using hx); exact hold y hy) hsc with ⟨h0, hrun⟩ | ⟨e, he, w1, hw1, hrun⟩
  · refine wl_val (v := _) (w' := w) (fun ρ o hρ ho hty => ?_) hd (hend ?_)
    · unfold execOp
      simp only [ho, hty, hρ x _ hx, Sem.run_bind, hrun]
      simp
    · have := congrArg List.length hl
      rw [Array.length_toList, h0] at this
      exact List.eq_nil_of_length_eq_zero (by simpa using this.symm)
  · rw [hl] at he
    obtain ⟨y, hy, rfl⟩ := List.mem_map.1 he
    have hr1 : r < w1.heap.size := by rcases hw1 with rfl | rfl <;> exact hi.lt
    obtain ⟨w3, hw3⟩ : ∃ w3, ChangeMaps.setBlock w1 r (.mapIter (some b) since (seen.toArray.push (toE y).born) clk) = w3 := ⟨_, rfl⟩
    rw [hw3] at hrun
    refine wl_val (v := _) (w' := w3) (fun ρ o hρ ho hty => ?_) hd (hone y w3 hy ?_ ⟨?_, ?_, ?_, ?_, fun j hj hne => ?_⟩ ?_)
    · unfold execOp
      simp only [ho, hty, hρ x _ hx, Sem.run_bind, hrun]
      simp
      exact ⟨rfl, rfl⟩
    · subst hw3; unfold MI ChangeMaps.setBlock
      simp [hr1, toE]
    · subst hw3; rcases hw1 with rfl | rfl <;> rfl
    · subst hw3; rcases hw1 with rfl | rfl <;> rfl
    · subst hw3; rcases hw1 with rfl | rfl <;> rfl
    · subst hw3; rcases hw1 with rfl | rfl <;> simp [ChangeMaps.setBlock]
    · subst hw3; rcases hw1 with rfl | rfl <;> (simp only [ChangeMaps.setBlock, Array.getElem?_setIfInBounds]; rw [if_neg (by simp at hne; exact fun h => hne h.symm)]; try rfl)
    · subst hw3; rcases hw1 with rfl | rfl <;> simp [ChangeMaps.setBlock]
/-- The entry that came out, read again. -/
theorem opv_entry {x : Operand} {ty : TypeId} {y : ME} (hx : look L x = some (.pointer (some ⟨r, 0, none⟩))) (hi : MI w r b since (seen ++ [y.2.2]) clk) (hm : Mp w b es clk) (hy : y ∈ es) (hn : (es.map fun x => x.2.2).Nodup) :
    OpV P (.entry x) ty L w (.tuple #[str y.1, y.2.1]) w := fun ρ o hρ ho _ => by
  have hi' : w.heap[r]? = some (.mapIter (some b) since (seen.toArray.push (toE y).born) clk) := by
    have : w.heap[r]? = _ := hi
    rw [this]; simp [toE]
  have hrun := run_entry_at (P := P) w r b since seen.toArray (es.map toE).toArray clk (toE y) hi' hm (by simp only [List.mem_map]; exact ⟨y, hy, rfl⟩) (by simpa [List.map_map, Function.comp_def, toE] using hn)
  unfold execOp
  simp only [ho, hρ x _ hx, Sem.run_bind, hrun]
  simp
  exact ⟨rfl, rfl⟩
end
end Go.Proofs.YtdgagffieobiiaaGreatDoor

/-
  Maps with string keys as pieces: made, asked, written, robbed of an entry, gone through. Nothing here names the program.
-/
namespace Go.Proofs.YtdgagffieobiiaaGreatDoor
open Go.RowKit

def mpC (b : Nat) (es : List ME) (clk : Nat) : Ck := ⟨fun w S => S b ∧ Mp w b es clk, fun ⟨h1, h2⟩ _ hm => ⟨(hm b h2.lt h1).1, (hm b h2.lt h1).2.trans h2⟩⟩
theorem erase_map {α β : Type} (f : α → β) : ∀ (l : List α) (i : Nat), (l.map f).eraseIdx i = (l.eraseIdx i).map f
  | [], i => by simp
  | x :: l, 0 => rfl
  | x :: l, i + 1 => by simp [erase_map f l i]
def mdel (es : List ME) (k : List UInt8) : List ME := match fnd k es 0 with
  | some (i, _) => es.eraseIdx i
  | none => es
section
variable {P : Program} {N : Nat} {ops : Array Oper} {Q : Exit → Act → World → Prop} {rest : List Oper} {L : FL} {w0 w : World} {M : BS} {H : List Cd} {t e kt : TypeId} {b clk : Nat} {es : List ME} {k : List UInt8}
theorem St.mp (h : St M w0 w H) (i : Nat) (hi : nthC H i = some (.ck (mpC b es clk))) : Mp w b es clk := by obtain ⟨T, hc, _⟩ := h.get i hi; exact hc.2
theorem ws_mkMap {d : Nat} {ty : TypeId} {pos : String} {aft : Array Edge} (hs : St M w0 w H) (hd : Nat.blt d N = true)
    (h : ∀ g w', St M w0 w' (.ck (mpC g [] 0) :: H) → WL P N ops Q rest ((d, .map (some g)) :: L) w') :
    WL P N ops Q (⟨some d, .makeMap t none, ty, pos, aft, none⟩ :: rest) L w :=
  wl_mkMap hd fun g w' hg hm hb => h g w' (hs.new (T := fun b => b = g) (c := .ck (mpC g [] 0)) hb ⟨rfl, hm⟩ fun b _ e => e ▸ hg)
theorem ws_mput {m y z : Operand} {ty : TypeId} {pos : String} {aft : Array Edge} {v : Value} (hs : St M w0 w H) (i : Nat) (hi : nthC H i = some (.ck (mpC b es clk))) (ht : P.underlying t = some (.map kt e)) (hk : P.underlying kt = some .string) (hx : look L m = some (.map (some b))) (hy : look L y = some (str k)) (hz : look L z = some v)
    (h : ∀ w', St M w0 w' (setC H i (.ck (mpC b (mput es clk k v).1 (mput es clk k v).2))) → WL P N ops Q rest L w') :
    WL P N ops Q (⟨none, .mapUpdate t m y z, ty, pos, aft, none⟩ :: rest) L w := by
  refine wl_mput ht hk hx hy hz (hs.mp i hi) fun w' hm hg hsz => h w' ?_
  obtain ⟨T, hc, hT, hK⟩ := hs.upd i hi
  exact hK w' (.ck (mpC b (mput es clk k v).1 (mput es clk k v).2)) T (Mod.of_gr hg fun a ha => by cases ha; exact hc.1) ⟨hc.1, hm⟩ fun _ _ h => .inl h
theorem opu_mdel {m y : Operand} {ty : TypeId} (ht : P.underlying t = some (.map kt e)) (hk : P.underlying kt = some .string) (hx : look L m = some (.map (some b))) (hy : look L y = some (str k)) (hm : Mp w b es clk) {ats : Array TypeId} (has : ats[0]? = some t) :
    ∃ w', OpV P (.call { callee := .builtin .delete, args := #[m, y], argTypes := ats }) ty L w (.tuple #[]) w' ∧ Mp w' b (mdel es k) clk ∧ Gr w w' (some ⟨b, 0, none⟩) ∧ w'.heap.size = w.heap.size := by
  refine ⟨{ w with heap := w.heap.setIfInBounds b (.map ((mdel es k).map toE).toArray clk) }, fun ρ o hρ ho _ => ?_, ?_, ⟨rfl, rfl, rfl, by simp, fun j _ hj => ?_⟩, by simp⟩
  · have hg : (getObj b).run P w = .ok (.map (es.map toE).toArray clk) w := by simp [getObj, Sem.run, show w.heap[b]? = _ from hm]
    have hs : ∀ o' : Obj, (∃ a c, o' = .map a c) → (setObj b o').run P w = .ok () { w with heap := w.heap.setIfInBounds b o' } := fun o' ⟨a, c, ho'⟩ => by
      subst ho'; simp [setObj, Sem.run, show w.heap[b]? = _ from hm]
    have hck : ∀ em, (Instr.checkKey em 10000 kt (str k)).run P w = .ok () w := fun em => MapKept.run_checkKey hk (show MapKept.IsKey .string (str k) from trivial) em 9999
    unfold execOp
    simp only [ho, resolve, invoke, builtin, Builtin.delete_, Sem.run_bind, Sem.run_pure, Result.andThen_ok, List.map_toArray, List.map_cons, List.map_nil, hρ m _ hx, hρ y _ hy, has, List.getElem?_toArray, List.getElem?_cons_zero, List.getElem?_cons_succ, run_underlying ht, hg, hck]
    rw [run_findKey hk]
    unfold mdel
    cases hf : fnd k es 0 with
    | none =>
      simp only [Result.andThen_ok, Sem.run_bind]
      rw [hs _ ⟨_, _, rfl⟩]
      simp
    | some p =>
      obtain ⟨i, u⟩ := p
      obtain ⟨_, x, h2, h3, h4⟩ := fnd_get es 0 i u hf
      rw [Nat.sub_zero] at h2
      have hi := (List.getElem?_eq_some_iff.1 h2).1
      simp only [Result.andThen_ok, Sem.run_bind]
      rw [hs _ ⟨_, _, rfl⟩]
      have e : (es.map toE).toArray.eraseIdxIfInBounds i = ((es.eraseIdx i).map toE).toArray := by
        apply Array.ext'
        simp [Array.eraseIdxIfInBounds, hi, erase_map]
      simp only [e]
      simp
  · simp [Mp, hm.lt]
  · simp only [Array.getElem?_setIfInBounds]
    rw [if_neg (by simp at hj; exact fun h => hj h.symm)]
/-- A map is asked, and told whether it has it. -/
theorem opv_lookup2 {x y : Operand} {ty : TypeId} {z : Value} (ht : P.underlying t = some (.map kt e)) (hk : P.underlying kt = some .string) (hz : (P.info? e).map (·.zero) = some (some z)) (hx : look L x = some (.map (some b))) (hy : look L y = some (str k)) (hm : Mp w b es clk) :
    OpV P (.lookup t x y true) ty L w (.tuple #[(mget es k).getD z, .bool (mget es k).isSome]) w := fun ρ o hρ ho _ => by
  have hzr : (zeroValue e).run P w = .ok z w := by
    cases hq : P.info? e with
    | none => simp [hq] at hz
    | some i => have : i.zero = some z := by simpa [hq] using hz
                simp [zeroValue, typeInfo, hq, this]
  have hg : (getObj b).run P w = .ok (.map (es.map toE).toArray clk) w := by simp [getObj, Sem.run, show w.heap[b]? = _ from hm]
  have hck : ∀ em, (Instr.checkKey em 10000 kt (str k)).run P w = .ok () w := fun em => MapKept.run_checkKey hk (show MapKept.IsKey .string (str k) from trivial) em 9999
  unfold execOp
  simp only [ho, Instr.lookup, Sem.run_bind, run_underlying ht, Result.andThen_ok, hρ x _ hx, hρ y _ hy, hg, hck, Sem.run_pure]
  rw [run_findKey hk]
  unfold mget
  cases fnd k es 0 with
  | none => simp [hzr]
  | some p => simp
theorem opv_lookupN {x y : Operand} {ty : TypeId} {z : Value} {c : Bool} (ht : P.underlying t = some (.map kt e)) (hk : P.underlying kt = some .string) (hz : (P.info? e).map (·.zero) = some (some z)) (hx : look L x = some (.map none)) (hy : look L y = some (str k)) :
    OpV P (.lookup t x y c) ty L w (if c then .tuple #[z, .bool false] else z) w := fun ρ o hρ ho _ => by
  have hzr : (zeroValue e).run P w = .ok z w := by
    cases hq : P.info? e with
    | none => simp [hq] at hz
    | some i => have : i.zero = some z := by simpa [hq] using hz
                simp [zeroValue, typeInfo, hq, this]
  have hck : ∀ em, (Instr.checkKey em 10000 kt (str k)).run P w = .ok () w := fun em => MapKept.run_checkKey hk (show MapKept.IsKey .string (str k) from trivial) em 9999
  have hf : (Instr.findKey kt (str k) []).run P w = .ok none w := run_findKey (es := []) hk
  unfold execOp
  simp only [ho, Instr.lookup, Sem.run_bind, run_underlying ht, Result.andThen_ok, hρ x _ hx, hρ y _ hy, hck, Sem.run_pure, hf]
  cases c <;> simp [hzr]
/-- Is a map nil? -/
theorem bin_eqlMapNil (ht : P.underlying t = some (.map kt e)) : BinV P .eql t (.map (some b)) (.map none) (.bool false) := .mk fun x y w => by
  have h : ∀ d : Nat, (Op.equalIn (d + 1) t (.map (some b)) (.map none)).run P w = .ok false w := fun d => by simp [Op.equalIn, run_underlying ht]
  simp [eqGuard, binOp, Op.equal, Op.maxDepth, h 9999]
theorem bin_eqlMapNN (ht : P.underlying t = some (.map kt e)) : BinV P .eql t (.map none) (.map none) (.bool true) := .mk fun x y w => by
  have h : ∀ d : Nat, (Op.equalIn (d + 1) t (.map none) (.map none)).run P w = .ok true w := fun d => by simp [Op.equalIn, run_underlying ht]
  simp [eqGuard, binOp, Op.equal, Op.maxDepth, h 9999]
theorem ws_mdelN {m y : Operand} {ty : TypeId} {pos : String} {aft : Array Edge} {ats : Array TypeId} (hs : St M w0 w H) (i : Nat) (hi : nthC H i = some (.ck (mpC b es clk))) (ht : P.underlying t = some (.map kt e)) (hk : P.underlying kt = some .string) (has : ats[0]? = some t) (hx : look L m = some (.map (some b))) (hy : look L y = some (str k))
    (h : ∀ w', St M w0 w' (setC H i (.ck (mpC b (mdel es k) clk))) → WL P N ops Q rest L w') :
    WL P N ops Q (⟨none, .call { callee := .builtin .delete, args := #[m, y], argTypes := ats }, ty, pos, aft, none⟩ :: rest) L w := by
  obtain ⟨w', h1, hm, hg, hsz⟩ := opu_mdel (ty := ty) ht hk hx hy (hs.mp i hi) has
  obtain ⟨T, hc, hT, hK⟩ := hs.upd i hi
  exact wl_valN h1 (h w' (hK w' (.ck (mpC b (mdel es k) clk)) T (Mod.of_gr hg fun a ha => by cases ha; exact hc.1) ⟨hc.1, hm⟩ fun _ _ h => .inl h))
end
end Go.Proofs.YtdgagffieobiiaaGreatDoor

/-
  Disks: a plain model, the types, and a disk as one piece.
-/
namespace Go.Proofs.YtdgagffieobiiaaGreatDoor
open Go.RowKit

/-! ### Plain -/
structure Fl where
  data : List UInt8
  safe : Nat
abbrev Fs := List (List UInt8 × Fl)
structure Dk where
  fs : Fs
  room : Nat
  armed : Bool
  left : Int
  dead : Bool
def getF (n : List UInt8) : Fs → Option Fl
  | [] => none
  | p :: fs => if p.1 = n then some p.2 else getF n fs
def putF (n : List UInt8) (f : Fl) : Fs → Fs
  | [] => [(n, f)]
  | p :: fs => if p.1 = n then (n, f) :: fs else p :: putF n f fs
def used (fs : Fs) : Nat := (fs.map fun p => p.2.data.length).sum
def turnD (d : Dk) (e : Nat) : Bool × Nat × Dk :=
  if d.dead = true then (false, 9, d) else if e ≠ 0 then (false, e, d) else if d.armed = true ∧ d.left = 0 then (false, 9, { d with dead := true })
  else if d.armed = true then (true, 0, { d with left := d.left - 1 }) else (true, 0, d)
def thereD (d : Dk) (n : List UInt8) : Nat := if (getF n d.fs).isSome then 0 else 6
def fileD (d : Dk) (n : List UInt8) : Fl := (getF n d.fs).getD ⟨[], 0⟩
def putD (d : Dk) (n : List UInt8) (f : Fl) : Dk := { d with fs := putF n f d.fs }
def appD (d : Dk) (n b : List UInt8) : Dk × Nat :=
  let t := turnD d (if d.room < used d.fs + b.length then 8 else 0)
  (if t.1 = true ∨ t.2.2.dead = true ∧ d.dead = false then putD t.2.2 n ⟨(fileD t.2.2 n).data ++ b, (fileD t.2.2 n).safe⟩ else t.2.2, t.2.1)
def syncD (d : Dk) (n : List UInt8) : Dk × Nat :=
  let t := turnD d (thereD d n)
  (if t.1 = true then putD t.2.2 n ⟨(fileD t.2.2 n).data, (fileD t.2.2 n).data.length⟩ else t.2.2, t.2.1)
def cutD (d : Dk) (n : List UInt8) (k : Int) : Dk × Nat :=
  let t := turnD d (if k < 0 ∨ thereD d n = 0 ∧ ((fileD d n).data.length : Int) < k then 1 else thereD d n)
  (if t.1 = true then putD t.2.2 n ⟨(fileD t.2.2 n).data.take k.toNat, k.toNat⟩ else t.2.2, t.2.1)
def readD (d : Dk) (n : List UInt8) : List UInt8 × Nat := if d.dead = true then ([], 9) else if thereD d n ≠ 0 then ([], thereD d n) else ((fileD d n).data, 0)
def keepN (keeps : List Int) (i tail : Nat) : Nat := match keeps[i % keeps.length]? with | some k => (max 0 k).toNat % (tail + 1) | none => 0
def crashF (keeps : List Int) : Nat → List (List UInt8) → Fs → Fs
  | _, [], fs => fs
  | i, n :: ns, fs =>
    let f := (getF n fs).getD ⟨[], 0⟩
    if f.data.length - f.safe = 0 then crashF keeps i ns fs
    else
      let e := f.safe + keepN keeps i (f.data.length - f.safe)
      crashF keeps (i + 1) ns (putF n ⟨f.data.take e, e⟩ fs)
/-- What is known of a disk. -/
structure DkOk (d : Dk) : Prop where
  safe : ∀ p ∈ d.fs, p.2.safe ≤ p.2.data.length
  room : d.room ≤ 1099511627776
  used : used d.fs ≤ d.room
  left : -9223372036854775808 ≤ d.left ∧ d.left ≤ 9223372036854775807 ∧ (d.armed = true → 0 ≤ d.left)
theorem turnD_fs (d : Dk) (e : Nat) : (turnD d e).2.2.fs = d.fs ∧ (turnD d e).2.2.room = d.room := by
  unfold turnD; split; exact ⟨rfl, rfl⟩; split; exact ⟨rfl, rfl⟩; split; exact ⟨rfl, rfl⟩; split <;> exact ⟨rfl, rfl⟩
theorem DkOk.turn {d : Dk} (h : DkOk d) (e : Nat) : DkOk (turnD d e).2.2 := by
  obtain ⟨h1, h2⟩ := turnD_fs d e
  refine ⟨by rw [h1]; exact h.safe, by rw [h2]; exact h.room, by rw [h1, h2]; exact h.used, ?_⟩
  have hl := h.left
  unfold turnD
  split; exact hl; split; exact hl; split; exact hl; split
  · rename_i h1 h2 h3 h4
    have := hl.2.2 h4
    have h5 : ¬ d.left = 0 := fun h => h3 ⟨h4, h⟩
    exact ⟨show -9223372036854775808 ≤ d.left - 1 by omega, show d.left - 1 ≤ 9223372036854775807 by omega, fun _ => show 0 ≤ d.left - 1 by omega⟩
  · exact hl
theorem used_cons (p : List UInt8 × Fl) (fs : Fs) : used (p :: fs) = p.2.data.length + used fs := by simp [used]
theorem getF_le {n : List UInt8} {f : Fl} : ∀ {fs : Fs}, getF n fs = some f → f.data.length ≤ used fs
  | [], h => by cases h
  | p :: fs, h => by
    unfold getF at h
    rw [used_cons]
    split at h
    · cases h; omega
    · have := getF_le h; omega
theorem getF_mem {n : List UInt8} {f : Fl} : ∀ {fs : Fs}, getF n fs = some f → (n, f) ∈ fs
  | [], h => by cases h
  | p :: fs, h => by
    unfold getF at h
    split at h
    · rename_i hp; cases h; subst hp; exact List.mem_cons_self
    · exact List.mem_cons_of_mem _ (getF_mem h)
theorem used_put {n : List UInt8} {f : Fl} : ∀ (fs : Fs), used (putF n f fs) + ((getF n fs).getD ⟨[], 0⟩).data.length = used fs + f.data.length
  | [] => by simp [putF, getF, used]
  | p :: fs => by
    unfold putF getF
    by_cases h : p.1 = n
    · rw [if_pos h, if_pos h, used_cons, used_cons]; simp; omega
    · rw [if_neg h, if_neg h, used_cons, used_cons]; have := used_put (n := n) (f := f) fs; omega
theorem put_mem {n : List UInt8} {f : Fl} {p : List UInt8 × Fl} : ∀ {fs : Fs}, p ∈ putF n f fs → p = (n, f) ∨ p ∈ fs
  | [], h => by simp [putF] at h; exact .inl h
  | q :: fs, h => by
    unfold putF at h
    split at h
    · rcases List.mem_cons.1 h with h | h
      · exact .inl h
      · exact .inr (List.mem_cons_of_mem _ h)
    · rcases List.mem_cons.1 h with h | h
      · exact .inr (h ▸ List.mem_cons_self)
      · rcases put_mem h with h | h
        · exact .inl h
        · exact .inr (List.mem_cons_of_mem _ h)
theorem fileD_safe {d : Dk} (h : ∀ p ∈ d.fs, p.2.safe ≤ p.2.data.length) (n : List UInt8) : (fileD d n).safe ≤ (fileD d n).data.length := by
  unfold fileD
  cases hg : getF n d.fs with
  | none => simp
  | some f => exact h _ (getF_mem hg)
theorem fileD_le (d : Dk) (n : List UInt8) : (fileD d n).data.length ≤ used d.fs := by
  unfold fileD
  cases hg : getF n d.fs with
  | none => simp
  | some f => exact getF_le hg

/-! ### Types -/
theorem d1_bool : Cell1 Tryz.prog 4 := ⟨by kernel_rfl, by rw [Tryz.underlying4]⟩
theorem d1_int : Cell1 Tryz.prog 3 := ⟨by kernel_rfl, by rw [Tryz.underlying3]⟩
theorem d1_by : Cell1 Tryz.prog 28 := ⟨by kernel_rfl, by rw [Tryz.underlying28]⟩
theorem d1_map : Cell1 Tryz.prog 73 := ⟨by kernel_rfl, by rw [Tryz.underlying73]⟩
theorem tyDM : Tryz.prog.underlying 73 = some (.map 9 88) := Tryz.underlying73
theorem fa_D0 : FieldAt Tryz.prog 75 0 0 := fieldAt_mk Tryz.underlying75 rfl rfl (by kernel_rfl)
theorem fa_D1 : FieldAt Tryz.prog 75 1 1 := fieldAt_mk Tryz.underlying75 rfl rfl (by kernel_rfl)
theorem fa_D2 : FieldAt Tryz.prog 75 2 2 := fieldAt_mk Tryz.underlying75 rfl rfl (by kernel_rfl)
theorem fa_D3 : FieldAt Tryz.prog 75 3 3 := fieldAt_mk Tryz.underlying75 rfl rfl (by kernel_rfl)
theorem fa_D4 : FieldAt Tryz.prog 75 4 4 := fieldAt_mk Tryz.underlying75 rfl rfl (by kernel_rfl)
theorem sF : StT Tryz.prog 88 2 := ⟨by kernel_rfl, by kernel_rfl⟩
theorem fa_F0 : FieldAt Tryz.prog 88 0 0 := fieldAt_mk Tryz.underlying88 rfl rfl (by kernel_rfl)
theorem fa_F1 : FieldAt Tryz.prog 88 1 1 := fieldAt_mk Tryz.underlying88 rfl rfl (by kernel_rfl)
theorem fa_sD {k : Nat} (h : k < 5) : FieldAt Tryz.prog 75 k k := by
  match k, h with
  | 0, _ => exact fa_D0
  | 1, _ => exact fa_D1
  | 2, _ => exact fa_D2
  | 3, _ => exact fa_D3
  | 4, _ => exact fa_D4
theorem fa_sF {k : Nat} (h : k < 2) : FieldAt Tryz.prog 88 k k := by
  match k, h with
  | 0, _ => exact fa_F0
  | 1, _ => exact fa_F1
theorem tyStrD : Tryz.prog.underlying 9 = some .string := Tryz.underlying9
def zF : List Value := [.slice none 0 0, .int .i64 0]
theorem zeroF : (Tryz.prog.info? 88).map (·.zero) = some (some (.agg zF.toArray)) := by kernel_rfl

/-! ### A disk in memory -/
structure FE where
  nm : List UInt8
  A : Option Addr
  c : Nat
  f : Fl
  born : Nat
def flV (f : Fl) (A : Option Addr) (c : Nat) : List Value := [.slice A f.data.length c, .int .i64 (f.safe : Int)]
def FE.me (x : FE) : ME := (x.nm, .agg (flV x.f x.A x.c).toArray, x.born)
def FE.pl (x : FE) : List UInt8 × Fl := (x.nm, x.f)
def FE.cd (x : FE) : Cd := .ow 5 x.A x.f.data.length x.c (bvs x.f.data)
structure DkI (fs : Fs) (xs : List FE) (clk : Nat) : Prop where
  fs : xs.map FE.pl = fs
  nd : (xs.map (·.nm)).Nodup
  old : ∀ x ∈ xs, x.born < clk
  bn : (xs.map (·.born)).Nodup
def dkV (d : Dk) (b : Option Nat) : List Value := [.map b, .int .i64 (d.room : Int), .bool d.armed, .int .i64 d.left, .bool d.dead]
def flC (xs : List FE) : Ck := packC (xs.map FE.cd)
def dkC (g : Nat) (d : Dk) : Ck := ⟨fun w S => (d.fs = [] ∧ Sat w [.blk g 75 (dkV d none)] S) ∨ ∃ m xs clk, DkI d.fs xs clk ∧ Sat w [.blk g 75 (dkV d (some m)), .ck (mpC m (xs.map FE.me) clk), .ck (flC xs)] S,
  fun h hz hm => h.elim (fun h => .inl ⟨h.1, h.2.move hz hm⟩) fun ⟨m, xs, clk, h1, h2⟩ => .inr ⟨m, xs, clk, h1, h2.move hz hm⟩⟩
/-- A disk, read. -/
def RdD (w : World) (g : Nat) (d : Dk) : Prop := (d.fs = [] ∧ Ar w g 75 (dkV d none)) ∨ ∃ m xs clk, DkI d.fs xs clk ∧ Ar w g 75 (dkV d (some m)) ∧ Mp w m (xs.map FE.me) clk ∧ ∀ x ∈ xs, RdB w x.A x.f.data ∧ x.f.data.length ≤ x.c
theorem RdD.below {w w' : World} {g : Nat} {d : Dk} (h : RdD w g d) (hb : Below w.heap.size w w') : RdD w' g d := by
  rcases h with ⟨h1, h2⟩ | ⟨m, xs, clk, h1, h2, h3, h4⟩
  · exact .inl ⟨h1, h2.below hb (Nat.le_refl _)⟩
  · exact .inr ⟨m, xs, clk, h1, h2.below hb (Nat.le_refl _), h3.bel hb, fun x hx => ⟨(h4 x hx).1.below hb, (h4 x hx).2⟩⟩
/-- A name among the files. -/
theorem fnd_split (k : List UInt8) : ∀ (xs : List FE) (i : Nat), (fnd k (xs.map FE.me) i = none ∧ getF k (xs.map FE.pl) = none ∧ k ∉ xs.map (·.nm)) ∨
    ∃ X x Y, xs = X ++ x :: Y ∧ x.nm = k ∧ k ∉ X.map (·.nm) ∧ fnd k (xs.map FE.me) i = some (i + X.length, .agg (flV x.f x.A x.c).toArray) ∧ getF k (xs.map FE.pl) = some x.f
  | [], i => .inl ⟨rfl, rfl, by simp⟩
  | x :: xs, i => by
    by_cases hk : x.nm = k
    · exact .inr ⟨[], x, xs, rfl, hk, by simp, by simp [fnd, FE.me, hk], by simp [getF, FE.pl, hk]⟩
    · have hk' : ¬ k = x.nm := fun h => hk h.symm
      rcases fnd_split k xs (i + 1) with ⟨h1, h2, h3⟩ | ⟨X, y, Y, rfl, h2, h3, h4, h5⟩
      · exact .inl ⟨by simpa [fnd, FE.me, hk'] using h1, by simpa [getF, FE.pl, hk] using h2, by simpa [hk'] using h3⟩
      · refine .inr ⟨x :: X, y, Y, rfl, h2, by simpa [hk'] using h3, ?_, by simpa [getF, FE.pl, hk] using h5⟩
        simp only [List.map_cons, fnd, FE.me, if_neg hk']
        rw [show i + (x :: X).length = i + 1 + X.length by simp; omega]
        exact h4
theorem modify_mid {α : Type} (f : α → α) (x : α) (Y : List α) : ∀ X : List α, (X ++ x :: Y).modify X.length f = X ++ f x :: Y
  | [] => rfl
  | y :: X => by simp [modify_mid f x Y X]
theorem mput_new {k : List UInt8} {xs : List FE} {clk : Nat} (h : fnd k (xs.map FE.me) 0 = none) (A : Option Addr) (c : Nat) (f : Fl) :
    mput (xs.map FE.me) clk k (.agg (flV f A c).toArray) = ((xs ++ [(⟨k, A, c, f, clk⟩ : FE)]).map FE.me, clk + 1) := by simp [mput, h, FE.me]
theorem mput_old {k : List UInt8} {X Y : List FE} {x : FE} {clk : Nat} (h : fnd k ((X ++ x :: Y).map FE.me) 0 = some (0 + X.length, .agg (flV x.f x.A x.c).toArray)) (hk : x.nm = k) (A : Option Addr) (c : Nat) (f : Fl) :
    mput ((X ++ x :: Y).map FE.me) clk k (.agg (flV f A c).toArray) = ((X ++ (⟨k, A, c, f, x.born⟩ : FE) :: Y).map FE.me, clk) := by
  unfold mput
  rw [h]
  simp only [Nat.zero_add, List.map_append, List.map_cons, Prod.mk.injEq, and_true]
  have e : X.length = (X.map FE.me).length := by simp
  rw [e, modify_mid]
  rfl
theorem DkI.new {fs : Fs} {xs : List FE} {clk : Nat} (h : DkI fs xs clk) {k : List UInt8} (hk : k ∉ xs.map (·.nm)) (hg : getF k fs = none) (A : Option Addr) (c : Nat) (f : Fl) : DkI (putF k f fs) (xs ++ [⟨k, A, c, f, clk⟩]) (clk + 1) := by
  have hp : ∀ fs : Fs, getF k fs = none → putF k f fs = fs ++ [(k, f)] := by
    intro fs
    induction fs with
    | nil => intro _; rfl
    | cons p fs ih =>
      intro h
      unfold getF at h
      unfold putF
      split at h
      · cases h
      · rename_i hn; rw [if_neg hn, ih h]; rfl
  refine ⟨by rw [hp fs hg, List.map_append, h.fs]; rfl, ?_, ?_, ?_⟩
  · rw [List.map_append, List.nodup_append]
    refine ⟨h.nd, by simp, ?_⟩
    intro a ha b hb
    simp at hb
    subst hb
    exact fun e => hk (e ▸ ha)
  · intro x hx
    rcases List.mem_append.1 hx with hx | hx
    · have := h.old x hx; omega
    · simp at hx; subst hx; exact Nat.lt_succ_self clk
  · rw [List.map_append, List.nodup_append]
    refine ⟨h.bn, by simp, ?_⟩
    intro a ha b hb
    simp at hb
    subst hb
    obtain ⟨x, hx, rfl⟩ := List.mem_map.1 ha
    exact Nat.ne_of_lt (h.old x hx)
theorem DkI.old' {fs : Fs} {X Y : List FE} {x : FE} {clk : Nat} (h : DkI fs (X ++ x :: Y) clk) {k : List UInt8} (hk : x.nm = k) (hX : k ∉ X.map (·.nm)) (A : Option Addr) (c : Nat) (f : Fl) : DkI (putF k f fs) (X ++ ⟨k, A, c, f, x.born⟩ :: Y) clk := by
  have hp : ∀ X : List FE, k ∉ X.map (·.nm) → putF k f ((X ++ x :: Y).map FE.pl) = (X ++ ⟨k, A, c, f, x.born⟩ :: Y).map FE.pl := by
    intro X
    induction X with
    | nil => intro _; simp [putF, FE.pl, hk]
    | cons y X ih =>
      intro hn
      simp only [List.map_cons, List.mem_cons, not_or] at hn
      simp only [List.cons_append, List.map_cons, putF]
      rw [if_neg (fun e => hn.1 (by rw [← e]; rfl)), ih hn.2]
  have hfs := h.fs
  subst hfs
  refine ⟨(hp X hX).symm, ?_, ?_, ?_⟩
  · have := h.nd; simp only [List.map_append, List.map_cons, hk] at this ⊢; exact this
  · intro y hy
    rcases List.mem_append.1 hy with hy | hy
    · exact h.old y (List.mem_append_left _ hy)
    · rcases List.mem_cons.1 hy with rfl | hy
      · exact h.old x (List.mem_append_right _ List.mem_cons_self)
      · exact h.old y (List.mem_append_right _ (List.mem_cons_of_mem _ hy))
  · have := h.bn; simp only [List.map_append, List.map_cons] at this ⊢; exact this
section
variable {M : BS} {w0 w : World} {H : List Cd} {g : Nat} {d : Dk}
theorem St.opn (hs : St M w0 w (.ck (dkC g d) :: H)) : (d.fs = [] ∧ St M w0 w (.blk g 75 (dkV d none) :: H)) ∨
    ∃ m xs clk, DkI d.fs xs clk ∧ St M w0 w (.blk g 75 (dkV d (some m)) :: .ck (mpC m (xs.map FE.me) clk) :: .ck (flC xs) :: H) := by
  obtain ⟨hM, T, hT, hc, hr⟩ := hs
  rcases hc with ⟨h1, h2⟩ | ⟨m, xs, clk, h1, h2⟩
  · exact .inl ⟨h1, hM, Sat.join (H1 := [_]) hT h2 hr⟩
  · exact .inr ⟨m, xs, clk, h1, hM, Sat.join (H1 := [_, _, _]) hT h2 hr⟩
theorem St.cls {m clk : Nat} {xs : List FE} (hs : St M w0 w (.blk g 75 (dkV d (some m)) :: .ck (mpC m (xs.map FE.me) clk) :: .ck (flC xs) :: H)) (h : DkI d.fs xs clk) : St M w0 w (.ck (dkC g d) :: H) :=
  hs.pack (H1 := [_, _, _]) _ fun _ _ k => .inr ⟨m, xs, clk, h, k⟩
theorem St.cls0 (hs : St M w0 w (.blk g 75 (dkV d none) :: H)) (h : d.fs = []) : St M w0 w (.ck (dkC g d) :: H) :=
  hs.pack (H1 := [_]) _ fun _ _ k => .inl ⟨h, k⟩
end
theorem flC_rd {w : World} {S : BS} : ∀ {xs : List FE}, Sat w (xs.map FE.cd) S → ∀ x ∈ xs, RdB w x.A x.f.data ∧ x.f.data.length ≤ x.c
  | [], _, x, hx => by cases hx
  | y :: xs, h, x, hx => by
    obtain ⟨T, _, h1, h2⟩ := h
    rcases List.mem_cons.1 hx with rfl | hx
    · exact ⟨Ow.rd h1.2, OwB.cap (show OwB w 0 x.A x.c x.f.data from h1.2)⟩
    · exact flC_rd h2 x hx
theorem dkC_rd {w : World} {S : BS} {g : Nat} {d : Dk} (h : (dkC g d).P w S) : RdD w g d := by
  rcases h with ⟨h1, T, _, h2, _⟩ | ⟨m, xs, clk, h1, T, _, h2, T2, _, h3, T3, _, h4, _⟩
  · exact .inl ⟨h1, h2.2⟩
  · exact .inr ⟨m, xs, clk, h1, h2.2, h3.2, flC_rd h4⟩
end Go.Proofs.YtdgagffieobiiaaGreatDoor

/-
  Walks over disks: New, there, Used, turn.
-/
namespace Go.Proofs.YtdgagffieobiiaaGreatDoor
open Go.RowKit

section
variable {P : Program} {N : Nat} {ops : Array Oper} {Q : Exit → Act → World → Prop} {rest : List Oper} {L : FL} {w : World} {b clk : Nat} {es : List ME} {k : List UInt8} {x y : Operand} {ty : TypeId} {v : Value}
theorem lk2_some (hx : look L x = some (.map (some b))) (hy : look L y = some (str k)) (hm : Mp w b es clk) (hg : mget es k = some v) : OpV Tryz.prog (.lookup 73 x y true) ty L w (.tuple #[v, .bool true]) w := by
  have := opv_lookup2 (ty := ty) tyDM tyStrD zeroF hx hy hm
  rw [hg] at this; exact this
theorem lk2_none (hx : look L x = some (.map (some b))) (hy : look L y = some (str k)) (hm : Mp w b es clk) (hg : mget es k = none) : OpV Tryz.prog (.lookup 73 x y true) ty L w (.tuple #[.agg zF.toArray, .bool false]) w := by
  have := opv_lookup2 (ty := ty) tyDM tyStrD zeroF hx hy hm
  rw [hg] at this; exact this
theorem lk1_some (hx : look L x = some (.map (some b))) (hy : look L y = some (str k)) (hm : Mp w b es clk) (hg : mget es k = some v) : OpV Tryz.prog (.lookup 73 x y false) ty L w v w := by
  have := opv_lookup (ty := ty) tyDM tyStrD zeroF hx hy hm
  rw [hg] at this; exact this
theorem lk1_none (hx : look L x = some (.map (some b))) (hy : look L y = some (str k)) (hm : Mp w b es clk) (hg : mget es k = none) : OpV Tryz.prog (.lookup 73 x y false) ty L w (.agg zF.toArray) w := by
  have := opv_lookup (ty := ty) tyDM tyStrD zeroF hx hy hm
  rw [hg] at this; exact this
theorem lk2_nil (hx : look L x = some (.map none)) (hy : look L y = some (str k)) : OpV Tryz.prog (.lookup 73 x y true) ty L w (.tuple #[.agg zF.toArray, .bool false]) w := opv_lookupN tyDM tyStrD zeroF hx hy
theorem lk1_nil (hx : look L x = some (.map none)) (hy : look L y = some (str k)) : OpV Tryz.prog (.lookup 73 x y false) ty L w (.agg zF.toArray) w := opv_lookupN tyDM tyStrD zeroF hx hy
/-- A nil map is gone through. -/
theorem wl_rangeN {d : Nat} {pos : String} {aft : Array Edge} {t kt e : TypeId} (ht : P.underlying t = some (.map kt e)) (hx : look L x = some (.map none)) (hd : Nat.blt d N = true)
    (h : ∀ r w', w.heap.size ≤ r → w'.heap[r]? = some (.mapIter none 0 #[] 0) → Below w.heap.size w w' → WL P N ops Q rest ((d, .pointer (some ⟨r, 0, none⟩)) :: L) w') :
    WL P N ops Q (⟨some d, .range t x, ty, pos, aft, none⟩ :: rest) L w := by
  refine wl_val (v := .pointer (some ⟨w.heap.size, 0, none⟩)) (w' := w.alloc (.mapIter none 0 #[] 0)) (fun ρ o hρ ho _ => ?_) hd (h _ _ (Nat.le_refl _) (heap_alloc_new w _) ((Below.refl _ _).alloc (Nat.le_refl _) _))
  simp [execOp, ho, Instr.range, run_underlying ht, hρ x _ hx]
theorem wl_nextN {d r : Nat} {pos : String} {aft : Array Edge} (hx : look L x = some (.pointer (some ⟨r, 0, none⟩))) (hi : w.heap[r]? = some (.mapIter none 0 #[] 0)) (hd : Nat.blt d N = true)
    (h : WL P N ops Q rest ((d, .tuple #[.bool false]) :: L) w) : WL P N ops Q (⟨some d, .next x false, ty, pos, aft, none⟩ :: rest) L w := by
  refine wl_val (v := .tuple #[.bool false]) (w' := w) (fun ρ o hρ ho _ => ?_) hd h
  have hg : (getObj r).run P w = .ok (.mapIter none 0 #[] 0) w := by simp [getObj, Sem.run, hi]
  simp [execOp, ho, hρ x _ hx, Instr.next, hg]
end
theorem mget_split (k : List UInt8) (xs : List FE) : (mget (xs.map FE.me) k = none ∧ getF k (xs.map FE.pl) = none ∧ k ∉ xs.map (·.nm)) ∨
    ∃ X x Y, xs = X ++ x :: Y ∧ x.nm = k ∧ k ∉ X.map (·.nm) ∧ fnd k (xs.map FE.me) 0 = some (0 + X.length, .agg (flV x.f x.A x.c).toArray) ∧ mget (xs.map FE.me) k = some (.agg (flV x.f x.A x.c).toArray) ∧ getF k (xs.map FE.pl) = some x.f := by
  rcases fnd_split k xs 0 with ⟨h1, h2, h3⟩ | ⟨X, x, Y, h1, h2, h3, h4, h5⟩
  · exact .inl ⟨by unfold mget; rw [h1]; rfl, h2, h3⟩
  · exact .inr ⟨X, x, Y, h1, h2, h3, h4, by unfold mget; rw [h4]; rfl, h5⟩
theorem dthere_any {g : Nat} {d : Dk} {n : List UInt8} {w : World} (h : RdD w g d) : CallsV Tryz.prog 68 #[.pointer (some ⟨g, 0, none⟩), str n] w fun v w' => v = .int .i64 (thereD d n : Nat) ∧ Below w.heap.size w w' := by
  have hb := Below.refl w.heap.size w
  refine calls_in (N := _) Tryz.func68 rfl Tryz.ntmps68 rfl ?_; show WC _ _ _ _ _ _
  rcases h with ⟨h1, a1⟩ | ⟨m, xs, clk, hI, a1, hm, hrd⟩
  · have ht : thereD d n = 6 := by simp [thereD, h1, getF]
    rw [ht]
    refine wc_sr ?_; refine wl_as rfl rfl ?_; refine wl_ns ?_; refine wc_seq ?_; refine wc_sr ?_; refine wl_mv rfl rfl ?_; apply wl_val; apply opv_nilOk; exact rfl; exact rfl; apply wl_val; apply opv_fa; exact fa_sD (by decide); exact rfl; exact rfl; apply wl_val; apply opv_ldX; exact rfl; assumption; exact d1_map; exact rfl; exact rfl; refine wl_mv rfl rfl ?_; apply wl_val; apply lk2_nil; exact rfl; exact rfl; exact rfl; refine wl_mv rfl rfl ?_; apply wl_val; apply opv_extract; exact rfl; exact rfl; exact rfl; apply wl_val; apply opv_extract; exact rfl; exact rfl; exact rfl
    refine wl_var (cs := zF) zeroF sF rfl (fun _ => rfl) (by first | rfl | simp [Value.oneCell'] | simp [ceV, Value.oneCell']) rfl fun g5 _ hg5 a5 hbx => ?_; replace hb := hb.trans (hbx.mono hb.size); clear hbx
    refine wl_as rfl rfl ?_; refine wl_ns ?_; refine wc_sr ?_; refine wl_mv rfl rfl ?_; apply wl_val; apply opv_not; exact rfl; exact rfl; refine wl_ns ?_; apply wc_condTb; exact rfl; exact Bool.not_false; refine wc_sr ?_; refine wl_as rfl rfl ?_; refine wl_ns ?_; refine wc_ret ?_; refine we_seq_ret ?_
    exact we_ret1 rfl rfl ⟨_, rfl, rfl, hb⟩
  · rcases mget_split n xs with ⟨hg, hf, _⟩ | ⟨X, x, Y, hx, _, _, _, hg, hf⟩
    · have ht : thereD d n = 6 := by rw [thereD, ← hI.fs, hf]; rfl
      rw [ht]
      refine wc_sr ?_; refine wl_as rfl rfl ?_; refine wl_ns ?_; refine wc_seq ?_; refine wc_sr ?_; refine wl_mv rfl rfl ?_; apply wl_val; apply opv_nilOk; exact rfl; exact rfl; apply wl_val; apply opv_fa; exact fa_sD (by decide); exact rfl; exact rfl; apply wl_val; apply opv_ldX; exact rfl; assumption; exact d1_map; exact rfl; exact rfl; refine wl_mv rfl rfl ?_; apply wl_val; apply lk2_none; exact rfl; exact rfl; assumption; assumption; exact rfl; refine wl_mv rfl rfl ?_; apply wl_val; apply opv_extract; exact rfl; exact rfl; exact rfl; apply wl_val; apply opv_extract; exact rfl; exact rfl; exact rfl
      refine wl_var (cs := zF) zeroF sF rfl (fun _ => rfl) (by first | rfl | simp [Value.oneCell'] | simp [ceV, Value.oneCell']) rfl fun g5 _ hg5 a5 hbx => ?_; replace hb := hb.trans (hbx.mono hb.size); clear hbx
      refine wl_as rfl rfl ?_; refine wl_ns ?_; refine wc_sr ?_; refine wl_mv rfl rfl ?_; apply wl_val; apply opv_not; exact rfl; exact rfl; refine wl_ns ?_; apply wc_condTb; exact rfl; exact Bool.not_false; refine wc_sr ?_; refine wl_as rfl rfl ?_; refine wl_ns ?_; refine wc_ret ?_; refine we_seq_ret ?_
      exact we_ret1 rfl rfl ⟨_, rfl, rfl, hb⟩
    · have ht : thereD d n = 0 := by rw [thereD, ← hI.fs, hf]; rfl
      rw [ht]
      refine wc_sr ?_; refine wl_as rfl rfl ?_; refine wl_ns ?_; refine wc_seq ?_; refine wc_sr ?_; refine wl_mv rfl rfl ?_; apply wl_val; apply opv_nilOk; exact rfl; exact rfl; apply wl_val; apply opv_fa; exact fa_sD (by decide); exact rfl; exact rfl; apply wl_val; apply opv_ldX; exact rfl; assumption; exact d1_map; exact rfl; exact rfl; refine wl_mv rfl rfl ?_; apply wl_val; apply lk2_some; exact rfl; exact rfl; assumption; assumption; exact rfl; refine wl_mv rfl rfl ?_; apply wl_val; apply opv_extract; exact rfl; exact rfl; exact rfl; apply wl_val; apply opv_extract; exact rfl; exact rfl; exact rfl
      refine wl_var (cs := flV x.f x.A x.c) zeroF sF rfl (fun _ => rfl) (by first | rfl | simp [Value.oneCell'] | simp [ceV, Value.oneCell']) rfl fun g5 _ hg5 a5 hbx => ?_; replace hb := hb.trans (hbx.mono hb.size); clear hbx
      refine wl_as rfl rfl ?_; refine wl_ns ?_; refine wc_sr ?_; refine wl_mv rfl rfl ?_; apply wl_val; apply opv_not; exact rfl; exact rfl; refine wl_ns ?_; apply wc_condFb; exact rfl; exact Bool.not_true; refine wc_skip ?_; refine we_seq ?_; refine wc_sr ?_; refine wl_as rfl rfl ?_; refine wl_ns ?_; refine wc_ret ?_
      exact we_ret1 rfl rfl ⟨_, rfl, rfl, hb⟩
/-- How many bytes the entries have that are left to come. -/
def lnM (e : ME) : Nat := match e.2.1 with | .agg cs => (match cs[0]? with | some (Value.slice _ n _) => n | _ => 0) | _ => 0
theorem left_step {es : List ME} {seen : List Nat} {y : ME} (hy : y ∈ left es seen) (hn : (es.map fun x => x.2.2).Nodup) (f : ME → Nat) : ((left es seen).map f).sum = f y + ((left es (seen ++ [y.2.2])).map f).sum := by
  induction es with
  | nil => simp [left] at hy
  | cons e es ih =>
    simp only [List.map_cons, List.nodup_cons] at hn
    have hl : ∀ s, left (e :: es) s = if s.contains e.2.2 then left es s else e :: left es s := by
      intro s; unfold left; rw [List.filter_cons]; cases s.contains e.2.2 <;> rfl
    rw [hl] at hy ⊢
    rw [hl]
    by_cases hc : seen.contains e.2.2 = true
    · rw [if_pos hc] at hy ⊢
      rw [if_pos (by simp at hc ⊢; exact .inl hc)]
      exact ih hy hn.2
    · rw [if_neg hc] at hy ⊢
      rcases List.mem_cons.1 hy with rfl | hy
      · rw [if_pos (by simp)]
        have : left es (seen ++ [y.2.2]) = left es seen := by
          unfold left
          apply List.filter_congr
          intro x hx
          have hne : x.2.2 ≠ y.2.2 := fun h => hn.1 (List.mem_map.2 ⟨x, hx, h⟩)
          simp [hne]
        rw [this]; simp
      · have hm : y ∈ es := (List.mem_filter.1 hy).1
        have hne : e.2.2 ≠ y.2.2 := fun h => hn.1 (List.mem_map.2 ⟨y, hm, h.symm⟩)
        rw [if_neg (by simp at hc ⊢; exact ⟨hc, hne⟩)]
        have := ih hy hn.2
        simp only [List.map_cons, List.sum_cons] at this ⊢
        omega
theorem ones_len : ∀ l : List ME, (l.map fun _ => 1).sum = l.length
  | [] => rfl
  | _ :: l => by rw [List.map_cons, List.sum_cons, ones_len l, List.length_cons]; omega
theorem left_nil (es : List ME) : left es [] = es := by simp [left]
theorem used_ln (xs : List FE) : ((xs.map FE.me).map lnM).sum = used (xs.map FE.pl) := by
  simp [used, List.map_map, Function.comp_def, lnM, FE.me, FE.pl, flV]
def UseI (w : World) (d : Dk) (xs : List FE) (r m clk : Nat) : FL → World → Nat → Prop := fun L wr k =>
  ∃ (n last : Nat) (seen : List Nat), L = [(3, .int .i64 (n : Int)), (10, .pointer (some ⟨r, 0, none⟩))] ∧ w.heap.size ≤ r ∧ MI wr r m clk seen last ∧ clk ≤ last ∧ Mp wr m (xs.map FE.me) clk ∧ Below w.heap.size w wr ∧
    n + ((left (xs.map FE.me) seen).map lnM).sum = used d.fs ∧ k = (left (xs.map FE.me) seen).length
theorem used_any {g : Nat} {d : Dk} {w : World} (h : RdD w g d) (hu : used d.fs ≤ 1099511627776) : CallsV Tryz.prog 69 #[.pointer (some ⟨g, 0, none⟩)] w fun v w' => v = .int .i64 (used d.fs : Nat) ∧ Below w.heap.size w w' := by
  have hb := Below.refl w.heap.size w
  refine calls_in (N := _) Tryz.func69 rfl Tryz.ntmps69 rfl ?_; show WC _ _ _ _ _ _
  rcases h with ⟨h1, a1⟩ | ⟨m, xs, clk, hI, a1, hm, hrd⟩
  · rw [h1]
    refine wc_sr ?_; refine wl_as rfl rfl ?_; refine wl_ns ?_; refine wc_sr ?_; refine wl_as rfl rfl ?_; refine wl_ns ?_; refine wc_seq ?_; refine wc_sr ?_; refine wl_mv rfl rfl ?_; apply wl_val; apply opv_nilOk; exact rfl; exact rfl; apply wl_val; apply opv_fa; exact fa_sD (by decide); exact rfl; exact rfl; apply wl_val; apply opv_ldX; exact rfl; assumption; exact d1_map; exact rfl; exact rfl
    refine wl_rangeN tyDM rfl rfl fun r w1 hr hi hbx => ?_
    refine wl_ns ?_; refine wc_block ?_
    refine wc_loop (fun L wr _ => L = [(3, .int .i64 (0 : Nat)), (10, .pointer (some ⟨r, 0, none⟩))] ∧ wr = w1) [(3, .int .i64 (0 : Nat)), (10, .pointer (some ⟨r, 0, none⟩))] 0 ⟨rfl, rfl⟩ ⟨rfl, rfl, trivial⟩ ?_
    rintro _ _ _ ⟨rfl, rfl⟩
    refine wc_sr ?_
    refine wl_nextN rfl hi rfl ?_
    apply wl_val; apply opv_extract; exact rfl; exact rfl; exact rfl; refine wl_ns ?_; refine wc_seq ?_; apply wc_condFb; exact rfl; exact rfl; refine wc_exit ?_; refine we_seq_exit ?_; refine we_loop_exit ?_; refine we_block_exit ?_; refine we_seq ?_; refine wc_sr ?_; refine wl_mv rfl rfl ?_; refine wl_as rfl rfl ?_; refine wl_ns ?_; refine wc_ret ?_
    exact we_ret1 rfl rfl ⟨_, rfl, rfl, hbx⟩
  · have hold : ∀ y ∈ xs.map FE.me, y.2.2 < clk := by intro y hy; obtain ⟨x, hx, rfl⟩ := List.mem_map.1 hy; exact hI.old x hx
    have hbn : ((xs.map FE.me).map fun x => x.2.2).Nodup := by rw [List.map_map]; exact hI.bn
    refine wc_sr ?_; refine wl_as rfl rfl ?_; refine wl_ns ?_; refine wc_sr ?_; refine wl_as rfl rfl ?_; refine wl_ns ?_; refine wc_seq ?_; refine wc_sr ?_; refine wl_mv rfl rfl ?_; apply wl_val; apply opv_nilOk; exact rfl; exact rfl; apply wl_val; apply opv_fa; exact fa_sD (by decide); exact rfl; exact rfl; apply wl_val; apply opv_ldX; exact rfl; assumption; exact d1_map; exact rfl; exact rfl
    refine wl_rangeM tyDM rfl hm rfl fun r w1 hr hi hbx => ?_
    replace hm := hm.bel hbx
    refine wl_ns ?_; refine wc_block ?_
    refine wc_loop (UseI w d xs r m clk) [(3, .int .i64 (0 : Nat)), (10, .pointer (some ⟨r, 0, none⟩))] _ ⟨0, clk, [], rfl, hr, hi, Nat.le_refl _, hm, hbx, by rw [left_nil, used_ln, hI.fs]; omega, rfl⟩ ⟨rfl, rfl, trivial⟩ ?_
    clear hm hi hbx hb hr
    rintro _ w2 k ⟨n, last, seen, rfl, hr, hi, hcl, hm, hb, hsum, rfl⟩
    refine wc_sr ?_
    refine wl_nextM rfl hi hm hold hcl rfl (fun he => ?_) (fun y w3 hy hi2 hgr hsz => ?_)
    · rw [he] at hsum
      have hn : n = used d.fs := by simpa using hsum
      subst hn
      apply wl_val; apply opv_extract; exact rfl; exact rfl; exact rfl; refine wl_ns ?_; refine wc_seq ?_; apply wc_condFb; exact rfl; exact rfl; refine wc_exit ?_; refine we_seq_exit ?_; refine we_loop_exit ?_; refine we_block_exit ?_; refine we_seq ?_; refine wc_sr ?_; refine wl_mv rfl rfl ?_; refine wl_as rfl rfl ?_; refine wl_ns ?_; refine wc_ret ?_
      exact we_ret1 rfl rfl ⟨_, rfl, rfl, hb⟩
    · have hstep := left_step hy hbn lnM
      have hlen := left_step hy hbn fun _ => 1
      rw [ones_len, ones_len] at hlen
      obtain ⟨x, hx, rfl⟩ := List.mem_map.1 (List.mem_filter.1 hy).1
      have hlx : lnM x.me = x.f.data.length := rfl
      have hrw := hi.lt
      replace hm := hm.gr hgr (fun a ha => by cases ha; intro e; have h1 := hi; have h2 := hm; subst e; unfold MI at h1; unfold Mp at h2; rw [h1] at h2; cases h2)
      replace hb := hgr.belowI hb hr hb.size
      have hle : n + x.f.data.length ≤ 1099511627776 := by omega
      apply wl_val; apply opv_extract; exact rfl; exact rfl; exact rfl; refine wl_ns ?_; refine wc_seq ?_; apply wc_condTb; exact rfl; exact rfl; refine wc_skip ?_; refine we_seq ?_; refine wc_block ?_; refine wc_sr ?_
      refine wl_val (opv_entry rfl hi2 hm (List.mem_map.2 ⟨x, hx, rfl⟩) hbn) rfl ?_
      apply wl_val; apply opv_extract; exact rfl; exact rfl; exact rfl
      refine wl_var (cs := flV x.f x.A x.c) zeroF sF rfl (fun _ => rfl) (by first | rfl | simp [Value.oneCell']) rfl fun g5 _ hg5 a5 hbx => ?_
      replace hb := hb.trans (hbx.mono hb.size)
      replace hm := hm.bel hbx
      replace hi2 := hi2.bel hbx
      clear hbx
      unfold flV at a5
      refine wl_ns ?_; refine wc_region ?_; refine wl_mv rfl rfl ?_; apply wl_val; apply opv_fa; exact fa_sF (by decide); exact rfl; exact rfl; apply wl_val; apply opv_ldX; exact rfl; assumption; exact d1_by; exact rfl; exact rfl; apply wl_val; apply opv_len; exact rfl; exact tyB.sl; exact rfl; apply wl_val; apply opv_bin; exact rfl; exact rfl; exact bin_add64 (by omega); exact rfl; refine wl_as rfl rfl ?_; refine wl_nil ?_; refine we_block_norm ?_
      exact we_loop _ _ ⟨n + x.f.data.length, _, _, rfl, hr, hi2, Nat.le_refl _, hm, hb, by rw [← hsum, hstep, hlx]; omega, rfl⟩ (by omega) ⟨by simp [lookT], rfl, trivial⟩
end Go.Proofs.YtdgagffieobiiaaGreatDoor

/-
  Walks over disks: turn, put, New, Arm.
-/
namespace Go.Proofs.YtdgagffieobiiaaGreatDoor
open Go.RowKit

section
variable {M : BS} {w0 w : World} {H : List Cd} {g : Nat} {d : Dk}
theorem St.flAdd {xs : List FE} {x : FE} (hs : St M w0 w (.ck (flC xs) :: x.cd :: H)) : St M w0 w (.ck (flC (xs ++ [x])) :: H) := by
  refine hs.pack (H1 := [_, _]) _ fun w S h => ?_
  have h1 := Sat.split h (H1 := xs.map FE.cd) fun _ k => k
  show Sat w ((xs ++ [x]).map FE.cd) S
  rw [List.map_append]; exact h1
theorem St.flSet {X Y : List FE} {x y : FE} (hs : St M w0 w (.ck (flC (X ++ x :: Y)) :: y.cd :: H)) : St M w0 w (.ck (flC (X ++ y :: Y)) :: H) := by
  refine hs.pack (H1 := [_, _]) _ fun w S h => ?_
  have h1 := Sat.split h (H1 := (X ++ x :: Y).map FE.cd) fun _ k => k
  show Sat w ((X ++ y :: Y).map FE.cd) S
  rw [List.map_append, List.map_cons] at h1 ⊢
  refine Sat.dropC (c := x.cd) (Sat.permL ?_ h1)
  rw [List.append_assoc, List.cons_append]
  refine (List.perm_middle (a := x.cd)).trans (List.Perm.cons _ ?_)
  rw [← List.append_assoc]
  exact (List.perm_append_comm (l₁ := X.map FE.cd ++ Y.map FE.cd) (l₂ := [y.cd])).trans (show (y.cd :: (X.map FE.cd ++ Y.map FE.cd)).Perm (X.map FE.cd ++ y.cd :: Y.map FE.cd) from List.perm_middle.symm)
end
theorem turn_any {S : BS} {g e : Nat} {d : Dk} {b : Option Nat} {w : World} (h0 : Sat w [.blk g 75 (dkV d b)] S) (hl : d.armed = true → 0 ≤ d.left) (hl2 : d.left ≤ 9223372036854775807) :
    CallsV Tryz.prog 67 #[.pointer (some ⟨g, 0, none⟩), .int .i64 (e : Nat)] w fun v w' => v = .tuple #[.bool (turnD d e).1, .int .i64 ((turnD d e).2.1 : Nat)] ∧ St S w w' [.blk g 75 (dkV (turnD d e).2.2 b)] := by
  have hs := St.start h0
  refine calls_in (N := _) Tryz.func67 rfl Tryz.ntmps67 rfl ?_; show WC _ _ _ _ _ _
  obtain ⟨fs, room, armed, left, dead⟩ := d
  unfold dkV at hs ⊢
  simp only at hs hl hl2
  cases dead with
  | true =>
    refine wc_sr ?_; refine wl_as rfl rfl ?_; refine wl_as rfl rfl ?_; refine wl_ns ?_; refine wc_seq ?_; refine wc_block ?_; refine wc_sr ?_; refine wl_mv rfl rfl ?_; apply wl_val; apply opv_nilOk; exact rfl; exact rfl; apply wl_val; apply opv_fa; exact fa_sD (by decide); exact rfl; exact rfl; apply wl_val; apply opv_ldX; exact rfl; exact hs.ar 0 rfl; exact d1_bool; exact rfl; exact rfl; refine wl_as rfl rfl ?_; refine wl_ns ?_; apply wc_condTb; exact rfl; exact rfl; refine wc_sr ?_; refine wl_as rfl rfl ?_; refine wl_as rfl rfl ?_; refine wl_ns ?_; refine wc_ret ?_; refine we_block_ret ?_; refine we_seq_ret ?_
    exact we_ret2 rfl rfl rfl ⟨_, rfl, rfl, hs⟩
  | false =>
    refine wc_sr ?_; refine wl_as rfl rfl ?_; refine wl_as rfl rfl ?_; refine wl_ns ?_; refine wc_seq ?_; refine wc_block ?_; refine wc_sr ?_; refine wl_mv rfl rfl ?_; apply wl_val; apply opv_nilOk; exact rfl; exact rfl; apply wl_val; apply opv_fa; exact fa_sD (by decide); exact rfl; exact rfl; apply wl_val; apply opv_ldX; exact rfl; exact hs.ar 0 rfl; exact d1_bool; exact rfl; exact rfl; refine wl_as rfl rfl ?_; refine wl_ns ?_; apply wc_condFb; exact rfl; exact rfl; refine wc_sr ?_; refine wl_mv rfl rfl ?_; refine wl_bin rfl rfl bin_neq rfl ?_; refine wl_as rfl rfl ?_; refine wl_ns ?_
    refine wc_cond rfl (fun h1 => ?_) (fun h1 => ?_)
    · have h1' : ¬ e = 0 := by omega
      simp only [turnD, h1', ne_eq, not_false_eq_true, if_true, Bool.false_eq_true, if_false]
      refine wc_sr ?_; refine wl_mv rfl rfl ?_; refine wl_as rfl rfl ?_; refine wl_as rfl rfl ?_; refine wl_ns ?_; refine wc_ret ?_; refine we_block_ret ?_; refine we_seq_ret ?_
      exact we_ret2 rfl rfl rfl ⟨_, rfl, rfl, hs⟩
    · have h1' : e = 0 := by omega
      subst h1'
      cases armed with
      | false =>
        refine wc_sr ?_; refine wl_mv rfl rfl ?_; apply wl_val; apply opv_nilOk; exact rfl; exact rfl; apply wl_val; apply opv_fa; exact fa_sD (by decide); exact rfl; exact rfl; apply wl_val; apply opv_ldX; exact rfl; exact hs.ar 0 rfl; exact d1_bool; exact rfl; exact rfl; refine wl_mv rfl rfl ?_; apply wl_skip; exact rfl; exact rfl; exact rfl; exact bR2; exact rfl; apply wl_skip; exact rfl; exact rfl; exact rfl; exact bR2; exact rfl; apply wl_skip; exact rfl; exact rfl; exact rfl; exact bR2; exact rfl; apply wl_skip; exact rfl; exact rfl; exact rfl; exact bR2; exact rfl; apply wl_skip; exact rfl; exact rfl; exact rfl; exact bR2; exact rfl; apply wl_val; apply opv_pickF; exact rfl; exact rfl; exact rfl; exact rfl; refine wl_as rfl rfl ?_; refine wl_ns ?_; apply wc_condFb; exact rfl; exact rfl; refine wc_sr ?_; refine wl_mv rfl rfl ?_; apply wl_val; apply opv_nilOk; exact rfl; exact rfl; apply wl_val; apply opv_fa; exact fa_sD (by decide); exact rfl; exact rfl; apply wl_val; apply opv_ldX; exact rfl; exact hs.ar 0 rfl; exact d1_bool; exact rfl; exact rfl; refine wl_as rfl rfl ?_; refine wl_ns ?_; apply wc_condFb; exact rfl; exact rfl; refine wc_skip ?_; refine we_block_norm ?_; refine we_seq ?_; refine wc_sr ?_; refine wl_as rfl rfl ?_; refine wl_as rfl rfl ?_; refine wl_ns ?_; refine wc_ret ?_
        exact we_ret2 rfl rfl rfl ⟨_, rfl, rfl, hs⟩
      | true =>
        have hl := hl rfl
        by_cases h2 : left = 0
        · subst h2
          refine wc_sr ?_; refine wl_mv rfl rfl ?_; apply wl_val; apply opv_nilOk; exact rfl; exact rfl; apply wl_val; apply opv_fa; exact fa_sD (by decide); exact rfl; exact rfl; apply wl_val; apply opv_ldX; exact rfl; exact hs.ar 0 rfl; exact d1_bool; exact rfl; exact rfl; refine wl_mv rfl rfl ?_; apply wl_take; exact rfl; exact rfl; exact rfl; exact rfl; refine wl_mv rfl rfl ?_; apply wl_take; exact rfl; exact rfl; exact rfl; exact rfl; apply wl_val; apply opv_nilOk; exact rfl; exact rfl; apply wl_take; exact rfl; exact rfl; exact rfl; exact rfl; apply wl_val; apply opv_fa; exact fa_sD (by decide); exact rfl; exact rfl; apply wl_take; exact rfl; exact rfl; exact rfl; exact rfl; apply wl_val; apply opv_ldX; exact rfl; exact hs.ar 0 rfl; exact d1_int; exact rfl; exact rfl; apply wl_take; exact rfl; exact rfl; exact rfl; exact rfl; refine wl_bin rfl rfl bin_eql rfl ?_; apply wl_val; apply opv_pickT; exact rfl; exact rfl; exact rfl; exact rfl; refine wl_as rfl rfl ?_; refine wl_ns ?_; apply wc_condTb; exact rfl; exact rfl; refine wc_sr ?_; refine wl_mv rfl rfl ?_; apply wl_val; apply opv_nilOk; exact rfl; exact rfl; apply wl_val; apply opv_fa; exact fa_sD (by decide); exact rfl; exact rfl; apply ws_st hs 0; exact rfl; exact rfl; exact d1_bool; exact rfl; exact rfl; exact rfl; clear hs; intro _ hs; dsimp only [setC, List.set] at hs; refine wl_ns ?_; refine wc_sr ?_; refine wl_as rfl rfl ?_; refine wl_as rfl rfl ?_; refine wl_ns ?_; refine wc_ret ?_; refine we_block_ret ?_; refine we_seq_ret ?_
          exact we_ret2 rfl rfl rfl ⟨_, rfl, rfl, hs⟩
        · simp only [turnD, h2, ne_eq, not_true_eq_false, and_false, if_true, Bool.false_eq_true, if_false]
          refine wc_sr ?_; refine wl_mv rfl rfl ?_; apply wl_val; apply opv_nilOk; exact rfl; exact rfl; apply wl_val; apply opv_fa; exact fa_sD (by decide); exact rfl; exact rfl; apply wl_val; apply opv_ldX; exact rfl; exact hs.ar 0 rfl; exact d1_bool; exact rfl; exact rfl; refine wl_mv rfl rfl ?_; apply wl_take; exact rfl; exact rfl; exact rfl; exact rfl; refine wl_mv rfl rfl ?_; apply wl_take; exact rfl; exact rfl; exact rfl; exact rfl; apply wl_val; apply opv_nilOk; exact rfl; exact rfl; apply wl_take; exact rfl; exact rfl; exact rfl; exact rfl; apply wl_val; apply opv_fa; exact fa_sD (by decide); exact rfl; exact rfl; apply wl_take; exact rfl; exact rfl; exact rfl; exact rfl; apply wl_val; apply opv_ldX; exact rfl; exact hs.ar 0 rfl; exact d1_int; exact rfl; exact rfl; apply wl_take; exact rfl; exact rfl; exact rfl; exact rfl; refine wl_bin rfl rfl bin_eql rfl ?_; apply wl_val; apply opv_pickT; exact rfl; exact rfl; exact rfl; exact rfl; refine wl_as rfl rfl ?_; refine wl_ns ?_; apply wc_decF; exact rfl; (with_reducible assumption); refine wc_sr ?_; refine wl_mv rfl rfl ?_; apply wl_val; apply opv_nilOk; exact rfl; exact rfl; apply wl_val; apply opv_fa; exact fa_sD (by decide); exact rfl; exact rfl; apply wl_val; apply opv_ldX; exact rfl; exact hs.ar 0 rfl; exact d1_bool; exact rfl; exact rfl; refine wl_as rfl rfl ?_; refine wl_ns ?_; apply wc_condTb; exact rfl; exact rfl; refine wc_region ?_; refine wl_mv rfl rfl ?_; apply wl_val; apply opv_nilOk; exact rfl; exact rfl; apply wl_val; apply opv_fa; exact fa_sD (by decide); exact rfl; exact rfl; apply wl_val; apply opv_ldX; exact rfl; exact hs.ar 0 rfl; exact d1_int; exact rfl; exact rfl; apply wl_val; apply opv_bin; exact rfl; exact rfl; exact bin_sub64 (by omega); exact rfl; apply wl_val; apply opv_nilOk; exact rfl; exact rfl; apply wl_val; apply opv_fa; exact fa_sD (by decide); exact rfl; exact rfl; apply ws_st hs 0; exact rfl; exact rfl; exact d1_int; exact rfl; exact rfl; exact rfl; clear hs; intro _ hs; dsimp only [setC, List.set] at hs; refine wl_nil ?_; refine we_block_norm ?_; refine we_seq ?_; refine wc_sr ?_; refine wl_as rfl rfl ?_; refine wl_as rfl rfl ?_; refine wl_ns ?_; refine wc_ret ?_
          exact we_ret2 rfl rfl rfl ⟨_, rfl, rfl, hs⟩
theorem dput_any {S : BS} {g c : Nat} {d : Dk} {n : List UInt8} {f : Fl} {A : Option Addr} {w : World} (h0 : Sat w [.ck (dkC g d), .ow 5 A f.data.length c (bvs f.data)] S) :
    CallsV Tryz.prog 70 #[.pointer (some ⟨g, 0, none⟩), str n, .agg (flV f A c).toArray] w fun v w' => v = .tuple #[] ∧ St S w w' [.ck (dkC g (putD d n f))] := by
  have hs := St.start h0
  refine calls_in (N := _) Tryz.func70 rfl Tryz.ntmps70 rfl ?_; show WC _ _ _ _ _ _
  refine wc_sr ?_
  refine ws_box (cs := flV f A c) hs rfl rfl ?_; clear hs; intro g5 _ hs
  replace hs := hs.front 1 rfl
  dsimp only [delC] at hs
  rcases hs.opn with ⟨hfs, hs1⟩ | ⟨m, xs, clk, hI, hs1⟩
  · replace hs := hs1
    clear hs1
    unfold dkV at hs
    refine wl_ns ?_; refine wc_seq ?_; refine wc_sr ?_; refine wl_mv rfl rfl ?_; apply wl_val; apply opv_nilOk; exact rfl; exact rfl; apply wl_val; apply opv_fa; exact fa_sD (by decide); exact rfl; exact rfl; apply wl_val; apply opv_ldX; exact rfl; exact hs.ar 0 rfl; exact d1_map; exact rfl; exact rfl; apply wl_val; apply opv_bin; exact rfl; exact rfl; exact bin_eqlMapNN tyDM; exact rfl; refine wl_ns ?_; apply wc_condTb; exact rfl; exact rfl; refine wc_region ?_; refine wl_mv rfl rfl ?_
    refine ws_mkMap hs rfl ?_
    clear hs; intro m _ hs
    apply wl_val; apply opv_nilOk; exact rfl; exact rfl; apply wl_val; apply opv_fa; exact fa_sD (by decide); exact rfl; exact rfl; apply ws_st hs 1; exact rfl; exact rfl; exact d1_map; exact rfl; exact rfl; exact rfl; clear hs; intro _ hs; dsimp only [setC, List.set] at hs; refine wl_ns ?_
    refine wc_heldM 6 mixed fun w_ hS => ?_
    apply wm_take 0; exact rfl; intro _ hw_; apply opv_move; exact rfl; exact rfl; kernel_rfl; exact hS; apply wm_take 1; exact rfl; intro _ hw_; apply opv_nilOk; exact rfl; exact rfl; kernel_rfl; exact hS; apply wm_take 2; exact rfl; intro _ hw_; apply opv_fa; exact fa_sD (by decide); exact rfl; exact rfl; kernel_rfl; exact hS; apply wm_take 3; exact rfl; intro _ hw_; apply opv_ldX; exact rfl; exact Ar.bel (hs.ar 1 rfl) hw_; exact d1_map; exact rfl; exact rfl; kernel_rfl; exact hS; apply wm_take 4; exact rfl; intro _ hw_; apply opv_move; exact rfl; exact rfl; kernel_rfl; exact hS; apply wm_take 5; exact rfl; intro _ hw_; apply opv_loadX; exact rfl; exact Ar.bel (hs.ar 2 rfl) hw_; exact sF; exact rfl; kernel_rfl; exact hS
    replace hs := hs.below hS
    refine wm_one 6 (by kernel_rfl) rfl ?_; dsimp only [List.getElem_toArray, List.getElem_cons_succ, List.getElem_cons_zero]
    refine ws_mput hs 0 rfl tyDM tyStrD rfl rfl rfl ?_
    clear hs; intro _ hs
    refine wl_nil ?_
    refine we_heldM (fun h => absurd h (by decide)) ?_
    refine wm_done (by kernel_rfl) ?_
    have hI : DkI (putF n f d.fs) ([] ++ [⟨n, A, c, f, 0⟩]) 1 := DkI.new (fs := d.fs) (xs := []) (clk := 0) ⟨by rw [hfs]; rfl, List.nodup_nil, (fun _ h => absurd h List.not_mem_nil), List.nodup_nil⟩ List.not_mem_nil (by rw [hfs]; rfl) A c f
    replace hs := (((hs.drop 2 rfl).front 2 rfl).pack (H1 := [_]) (.ck (flC [⟨n, A, c, f, 0⟩])) fun _ _ h => h).front 1 rfl
    dsimp only [delC] at hs
    replace hs := (hs.front 2 rfl)
    dsimp only [delC] at hs
    exact we_end0 rfl ⟨_, rfl, rfl, St.cls (d := putD d n f) (m := m) (clk := 1) (xs := [⟨n, A, c, f, 0⟩]) hs hI⟩
  · replace hs := hs1
    clear hs1
    unfold dkV at hs
    refine wl_ns ?_; refine wc_seq ?_; refine wc_sr ?_; refine wl_mv rfl rfl ?_; apply wl_val; apply opv_nilOk; exact rfl; exact rfl; apply wl_val; apply opv_fa; exact fa_sD (by decide); exact rfl; exact rfl; apply wl_val; apply opv_ldX; exact rfl; exact hs.ar 0 rfl; exact d1_map; exact rfl; exact rfl; apply wl_val; apply opv_bin; exact rfl; exact rfl; exact bin_eqlMapNil tyDM; exact rfl; refine wl_ns ?_; apply wc_condFb; exact rfl; exact rfl; refine wc_skip ?_; refine we_seq ?_
    refine wc_heldM 6 mixed fun w_ hS => ?_
    apply wm_take 0; exact rfl; intro _ hw_; apply opv_move; exact rfl; exact rfl; kernel_rfl; exact hS; apply wm_take 1; exact rfl; intro _ hw_; apply opv_nilOk; exact rfl; exact rfl; kernel_rfl; exact hS; apply wm_take 2; exact rfl; intro _ hw_; apply opv_fa; exact fa_sD (by decide); exact rfl; exact rfl; kernel_rfl; exact hS; apply wm_take 3; exact rfl; intro _ hw_; apply opv_ldX; exact rfl; exact Ar.bel (hs.ar 0 rfl) hw_; exact d1_map; exact rfl; exact rfl; kernel_rfl; exact hS; apply wm_take 4; exact rfl; intro _ hw_; apply opv_move; exact rfl; exact rfl; kernel_rfl; exact hS; apply wm_take 5; exact rfl; intro _ hw_; apply opv_loadX; exact rfl; exact Ar.bel (hs.ar 3 rfl) hw_; exact sF; exact rfl; kernel_rfl; exact hS
    replace hs := hs.below hS
    refine wm_one 6 (by kernel_rfl) rfl ?_; dsimp only [List.getElem_toArray, List.getElem_cons_succ, List.getElem_cons_zero]
    refine ws_mput hs 1 rfl tyDM tyStrD rfl rfl rfl ?_
    clear hs; intro _ hs
    refine wl_nil ?_
    refine we_heldM (fun h => absurd h (by decide)) ?_
    refine wm_done (by kernel_rfl) ?_
    dsimp only [setC] at hs
    rcases fnd_split n xs 0 with ⟨h1, h2, h3⟩ | ⟨X, x, Y, rfl, h2, h3, h4, h5⟩
    · rw [hI.fs] at h2
      rw [mput_new h1 A c f] at hs
      replace hs := ((hs.drop 3 rfl).front 3 rfl).front 3 rfl
      dsimp only [delC] at hs
      replace hs := St.flAdd (x := ⟨n, A, c, f, clk⟩) hs
      replace hs := (hs.front 2 rfl).front 2 rfl
      dsimp only [delC] at hs
      exact we_end0 rfl ⟨_, rfl, rfl, St.cls (d := putD d n f) (m := m) hs (hI.new h3 h2 A c f)⟩
    · rw [mput_old h4 h2 A c f] at hs
      replace hs := ((hs.drop 3 rfl).front 3 rfl).front 3 rfl
      dsimp only [delC] at hs
      replace hs := St.flSet (y := ⟨n, A, c, f, x.born⟩) hs
      replace hs := (hs.front 2 rfl).front 2 rfl
      dsimp only [delC] at hs
      exact we_end0 rfl ⟨_, rfl, rfl, St.cls (d := putD d n f) (m := m) hs (hI.old' h2 h3 A c f)⟩
end Go.Proofs.YtdgagffieobiiaaGreatDoor

/-
  Walks over PutU of the program and of the reference, inside, and GetU of both.
-/
namespace Go.Proofs.YtdgagffieobiiaaGreatDoor
open Go.RowKit

def PutI (w : World) (n : Nat) (s : Nat) : FL → World → Nat → Prop := fun L wr m =>
  ∃ (pre : List UInt8) (A : Option Addr) (c : Nat), L = [(0, .int .u64 m), (s, .slice A pre.length c)] ∧ OwB wr w.heap.size A c pre ∧ putU n = pre ++ putU m ∧ Below w.heap.size w wr ∧ m < 2 ^ (64 - 7 * pre.length) ∧ 7 * pre.length ≤ 63
theorem PutI.start {w : World} {n s : Nat} (hn : n < 2 ^ 64) : PutI w n s [(0, .int .u64 n), (s, .slice none 0 0)] w n :=
  ⟨[], none, 0, rfl, Ow.nil _ _ _, rfl, Below.refl _ _, hn, by decide⟩
theorem PutI.next {w wr w' : World} {n m s : Nat} {pre : List UInt8} {A A' : Option Addr} {c c' : Nat} {v : Value} (hown : OwB wr w.heap.size A c pre) (heq : putU n = pre ++ putU m) (hbel : Below w.heap.size w wr) (hm : m < 2 ^ (64 - 7 * pre.length)) (hl : 7 * pre.length ≤ 63)
    (h : 128 ≤ m) (ho : Ow w' w.heap.size 5 A' (pre.length + 1) c' (bvs pre ++ [v])) (hg : Gr wr w' A) (hv : bv (UInt8.ofNat (m % 128 + 128)) = v) :
    PutI w n s [(0, .int .u64 (m / 128 : Nat)), (s, .slice A' (pre.length + 1) c')] w' (m / 128) := by
  have h7 : 8 ≤ 64 - 7 * pre.length := by
    rcases Nat.lt_or_ge 7 (64 - 7 * pre.length) with h' | h'
    · exact h'
    · have := Nat.lt_of_lt_of_le hm (Nat.pow_le_pow_right (by decide) h'); omega
  refine ⟨pre ++ [UInt8.ofNat (m % 128 + 128)], A', c', by simp, OwB.snoc ho hv, ?_, hg.below hbel hown (Nat.le_refl _) hbel.size, ?_, ?_⟩
  · rw [heq, putU, if_neg (by omega)]; simp
  · refine Nat.div_lt_of_lt_mul ?_
    rw [show 128 = 2 ^ 7 from rfl, ← Nat.pow_add]
    simp only [List.length_append, List.length_cons, List.length_nil]
    rw [show 7 + (64 - 7 * (pre.length + (0 + 1))) = 64 - 7 * pre.length by omega]
    exact hm
  · simp; omega
theorem PutI.last {w wr w' : World} {n m : Nat} {pre : List UInt8} {A A' : Option Addr} {c c' : Nat} {v : Value} (hown : OwB wr w.heap.size A c pre) (heq : putU n = pre ++ putU m) (hbel : Below w.heap.size w wr)
    (h : m < 128) (ho : Ow w' w.heap.size 5 A' (pre.length + 1) c' (bvs pre ++ [v])) (hg : Gr wr w' A) (hv : bv (UInt8.ofNat m) = v) :
    RetB w (putU n) (.slice A' (pre.length + 1) c') w' := by
  have e : putU n = pre ++ [UInt8.ofNat m] := by rw [heq, putU, if_pos h]
  rw [e]
  exact ⟨A', c', by simp, OwB.snoc ho hv, hg.below hbel hown (Nat.le_refl _) hbel.size⟩

theorem putU_any (n : Nat) (hn : n < 2 ^ 64) (w : World) : CallsV Tryz.prog 93 #[.int .u64 n] w (RetB w (putU n)) := by
  refine calls_in (N := _) Tryz.func93 rfl Tryz.ntmps93 rfl ?_; show WC _ _ _ _ _ _
  refine wc_sr ?_; refine wl_as rfl rfl ?_; refine wl_ns ?_; refine wc_sr ?_; refine wl_as rfl rfl ?_; refine wl_ns ?_; refine wc_seq ?_; refine wc_block ?_
  refine wc_loop (PutI w n 3) [(0, .int .u64 n), (3, .slice none 0 0)] n (PutI.start hn) ⟨rfl, rfl, trivial⟩ ?_
  rintro _ wr m ⟨pre, A, c, rfl, hown, heq, hbel, hm, hl⟩
  have hsz := hbel.size
  have hm64 : m < 2 ^ 64 := Nat.lt_of_lt_of_le hm (Nat.pow_le_pow_right (by decide) (by omega))
  refine wc_seq ?_; refine wc_sr ?_; refine wl_mv rfl rfl ?_; refine wl_bin rfl rfl bin_geq rfl ?_; refine wl_ns ?_
  refine wc_cond rfl (fun h => ?_) (fun h => ?_)
  · refine wc_skip ?_; refine we_seq ?_; refine wc_block ?_; refine wc_sr ?_; refine wl_mv rfl rfl ?_; refine wl_mv rfl rfl ?_; apply wl_val; apply opv_convR; exact rfl; exact Tryz.underlying29; exact Tryz.underlying5; exact wrap_nat rfl _; exact rfl
    refine wl_val (opv_bin (b := .int .u8 (128 : Nat)) rfl rfl (bin_or rfl (Nat.mod_lt _ (by decide)) (by decide))) rfl ?_
    refine wl_push (vs := [_]) tyB rfl hown ⟨rfl, rfl, rfl, trivial⟩ rfl (by decide) rfl (by omega) (by simp only [maxLen]; omega) hsz rfl rfl fun p A' c' w' ho hg hat => ?_
    refine wl_as rfl rfl ?_; refine wl_ns ?_; refine wc_region ?_; refine wl_mv rfl rfl ?_
    refine wl_val (opv_bin (b := .int .u64 (7 : Nat)) rfl rfl (bin_shr hm64)) rfl ?_
    refine wl_as rfl rfl ?_; refine wl_nil ?_; refine we_block_norm ?_
    refine we_loop _ (m / 128) (PutI.next hown heq hbel hm hl (by omega) ho hg ?_) (by omega) ⟨rfl, rfl, trivial⟩
    rw [bv_of (by omega), show IntKind.u8.bits = 8 from rfl, show 2 ^ 8 = 256 from rfl, or128]
  · refine wc_exit ?_; refine we_seq_exit ?_; refine we_loop_exit ?_; refine we_block_exit ?_; refine we_seq ?_; refine wc_sr ?_; refine wl_mv rfl rfl ?_; refine wl_mv rfl rfl ?_; apply wl_val; apply opv_convR; exact rfl; exact Tryz.underlying29; exact Tryz.underlying5; exact IntWalk.u8_in _ (by omega); exact rfl
    refine wl_push (vs := [_]) tyB rfl hown ⟨rfl, rfl, rfl, trivial⟩ rfl (by decide) rfl (by omega) (by simp only [maxLen]; omega) hsz rfl rfl fun p A' c' w' ho hg hat => ?_
    refine wl_as rfl rfl ?_; refine wl_ns ?_; refine wc_ret ?_
    exact we_ret1 rfl rfl ⟨_, rfl, PutI.last hown heq hbel (by omega) ho hg (bv_of (by omega))⟩
theorem inside_any {A : Option Addr} {n c : Nat} (p : Int) (w : World) : CallsV Tryz.prog 110 #[.slice A n c, .int .i64 p] w fun v w' => v = .bool (decide (0 ≤ p ∧ p ≤ n)) ∧ w = w' := by
  refine calls_in (N := _) Tryz.func110 rfl Tryz.ntmps110 rfl ?_; show WC _ _ _ _ _ _
  refine wc_sr ?_; refine wl_as rfl rfl ?_; refine wl_ns ?_; refine wc_sr ?_; refine wl_mv rfl rfl ?_; refine wl_bin rfl rfl bin_geq rfl ?_; refine wl_mv rfl rfl ?_
  refine wl_cutV 5 12 (.bool (decide ((0 ≤ p) ∧ (p ≤ n)))) ?c8 ?_; (case c8 => (dsimp only [List.take]; by_cases hc0 : (0 ≤ p); (focus (apply wl_take; exact rfl; exact rfl; exact rfl; refine bT ?_; (with_reducible assumption); refine wl_mv rfl rfl ?_; apply wl_take; exact rfl; exact rfl; exact rfl; refine bT ?_; (with_reducible assumption); refine wl_mv rfl rfl ?_; apply wl_take; exact rfl; exact rfl; exact rfl; refine bT ?_; (with_reducible assumption); apply wl_val; apply opv_len; exact rfl; exact tyB.sl; exact rfl; apply wl_take; exact rfl; exact rfl; exact rfl; refine bT ?_; (with_reducible assumption); refine wl_bin rfl rfl bin_leq rfl ?_; apply wl_val; apply opv_pickT; exact rfl; refine bT ?_; (with_reducible assumption); exact rfl; exact rfl; refine wl_nil ?_; refine we_cut _ ⟨rfl, rfl⟩ ⟨congrArg (fun b => some (Value.bool b)) ?e8_0, ?s8_0⟩; (case e8_0 => ((simp [hc0]; done))); (case s8_0 => (refine And.intro rfl ?_; refine And.intro rfl ?_; refine And.intro rfl ?_; refine And.intro rfl ?_; refine And.intro rfl ?_; refine And.intro rfl ?_; exact True.intro)))); (focus (apply wl_skip; exact rfl; exact rfl; exact rfl; refine bFn ?_; (with_reducible assumption); exact rfl; apply wl_skip; exact rfl; exact rfl; exact rfl; refine bFn ?_; (with_reducible assumption); exact rfl; apply wl_skip; exact rfl; exact rfl; exact rfl; refine bFn ?_; (with_reducible assumption); exact rfl; apply wl_skip; exact rfl; exact rfl; exact rfl; refine bFn ?_; (with_reducible assumption); exact rfl; apply wl_val; apply opv_pickF; exact rfl; refine bF ?_; (with_reducible assumption); exact rfl; exact rfl; refine wl_nil ?_; refine we_cut _ ⟨rfl, rfl⟩ ⟨congrArg (fun b => some (Value.bool b)) ?e8_1, ?s8_1⟩; (case e8_1 => ((simp [hc0]; done))); (case s8_1 => (refine And.intro rfl ?_; refine And.intro rfl ?_; refine And.intro rfl ?_; refine And.intro rfl ?_; refine And.intro rfl ?_; refine And.intro rfl ?_; exact True.intro)))))); dsimp only [List.drop]
  refine wl_as rfl rfl ?_; refine wl_ns ?_; refine wc_ret ?_
  exact we_ret1 rfl rfl ⟨_, rfl, rfl, rfl⟩
/-- A number, a place and an error are handed back. -/
def RetN (w : World) (r : Nat × Int × Nat) (v : Value) (w' : World) : Prop := v = .tuple #[.int .u64 (r.1 : Int), .int .i64 r.2.1, .int .i64 (r.2.2 : Int)] ∧ Below w.heap.size w w'

theorem getU_any {A : Option Addr} {n c : Nat} {xs : List UInt8} {p : Int} {w : World} (hr : RdB w A xs) (hn : xs.length = n) (hl : xs.length ≤ maxLen) (hp : -9223372036854775808 ≤ p ∧ p ≤ 9223372036854775807) :
    CallsV Tryz.prog 99 #[.slice A n c, .int .i64 p] w (RetN w (getU xs p)) := by
  subst hn
  have hmx : xs.length ≤ 9223372036854775807 := by simpa only [maxLen] using hl
  clear hl
  refine calls_in (N := _) Tryz.func99 rfl Tryz.ntmps99 rfl ?_; show WC _ _ _ _ _ _
  refine wc_sr ?_; refine wl_as rfl rfl ?_; refine wl_as rfl rfl ?_; refine wl_as rfl rfl ?_; refine wl_ns ?_; refine wc_seq ?_; refine wc_sr ?_; refine wl_mv rfl rfl ?_; refine wl_mv rfl rfl ?_
  refine wl_call ok_codec_inside (inside_any p w) ⟨rfl, rfl, trivial⟩ rfl ?_
  rintro _ _ ⟨rfl, rfl⟩
  apply wl_val; apply opv_notD; exact rfl; exact rfl; refine wl_ns ?_
  refine wc_cond rfl (fun h => ?_) (fun h => ?_)
  · refine wc_sr ?_; refine wl_as rfl rfl ?_; refine wl_as rfl rfl ?_; refine wl_as rfl rfl ?_; refine wl_ns ?_; refine wc_ret ?_; refine we_seq_ret ?_
    exact we_ret3 rfl rfl rfl rfl ⟨_, rfl, by rw [getU_arg h]; rfl, Below.refl _ _⟩
  · have h' : 0 ≤ p ∧ p ≤ xs.length := by simpa using h
    obtain ⟨q, rfl⟩ := Int.eq_ofNat_of_zero_le h'.1
    have hq : q ≤ xs.length := by omega
    refine wc_skip ?_; refine we_seq ?_; refine wc_sr ?_; refine wl_as rfl rfl ?_; refine wl_ns ?_; refine wc_seq ?_; refine wc_sr ?_; refine wl_as rfl rfl ?_; refine wl_ns ?_; refine wc_block ?_
    refine wc_loop (fun L wr m => ∃ i n : Nat, L = [(0, .slice A xs.length c), (1, .int .i64 (q : Int)), (7, .int .u64 (n : Int)), (8, .int .i64 (i : Int))] ∧ q + i ≤ xs.length ∧ i ≤ 9 ∧ n < 128 ^ i ∧ getAux 0 0 (xs.drop q) = getAux i n (xs.drop (q + i)) ∧ w = wr ∧ m = xs.length - i)
      [(0, .slice A xs.length c), (1, .int .i64 (q : Int)), (7, .int .u64 (0 : Nat)), (8, .int .i64 (0 : Nat))] xs.length ⟨0, 0, rfl, hq, by omega, by omega, rfl, rfl, rfl⟩ ⟨rfl, rfl, rfl, rfl, trivial⟩ ?_
    rintro _ _ m ⟨i, n, rfl, hqi, hi, hn, heq, rfl, rfl⟩
    refine wc_seq ?_; refine wc_sr ?_; refine wl_mv rfl rfl ?_; refine wl_mv rfl rfl ?_; apply wl_val; apply opv_bin; exact rfl; exact rfl; exact bin_add64 (by omega); exact rfl; refine wl_mv rfl rfl ?_; apply wl_val; apply opv_len; exact rfl; exact tyB.sl; exact rfl; refine wl_bin rfl rfl bin_lss rfl ?_; refine wl_ns ?_
    refine wc_cond rfl (fun h1 => ?_) (fun h1 => ?_)
    · have hlt : q + i < xs.length := by omega
      refine wc_skip ?_; refine we_seq ?_; refine wc_seq ?_; refine wc_block ?_; refine wc_sr ?_; refine wl_mv rfl rfl ?_; refine wl_mv rfl rfl ?_; refine wl_mv rfl rfl ?_; apply wl_val; apply opv_bin; exact rfl; exact rfl; exact bin_add64 (by omega); exact rfl
      refine wl_by (kk := q + i) tyB rfl rfl hr (by simp) hlt rfl rfl fun p1 x hx => ?_
      have hdrop := drop_get hx
      have hx256 := x.toNat_lt
      apply wl_val; apply opv_convR; exact rfl; exact Tryz.underlying5; exact Tryz.underlying29; exact IntWalk.u64_in _ (by omega); exact rfl; refine wl_as rfl rfl ?_; refine wl_ns ?_; refine wc_seq ?_; refine wc_sr ?_; refine wl_mv rfl rfl ?_; refine wl_bin rfl rfl bin_eql rfl ?_; refine wl_mv rfl rfl ?_
      refine wl_cutV 3 34 (.bool (decide ((i : Int) = 9 ∧ 1 < (x.toNat : Int)))) ?c22 ?_; (case c22 => (dsimp only [List.take]; by_cases hc0 : ((i : Int) = 9); (focus (by_cases hc1 : (1 < (x.toNat : Int)); (focus (apply wl_take; exact rfl; exact rfl; exact rfl; refine bT ?_; (with_reducible assumption); refine wl_mv rfl rfl ?_; apply wl_take; exact rfl; exact rfl; exact rfl; refine bT ?_; (with_reducible assumption); refine wl_bin rfl rfl bin_gtr rfl ?_; apply wl_val; apply opv_pickT; exact rfl; refine bT ?_; (with_reducible assumption); exact rfl; exact rfl; refine wl_nil ?_; refine we_cut _ ⟨rfl, rfl⟩ ⟨congrArg (fun b => some (Value.bool b)) ?e22_0, ?s22_0⟩; (case e22_0 => ((simp [hc0, hc1]; done))); (case s22_0 => (refine And.intro rfl ?_; refine And.intro rfl ?_; refine And.intro rfl ?_; refine And.intro rfl ?_; refine And.intro rfl ?_; refine And.intro rfl ?_; refine And.intro rfl ?_; refine And.intro rfl ?_; refine And.intro rfl ?_; refine And.intro rfl ?_; refine And.intro rfl ?_; refine And.intro rfl ?_; refine And.intro rfl ?_; refine And.intro rfl ?_; refine And.intro rfl ?_; refine And.intro rfl ?_; refine And.intro rfl ?_; refine And.intro rfl ?_; refine And.intro rfl ?_; refine And.intro rfl ?_; refine And.intro rfl ?_; exact True.intro)))); (focus (apply wl_take; exact rfl; exact rfl; exact rfl; refine bT ?_; (with_reducible assumption); refine wl_mv rfl rfl ?_; apply wl_take; exact rfl; exact rfl; exact rfl; refine bT ?_; (with_reducible assumption); refine wl_bin rfl rfl bin_gtr rfl ?_; apply wl_val; apply opv_pickT; exact rfl; refine bT ?_; (with_reducible assumption); exact rfl; exact rfl; refine wl_nil ?_; refine we_cut _ ⟨rfl, rfl⟩ ⟨congrArg (fun b => some (Value.bool b)) ?e22_1, ?s22_1⟩; (case e22_1 => ((simp [hc0, hc1]; done))); (case s22_1 => (refine And.intro rfl ?_; refine And.intro rfl ?_; refine And.intro rfl ?_; refine And.intro rfl ?_; refine And.intro rfl ?_; refine And.intro rfl ?_; refine And.intro rfl ?_; refine And.intro rfl ?_; refine And.intro rfl ?_; refine And.intro rfl ?_; refine And.intro rfl ?_; refine And.intro rfl ?_; refine And.intro rfl ?_; refine And.intro rfl ?_; refine And.intro rfl ?_; refine And.intro rfl ?_; refine And.intro rfl ?_; refine And.intro rfl ?_; refine And.intro rfl ?_; refine And.intro rfl ?_; refine And.intro rfl ?_; exact True.intro)))))); (focus (by_cases hc1 : (1 < (x.toNat : Int)); (focus (apply wl_skip; exact rfl; exact rfl; exact rfl; refine bFn ?_; (with_reducible assumption); exact rfl; apply wl_skip; exact rfl; exact rfl; exact rfl; refine bFn ?_; (with_reducible assumption); exact rfl; apply wl_val; apply opv_pickF; exact rfl; refine bF ?_; (with_reducible assumption); exact rfl; exact rfl; refine wl_nil ?_; refine we_cut _ ⟨rfl, rfl⟩ ⟨congrArg (fun b => some (Value.bool b)) ?e22_2, ?s22_2⟩; (case e22_2 => ((simp [hc0, hc1]; done))); (case s22_2 => (refine And.intro rfl ?_; refine And.intro rfl ?_; refine And.intro rfl ?_; refine And.intro rfl ?_; refine And.intro rfl ?_; refine And.intro rfl ?_; refine And.intro rfl ?_; refine And.intro rfl ?_; refine And.intro rfl ?_; refine And.intro rfl ?_; refine And.intro rfl ?_; refine And.intro rfl ?_; refine And.intro rfl ?_; refine And.intro rfl ?_; refine And.intro rfl ?_; refine And.intro rfl ?_; refine And.intro rfl ?_; refine And.intro rfl ?_; refine And.intro rfl ?_; refine And.intro rfl ?_; refine And.intro rfl ?_; exact True.intro)))); (focus (apply wl_skip; exact rfl; exact rfl; exact rfl; refine bFn ?_; (with_reducible assumption); exact rfl; apply wl_skip; exact rfl; exact rfl; exact rfl; refine bFn ?_; (with_reducible assumption); exact rfl; apply wl_val; apply opv_pickF; exact rfl; refine bF ?_; (with_reducible assumption); exact rfl; exact rfl; refine wl_nil ?_; refine we_cut _ ⟨rfl, rfl⟩ ⟨congrArg (fun b => some (Value.bool b)) ?e22_3, ?s22_3⟩; (case e22_3 => ((simp [hc0, hc1]; done))); (case s22_3 => (refine And.intro rfl ?_; refine And.intro rfl ?_; refine And.intro rfl ?_; refine And.intro rfl ?_; refine And.intro rfl ?_; refine And.intro rfl ?_; refine And.intro rfl ?_; refine And.intro rfl ?_; refine And.intro rfl ?_; refine And.intro rfl ?_; refine And.intro rfl ?_; refine And.intro rfl ?_; refine And.intro rfl ?_; refine And.intro rfl ?_; refine And.intro rfl ?_; refine And.intro rfl ?_; refine And.intro rfl ?_; refine And.intro rfl ?_; refine And.intro rfl ?_; refine And.intro rfl ?_; refine And.intro rfl ?_; exact True.intro)))))))); dsimp only [List.drop]
      refine wl_mv rfl rfl ?_
      refine wl_cutV 7 42 (.bool (decide (((i : Int) = 9 ∧ 1 < (x.toNat : Int)) ∨ ((x.toNat : Int) = 0 ∧ 0 < (i : Int))))) ?c35 ?_; (case c35 => (dsimp only [List.take]; by_cases hc0 : ((i : Int) = 9 ∧ 1 < (x.toNat : Int)); (focus (by_cases hc1 : ((x.toNat : Int) = 0); (focus (by_cases hc2 : (0 < (i : Int)); (focus (apply wl_take; exact rfl; exact rfl; exact rfl; refine bF ?_; omega; refine wl_mv rfl rfl ?_; apply wl_take; exact rfl; exact rfl; exact rfl; refine bF ?_; omega; refine wl_bin rfl rfl bin_eql rfl ?_; apply wl_take; exact rfl; exact rfl; exact rfl; refine bF ?_; omega; refine wl_mv rfl rfl ?_; apply wl_take; exact rfl; exact rfl; exact rfl; refine bT ?_; (with_reducible assumption); refine wl_mv rfl rfl ?_; apply wl_take; exact rfl; exact rfl; exact rfl; refine bT ?_; (with_reducible assumption); refine wl_bin rfl rfl bin_gtr rfl ?_; apply wl_take; exact rfl; exact rfl; exact rfl; refine bF ?_; omega; apply wl_val; apply opv_pickT; exact rfl; refine bT ?_; (with_reducible assumption); exact rfl; exact rfl; apply wl_val; apply opv_pickT; exact rfl; refine bT ?_; (with_reducible assumption); exact rfl; exact rfl; refine wl_nil ?_; refine we_cut _ ⟨rfl, rfl⟩ ⟨congrArg (fun b => some (Value.bool b)) ?e35_0, ?s35_0⟩; (case e35_0 => ((simp [hc0, hc1, hc2]; done))); (case s35_0 => (refine And.intro rfl ?_; refine And.intro rfl ?_; refine And.intro rfl ?_; refine And.intro rfl ?_; refine And.intro rfl ?_; refine And.intro rfl ?_; refine And.intro rfl ?_; refine And.intro rfl ?_; refine And.intro rfl ?_; refine And.intro rfl ?_; refine And.intro rfl ?_; refine And.intro rfl ?_; refine And.intro rfl ?_; refine And.intro rfl ?_; refine And.intro rfl ?_; refine And.intro rfl ?_; refine And.intro rfl ?_; refine And.intro rfl ?_; refine And.intro rfl ?_; refine And.intro rfl ?_; refine And.intro rfl ?_; refine And.intro rfl ?_; refine And.intro rfl ?_; exact True.intro)))); (focus (apply wl_take; exact rfl; exact rfl; exact rfl; refine bF ?_; omega; refine wl_mv rfl rfl ?_; apply wl_take; exact rfl; exact rfl; exact rfl; refine bF ?_; omega; refine wl_bin rfl rfl bin_eql rfl ?_; apply wl_take; exact rfl; exact rfl; exact rfl; refine bF ?_; omega; refine wl_mv rfl rfl ?_; apply wl_take; exact rfl; exact rfl; exact rfl; refine bT ?_; (with_reducible assumption); refine wl_mv rfl rfl ?_; apply wl_take; exact rfl; exact rfl; exact rfl; refine bT ?_; (with_reducible assumption); refine wl_bin rfl rfl bin_gtr rfl ?_; apply wl_take; exact rfl; exact rfl; exact rfl; refine bF ?_; omega; apply wl_val; apply opv_pickT; exact rfl; refine bT ?_; (with_reducible assumption); exact rfl; exact rfl; apply wl_val; apply opv_pickT; exact rfl; refine bT ?_; (with_reducible assumption); exact rfl; exact rfl; refine wl_nil ?_; refine we_cut _ ⟨rfl, rfl⟩ ⟨congrArg (fun b => some (Value.bool b)) ?e35_1, ?s35_1⟩; (case e35_1 => ((simp [hc0, hc1, hc2]; done))); (case s35_1 => (refine And.intro rfl ?_; refine And.intro rfl ?_; refine And.intro rfl ?_; refine And.intro rfl ?_; refine And.intro rfl ?_; refine And.intro rfl ?_; refine And.intro rfl ?_; refine And.intro rfl ?_; refine And.intro rfl ?_; refine And.intro rfl ?_; refine And.intro rfl ?_; refine And.intro rfl ?_; refine And.intro rfl ?_; refine And.intro rfl ?_; refine And.intro rfl ?_; refine And.intro rfl ?_; refine And.intro rfl ?_; refine And.intro rfl ?_; refine And.intro rfl ?_; refine And.intro rfl ?_; refine And.intro rfl ?_; refine And.intro rfl ?_; refine And.intro rfl ?_; exact True.intro)))))); (focus (by_cases hc2 : (0 < (i : Int)); (focus (apply wl_skip; exact rfl; exact rfl; exact rfl; refine bTn ?_; (with_reducible assumption); exact rfl; apply wl_skip; exact rfl; exact rfl; exact rfl; refine bTn ?_; (with_reducible assumption); exact rfl; apply wl_skip; exact rfl; exact rfl; exact rfl; refine bTn ?_; (with_reducible assumption); exact rfl; apply wl_skipU; exact rfl; exact rfl; exact rfl; exact rfl; apply wl_skipU; exact rfl; exact rfl; exact rfl; exact rfl; apply wl_skip; exact rfl; exact rfl; exact rfl; refine bTn ?_; (with_reducible assumption); exact rfl; apply wl_val; apply opv_pickT; exact rfl; refine bT ?_; (with_reducible assumption); exact rfl; exact rfl; refine wl_nil ?_; refine we_cut _ ⟨rfl, rfl⟩ ⟨congrArg (fun b => some (Value.bool b)) ?e35_2, ?s35_2⟩; (case e35_2 => ((simp [hc0, hc1, hc2]; done))); (case s35_2 => (refine And.intro rfl ?_; refine And.intro rfl ?_; refine And.intro rfl ?_; refine And.intro rfl ?_; refine And.intro rfl ?_; refine And.intro rfl ?_; refine And.intro rfl ?_; refine And.intro rfl ?_; refine And.intro rfl ?_; refine And.intro rfl ?_; refine And.intro rfl ?_; refine And.intro rfl ?_; refine And.intro rfl ?_; refine And.intro rfl ?_; refine And.intro rfl ?_; refine And.intro rfl ?_; refine And.intro rfl ?_; refine And.intro rfl ?_; refine And.intro rfl ?_; refine And.intro rfl ?_; refine And.intro rfl ?_; refine And.intro rfl ?_; refine And.intro rfl ?_; exact True.intro)))); (focus (apply wl_take; exact rfl; exact rfl; exact rfl; refine bF ?_; omega; refine wl_mv rfl rfl ?_; apply wl_take; exact rfl; exact rfl; exact rfl; refine bF ?_; omega; refine wl_bin rfl rfl bin_eql rfl ?_; apply wl_take; exact rfl; exact rfl; exact rfl; refine bF ?_; omega; refine wl_mv rfl rfl ?_; apply wl_take; exact rfl; exact rfl; exact rfl; refine bT ?_; omega; refine wl_mv rfl rfl ?_; apply wl_take; exact rfl; exact rfl; exact rfl; refine bT ?_; omega; refine wl_bin rfl rfl bin_gtr rfl ?_; apply wl_take; exact rfl; exact rfl; exact rfl; refine bF ?_; omega; apply wl_val; apply opv_pickT; exact rfl; refine bT ?_; omega; exact rfl; exact rfl; apply wl_val; apply opv_pickT; exact rfl; refine bT ?_; (with_reducible assumption); exact rfl; exact rfl; refine wl_nil ?_; refine we_cut _ ⟨rfl, rfl⟩ ⟨congrArg (fun b => some (Value.bool b)) ?e35_3, ?s35_3⟩; (case e35_3 => ((simp [hc0, hc1, hc2]; done))); (case s35_3 => (refine And.intro rfl ?_; refine And.intro rfl ?_; refine And.intro rfl ?_; refine And.intro rfl ?_; refine And.intro rfl ?_; refine And.intro rfl ?_; refine And.intro rfl ?_; refine And.intro rfl ?_; refine And.intro rfl ?_; refine And.intro rfl ?_; refine And.intro rfl ?_; refine And.intro rfl ?_; refine And.intro rfl ?_; refine And.intro rfl ?_; refine And.intro rfl ?_; refine And.intro rfl ?_; refine And.intro rfl ?_; refine And.intro rfl ?_; refine And.intro rfl ?_; refine And.intro rfl ?_; refine And.intro rfl ?_; refine And.intro rfl ?_; refine And.intro rfl ?_; exact True.intro)))))))); (focus (by_cases hc1 : ((x.toNat : Int) = 0); (focus (by_cases hc2 : (0 < (i : Int)); (focus (apply wl_take; exact rfl; exact rfl; exact rfl; refine bF ?_; (with_reducible assumption); refine wl_mv rfl rfl ?_; apply wl_take; exact rfl; exact rfl; exact rfl; refine bF ?_; (with_reducible assumption); refine wl_bin rfl rfl bin_eql rfl ?_; apply wl_take; exact rfl; exact rfl; exact rfl; refine bF ?_; (with_reducible assumption); refine wl_mv rfl rfl ?_; apply wl_take; exact rfl; exact rfl; exact rfl; refine bT ?_; (with_reducible assumption); refine wl_mv rfl rfl ?_; apply wl_take; exact rfl; exact rfl; exact rfl; refine bT ?_; (with_reducible assumption); refine wl_bin rfl rfl bin_gtr rfl ?_; apply wl_take; exact rfl; exact rfl; exact rfl; refine bF ?_; (with_reducible assumption); apply wl_val; apply opv_pickT; exact rfl; refine bT ?_; (with_reducible assumption); exact rfl; exact rfl; apply wl_val; apply opv_pickF; exact rfl; refine bF ?_; (with_reducible assumption); exact rfl; exact rfl; refine wl_nil ?_; refine we_cut _ ⟨rfl, rfl⟩ ⟨congrArg (fun b => some (Value.bool b)) ?e35_4, ?s35_4⟩; (case e35_4 => ((simp [hc0, hc1, hc2]; done))); (case s35_4 => (refine And.intro rfl ?_; refine And.intro rfl ?_; refine And.intro rfl ?_; refine And.intro rfl ?_; refine And.intro rfl ?_; refine And.intro rfl ?_; refine And.intro rfl ?_; refine And.intro rfl ?_; refine And.intro rfl ?_; refine And.intro rfl ?_; refine And.intro rfl ?_; refine And.intro rfl ?_; refine And.intro rfl ?_; refine And.intro rfl ?_; refine And.intro rfl ?_; refine And.intro rfl ?_; refine And.intro rfl ?_; refine And.intro rfl ?_; refine And.intro rfl ?_; refine And.intro rfl ?_; refine And.intro rfl ?_; refine And.intro rfl ?_; refine And.intro rfl ?_; exact True.intro)))); (focus (apply wl_take; exact rfl; exact rfl; exact rfl; refine bF ?_; (with_reducible assumption); refine wl_mv rfl rfl ?_; apply wl_take; exact rfl; exact rfl; exact rfl; refine bF ?_; (with_reducible assumption); refine wl_bin rfl rfl bin_eql rfl ?_; apply wl_take; exact rfl; exact rfl; exact rfl; refine bF ?_; (with_reducible assumption); refine wl_mv rfl rfl ?_; apply wl_take; exact rfl; exact rfl; exact rfl; refine bT ?_; (with_reducible assumption); refine wl_mv rfl rfl ?_; apply wl_take; exact rfl; exact rfl; exact rfl; refine bT ?_; (with_reducible assumption); refine wl_bin rfl rfl bin_gtr rfl ?_; apply wl_take; exact rfl; exact rfl; exact rfl; refine bF ?_; (with_reducible assumption); apply wl_val; apply opv_pickT; exact rfl; refine bT ?_; (with_reducible assumption); exact rfl; exact rfl; apply wl_val; apply opv_pickF; exact rfl; refine bF ?_; (with_reducible assumption); exact rfl; exact rfl; refine wl_nil ?_; refine we_cut _ ⟨rfl, rfl⟩ ⟨congrArg (fun b => some (Value.bool b)) ?e35_5, ?s35_5⟩; (case e35_5 => ((simp [hc0, hc1, hc2]; done))); (case s35_5 => (refine And.intro rfl ?_; refine And.intro rfl ?_; refine And.intro rfl ?_; refine And.intro rfl ?_; refine And.intro rfl ?_; refine And.intro rfl ?_; refine And.intro rfl ?_; refine And.intro rfl ?_; refine And.intro rfl ?_; refine And.intro rfl ?_; refine And.intro rfl ?_; refine And.intro rfl ?_; refine And.intro rfl ?_; refine And.intro rfl ?_; refine And.intro rfl ?_; refine And.intro rfl ?_; refine And.intro rfl ?_; refine And.intro rfl ?_; refine And.intro rfl ?_; refine And.intro rfl ?_; refine And.intro rfl ?_; refine And.intro rfl ?_; refine And.intro rfl ?_; exact True.intro)))))); (focus (by_cases hc2 : (0 < (i : Int)); (focus (apply wl_take; exact rfl; exact rfl; exact rfl; refine bF ?_; (with_reducible assumption); refine wl_mv rfl rfl ?_; apply wl_take; exact rfl; exact rfl; exact rfl; refine bF ?_; (with_reducible assumption); refine wl_bin rfl rfl bin_eql rfl ?_; apply wl_take; exact rfl; exact rfl; exact rfl; refine bF ?_; (with_reducible assumption); refine wl_mv rfl rfl ?_; apply wl_skip; exact rfl; exact rfl; exact rfl; refine bFn ?_; (with_reducible assumption); exact rfl; apply wl_skip; exact rfl; exact rfl; exact rfl; refine bFn ?_; (with_reducible assumption); exact rfl; apply wl_take; exact rfl; exact rfl; exact rfl; refine bF ?_; (with_reducible assumption); apply wl_val; apply opv_pickF; exact rfl; refine bF ?_; (with_reducible assumption); exact rfl; exact rfl; apply wl_val; apply opv_pickF; exact rfl; refine bF ?_; (with_reducible assumption); exact rfl; exact rfl; refine wl_nil ?_; refine we_cut _ ⟨rfl, rfl⟩ ⟨congrArg (fun b => some (Value.bool b)) ?e35_6, ?s35_6⟩; (case e35_6 => ((rw [Bool.eq_iff_iff]; simp only [decide_eq_true_eq, Bool.false_eq_true, true_iff, false_iff]; omega))); (case s35_6 => (refine And.intro rfl ?_; refine And.intro rfl ?_; refine And.intro rfl ?_; refine And.intro rfl ?_; refine And.intro rfl ?_; refine And.intro rfl ?_; refine And.intro rfl ?_; refine And.intro rfl ?_; refine And.intro rfl ?_; refine And.intro rfl ?_; refine And.intro rfl ?_; refine And.intro rfl ?_; refine And.intro rfl ?_; refine And.intro rfl ?_; refine And.intro rfl ?_; refine And.intro rfl ?_; refine And.intro rfl ?_; refine And.intro rfl ?_; refine And.intro rfl ?_; refine And.intro rfl ?_; refine And.intro rfl ?_; refine And.intro rfl ?_; refine And.intro rfl ?_; exact True.intro)))); (focus (apply wl_take; exact rfl; exact rfl; exact rfl; refine bF ?_; (with_reducible assumption); refine wl_mv rfl rfl ?_; apply wl_take; exact rfl; exact rfl; exact rfl; refine bF ?_; (with_reducible assumption); refine wl_bin rfl rfl bin_eql rfl ?_; apply wl_take; exact rfl; exact rfl; exact rfl; refine bF ?_; (with_reducible assumption); refine wl_mv rfl rfl ?_; apply wl_skip; exact rfl; exact rfl; exact rfl; refine bFn ?_; (with_reducible assumption); exact rfl; apply wl_skip; exact rfl; exact rfl; exact rfl; refine bFn ?_; (with_reducible assumption); exact rfl; apply wl_take; exact rfl; exact rfl; exact rfl; refine bF ?_; (with_reducible assumption); apply wl_val; apply opv_pickF; exact rfl; refine bF ?_; (with_reducible assumption); exact rfl; exact rfl; apply wl_val; apply opv_pickF; exact rfl; refine bF ?_; (with_reducible assumption); exact rfl; exact rfl; refine wl_nil ?_; refine we_cut _ ⟨rfl, rfl⟩ ⟨congrArg (fun b => some (Value.bool b)) ?e35_7, ?s35_7⟩; (case e35_7 => ((rw [Bool.eq_iff_iff]; simp only [decide_eq_true_eq, Bool.false_eq_true, true_iff, false_iff]; omega))); (case s35_7 => (refine And.intro rfl ?_; refine And.intro rfl ?_; refine And.intro rfl ?_; refine And.intro rfl ?_; refine And.intro rfl ?_; refine And.intro rfl ?_; refine And.intro rfl ?_; refine And.intro rfl ?_; refine And.intro rfl ?_; refine And.intro rfl ?_; refine And.intro rfl ?_; refine And.intro rfl ?_; refine And.intro rfl ?_; refine And.intro rfl ?_; refine And.intro rfl ?_; refine And.intro rfl ?_; refine And.intro rfl ?_; refine And.intro rfl ?_; refine And.intro rfl ?_; refine And.intro rfl ?_; refine And.intro rfl ?_; refine And.intro rfl ?_; refine And.intro rfl ?_; exact True.intro)))))))))); dsimp only [List.drop]
      refine wl_ns ?_
      refine wc_cond rfl (fun h2 => ?_) (fun h2 => ?_)
      · refine wc_sr ?_; refine wl_as rfl rfl ?_; refine wl_as rfl rfl ?_; refine wl_as rfl rfl ?_; refine wl_ns ?_; refine wc_ret ?_; refine we_seq_ret ?_; refine we_block_ret ?_; refine we_seq_ret ?_; refine we_loop_ret ?_; refine we_block_ret ?_; refine we_seq_ret ?_
        have e := getU_bad hq (heq.trans (by rw [hdrop]; exact getAux_form (by omega)))
        exact we_ret3 rfl rfl rfl rfl ⟨_, rfl, by rw [e]; rfl, Below.refl _ _⟩
      · have h3 : ¬ ((i = 9 ∧ 1 < x.toNat) ∨ (x.toNat = 0 ∧ 0 < i)) := by omega
        refine wc_skip ?_; refine we_seq ?_; refine wc_sr ?_; refine wl_mv rfl rfl ?_; refine wl_mv rfl rfl ?_
        refine wl_val (opv_bin (b := .int .u64 (128 : Nat)) rfl rfl (bin_andNot rfl (Nat.lt_trans hx256 (by decide)) (by decide))) rfl ?_
        refine wl_mv rfl rfl ?_
        refine wl_val (opv_bin (a := .int .i64 (7 : Nat)) rfl rfl (bin_mulN (by omega))) rfl ?_
        skip
        refine wl_val (opv_bin rfl rfl (bin_shl rfl)) rfl ?_
        have e9 : (128 : Nat) ^ i ≤ 128 ^ 9 := Nat.pow_le_pow_right (by decide) hi
        have hsum := sum_lt hn hi (x := x.toNat) (by omega)
        have hn64 : n < 2 ^ IntKind.u64.bits := by rw [pow128_9] at e9; simp only [IntKind.bits]; omega
        have hor : (n ||| (x.toNat &&& 2 ^ IntKind.u64.bits - 1 - 128) * 2 ^ (7 * i) % 2 ^ IntKind.u64.bits) = n + x.toNat % 128 * 128 ^ i := by
          rw [show 2 ^ IntKind.u64.bits - 1 - 128 = 18446744073709551615 - 128 from rfl, andNot128]
          have e : (128 : Nat) ^ i = 2 ^ (7 * i) := by rw [Nat.pow_mul]
          rw [← e, Nat.mod_eq_of_lt (by simp only [IntKind.bits]; omega), e, or_shift hn, e]
        refine wl_val (opv_bin rfl rfl ((bin_or rfl hn64 (Nat.mod_lt _ (by decide))).to (by rw [hor]))) rfl ?_
        refine wl_as rfl rfl ?_; refine wl_ns ?_; refine wc_sr ?_; refine wl_mv rfl rfl ?_; refine wl_bin rfl rfl bin_lss rfl ?_; refine wl_ns ?_
        refine wc_cond rfl (fun h4 => ?_) (fun h4 => ?_)
        · refine wc_sr ?_; refine wl_mv rfl rfl ?_; refine wl_mv rfl rfl ?_; refine wl_mv rfl rfl ?_; apply wl_val; apply opv_bin; exact rfl; exact rfl; exact bin_add64 (by omega); exact rfl; apply wl_val; apply opv_bin; exact rfl; exact rfl; exact bin_add64 (by omega); exact rfl; refine wl_as rfl rfl ?_; refine wl_as rfl rfl ?_; refine wl_as rfl rfl ?_; refine wl_ns ?_; refine wc_ret ?_; refine we_block_ret ?_; refine we_seq_ret ?_; refine we_loop_ret ?_; refine we_block_ret ?_; refine we_seq_ret ?_
          have e := getU_ok hq (heq.trans (by rw [hdrop]; exact getAux_last h3 (by omega)))
          refine we_ret3 rfl rfl rfl rfl ⟨_, rfl, ?_, Below.refl _ _⟩
          rw [e]
          have : ((q : Int) + ↑(i + 1)) = q + i + 1 := by omega
          rw [this]; rfl
        · have hi9 : i ≤ 8 := by omega
          refine wc_skip ?_; refine we_block_norm ?_; refine we_seq ?_; refine wc_region ?_; refine wl_mv rfl rfl ?_; apply wl_val; apply opv_bin; exact rfl; exact rfl; exact bin_add64 (by omega); exact rfl; refine wl_as rfl rfl ?_; refine wl_nil ?_
          refine we_loop [(0, .slice A xs.length c), (1, .int .i64 (q : Int)), (7, .int .u64 ((n + x.toNat % 128 * 128 ^ i : Nat) : Int)), (8, .int .i64 ((i + 1 : Nat) : Int))] (xs.length - (i + 1)) ⟨i + 1, _, rfl, by omega, by omega, group_lt hn (Nat.mod_lt _ (by decide)), ?_, rfl, rfl⟩ (by omega) ⟨rfl, rfl, rfl, rfl, trivial⟩
          rw [heq, hdrop, getAux_step h3 (by omega)]; rfl
    · refine wc_exit ?_; refine we_seq_exit ?_; refine we_loop_exit ?_; refine we_block_exit ?_; refine we_seq ?_; refine wc_sr ?_; refine wl_as rfl rfl ?_; refine wl_as rfl rfl ?_; refine wl_as rfl rfl ?_; refine wl_ns ?_; refine wc_ret ?_
      have hqe : q + i = xs.length := by omega
      have e := getU_bad hq (heq.trans (by rw [hqe, List.drop_length]; rfl))
      exact we_ret3 rfl rfl rfl rfl ⟨_, rfl, by rw [e]; rfl, Below.refl _ _⟩

theorem getU_at {A : Option Addr} {n c : Nat} {xs : List UInt8} {p : Int} {w : World} {v e : Nat} {x : Int} (h : getU xs p = (v, x, e)) (hr : RdB w A xs) (hn : xs.length = n) (hl : xs.length ≤ maxLen) (hp : -9223372036854775808 ≤ p ∧ p ≤ 9223372036854775807) :
    CallsV Tryz.prog 99 #[.slice A n c, .int .i64 p] w fun u w' => u = .tuple #[.int .u64 (v : Int), .int .i64 x, .int .i64 (e : Int)] ∧ Below w.heap.size w w' := by
  have := getU_any (c := c) hr hn hl hp
  rw [h] at this
  exact this
end Go.Proofs.YtdgagffieobiiaaGreatDoor

/-
  Plain laws of frames. No program in sight.
-/
namespace Go.Proofs.YtdgagffieobiiaaGreatDoor

def framed (l : List (List UInt8)) : List UInt8 := l.flatMap fun r => putU r.length ++ r
/-- The parts behind place q; out: those ahead of it. -/
def partsF : Nat → List UInt8 → Nat → List (List UInt8) → List (List UInt8) × Nat
  | 0, _, _, out => (out, 0)
  | f + 1, b, q, out =>
    if b.length ≤ q then (out, 0)
    else if (getU b q).2.2 = 0 then
      if b.length < (getU b q).2.1.toNat + (getU b q).1 then ([], 5)
      else partsF f b ((getU b q).2.1.toNat + (getU b q).1) (out ++ [(b.take ((getU b q).2.1.toNat + (getU b q).1)).drop (getU b q).2.1.toNat])
    else ([], (getU b q).2.2)
def parts (b : List UInt8) : List (List UInt8) × Nat := partsF b.length b 0 []

theorem putU_pos (n : Nat) : 0 < (putU n).length := by
  rw [putU]; split <;> simp
theorem getU_next {b : List UInt8} {q n : Nat} {x : Int} (h : getU b q = (n, x, 0)) : ∃ k : Nat, x = k ∧ q < k ∧ k ≤ b.length := by
  obtain ⟨q', k, hq, rfl, h1, h2, h3, _⟩ := getU_inv h
  obtain rfl : q = q' := by omega
  have := congrArg List.length h3
  have hp := putU_pos n
  refine ⟨k, rfl, ?_, h2⟩
  simp at this; omega
theorem partsF_end {f : Nat} {b : List UInt8} {q : Nat} {out : List (List UInt8)} (h : b.length ≤ q) : partsF f b q out = (out, 0) := by
  cases f with
  | zero => rfl
  | succ f => rw [partsF, if_pos h]
theorem partsF_err {f : Nat} {b : List UInt8} {q n e : Nat} {x : Int} {out : List (List UInt8)} (h : ¬ b.length ≤ q) (hu : getU b q = (n, x, e)) (he : ¬ e = 0) : partsF (f + 1) b q out = ([], e) := by
  rw [partsF, if_neg h, hu, if_neg he]
theorem partsF_short {f : Nat} {b : List UInt8} {q n k : Nat} {out : List (List UInt8)} (h : ¬ b.length ≤ q) (hu : getU b q = (n, (k : Int), 0)) (hs : b.length < k + n) : partsF (f + 1) b q out = ([], 5) := by
  rw [partsF, if_neg h, hu, if_pos rfl]
  simp only [Int.toNat_natCast]
  rw [if_pos hs]
theorem partsF_step {f : Nat} {b : List UInt8} {q n k : Nat} {out : List (List UInt8)} (h : ¬ b.length ≤ q) (hu : getU b q = (n, (k : Int), 0)) (hs : ¬ b.length < k + n) : partsF (f + 1) b q out = partsF f b (k + n) (out ++ [(b.take (k + n)).drop k]) := by
  rw [partsF, if_neg h, hu, if_pos rfl]
  simp only [Int.toNat_natCast]
  rw [if_neg hs]
theorem getU_mid {pre rest : List UInt8} {n : Nat} (hn : n < 2 ^ 64) : getU (pre ++ (putU n ++ rest)) pre.length = (n, ((pre.length + (putU n).length : Nat) : Int), 0) := by
  have h := getAux_putU rest n 0 0 (by decide) hn (by omega) (.inl rfl)
  have := getU_ok (b := pre ++ (putU n ++ rest)) (q := pre.length) (n := n) (k := (putU n).length) (by simp) (by rw [List.drop_left, h]; simp)
  rw [this]; simp
theorem partsF_framed : ∀ (l : List (List UInt8)) (f : Nat) (pre : List UInt8) (out : List (List UInt8)), (∀ r ∈ l, r.length < 2 ^ 64) → (framed l).length ≤ f → partsF f (pre ++ framed l) pre.length out = (out ++ l, 0)
  | [], f, pre, out, _, _ => by rw [partsF_end (by simp [framed])]; simp
  | r :: l, f, pre, out, hr, hf => by
    have e : framed (r :: l) = putU r.length ++ (r ++ framed l) := by simp [framed]
    rw [e] at hf ⊢
    have hp := putU_pos r.length
    simp only [List.length_append] at hf
    obtain ⟨f, rfl⟩ : ∃ g, f = g + 1 := ⟨f - 1, by omega⟩
    have hg := getU_mid (pre := pre) (rest := r ++ framed l) (hr r (by simp))
    rw [partsF_step (by simp; omega) hg (by simp only [List.length_append]; omega)]
    have hb : pre ++ (putU r.length ++ (r ++ framed l)) = (pre ++ putU r.length ++ r) ++ framed l := by simp
    have hlen : (pre ++ putU r.length ++ r).length = pre.length + (putU r.length).length + r.length := by simp only [List.length_append]
    have hcut : ((pre ++ (putU r.length ++ (r ++ framed l))).take (pre.length + (putU r.length).length + r.length)).drop (pre.length + (putU r.length).length) = r := by
      rw [hb, ← hlen, List.take_left, show pre.length + (putU r.length).length = (pre ++ putU r.length).length by simp, List.drop_left]
    rw [hcut, hb, ← hlen, partsF_framed l f _ _ (fun x hx => hr x (by simp [hx])) (by omega)]
    simp
theorem parts_framed {l : List (List UInt8)} (h : ∀ r ∈ l, r.length < 2 ^ 64) : parts (framed l) = (l, 0) := by
  have := partsF_framed l (framed l).length [] [] h (Nat.le_refl _)
  simpa [parts] using this
theorem framed_take {l : List (List UInt8)} {k : Nat} {x : List UInt8} (h : l[k]? = some x) : framed (l.take (k + 1)) = framed (l.take k) ++ putU x.length ++ x := by
  rw [take_getR h]; simp [framed]
theorem framed_length : ∀ (l : List (List UInt8)), (∀ r ∈ l, r.length < 2 ^ 64) → (framed l).length ≤ l.flatten.length + 10 * l.length
  | [], _ => by simp [framed]
  | x :: l, h => by
    have h1 := framed_length l (fun r hr => h r (by simp [hr]))
    have h2 := putU_le (h x (by simp))
    simp only [framed, List.flatMap_cons, List.length_append, List.flatten_cons, List.length_cons] at h1 ⊢
    omega
theorem framed_take_le (l : List (List UInt8)) (k : Nat) : (framed (l.take k)).length ≤ (framed l).length := by
  have : framed l = framed (l.take k) ++ framed (l.drop k) := by
    rw [framed, framed, framed, ← List.flatMap_append, List.take_append_drop]
  rw [this, List.length_append]; omega
theorem mem_flat {l : List (List UInt8)} {x : List UInt8} (h : x ∈ l) : x.length ≤ l.flatten.length := by
  obtain ⟨k, hk, rfl⟩ := List.getElem_of_mem h
  exact flat_mem (List.getElem?_eq_getElem hk)
end Go.Proofs.YtdgagffieobiiaaGreatDoor

/-
  Walks over Frame and Parts of the program and of the references.
-/
namespace Go.Proofs.YtdgagffieobiiaaGreatDoor
open Go.RowKit

theorem frame_any {A : Option Addr} {n c : Nat} {rows : List (List UInt8)} {w : World} (hr : RdBB w A rows) (hn : rows.length = n) (hl : rows.flatten.length + 10 * rows.length ≤ 17592186044416) : CallsV Tryz.prog 65 #[.slice A n c] w (RetB w (framed rows)) := by
  subst hn
  have hfl := framed_length rows (fun r h => by have := mem_flat h; omega)
  refine calls_in (N := _) Tryz.func65 rfl Tryz.ntmps65 rfl ?_; show WC _ _ _ _ _ _
  refine wc_sr ?_; refine wl_as rfl rfl ?_; refine wl_ns ?_; refine wc_sr ?_; refine wl_as rfl rfl ?_; refine wl_ns ?_; refine wc_seq ?_; refine wc_sr ?_; refine wl_mv rfl rfl ?_; apply wl_val; apply opv_len; exact rfl; exact tyBB.sl; exact rfl; refine wl_mv rfl rfl ?_; refine wl_ns ?_; refine wc_block ?_
  refine wc_loop (fun L wr m => ∃ (k : Nat) (P : Option Addr) (cp : Nat), L = [(3, .slice P (framed (rows.take k)).length cp), (6, .slice A rows.length c), (7, .int .i64 (rows.length : Int)), (8, .int .i64 (k : Int))] ∧ k ≤ rows.length ∧ OwB wr w.heap.size P cp (framed (rows.take k)) ∧ Below w.heap.size w wr ∧ m = rows.length - k)
    [(3, .slice none 0 0), (6, .slice A rows.length c), (7, .int .i64 (rows.length : Int)), (8, .int .i64 (0 : Nat))] rows.length ⟨0, none, 0, rfl, by omega, Ow.nil _ _ _, Below.refl _ _, rfl⟩ ⟨rfl, rfl, rfl, rfl, trivial⟩ ?_
  rintro _ w1 m ⟨k, P, cp, rfl, hk, o1, hb1, rfl⟩
  have hle := framed_take_le rows k
  refine wc_sr ?_; refine wl_bin rfl rfl bin_lss rfl ?_; refine wl_ns ?_; refine wc_seq ?_
  refine wc_cond rfl (fun h1 => ?_) (fun h1 => ?_)
  · obtain ⟨x, hx⟩ : ∃ x, rows[k]? = some x := ⟨_, List.getElem?_eq_getElem (by omega)⟩
    obtain ⟨vs, X, cx, hv0, hvk, rx, hcx⟩ := hr.at hx
    have hv := hv0.below hb1
    have hxm := flat_mem hx
    have hpl := putU_le (n := x.length) (by omega)
    have hle2 := framed_take_le rows (k + 1)
    have e2 := framed_take hx
    have e3 := congrArg List.length e2
    simp only [List.length_append] at e3
    refine wc_skip ?_; refine we_seq ?_; refine wc_seq ?_; refine wc_block ?_; refine wc_sr ?_; apply wl_elK (T := tyBB) (hr := hv) (hb := hvk); exact rfl; exact rfl; exact rfl; exact rfl; exact rfl; intro _; refine wl_as rfl rfl ?_; refine wl_ns ?_; refine wc_region ?_; refine wl_mv rfl rfl ?_; refine wl_mv rfl rfl ?_; apply wl_val; apply opv_len; exact rfl; exact tyB.sl; exact rfl; apply wl_val; apply opv_convR; exact rfl; exact Tryz.underlying3; exact Tryz.underlying29; exact IntWalk.u64_in _ (by omega); exact rfl
    refine wl_call ok_codec_PutU (putU_any x.length (by omega) _) ⟨rfl, trivial⟩ rfl ?_
    rintro _ w2 ⟨A2, c2, rfl, o2, h2⟩
    have o1' := OwB.below o1 h2
    refine wl_app tyB rfl o1' rfl o2.rd (bvs_one _) (by omega) (by simp only [maxLen]; omega) (Nat.le_trans hb1.size h2.size) rfl fun A4 c4 w4 o4 g4 _ => ?_
    have hb4 := g4.below (hb1.trans (h2.mono hb1.size)) o1' (Nat.le_refl _) (Nat.le_trans hb1.size h2.size)
    have o5 := OwB.app o4
    refine wl_mv rfl rfl ?_
    refine wl_app tyB rfl o4 rfl (RdB.below rx hb4) (bvs_one _) (by omega) (by simp only [maxLen]; omega) hb4.size rfl fun A6 c6 w6 o6 g6 _ => ?_
    have hb6 := g6.below hb4 o4 (Nat.le_refl _) hb4.size
    have o7 : OwB w6 w.heap.size A6 c6 (framed (rows.take (k + 1))) := by
      rw [e2]; unfold OwB; rw [List.length_append, List.length_append, bvs_append, bvs_append]; exact o6
    refine wl_as rfl rfl ?_; refine wl_nil ?_; refine we_block_norm ?_; refine we_seq ?_; refine wc_region ?_; apply wl_val; apply opv_bin; exact rfl; exact rfl; exact bin_add64 (by omega); exact rfl; refine wl_mv rfl rfl ?_; refine wl_nil ?_
    refine we_loop [(3, .slice A6 (framed (rows.take (k + 1))).length c6), (6, .slice A rows.length c), (7, .int .i64 (rows.length : Int)), (8, .int .i64 ((k + 1 : Nat) : Int))] (rows.length - (k + 1)) ⟨k + 1, A6, c6, rfl, by omega, o7, hb6, rfl⟩ (by omega) ⟨by rw [e3]; rfl, rfl, rfl, by simp [lookT], trivial⟩
  · obtain rfl : k = rows.length := by omega
    rw [List.take_length] at o1 ⊢
    refine wc_exit ?_; refine we_seq_exit ?_; refine we_loop_exit ?_; refine we_block_exit ?_; refine we_seq ?_; refine wc_sr ?_; refine wl_mv rfl rfl ?_; refine wl_as rfl rfl ?_; refine wl_ns ?_; refine wc_ret ?_
    exact we_ret1 rfl rfl ⟨_, rfl, P, cp, rfl, o1, hb1⟩

end Go.Proofs.YtdgagffieobiiaaGreatDoor

/-
  Walks over Parts of the program and of the reference.
-/
namespace Go.Proofs.YtdgagffieobiiaaGreatDoor
open Go.RowKit

theorem rd_cut {w : World} {A : Option Addr} {xs : List UInt8} {c l h : Nat} (hr : RdB w A xs) (h1 : l ≤ h) (hh : h ≤ xs.length) (hc : xs.length ≤ c) : RdB w (cutA A c l) ((xs.take h).drop l) := by
  have := Rd.cut (l := l) (h := h) hr h1 hh hc
  rw [bvs_cut] at this
  have e : ((xs.take h).drop l).length = h - l := by simp; omega
  unfold RdB; rw [e]; exact this
def RetP (w : World) (x : List (List UInt8) × Nat) (v : Value) (w' : World) : Prop :=
  ∃ (A : Option Addr) (c : Nat), v = .tuple #[.slice A x.1.length c, .int .i64 (x.2 : Int)] ∧ OwBB w' w.heap.size A c x.1 ∧ Below w.heap.size w w'

theorem parts_any {A : Option Addr} {n c : Nat} {xs : List UInt8} {w : World} (hr : RdB w A xs) (hn : xs.length = n) (hc : xs.length ≤ c) (hl : xs.length ≤ 1099511627776) : CallsV Tryz.prog 75 #[.slice A n c] w (RetP w (parts xs)) := by
  subst hn
  refine calls_in (N := _) Tryz.func75 rfl Tryz.ntmps75 rfl ?_; show WC _ _ _ _ _ _
  refine wc_sr ?_; refine wl_as rfl rfl ?_; refine wl_as rfl rfl ?_; refine wl_ns ?_; refine wc_sr ?_; refine wl_as rfl rfl ?_; refine wl_ns ?_; refine wc_seq ?_; refine wc_sr ?_; refine wl_as rfl rfl ?_; refine wl_ns ?_; refine wc_block ?_
  refine wc_loop (fun L wr m => ∃ (q f : Nat) (out : List (List UInt8)) (P : Option Addr) (cp : Nat), L = [(0, .slice A xs.length c), (4, .slice P out.length cp), (5, .int .i64 (q : Int))] ∧ q ≤ xs.length ∧ xs.length - q ≤ f ∧ parts xs = partsF f xs q out ∧ out.length ≤ q ∧ OwBB wr w.heap.size P cp out ∧ Below w.heap.size w wr ∧ m = xs.length - q)
    [(0, .slice A xs.length c), (4, .slice none 0 0), (5, .int .i64 (0 : Nat))] xs.length ⟨0, xs.length, [], none, 0, rfl, by omega, by omega, rfl, by simp, OwBB.nil _ _, Below.refl _ _, rfl⟩ ⟨rfl, rfl, rfl, trivial⟩ ?_
  rintro _ w1 m ⟨q, f, out, P, cp, rfl, hq, hf, hp, hol, o1, hb1, rfl⟩
  refine wc_seq ?_; refine wc_sr ?_; refine wl_mv rfl rfl ?_; refine wl_mv rfl rfl ?_; apply wl_val; apply opv_len; exact rfl; exact tyB.sl; exact rfl; refine wl_bin rfl rfl bin_lss rfl ?_; refine wl_ns ?_
  refine wc_cond rfl (fun h1 => ?_) (fun h1 => ?_)
  · obtain ⟨f, rfl⟩ : ∃ g, f = g + 1 := ⟨f - 1, by omega⟩
    obtain ⟨n, x, e, hu⟩ : ∃ n x e, getU xs q = (n, x, e) := ⟨_, _, _, rfl⟩
    have r1 := RdB.below hr hb1
    refine wc_skip ?_; refine we_seq ?_; refine wc_block ?_; refine wc_sr ?_; refine wl_mv rfl rfl ?_; refine wl_mv rfl rfl ?_
    refine wl_call ok_codec_GetU (getU_at hu r1 rfl (by simp only [maxLen]; omega) (by omega)) ⟨rfl, rfl, trivial⟩ rfl ?_
    rintro _ w2 ⟨rfl, h2⟩
    have hb2 := hb1.trans (h2.mono hb1.size)
    replace o1 := o1.below h2
    replace r1 := RdB.below r1 h2
    refine wl_mv rfl rfl ?_; apply wl_val; apply opv_extract; exact rfl; exact rfl; exact rfl; apply wl_val; apply opv_extract; exact rfl; exact rfl; exact rfl; apply wl_val; apply opv_extract; exact rfl; exact rfl; exact rfl; refine wl_as rfl rfl ?_; refine wl_as rfl rfl ?_; refine wl_as rfl rfl ?_; refine wl_ns ?_; refine wc_seq ?_; refine wc_sr ?_; refine wl_mv rfl rfl ?_; refine wl_bin rfl rfl bin_neq rfl ?_; refine wl_ns ?_
    by_cases he : e = 0
    · subst he
      obtain ⟨k, rfl, hqk, hkl⟩ := getU_next hu
      have hnf : n < 18446744073709551616 := by have := getU_fits xs q; rw [hu] at this; exact this
      refine wc_cond rfl (fun h => absurd rfl h) (fun _ => ?_)
      have e1 : IntKind.u64.wrap ((xs.length : Int) - k) = (xs.length : Int) - k := IntWalk.u64_in _ (by omega)
      refine wc_skip ?_; refine we_seq ?_; refine wc_seq ?_; refine wc_sr ?_; refine wl_mv rfl rfl ?_; refine wl_mv rfl rfl ?_; apply wl_val; apply opv_len; exact rfl; exact tyB.sl; exact rfl; refine wl_mv rfl rfl ?_; apply wl_val; apply opv_bin; exact rfl; exact rfl; exact bin_sub64 (by omega); exact rfl; apply wl_val; apply opv_convR; exact rfl; exact Tryz.underlying3; exact Tryz.underlying29; exact IntWalk.u64_in _ (by omega); exact rfl; refine wl_bin rfl rfl bin_gtr rfl ?_; refine wl_ns ?_
      refine wc_cond rfl (fun h3 => ?_) (fun h3 => ?_)
      · refine wc_sr ?_; refine wl_as rfl rfl ?_; refine wl_as rfl rfl ?_; refine wl_ns ?_; refine wc_ret ?_; refine we_seq_ret ?_; refine we_block_ret ?_; refine we_loop_ret ?_; refine we_block_ret ?_; refine we_seq_ret ?_
        refine we_ret2 rfl rfl rfl ⟨_, rfl, ?_⟩
        rw [hp, partsF_short (by omega) hu (by omega)]
        exact ⟨none, 0, rfl, OwBB.nil _ _, hb2⟩
      · have hkn : k + n ≤ xs.length := by omega
        refine wc_skip ?_; refine we_seq ?_; refine wc_sr ?_; refine wl_mv rfl rfl ?_; refine wl_mv rfl rfl ?_; apply wl_val; apply opv_convR; exact rfl; exact Tryz.underlying29; exact Tryz.underlying3; exact IntWalk.i64_in _ (by omega); exact rfl; apply wl_val; apply opv_bin; exact rfl; exact rfl; exact bin_add64 (by omega); exact rfl; refine wl_as rfl rfl ?_; refine wl_ns ?_; refine wc_region ?_; refine wl_mv rfl rfl ?_; refine wl_mv rfl rfl ?_; refine wl_mv rfl rfl ?_; refine wl_mv rfl rfl ?_
        refine wl_sl (l := k) (h := k + n) tyB rfl ⟨_, rfl⟩ ⟨_, by simp only [Int.natCast_add]; rfl⟩ (by omega) (by omega) rfl ?_
        refine wl_call ok_bytes_Clone (clone_any (rd_cut r1 (by omega) hkn hc) (by simp; omega) (by simp; omega)) ⟨rfl, trivial⟩ rfl ?_
        rintro _ w3 ⟨A3, c3, rfl, o3, h3⟩
        have hb3 := hb2.trans (h3.mono hb2.size)
        refine wl_pushR o1 h3 hb2.size o3 hb3 rfl (by omega) rfl rfl rfl rfl rfl fun p A4 c4 w4 o4 hb4 => ?_
        refine wl_as rfl rfl ?_; refine wl_nil ?_; refine we_block_norm ?_
        refine we_loop [(0, .slice A xs.length c), (4, .slice A4 (out ++ [(xs.take (k + n)).drop k]).length c4), (5, .int .i64 ((k + n : Nat) : Int))] (xs.length - (k + n)) ⟨k + n, f, _, A4, c4, rfl, hkn, by omega, ?_, by simp; omega, o4, hb4, rfl⟩ (by omega) ⟨rfl, by rw [List.length_append]; rfl, by rw [Int.natCast_add]; rfl, trivial⟩
        rw [hp, partsF_step (by omega) hu (by omega)]
    · refine wc_cond rfl (fun _ => ?_) (fun h => absurd (fun h' => he (by exact_mod_cast h')) h)
      refine wc_sr ?_; refine wl_mv rfl rfl ?_; refine wl_as rfl rfl ?_; refine wl_as rfl rfl ?_; refine wl_ns ?_; refine wc_ret ?_; refine we_seq_ret ?_; refine we_block_ret ?_; refine we_loop_ret ?_; refine we_block_ret ?_; refine we_seq_ret ?_
      refine we_ret2 rfl rfl rfl ⟨_, rfl, ?_⟩
      rw [hp, partsF_err (by omega) hu he]
      exact ⟨none, 0, rfl, OwBB.nil _ _, hb2⟩
  · refine wc_exit ?_; refine we_seq_exit ?_; refine we_loop_exit ?_; refine we_block_exit ?_; refine we_seq ?_; refine wc_sr ?_; refine wl_mv rfl rfl ?_; refine wl_as rfl rfl ?_; refine wl_as rfl rfl ?_; refine wl_ns ?_; refine wc_ret ?_
    refine we_ret2 rfl rfl rfl ⟨_, rfl, ?_⟩
    rw [hp, partsF_end (by omega)]
    exact ⟨P, cp, rfl, o1, hb1⟩

end Go.Proofs.YtdgagffieobiiaaGreatDoor

/-
  Plain laws of numbers written in eight bytes, the greatest first. No program in sight.
-/
namespace Go.Proofs.YtdgagffieobiiaaGreatDoor

/-- The lowest k bytes of a number, the greatest first. -/
def ordK : Nat → Nat → List UInt8
  | 0, _ => []
  | k + 1, n => ordK k (n / 256) ++ [UInt8.ofNat n]
def ordU (n : Nat) : List UInt8 := ordK 8 n
def numB (l : List UInt8) : Nat := l.foldl (fun n x => n * 256 + x.toNat) 0

theorem ordK_length : ∀ (k n : Nat), (ordK k n).length = k
  | 0, _ => rfl
  | k + 1, n => by simp [ordK, ordK_length k]
theorem ordU_length (n : Nat) : (ordU n).length = 8 := ordK_length 8 n
theorem numB_snoc (l : List UInt8) (x : UInt8) : numB (l ++ [x]) = numB l * 256 + x.toNat := by simp [numB]
theorem numB_ordK : ∀ (k n : Nat), numB (ordK k n) = n % 256 ^ k
  | 0, n => by simp [ordK, numB, Nat.mod_one]
  | k + 1, n => by
    rw [ordK, numB_snoc, numB_ordK k]
    rw [Nat.pow_succ, Nat.mul_comm (256 ^ k) 256, Nat.mod_mul]
    simp
    omega
theorem ordK_numB : ∀ (k : Nat) (l : List UInt8), l.length = k → ordK k (numB l) = l
  | 0, l, h => by simp [ordK, List.length_eq_zero_iff.1 h]
  | k + 1, l, h => by
    have hne : l ≠ [] := by rintro rfl; simp at h
    have e := List.dropLast_concat_getLast hne
    rw [← e, numB_snoc, ordK]
    have hx := (l.getLast hne).toNat_lt
    have e1 : (numB l.dropLast * 256 + (l.getLast hne).toNat) / 256 = numB l.dropLast := by omega
    rw [e1, ordK_numB k _ (by simp [h])]
    congr 2
    apply UInt8.toNat_inj.1
    simp
theorem numB_lt (l : List UInt8) : numB l < 256 ^ l.length := by
  have h := numB_ordK l.length (numB l)
  rw [ordK_numB _ l rfl] at h
  rw [h]; exact Nat.mod_lt _ (Nat.pow_pos (by decide))
theorem ordK_get : ∀ (k n i : Nat), i < k → (ordK k n)[i]? = some (UInt8.ofNat (n / 256 ^ (k - 1 - i)))
  | 0, _, _, h => by omega
  | k + 1, n, i, h => by
    rw [ordK]
    by_cases hi : i < k
    · rw [List.getElem?_append_left (by rw [ordK_length]; exact hi), ordK_get k _ i hi, Nat.div_div_eq_div_mul]
      have e : 256 * 256 ^ (k - 1 - i) = 256 ^ (k + 1 - 1 - i) := by
        rw [show k + 1 - 1 - i = (k - 1 - i) + 1 by omega, Nat.pow_succ, Nat.mul_comm]
      rw [e]
    · have : i = k := by omega
      subst this
      rw [List.getElem?_append_right (by rw [ordK_length]; omega), ordK_length]
      simp
theorem numB_step {l : List UInt8} {k : Nat} {x : UInt8} (h : l[k]? = some x) : numB (l.take (k + 1)) = numB (l.take k) * 256 + x.toNat := by
  rw [take_getR h, numB_snoc]
end Go.Proofs.YtdgagffieobiiaaGreatDoor

/-
  Walks over the numbers of eight bytes of the program and of the references.
-/
namespace Go.Proofs.YtdgagffieobiiaaGreatDoor
open Go.RowKit

theorem fill_up {α : Type} {l : List α} {z x : α} {k m : Nat} (h : l[k]? = some x) : (l.take k ++ List.replicate (m + 1) z).set k x = l.take (k + 1) ++ List.replicate m z := by
  have hk := (List.getElem?_eq_some_iff.1 h).1
  have e : (l.take k).length = k := by simp; omega
  rw [List.set_append_right _ _ (by omega), e, Nat.sub_self, List.replicate_succ, List.set_cons_zero, take_getR h]
  simp
theorem byte_of (m : Nat) : Value.int .u8 ((m % 2 ^ IntKind.u8.bits : Nat) : Int) = bv (UInt8.ofNat m) := by
  simp [bv, IntKind.bits]

theorem ordU_any (n : Nat) (hn : n < 2 ^ 64) (w : World) : CallsV Tryz.prog 104 #[.int .u64 n] w (RetB w (ordU n)) := by
  refine calls_in (N := _) Tryz.func104 rfl Tryz.ntmps104 rfl ?_; show WC _ _ _ _ _ _
  refine wc_sr ?_; refine wl_as rfl rfl ?_; refine wl_ns ?_; refine wc_sr ?_
  refine wl_mk (n := 8) (c := 8) tyB rfl rfl rfl rfl (by omega) (by omega) (by simp only [maxLen]; omega) rfl fun A1 w1 o1 hb1 _ => ?_
  refine wl_as rfl rfl ?_; refine wl_ns ?_; refine wc_seq ?_; refine wc_sr ?_; refine wl_mv rfl rfl ?_; apply wl_val; apply opv_len; exact rfl; exact tyB.sl; exact rfl; refine wl_mv rfl rfl ?_; refine wl_ns ?_; refine wc_block ?_
  refine wc_loop (fun L wr m => ∃ k : Nat, L = [(0, .int .u64 (n : Int)), (3, .slice A1 8 8), (7, .int .i64 (8 : Int)), (8, .int .i64 (k : Int))] ∧ k ≤ 8 ∧ Ow wr w.heap.size 5 A1 8 8 (bvs ((ordU n).take k ++ List.replicate (8 - k) 0)) ∧ Below w.heap.size w wr ∧ m = 8 - k)
    [(0, .int .u64 (n : Int)), (3, .slice A1 8 8), (7, .int .i64 (8 : Int)), (8, .int .i64 (0 : Nat))] 8 ⟨0, rfl, by omega, by simpa [bvs, bv] using o1, hb1, rfl⟩ ⟨rfl, rfl, rfl, rfl, trivial⟩ ?_
  rintro _ w2 m ⟨k, rfl, hk, o2, hb2, rfl⟩
  refine wc_sr ?_; refine wl_bin rfl rfl bin_lss rfl ?_; refine wl_ns ?_; refine wc_seq ?_
  refine wc_cond rfl (fun h1 => ?_) (fun h1 => ?_)
  · have hg := ordK_get 8 n k (by omega)
    have hk7 : k ≤ 7 := by omega
    refine wc_skip ?_; refine we_seq ?_; refine wc_seq ?_; refine wc_block ?_; refine wc_sr ?_; refine wl_mv rfl rfl ?_; refine wl_as rfl rfl ?_; refine wl_ns ?_; refine wc_region ?_; refine wl_mv rfl rfl ?_; refine wl_mv rfl rfl ?_; refine wl_mv rfl rfl ?_; refine wl_mv rfl rfl ?_; apply wl_val; apply opv_bin; exact rfl; exact rfl; exact bin_sub64 (by omega); exact rfl
    refine wl_val (opv_bin rfl rfl ((bin_mul64 (by omega)).to (show _ = Value.int .i64 ((8 * (7 - k) : Nat) : Int) from by congr 1; omega))) rfl ?_
    refine wl_val (opv_bin rfl rfl (bin_shr hn)) rfl ?_
    apply wl_val; apply opv_convR; exact rfl; exact Tryz.underlying29; exact Tryz.underlying5; exact wrap_nat rfl _; exact rfl
    refine wl_set (kk := k) tyB rfl rfl o2 rfl (by omega) (fun _ => rfl) rfl rfl fun p w3 o3 g3 _ => ?_
    have hb3 := g3.below hb2 o2 (Nat.le_refl _) hb2.size
    rw [byte_of, bvs_set, show 8 - k = (7 - k) + 1 by omega, Nat.pow_mul, fill_up (l := ordU n) (by rw [ordU, hg])] at o3
    refine wl_nil ?_; refine we_block_norm ?_; refine we_seq ?_; refine wc_region ?_; apply wl_val; apply opv_bin; exact rfl; exact rfl; exact bin_add64 (by omega); exact rfl; refine wl_mv rfl rfl ?_; refine wl_nil ?_
    refine we_loop [(0, .int .u64 (n : Int)), (3, .slice A1 8 8), (7, .int .i64 (8 : Int)), (8, .int .i64 ((k + 1 : Nat) : Int))] (8 - (k + 1)) ⟨k + 1, rfl, by omega, by rw [show 8 - (k + 1) = 7 - k by omega]; exact o3, hb3, rfl⟩ (by omega) ⟨rfl, rfl, rfl, rfl, trivial⟩
  · obtain rfl : k = 8 := by omega
    have e : (ordU n).take 8 ++ List.replicate (8 - 8) 0 = ordU n := by rw [List.take_of_length_le (by rw [ordU_length]; omega)]; simp
    rw [e] at o2
    refine wc_exit ?_; refine we_seq_exit ?_; refine we_loop_exit ?_; refine we_block_exit ?_; refine we_seq ?_; refine wc_sr ?_; refine wl_mv rfl rfl ?_; refine wl_as rfl rfl ?_; refine wl_ns ?_; refine wc_ret ?_
    exact we_ret1 rfl rfl ⟨_, rfl, A1, 8, by rw [ordU_length], by unfold OwB; rw [ordU_length]; exact o2, hb2⟩

end Go.Proofs.YtdgagffieobiiaaGreatDoor

/-
  Walks over disks: Append.
-/
namespace Go.Proofs.YtdgagffieobiiaaGreatDoor
open Go.RowKit

theorem turnC_any {S : BS} {g e : Nat} {d : Dk} {w : World} (h0 : Sat w [.ck (dkC g d)] S) (hok : DkOk d) :
    CallsV Tryz.prog 67 #[.pointer (some ⟨g, 0, none⟩), .int .i64 (e : Nat)] w fun v w' => v = .tuple #[.bool (turnD d e).1, .int .i64 ((turnD d e).2.1 : Nat)] ∧ St S w w' [.ck (dkC g (turnD d e).2.2)] := by
  have hl := hok.left
  rcases (St.start h0).opn with ⟨h1, hs⟩ | ⟨m, xs, clk, hI, hs⟩
  · obtain ⟨S2, hS2, _, _, _, hB⟩ := St.lend (H1 := [.blk g 75 (dkV d none)]) (H2 := []) hs
    exact (turn_any hS2 hl.2.2 hl.2.1).mono fun v w' h => ⟨h.1, St.cls0 (hB _ _ h.2) (by rw [(turnD_fs d e).1]; exact h1)⟩
  · obtain ⟨S2, hS2, _, _, _, hB⟩ := St.lend (H1 := [.blk g 75 (dkV d (some m))]) (H2 := [_, _]) hs
    exact (turn_any hS2 hl.2.2 hl.2.1).mono fun v w' h => ⟨h.1, St.cls (hB _ _ h.2) (by rw [(turnD_fs d e).1]; exact hI)⟩
theorem RdD.ar {w : World} {g : Nat} {d : Dk} (h : RdD w g d) : ∃ b, Ar w g 75 (dkV d b) := by
  rcases h with ⟨_, a⟩ | ⟨m, xs, clk, _, a, _⟩
  · exact ⟨_, a⟩
  · exact ⟨_, a⟩
/-- A file is looked up. -/
theorem RdD.look {w : World} {g : Nat} {d : Dk} (h : RdD w g d) (n : List UInt8) : ∃ (b : Option Nat) (A : Option Addr) (c : Nat), Ar w g 75 (dkV d b) ∧ RdB w A (fileD d n).data ∧ (fileD d n).data.length ≤ c ∧
    ∀ (L : FL) (x y : Operand) (ty : TypeId), look L x = some (.map b) → look L y = some (str n) → OpV Tryz.prog (.lookup 73 x y false) ty L w (.agg (flV (fileD d n) A c).toArray) w := by
  rcases h with ⟨h1, a⟩ | ⟨m, xs, clk, hI, a, hm, hrd⟩
  · have hf : fileD d n = ⟨[], 0⟩ := by rw [fileD, h1]; rfl
    rw [hf]
    exact ⟨none, none, 0, a, Rd.nil _ _, Nat.le_refl _, fun L x y ty hx hy => lk1_nil hx hy⟩
  · rcases mget_split n xs with ⟨hg, hf, _⟩ | ⟨X, x, Y, hx, hn, _, _, hg, hf⟩
    · have hf : fileD d n = ⟨[], 0⟩ := by rw [fileD, ← hI.fs, hf]; rfl
      rw [hf]
      exact ⟨some m, none, 0, a, Rd.nil _ _, Nat.le_refl _, fun L x y ty hx hy => lk1_none hx hy hm hg⟩
    · have hf : fileD d n = x.f := by rw [fileD, ← hI.fs, hf]; rfl
      rw [hf]
      have hm' : x ∈ xs := by rw [hx]; exact List.mem_append_right _ List.mem_cons_self
      exact ⟨some m, x.A, x.c, a, (hrd x hm').1, (hrd x hm').2, fun L x y ty hx hy => lk1_some hx hy hm hg⟩
theorem St.rdd {M : BS} {w0 w : World} {H : List Cd} (hs : St M w0 w H) (i : Nat) {g : Nat} {d : Dk} (hi : nthC H i = some (.ck (dkC g d))) : RdD w g d := by
  obtain ⟨T, hc, _⟩ := hs.get i hi
  exact dkC_rd hc
theorem append_any {S : BS} {g cb : Nat} {d : Dk} {n b : List UInt8} {B : Option Addr} {w : World} (h0 : Sat w [.ck (dkC g d)] S) (hok : DkOk d) (hb : ∀ w', Mod S w w' → RdB w' B b) (hc : b.length ≤ cb) (hl : b.length ≤ 1099511627776) :
    CallsV Tryz.prog 36 #[.pointer (some ⟨g, 0, none⟩), str n, .slice B b.length cb] w fun v w' => v = .int .i64 ((appD d n b).2 : Nat) ∧ St S w w' [.ck (dkC g (appD d n b).1)] := by
  have hs := St.start h0
  have hu := Nat.le_trans hok.used hok.room
  have hru := hok.used
  have hro := hok.room
  refine calls_in (N := _) Tryz.func36 rfl Tryz.ntmps36 rfl ?_; show WC _ _ _ _ _ _
  have rd := hs.rdd 0 rfl
  obtain ⟨bb, a1⟩ := rd.ar
  obtain ⟨e, he⟩ : ∃ e, (if d.room < used d.fs + b.length then 8 else 0) = e := ⟨_, rfl⟩
  have hap : appD d n b = (if (turnD d e).1 = true ∨ (turnD d e).2.2.dead = true ∧ d.dead = false then putD (turnD d e).2.2 n ⟨(fileD (turnD d e).2.2 n).data ++ b, (fileD (turnD d e).2.2 n).safe⟩ else (turnD d e).2.2, (turnD d e).2.1) := by rw [← he]; rfl
  rw [hap]
  clear hap
  unfold dkV at a1
  refine wc_sr ?_; refine wl_as rfl rfl ?_; refine wl_ns ?_; refine wc_sr ?_; refine wl_as rfl rfl ?_; refine wl_ns ?_; refine wc_seq ?_; refine wc_seq ?_
  refine wc_drawB mixed (by kernel_rfl) ?_
  apply wq_val; intro _ hw_; apply opv_move; exact rfl; exact rfl; apply wq_val; intro _ hw_; apply opv_len; exact rfl; exact tyB.sl; exact rfl; apply wq_val; intro _ hw_; apply opv_move; exact rfl; exact rfl; apply wq_val; intro _ hw_; apply opv_nilOk; exact rfl; exact rfl; apply wq_val; intro _ hw_; apply opv_fa; exact fa_sD (by decide); exact rfl; exact rfl; apply wq_val; intro _ hw_; apply opv_ldX; exact rfl; exact Ar.bel (by assumption) hw_; exact d1_int; exact rfl; exact rfl; apply wq_val; intro _ hw_; apply opv_move; exact rfl; exact rfl
  refine wq_call (v := .int .i64 (used d.fs : Nat)) ok_disk_Disk_Used (fun w' hw => (used_any (rd.below hw) hu).mono (fun v w2 h => ⟨h.1, hw.trans (h.2.mono hw.size)⟩)) ⟨rfl, trivial⟩ rfl ?_
  apply wq_val; intro _ hw_; apply opv_bin; exact rfl; exact rfl; exact bin_sub64 (by omega); exact rfl; apply wq_val; intro _ hw_; apply opv_bin; exact rfl; exact rfl; exact bin_gtr; exact rfl; refine wq_nil fun w1 hw1 => ?_
  replace hs := hs.below hw1
  replace a1 := a1.below hw1 (Nat.le_refl _)
  clear rd hw1
  refine wc_cutE (fun L w' => L = [(0, .pointer (some ⟨g, 0, none⟩)), (1, str n), (2, .slice B b.length cb), (7, .int .i64 (e : Nat))] ∧ w' = w1) ?_ ?_
  · refine wc_cond rfl (fun h1 => ?_) (fun h1 => ?_)
    · rw [if_pos (by omega)] at he
      subst he
      refine wc_region ?_; refine wl_as rfl rfl ?_; refine wl_nil ?_
      exact we_cut _ ⟨rfl, rfl⟩ ⟨rfl, rfl, rfl, rfl, trivial⟩
    · rw [if_neg (by omega)] at he
      subst he
      refine wc_skip ?_
      exact we_cut _ ⟨rfl, rfl⟩ ⟨rfl, rfl, rfl, rfl, trivial⟩
  · rintro _ _ ⟨rfl, rfl⟩
    clear he
    refine we_seq ?_; refine wc_sr ?_; refine wl_mv rfl rfl ?_; apply wl_val; apply opv_nilOk; exact rfl; exact rfl; apply wl_val; apply opv_fa; exact fa_sD (by decide); exact rfl; exact rfl; apply wl_val; apply opv_ldX; exact rfl; assumption; exact d1_bool; exact rfl; exact rfl; refine wl_as rfl rfl ?_; refine wl_ns ?_; refine wc_sr ?_; refine wl_mv rfl rfl ?_; refine wl_mv rfl rfl ?_
    obtain ⟨S2, hS2, _, _, _, hB⟩ := St.lend (H1 := [.ck (dkC g d)]) (H2 := []) hs
    refine wl_call ok_disk_Disk_turn (turnC_any hS2 hok) ⟨rfl, rfl, trivial⟩ rfl ?_
    rintro _ w4 ⟨rfl, hsx⟩
    replace hs := hB _ _ hsx
    clear hB hS2 hsx a1
    have hok2 := hok.turn e
    have hfs2 := (turnD_fs d e).1
    obtain ⟨t, ht⟩ : ∃ t, turnD d e = t := ⟨_, rfl⟩
    rw [ht] at hs hok2 hfs2 ⊢
    obtain ⟨okt, e2, d2⟩ := t
    simp only at hs hok2 hfs2 ⊢
    rw [← hfs2] at hu
    rw [List.append_nil] at hs
    have rd := hs.rdd 0 rfl
    obtain ⟨bb2, a1⟩ := rd.ar
    unfold dkV at a1
    refine wl_mv rfl rfl ?_; apply wl_val; apply opv_extract; exact rfl; exact rfl; exact rfl; apply wl_val; apply opv_extract; exact rfl; exact rfl; exact rfl; refine wl_as rfl rfl ?_; refine wl_as rfl rfl ?_; refine wl_ns ?_; refine wc_seq ?_; refine wc_sr ?_; refine wl_mv rfl rfl ?_; refine wl_mv rfl rfl ?_
    obtain ⟨q, hq⟩ : ∃ q, d.dead = q := ⟨_, rfl⟩
    rw [hq]
    obtain ⟨q2, hq2⟩ : ∃ q, d2.dead = q := ⟨_, rfl⟩
    rw [hq2] at a1 ⊢
    refine wl_cutE (fun L w' => L = [(0, .pointer (some ⟨g, 0, none⟩)), (1, str n), (2, .slice B b.length cb), (7, .int .i64 (e2 : Nat)), (41, .bool (decide (okt = true ∨ q2 = true ∧ q = false)))] ∧ w' = w4) ?_ ?_
    · cases okt with
      | true =>
        apply wl_skip; exact rfl; exact rfl; exact rfl; exact bR1; exact rfl; apply wl_skip; exact rfl; exact rfl; exact rfl; exact bR1; exact rfl; apply wl_skip; exact rfl; exact rfl; exact rfl; exact bR1; exact rfl; apply wl_skip; exact rfl; exact rfl; exact rfl; exact bR1; exact rfl; apply wl_skip; exact rfl; exact rfl; exact rfl; exact bR1; exact rfl; apply wl_skipU; exact rfl; exact rfl; exact rfl; exact rfl; apply wl_skipU; exact rfl; exact rfl; exact rfl; exact rfl; apply wl_skip; exact rfl; exact rfl; exact rfl; exact bR1; exact rfl; apply wl_val; apply opv_pickT; exact rfl; exact rfl; exact rfl; exact rfl; refine wl_nil ?_
        exact we_cut _ ⟨rfl, rfl⟩ ⟨rfl, rfl, rfl, rfl, rfl, trivial⟩
      | false =>
        cases q2 with
        | true =>
          cases q with
          | true =>
            apply wl_take; exact rfl; exact rfl; exact rfl; exact rfl; refine wl_mv rfl rfl ?_; apply wl_take; exact rfl; exact rfl; exact rfl; exact rfl; apply wl_val; apply opv_nilOk; exact rfl; exact rfl; apply wl_take; exact rfl; exact rfl; exact rfl; exact rfl; apply wl_val; apply opv_fa; exact fa_sD (by decide); exact rfl; exact rfl; apply wl_take; exact rfl; exact rfl; exact rfl; exact rfl; apply wl_val; apply opv_ldX; exact rfl; assumption; exact d1_bool; exact rfl; exact rfl; apply wl_take; exact rfl; exact rfl; exact rfl; exact rfl; refine wl_mv rfl rfl ?_; apply wl_take; exact rfl; exact rfl; exact rfl; exact rfl; refine wl_mv rfl rfl ?_; apply wl_take; exact rfl; exact rfl; exact rfl; exact rfl; apply wl_val; apply opv_not; exact rfl; exact rfl; apply wl_take; exact rfl; exact rfl; exact rfl; exact rfl; apply wl_val; apply opv_pickT; exact rfl; exact rfl; exact rfl; exact rfl; apply wl_val; apply opv_pickF; exact rfl; exact rfl; exact rfl; exact rfl; refine wl_nil ?_
            exact we_cut _ ⟨rfl, rfl⟩ ⟨rfl, rfl, rfl, rfl, rfl, trivial⟩
          | false =>
            apply wl_take; exact rfl; exact rfl; exact rfl; exact rfl; refine wl_mv rfl rfl ?_; apply wl_take; exact rfl; exact rfl; exact rfl; exact rfl; apply wl_val; apply opv_nilOk; exact rfl; exact rfl; apply wl_take; exact rfl; exact rfl; exact rfl; exact rfl; apply wl_val; apply opv_fa; exact fa_sD (by decide); exact rfl; exact rfl; apply wl_take; exact rfl; exact rfl; exact rfl; exact rfl; apply wl_val; apply opv_ldX; exact rfl; assumption; exact d1_bool; exact rfl; exact rfl; apply wl_take; exact rfl; exact rfl; exact rfl; exact rfl; refine wl_mv rfl rfl ?_; apply wl_take; exact rfl; exact rfl; exact rfl; exact rfl; refine wl_mv rfl rfl ?_; apply wl_take; exact rfl; exact rfl; exact rfl; exact rfl; apply wl_val; apply opv_not; exact rfl; exact rfl; apply wl_take; exact rfl; exact rfl; exact rfl; exact rfl; apply wl_val; apply opv_pickT; exact rfl; exact rfl; exact rfl; exact rfl; apply wl_val; apply opv_pickF; exact rfl; exact rfl; exact rfl; exact rfl; refine wl_nil ?_
            exact we_cut _ ⟨rfl, rfl⟩ ⟨rfl, rfl, rfl, rfl, rfl, trivial⟩
        | false =>
          apply wl_take; exact rfl; exact rfl; exact rfl; exact rfl; refine wl_mv rfl rfl ?_; apply wl_take; exact rfl; exact rfl; exact rfl; exact rfl; apply wl_val; apply opv_nilOk; exact rfl; exact rfl; apply wl_take; exact rfl; exact rfl; exact rfl; exact rfl; apply wl_val; apply opv_fa; exact fa_sD (by decide); exact rfl; exact rfl; apply wl_take; exact rfl; exact rfl; exact rfl; exact rfl; apply wl_val; apply opv_ldX; exact rfl; assumption; exact d1_bool; exact rfl; exact rfl; apply wl_take; exact rfl; exact rfl; exact rfl; exact rfl; refine wl_mv rfl rfl ?_; apply wl_skip; exact rfl; exact rfl; exact rfl; exact bR2; exact rfl; apply wl_skip; exact rfl; exact rfl; exact rfl; exact bR2; exact rfl; apply wl_take; exact rfl; exact rfl; exact rfl; exact rfl; apply wl_val; apply opv_pickF; exact rfl; exact rfl; exact rfl; exact rfl; apply wl_val; apply opv_pickF; exact rfl; exact rfl; exact rfl; exact rfl; refine wl_nil ?_
          exact we_cut _ ⟨rfl, rfl⟩ ⟨rfl, rfl, rfl, rfl, rfl, trivial⟩
    · rintro _ _ ⟨rfl, rfl⟩
      clear a1
      refine we_seq ?_
      refine wc_cutE (fun L w' => L = [(7, .int .i64 (e2 : Nat))] ∧ St S w w' [.ck (dkC g (if okt = true ∨ q2 = true ∧ q = false then putD d2 n ⟨(fileD d2 n).data ++ b, (fileD d2 n).safe⟩ else d2))]) ?_ ?_
      · refine wc_cond rfl (fun h1 => ?_) (fun h1 => ?_)
        · rw [if_pos h1]
          have rd := hs.rdd 0 rfl
          obtain ⟨bb, A, c, a1, rA, hA, hlk⟩ := rd.look n
          have hfl := fileD_le d2 n
          unfold dkV at a1
          refine wc_sr ?_; refine wl_mv rfl rfl ?_; apply wl_val; apply opv_nilOk; exact rfl; exact rfl; apply wl_val; apply opv_fa; exact fa_sD (by decide); exact rfl; exact rfl; apply wl_val; apply opv_ldX; exact rfl; assumption; exact d1_map; exact rfl; exact rfl; refine wl_mv rfl rfl ?_; apply wl_val; apply hlk; exact rfl; exact rfl; exact rfl
          refine wl_var (cs := flV (fileD d2 n) A c) zeroF sF rfl (fun _ => rfl) (by first | rfl | simp [Value.oneCell']) rfl fun g10 _ hg a10 hbx => ?_
          replace hs := hs.newA hbx hg a10
          replace rA := rA.below hbx
          clear a1 hlk a10 hbx rd
          unfold flV at hs
          refine wl_ns ?_; refine wc_sr ?_; apply wl_val; apply opv_fa; exact fa_sF (by decide); exact rfl; exact rfl; apply wl_val; apply opv_ldX; exact rfl; exact hs.ar 0 rfl; exact d1_by; exact rfl; exact rfl
          refine wl_call ok_bytes_Clone (clone_any rA rfl (by omega)) ⟨rfl, trivial⟩ rfl ?_; rintro _ _ ⟨X, cx, rfl, o_, hbx⟩; replace hs := hs.newO hbx o_ (Nat.le_refl _); try dsimp only [List.cons_append, List.nil_append, setC, delC] at hs
          clear rA hbx o_
          refine wl_mv rfl rfl ?_
          refine ws_app hs 0 rfl rfl tyB rfl (hb _ hs.1) (by simp [bvs, bv, Value.oneCell']) (by omega) (by simp only [maxLen]; omega) rfl ?_
          clear hs; intro Y cy _ hs; dsimp only [setC] at hs
          rw [← List.length_append] at hs ⊢
          rw [← bvs_append] at hs
          apply wl_val; apply opv_fa; exact fa_sF (by decide); exact rfl; exact rfl; apply ws_st hs 1; exact rfl; exact rfl; exact d1_by; exact rfl; exact rfl; exact rfl; clear hs; intro _ hs; dsimp only [setC, List.set] at hs; refine wl_ns ?_; refine wc_region ?_; refine wl_mv rfl rfl ?_; refine wl_mv rfl rfl ?_; apply wl_val; apply opv_loadX; exact rfl; exact hs.ar 1 rfl; exact sF; exact rfl
          replace hs := hs.front 2 rfl
          dsimp only [delC] at hs
          obtain ⟨S2, hS2, _, _, _, hB⟩ := St.lend (H1 := [.ck (dkC g d2), .ow 5 Y ((fileD d2 n).data ++ b).length cy (bvs ((fileD d2 n).data ++ b))]) (H2 := [_]) hs
          refine wl_call ok_disk_Disk_put (dput_any (f := ⟨(fileD d2 n).data ++ b, (fileD d2 n).safe⟩) hS2) ⟨rfl, rfl, rfl, trivial⟩ rfl ?_
          rintro _ _ ⟨rfl, hsx⟩
          replace hs := (hB _ _ hsx).drop 1 rfl
          refine wl_nil ?_
          exact we_cut _ ⟨rfl, hs⟩ ⟨rfl, trivial⟩
        · rw [if_neg h1]
          refine wc_skip ?_
          exact we_cut _ ⟨rfl, hs⟩ ⟨rfl, trivial⟩
      · rintro _ _ ⟨rfl, hs⟩
        refine we_seq ?_; refine wc_sr ?_; refine wl_mv rfl rfl ?_; refine wl_as rfl rfl ?_; refine wl_ns ?_; refine wc_ret ?_
        exact we_ret1 rfl rfl ⟨_, rfl, rfl, hs⟩
end Go.Proofs.YtdgagffieobiiaaGreatDoor

/-
  Walks over disks: New, Arm, Read, Sync, Cut.
-/
namespace Go.Proofs.YtdgagffieobiiaaGreatDoor
open Go.RowKit

section
variable {P : Program} {L : FL} {w : World}
theorem opv_max {x y : Operand} {a b : Int} {k : IntKind} {ats : Array TypeId} {ty : TypeId} (hx : look L x = some (.int k a)) (hy : look L y = some (.int k b)) : OpV P (.call { callee := .builtin .max, args := #[x, y], argTypes := ats }) ty L w (.int k (max a b)) w := fun ρ o hρ ho _ => by
  have e : (if b > a then b else a) = max a b := by omega
  simp [execOp, ho, resolve, invoke, builtin, Builtin.max_, Builtin.max2, hρ x _ hx, hρ y _ hy, e]
theorem opv_fld {x : Operand} {t : TypeId} {k : Nat} {fs : Array Field} {f : Field} {cs : List Value} {u : Value} {ty : TypeId} (hu : P.underlying t = some (.struct fs)) (hf : fs[k]? = some f) (E : Cell1 P f.type) (hx : look L x = some (.agg cs.toArray)) (hk : cs[f.offset]? = some u) :
    OpV P (.field t x k) ty L w u w := fun ρ o hρ ho _ => by
  have hk' : cs.toArray[f.offset]? = some u := by simpa using hk
  simp [execOp, ho, Instr.field, run_underlying hu, hf, hρ x _ hx, asAgg, part, E.agg, hk]
end
theorem fld_F0 {x : Operand} {ty : TypeId} {L : FL} {w : World} {cs : List Value} {u : Value} (hx : look L x = some (.agg cs.toArray)) (hk : cs[0]? = some u) : OpV Tryz.prog (.field 88 x 0) ty L w u w :=
  opv_fld Tryz.underlying88 rfl d1_by hx hk
theorem dnew_any (k : Nat) (w : World) : CallsV Tryz.prog 9 #[.int .i64 (k : Nat)] w fun v w' => ∃ g, v = .pointer (some ⟨g, 0, none⟩) ∧ St NoB w w' [.ck (dkC g ⟨[], k, false, 0, false⟩)] := by
  have hs := St.init w
  refine calls_in (N := _) Tryz.func9 rfl Tryz.ntmps9 rfl ?_; show WC _ _ _ _ _ _
  refine wc_sr ?_; refine wl_as rfl rfl ?_; refine wl_ns ?_; refine wc_sr ?_; refine wl_mv rfl rfl ?_
  refine wl_val (opv_max rfl rfl) rfl ?_
  rw [show max (0 : Int) (k : Int) = (k : Int) by omega]
  refine wl_val (opv_build (vs := [(1, .int .i64 (k : Int))]) (cs := dkV ⟨[], k, false, 0, false⟩ none) ⟨rfl, rfl, trivial⟩ (by kernel_rfl)) rfl ?_
  refine ws_box (cs := dkV ⟨[], k, false, 0, false⟩ none) hs rfl rfl ?_; clear hs; intro g6 _ hs
  refine wl_as rfl rfl ?_; refine wl_ns ?_; refine wc_ret ?_
  exact we_ret1 rfl rfl ⟨_, rfl, _, rfl, St.cls0 hs rfl⟩
theorem arm_any {S : BS} {g : Nat} {d : Dk} {k : Int} {w : World} (h0 : Sat w [.ck (dkC g d)] S) :
    CallsV Tryz.prog 10 #[.pointer (some ⟨g, 0, none⟩), .int .i64 k] w fun v w' => v = .tuple #[] ∧ St S w w' [.ck (dkC g { d with armed := decide (0 ≤ k), left := k })] := by
  have hs := St.start h0
  refine calls_in (N := _) Tryz.func10 rfl Tryz.ntmps10 rfl ?_; show WC _ _ _ _ _ _
  rcases hs.opn with ⟨h1, hs1⟩ | ⟨m, xs, clk, hI, hs1⟩
  · replace hs := hs1
    clear hs1
    unfold dkV at hs
    refine wc_region ?_; refine wl_mv rfl rfl ?_; refine wl_mv rfl rfl ?_; refine wl_mv rfl rfl ?_; refine wl_bin rfl rfl bin_geq rfl ?_; refine wl_mv rfl rfl ?_; apply wl_val; apply opv_nilOk; exact rfl; exact rfl; apply wl_val; apply opv_fa; exact fa_sD (by decide); exact rfl; exact rfl; apply ws_st hs 0; exact rfl; exact rfl; exact d1_bool; exact rfl; exact rfl; exact rfl; clear hs; intro _ hs; dsimp only [setC, List.set] at hs; apply wl_val; apply opv_nilOk; exact rfl; exact rfl; apply wl_val; apply opv_fa; exact fa_sD (by decide); exact rfl; exact rfl; apply ws_st hs 0; exact rfl; exact rfl; exact d1_int; exact rfl; exact rfl; exact rfl; clear hs; intro _ hs; dsimp only [setC, List.set] at hs; refine wl_nil ?_
    exact we_end0 rfl ⟨_, rfl, rfl, St.cls0 (d := { d with armed := decide (0 ≤ k), left := k }) hs h1⟩
  · replace hs := hs1
    clear hs1
    unfold dkV at hs
    refine wc_region ?_; refine wl_mv rfl rfl ?_; refine wl_mv rfl rfl ?_; refine wl_mv rfl rfl ?_; refine wl_bin rfl rfl bin_geq rfl ?_; refine wl_mv rfl rfl ?_; apply wl_val; apply opv_nilOk; exact rfl; exact rfl; apply wl_val; apply opv_fa; exact fa_sD (by decide); exact rfl; exact rfl; apply ws_st hs 0; exact rfl; exact rfl; exact d1_bool; exact rfl; exact rfl; exact rfl; clear hs; intro _ hs; dsimp only [setC, List.set] at hs; apply wl_val; apply opv_nilOk; exact rfl; exact rfl; apply wl_val; apply opv_fa; exact fa_sD (by decide); exact rfl; exact rfl; apply ws_st hs 0; exact rfl; exact rfl; exact d1_int; exact rfl; exact rfl; exact rfl; clear hs; intro _ hs; dsimp only [setC, List.set] at hs; refine wl_nil ?_
    exact we_end0 rfl ⟨_, rfl, rfl, St.cls (d := { d with armed := decide (0 ≤ k), left := k }) hs hI⟩
theorem read_any {g : Nat} {d : Dk} {n : List UInt8} {w : World} (h : RdD w g d) (hok : DkOk d) : CallsV Tryz.prog 44 #[.pointer (some ⟨g, 0, none⟩), str n] w fun v w' =>
    ∃ (A : Option Addr) (c : Nat), v = .tuple #[.slice A (readD d n).1.length c, .int .i64 ((readD d n).2 : Nat)] ∧ OwB w' w.heap.size A c (readD d n).1 ∧ Below w.heap.size w w' := by
  have hb := Below.refl w.heap.size w
  have hu := Nat.le_trans hok.used hok.room
  have hfl := fileD_le d n
  refine calls_in (N := _) Tryz.func44 rfl Tryz.ntmps44 rfl ?_; show WC _ _ _ _ _ _
  obtain ⟨b, A, c, a1, rA, hA, hlk⟩ := h.look n
  unfold dkV at a1
  unfold readD
  obtain ⟨q, hq⟩ : ∃ q, d.dead = q := ⟨_, rfl⟩
  rw [hq] at a1 ⊢
  cases q with
  | true =>
    refine wc_sr ?_; refine wl_as rfl rfl ?_; refine wl_as rfl rfl ?_; refine wl_ns ?_; refine wc_seq ?_; refine wc_sr ?_; refine wl_mv rfl rfl ?_; apply wl_val; apply opv_nilOk; exact rfl; exact rfl; apply wl_val; apply opv_fa; exact fa_sD (by decide); exact rfl; exact rfl; apply wl_val; apply opv_ldX; exact rfl; assumption; exact d1_bool; exact rfl; exact rfl; refine wl_ns ?_; apply wc_condTb; exact rfl; exact rfl; refine wc_sr ?_; refine wl_as rfl rfl ?_; refine wl_as rfl rfl ?_; refine wl_ns ?_; refine wc_ret ?_; refine we_seq_ret ?_
    exact we_ret2 rfl rfl rfl ⟨_, rfl, none, 0, rfl, Ow.nil _ _ _, hb⟩
  | false =>
    rw [if_neg (by decide)]
    refine wc_sr ?_; refine wl_as rfl rfl ?_; refine wl_as rfl rfl ?_; refine wl_ns ?_; refine wc_seq ?_; refine wc_sr ?_; refine wl_mv rfl rfl ?_; apply wl_val; apply opv_nilOk; exact rfl; exact rfl; apply wl_val; apply opv_fa; exact fa_sD (by decide); exact rfl; exact rfl; apply wl_val; apply opv_ldX; exact rfl; assumption; exact d1_bool; exact rfl; exact rfl; refine wl_ns ?_; apply wc_condFb; exact rfl; exact rfl; refine wc_skip ?_; refine we_seq ?_; refine wc_seq ?_; refine wc_sr ?_; refine wl_mv rfl rfl ?_; refine wl_mv rfl rfl ?_
    refine wl_call ok_disk_Disk_there (dthere_any h) ⟨rfl, rfl, trivial⟩ rfl ?_
    rintro _ _ ⟨rfl, hbx⟩
    replace hb := hb.trans (hbx.mono hb.size)
    replace h := h.below hbx
    clear a1 hlk rA hA
    obtain ⟨b, A, c, a1, rA, hA, hlk⟩ := h.look n
    unfold dkV at a1
    refine wl_as rfl rfl ?_; refine wl_ns ?_; refine wc_sr ?_; refine wl_mv rfl rfl ?_; refine wl_bin rfl rfl bin_neq rfl ?_; refine wl_ns ?_
    refine wc_cond rfl (fun h1 => ?_) (fun h1 => ?_)
    · rw [if_pos (by omega)]
      refine wc_sr ?_; refine wl_mv rfl rfl ?_; refine wl_as rfl rfl ?_; refine wl_as rfl rfl ?_; refine wl_ns ?_; refine wc_ret ?_; refine we_seq_ret ?_
      exact we_ret2 rfl rfl rfl ⟨_, rfl, none, 0, rfl, Ow.nil _ _ _, hb⟩
    · rw [if_neg (by omega)]
      refine wc_skip ?_; refine we_seq ?_; refine wc_sr ?_; refine wl_mv rfl rfl ?_; apply wl_val; apply opv_nilOk; exact rfl; exact rfl; apply wl_val; apply opv_fa; exact fa_sD (by decide); exact rfl; exact rfl; apply wl_val; apply opv_ldX; exact rfl; assumption; exact d1_map; exact rfl; exact rfl; refine wl_mv rfl rfl ?_; apply wl_val; apply hlk; exact rfl; exact rfl; exact rfl; apply wl_val; apply fld_F0; exact rfl; exact rfl; exact rfl
      refine wl_call ok_bytes_Clone (clone_any rA rfl (by omega)) ⟨rfl, trivial⟩ rfl ?_
      rintro _ _ ⟨X, cx, rfl, o_, hbx⟩
      replace o_ := Ow.mono o_ hb.size
      replace hb := hb.trans (hbx.mono hb.size)
      refine wl_as rfl rfl ?_; refine wl_as rfl rfl ?_; refine wl_ns ?_; refine wc_ret ?_
      exact we_ret2 rfl rfl rfl ⟨_, rfl, X, cx, rfl, o_, hb⟩
/-- A file's place is written again, its bytes the same. -/
theorem putS_any {S : BS} {g m clk s : Nat} {d : Dk} {n : List UInt8} {X Y : List FE} {x : FE} {w : World} (h0 : Sat w [.blk g 75 (dkV d (some m)), .ck (mpC m ((X ++ x :: Y).map FE.me) clk), .ck (flC (X ++ x :: Y))] S) (hI : DkI d.fs (X ++ x :: Y) clk) (hn : x.nm = n) (hX : n ∉ X.map (·.nm)) :
    CallsV Tryz.prog 70 #[.pointer (some ⟨g, 0, none⟩), str n, .agg (flV ⟨x.f.data, s⟩ x.A x.c).toArray] w fun v w' => v = .tuple #[] ∧ St S w w' [.ck (dkC g (putD d n ⟨x.f.data, s⟩))] := by
  have hs := St.start h0
  have hf : fnd n ((X ++ x :: Y).map FE.me) 0 = some (0 + X.length, .agg (flV x.f x.A x.c).toArray) := by
    rcases fnd_split n (X ++ x :: Y) 0 with ⟨_, _, h3⟩ | ⟨X', x', Y', h1, h2, h3, h4, h5⟩
    · exact absurd (List.mem_map.2 ⟨x, List.mem_append_right _ List.mem_cons_self, hn⟩) h3
    · have e : X' = X ∧ x' = x := by
        clear h0 hI hs h4 h5
        induction X generalizing X' with
        | nil =>
          cases X' with
          | nil => simp at h1; exact ⟨rfl, h1.1.symm⟩
          | cons a X' => simp at h1; exact absurd (by rw [← h1.1]; simp [hn]) h3
        | cons a X ih =>
          cases X' with
          | nil => simp at h1; exact absurd (by rw [h1.1]; simp [h2]) hX
          | cons a' X' =>
            simp only [List.cons_append, List.cons.injEq] at h1
            simp only [List.map_cons, List.mem_cons, not_or] at hX h3
            obtain ⟨e1, e2⟩ := ih hX.2 X' h1.2 h3.2
            exact ⟨by rw [e1, h1.1], e2⟩
      rw [h4, e.1, e.2]
  refine calls_in (N := _) Tryz.func70 rfl Tryz.ntmps70 rfl ?_; show WC _ _ _ _ _ _
  unfold dkV at hs
  refine wc_sr ?_
  refine ws_box (cs := flV ⟨x.f.data, s⟩ x.A x.c) hs rfl rfl ?_; clear hs; intro g5 _ hs
  refine wl_ns ?_; refine wc_seq ?_; refine wc_sr ?_; refine wl_mv rfl rfl ?_; apply wl_val; apply opv_nilOk; exact rfl; exact rfl; apply wl_val; apply opv_fa; exact fa_sD (by decide); exact rfl; exact rfl; apply wl_val; apply opv_ldX; exact rfl; exact hs.ar 1 rfl; exact d1_map; exact rfl; exact rfl; apply wl_val; apply opv_bin; exact rfl; exact rfl; exact bin_eqlMapNil tyDM; exact rfl; refine wl_ns ?_; apply wc_condFb; exact rfl; exact rfl; refine wc_skip ?_; refine we_seq ?_
  refine wc_heldM 6 mixed fun w_ hS => ?_
  apply wm_take 0; exact rfl; intro _ hw_; apply opv_move; exact rfl; exact rfl; kernel_rfl; exact hS; apply wm_take 1; exact rfl; intro _ hw_; apply opv_nilOk; exact rfl; exact rfl; kernel_rfl; exact hS; apply wm_take 2; exact rfl; intro _ hw_; apply opv_fa; exact fa_sD (by decide); exact rfl; exact rfl; kernel_rfl; exact hS; apply wm_take 3; exact rfl; intro _ hw_; apply opv_ldX; exact rfl; exact Ar.bel (hs.ar 1 rfl) hw_; exact d1_map; exact rfl; exact rfl; kernel_rfl; exact hS; apply wm_take 4; exact rfl; intro _ hw_; apply opv_move; exact rfl; exact rfl; kernel_rfl; exact hS; apply wm_take 5; exact rfl; intro _ hw_; apply opv_loadX; exact rfl; exact Ar.bel (hs.ar 0 rfl) hw_; exact sF; exact rfl; kernel_rfl; exact hS
  replace hs := hs.below hS
  refine wm_one 6 (by kernel_rfl) rfl ?_; dsimp only [List.getElem_toArray, List.getElem_cons_succ, List.getElem_cons_zero]
  refine ws_mput hs 2 rfl tyDM tyStrD rfl rfl rfl ?_
  clear hs; intro _ hs
  refine wl_nil ?_
  refine we_heldM (fun h => absurd h (by decide)) ?_
  refine wm_done (by kernel_rfl) ?_
  dsimp only [setC] at hs
  rw [mput_old hf hn x.A x.c ⟨x.f.data, s⟩] at hs
  replace hs := hs.drop 0 rfl
  dsimp only [delC] at hs
  have hfl : flC (X ++ x :: Y) = flC (X ++ ⟨n, x.A, x.c, ⟨x.f.data, s⟩, x.born⟩ :: Y) := by
    unfold flC; simp only [List.map_append, List.map_cons]; rfl
  rw [hfl] at hs
  exact we_end0 rfl ⟨_, rfl, rfl, St.cls (d := putD d n ⟨x.f.data, s⟩) (m := m) hs (hI.old' hn hX x.A x.c ⟨x.f.data, s⟩)⟩
end Go.Proofs.YtdgagffieobiiaaGreatDoor

/-
  Walks over a filter of keys: a key's hash and places.
-/
namespace Go.Proofs.YtdgagffieobiiaaGreatDoor
open Go.RowKit
theorem tyPl : Row1 Tryz.prog 85 3 (.int .i64 0) 8 := ⟨Tryz.underlying85, by kernel_rfl, rfl, by rw [Tryz.underlying3]⟩
theorem fold_take {α β : Type} (f : β → α → β) (h0 : β) {l : List α} {k : Nat} {b : α} (h : l[k]? = some b) : (l.take (k + 1)).foldl f h0 = f ((l.take k).foldl f h0) b := by
  rw [List.take_add_one, h]; simp
theorem hashS_take {key : List UInt8} {k : Nat} {b : UInt8} (h : key[k]? = some b) : (key.take (k + 1)).foldl hashS hash0 = hashS ((key.take k).foldl hashS hash0) b := fold_take hashS hash0 h
theorem hashF_lt (l : List UInt8) : l.foldl hashS hash0 < 2 ^ 64 := by have h := hash_lt l; unfold hashB at h; exact h
theorem hash_any {A : Option Addr} {n c : Nat} {key : List UInt8} {w : World} (hr : RdB w A key) (hn : key.length = n) (hl : key.length ≤ 1099511627776) :
    CallsV Tryz.prog 80 #[.slice A n c] w fun v w' => v = .int .u64 ((hashB key : Nat) : Int) ∧ w = w' := by
  subst hn
  refine calls_in (N := _) Tryz.func80 rfl Tryz.ntmps80 rfl ?_; show WC _ _ _ _ _ _
  refine wc_sr ?_; refine wl_as rfl rfl ?_; refine wl_ns ?_; refine wc_sr ?_; refine wl_as rfl rfl ?_; refine wl_ns ?_; refine wc_seq ?_; refine wc_sr ?_; refine wl_mv rfl rfl ?_; apply wl_val; apply opv_len; exact rfl; exact tyB.sl; exact rfl; refine wl_mv rfl rfl ?_; refine wl_ns ?_; refine wc_block ?_
  refine wc_loop (fun L wr m => ∃ k : Nat, L = [(3, .int .u64 (((key.take k).foldl hashS hash0 : Nat) : Int)), (6, .slice A key.length c), (7, .int .i64 (key.length : Int)), (8, .int .i64 (k : Int))] ∧ k ≤ key.length ∧ wr = w ∧ m = key.length - k)
    [(3, .int .u64 ((hash0 : Nat) : Int)), (6, .slice A key.length c), (7, .int .i64 (key.length : Int)), (8, .int .i64 ((0 : Nat) : Int))] key.length ⟨0, rfl, Nat.zero_le _, rfl, rfl⟩ ⟨by rw [hash0_int]; rfl, rfl, rfl, rfl, trivial⟩ ?_
  rintro _ _ m ⟨k, rfl, hk, rfl, rfl⟩
  refine wc_sr ?_; refine wl_bin rfl rfl bin_lss rfl ?_; refine wl_ns ?_; refine wc_seq ?_
  refine wc_cond rfl (fun h1 => ?_) (fun h1 => ?_)
  · obtain ⟨b, hb⟩ : ∃ b, key[k]? = some b := ⟨_, List.getElem?_eq_getElem (by omega)⟩
    have hu : (bvs key)[k]? = some (bv b) := by rw [bvs, List.getElem?_map, hb]; rfl
    have hb8 := b.toNat_lt
    have hlt := hashF_lt (key.take k)
    refine wc_skip ?_; refine we_seq ?_; refine wc_seq ?_; refine wc_block ?_; refine wc_sr ?_
    refine wl_val (opv_idxR (kk := k) (u := bv b) tyB rfl rfl hr rfl hu) rfl ?_
    refine wl_val (opv_loadR (kk := k) (u := bv b) tyB rfl hr hu) rfl ?_
    refine wl_as rfl rfl ?_; refine wl_ns ?_; refine wc_region ?_; refine wl_mv rfl rfl ?_; refine wl_mv rfl rfl ?_; apply wl_val; apply opv_convR; exact rfl; exact Tryz.underlying5; exact Tryz.underlying29; exact IntWalk.u64_in _ (by omega); exact rfl
    refine wl_bin rfl rfl (bin_xor (k := .u64) rfl (by show _ < 2 ^ 64; exact hlt) (by show _ < 2 ^ 64; omega)) rfl ?_
    refine wl_bin rfl rfl ((bin_mulU (k := .u64) (b := 1099511628211) rfl).to (congrArg (fun k : Nat => Value.int .u64 (k : Int)) (show _ = (key.take (k + 1)).foldl hashS hash0 from (hashS_take hb).symm))) rfl ?_
    refine wl_as rfl rfl ?_; refine wl_nil ?_; refine we_block_norm ?_; refine we_seq ?_; refine wc_region ?_; apply wl_val; apply opv_bin; exact rfl; exact rfl; exact bin_add64 (by omega); exact rfl; refine wl_mv rfl rfl ?_; refine wl_nil ?_
    exact we_loop _ (key.length - (k + 1)) ⟨k + 1, rfl, by omega, rfl, rfl⟩ (by omega) ⟨rfl, rfl, rfl, by rw [show ((k + 1 : Nat) : Int) = (k : Int) + 1 by omega]; rfl, trivial⟩
  · obtain rfl : k = key.length := by omega
    rw [List.take_length]
    refine wc_exit ?_; refine we_seq_exit ?_; refine we_loop_exit ?_; refine we_block_exit ?_; refine we_seq ?_; refine wc_sr ?_; refine wl_mv rfl rfl ?_; refine wl_as rfl rfl ?_; refine wl_ns ?_; refine wc_ret ?_
    exact we_ret1 rfl rfl ⟨_, rfl, rfl, rfl⟩
def ints (l : List Nat) : List Value := l.map fun n : Nat => Value.int .i64 (n : Int)
theorem ints_len (l : List Nat) : (ints l).length = l.length := by simp [ints]
theorem pls_len (key : List UInt8) (m k : Nat) : (plsB key m k).length = k := by simp [plsB]
theorem pls_at (key : List UInt8) (m : Nat) {k i : Nat} (h : i < k) : (plsB key m k)[i]? = some (plB key m i) := by rw [plsB, List.getElem?_map, List.getElem?_range h]; rfl
theorem fill_ints {l : List Nat} {i n b : Nat} (hb : l[i]? = some b) (hn : l.length = n) :
    (ints (l.take i) ++ List.replicate (n - i) (Value.int .i64 0)).set i (.int .i64 (b : Int)) = ints (l.take (i + 1)) ++ List.replicate (n - (i + 1)) (.int .i64 0) := by
  have hi := (List.getElem?_eq_some_iff.1 hb).1
  have e : (ints (l.take i)).length = i := by rw [ints_len, List.length_take]; omega
  rw [List.set_append_right _ _ (by omega), e, Nat.sub_self, show n - i = (n - (i + 1)) + 1 by omega, List.replicate_succ, List.set_cons_zero, List.take_add_one, hb]
  simp [ints]
theorem places_any {A : Option Addr} {n c m k : Nat} {key : List UInt8} {w : World} (hr : RdB w A key) (hn : key.length = n) (hl : key.length ≤ 1099511627776) (hm : 0 < m ∧ m ≤ 1048576) (hk : k ≤ 30) :
    CallsV Tryz.prog 50 #[.slice A n c, .int .i64 (m : Int), .int .i64 (k : Int)] w fun v w' => ∃ (B : Option Addr), v = .slice B k k ∧ Ow w' w.heap.size 3 B k k (ints (plsB key m k)) ∧ Below w.heap.size w w' := by
  have hs := St.init w
  have h64 := hash_lt key
  have hlo := lo_lt key
  have hhi := hi_lt key
  refine calls_in (N := _) Tryz.func50 rfl Tryz.ntmps50 rfl ?_; show WC _ _ _ _ _ _
  refine wc_sr ?_; refine wl_as rfl rfl ?_; refine wl_ns ?_; refine wc_sr ?_; refine wl_mv rfl rfl ?_
  refine wl_call ok_bloom_Hash (hash_any hr hn hl) ⟨rfl, trivial⟩ rfl ?_
  rintro _ _ ⟨rfl, rfl⟩
  refine wl_as rfl rfl ?_; refine wl_ns ?_; refine wc_sr ?_; refine wl_mv rfl rfl ?_
  refine wl_bin rfl rfl (bin_and (k := .u64) (b := 4294967295) rfl (by show _ < 2 ^ 64; exact h64) (by decide)) rfl ?_
  refine wl_mv rfl rfl ?_
  refine wl_bin rfl rfl (bin_shr (k := .u64) (y := 32) (by show _ < 2 ^ 64; exact h64)) rfl ?_
  refine wl_bin rfl rfl (bin_or (k := .u64) (b := 1) rfl (by show _ < 2 ^ 64; omega) (by decide)) rfl ?_
  rw [show hashB key &&& 4294967295 = loB key from rfl, show hashB key / 2 ^ 32 ||| 1 = hiB key from rfl]
  refine wl_as rfl rfl ?_; refine wl_as rfl rfl ?_; refine wl_ns ?_; refine wc_sr ?_; refine wl_mv rfl rfl ?_
  refine ws_mk (n := k) (c := k) hs tyPl rfl rfl rfl rfl (Nat.le_refl _) (by omega) (by simp only [maxLen]; omega) rfl ?_
  clear hs; intro B _ hs
  refine wl_as rfl rfl ?_; refine wl_ns ?_; refine wc_seq ?_; refine wc_sr ?_; refine wl_mv rfl rfl ?_; apply wl_val; apply opv_len; exact rfl; exact tyPl.sl; exact rfl; refine wl_mv rfl rfl ?_; refine wl_ns ?_; refine wc_block ?_
  refine wc_loop (fun L wr q => ∃ (i : Nat), L = [(1, .int .i64 (m : Int)), (8, .int .u64 ((loB key : Nat) : Int)), (9, .int .u64 ((hiB key : Nat) : Int)), (10, .slice B k k), (22, .int .i64 (k : Int)), (23, .int .i64 (i : Int))] ∧ i ≤ k ∧ St NoB w wr [.ow 3 B k k (ints ((plsB key m k).take i) ++ List.replicate (k - i) (.int .i64 0))] ∧ q = k - i)
    [(1, .int .i64 (m : Int)), (8, .int .u64 ((loB key : Nat) : Int)), (9, .int .u64 ((hiB key : Nat) : Int)), (10, .slice B k k), (22, .int .i64 (k : Int)), (23, .int .i64 ((0 : Nat) : Int))] k ⟨0, rfl, Nat.zero_le _, by rw [List.take_zero]; exact hs, rfl⟩ ⟨rfl, rfl, rfl, rfl, rfl, rfl, trivial⟩ ?_
  clear hs
  rintro _ w5 q ⟨i, rfl, hi, hs, rfl⟩
  refine wc_sr ?_; refine wl_bin rfl rfl bin_lss rfl ?_; refine wl_ns ?_; refine wc_seq ?_
  refine wc_cond rfl (fun h1 => ?_) (fun h1 => ?_)
  · have hi1 : i < k := by omega
    have hmul : i * hiB key < 2 ^ 40 := by
      have : i * hiB key ≤ 30 * 2 ^ 32 := Nat.mul_le_mul (by omega) (by omega)
      omega
    have hpl : plB key m i < m := pl_lt hm.1
    refine wc_skip ?_; refine we_seq ?_; refine wc_seq ?_; refine wc_block ?_; refine wc_sr ?_; refine wl_mv rfl rfl ?_; refine wl_as rfl rfl ?_; refine wl_ns ?_; refine wc_region ?_; refine wl_mv rfl rfl ?_; refine wl_mv rfl rfl ?_; refine wl_mv rfl rfl ?_; refine wl_mv rfl rfl ?_; apply wl_val; apply opv_convR; exact rfl; exact Tryz.underlying3; exact Tryz.underlying29; exact IntWalk.u64_in _ (by omega); exact rfl; refine wl_mv rfl rfl ?_
    skip
    refine wl_bin rfl rfl (bin_mulU' (k := .u64) rfl (by show _ < 2 ^ 64; omega)) rfl ?_
    refine wl_bin rfl rfl (bin_add.to (congrArg (Value.int .u64) (show IntKind.u64.wrap ((loB key : Int) + ((i * hiB key : Nat) : Int)) = ((loB key + i * hiB key : Nat) : Int) by rw [IntWalk.u64_in _ (by omega)]; omega))) rfl ?_
    refine wl_mv rfl rfl ?_; apply wl_val; apply opv_convR; exact rfl; exact Tryz.underlying3; exact Tryz.underlying29; exact IntWalk.u64_in _ (by omega); exact rfl
    refine wl_bin rfl rfl (bin_rem hm.1) rfl ?_
    rw [show (loB key + i * hiB key) % m = plB key m i from rfl]
    apply wl_val; apply opv_convR; exact rfl; exact Tryz.underlying29; exact Tryz.underlying3; exact IntWalk.i64_in _ (by omega); exact rfl
    refine ws_set hs 0 rfl rfl tyPl rfl rfl hi1 (fun _ => rfl) rfl rfl ?_
    clear hs; intro _ _ hs; dsimp only [setC] at hs
    rw [fill_ints (pls_at key m hi1) (pls_len key m k)] at hs
    refine wl_nil ?_; refine we_block_norm ?_; refine we_seq ?_; refine wc_region ?_; apply wl_val; apply opv_bin; exact rfl; exact rfl; exact bin_add64 (by omega); exact rfl; refine wl_mv rfl rfl ?_; refine wl_nil ?_
    exact we_loop _ (k - (i + 1)) ⟨i + 1, rfl, by omega, hs, rfl⟩ (by omega) ⟨rfl, rfl, rfl, rfl, rfl, by rw [show ((i + 1 : Nat) : Int) = (i : Int) + 1 by omega]; rfl, trivial⟩
  · obtain rfl : i = k := by omega
    rw [List.take_of_length_le (by rw [pls_len]; exact Nat.le_refl _), Nat.sub_self, List.replicate_zero, List.append_nil] at hs
    refine wc_exit ?_; refine we_seq_exit ?_; refine we_loop_exit ?_; refine we_block_exit ?_; refine we_seq ?_; refine wc_sr ?_; refine wl_mv rfl rfl ?_; refine wl_as rfl rfl ?_; refine wl_ns ?_; refine wc_ret ?_
    obtain ⟨T, hc, hT⟩ := hs.get 0 rfl
    refine we_ret1 rfl rfl ⟨_, rfl, B, rfl, ?_, hs.bel⟩
    exact ⟨hc.2.1, hc.2.2.imp id fun ⟨g, cap, cur, hv, _, hrest⟩ => ⟨g, cap, cur, hv, (hT g (by
      injection hv with hA _ _
      exact hc.1 _ hA)).elim (fun k => k.elim) id, hrest⟩⟩
end Go.Proofs.YtdgagffieobiiaaGreatDoor

/-
  Walks over disks: Sync, Cut.
-/
namespace Go.Proofs.YtdgagffieobiiaaGreatDoor
open Go.RowKit

theorem turnD_ok {d : Dk} {e : Nat} (h : (turnD d e).1 = true) : e = 0 := by
  unfold turnD at h
  split at h
  · cases h
  · split at h
    · cases h
    · rename_i h2; omega
theorem thereD_eq {d d2 : Dk} (h : d2.fs = d.fs) (n : List UInt8) : thereD d2 n = thereD d n ∧ fileD d2 n = fileD d n := by unfold thereD fileD; rw [h]; exact ⟨rfl, rfl⟩
theorem sync_any {S : BS} {g : Nat} {d : Dk} {n : List UInt8} {w : World} (h0 : Sat w [.ck (dkC g d)] S) (hok : DkOk d) :
    CallsV Tryz.prog 37 #[.pointer (some ⟨g, 0, none⟩), str n] w fun v w' => v = .int .i64 ((syncD d n).2 : Nat) ∧ St S w w' [.ck (dkC g (syncD d n).1)] := by
  have hs := St.start h0
  have hu := Nat.le_trans hok.used hok.room
  refine calls_in (N := _) Tryz.func37 rfl Tryz.ntmps37 rfl ?_; show WC _ _ _ _ _ _
  refine wc_sr ?_; refine wl_as rfl rfl ?_; refine wl_ns ?_; refine wc_sr ?_; refine wl_mv rfl rfl ?_; refine wl_mv rfl rfl ?_; refine wl_mv rfl rfl ?_
  refine wl_call ok_disk_Disk_there (dthere_any (hs.rdd 0 rfl)) ⟨rfl, rfl, trivial⟩ rfl ?_; rintro _ _ ⟨rfl, hbx⟩; replace hs := hs.below hbx; try dsimp only [List.cons_append, List.nil_append, setC, delC] at hs
  clear hbx
  skip
  obtain ⟨S2, hS2, _, _, _, hB⟩ := St.lend (H1 := [.ck (dkC g d)]) (H2 := []) hs
  refine wl_call ok_disk_Disk_turn (turnC_any hS2 hok) ⟨rfl, rfl, trivial⟩ rfl ?_
  rintro _ w4 ⟨rfl, hsx⟩
  replace hs := hB _ _ hsx
  clear hB hS2 hsx
  have hok2 := hok.turn (thereD d n)
  have hfs2 := (turnD_fs d (thereD d n)).1
  have hto := turnD_ok (d := d) (e := thereD d n)
  obtain ⟨t, ht⟩ : ∃ t, turnD d (thereD d n) = t := ⟨_, rfl⟩
  unfold syncD
  rw [ht] at hs hok2 hfs2 hto ⊢
  obtain ⟨okt, e2, d2⟩ := t
  simp only at hs hok2 hfs2 hto ⊢
  rw [List.append_nil] at hs
  rw [← hfs2] at hu
  refine wl_cutE (fun L w' => L = [(0, .pointer (some ⟨g, 0, none⟩)), (1, str n), (5, .bool okt), (6, .int .i64 (e2 : Nat))] ∧ w' = w4) ?_ ?_
  · refine wl_mv rfl rfl ?_; apply wl_val; apply opv_extract; exact rfl; exact rfl; exact rfl; apply wl_val; apply opv_extract; exact rfl; exact rfl; exact rfl; refine wl_as rfl rfl ?_; refine wl_as rfl rfl ?_; refine wl_nil ?_
    exact we_cut _ ⟨rfl, rfl⟩ ⟨rfl, rfl, rfl, rfl, trivial⟩
  rintro _ _ ⟨rfl, rfl⟩
  refine we_seq ?_; refine wc_seq ?_; refine wc_sr ?_; refine wl_mv rfl rfl ?_; refine wl_ns ?_
  refine wc_cutE (fun L w' => L = [(6, .int .i64 (e2 : Nat))] ∧ St S w w' [.ck (dkC g (if okt = true then putD d2 n ⟨(fileD d2 n).data, (fileD d2 n).data.length⟩ else d2))]) ?_ ?_
  · cases okt with
    | false =>
      apply wc_condFb; exact rfl; exact rfl; refine wc_skip ?_
      exact we_cut _ ⟨rfl, hs⟩ ⟨rfl, trivial⟩
    | true =>
      have hth := hto rfl
      rw [← (thereD_eq hfs2 n).1] at hth
      rw [if_pos rfl]
      have hfl := fileD_le d2 n
      rcases hs.opn with ⟨h1, hs1⟩ | ⟨m, xs, clk, hI, hs1⟩
      · rw [thereD, h1] at hth; cases hth
      · replace hs := hs1
        clear hs1
        rcases mget_split n xs with ⟨_, hf, _⟩ | ⟨X, x, Y, hx, hn, hX, _, hg, hf⟩
        · rw [thereD, ← hI.fs, hf] at hth; cases hth
        · have hfd : fileD d2 n = x.f := by rw [fileD, ← hI.fs, hf]; rfl
          rw [hfd] at hfl ⊢
          have hm := hs.mp 1 rfl
          unfold dkV at hs
          apply wc_condTb; exact rfl; exact rfl; refine wc_sr ?_; refine wl_mv rfl rfl ?_; apply wl_val; apply opv_nilOk; exact rfl; exact rfl; apply wl_val; apply opv_fa; exact fa_sD (by decide); exact rfl; exact rfl; apply wl_val; apply opv_ldX; exact rfl; exact hs.ar 0 rfl; exact d1_map; exact rfl; exact rfl; refine wl_mv rfl rfl ?_; apply wl_val; apply lk1_some; exact rfl; exact rfl; assumption; assumption; exact rfl
          refine ws_var (cs := flV x.f x.A x.c) hs zeroF sF rfl (fun _ => rfl) (by first | rfl | simp [Value.oneCell']) rfl ?_; clear hs; intro g7 _ hs
          clear hm
          unfold flV at hs
          refine wl_ns ?_; refine wc_sr ?_; apply wl_val; apply opv_fa; exact fa_sF (by decide); exact rfl; exact rfl; apply wl_val; apply opv_ldX; exact rfl; exact hs.ar 0 rfl; exact d1_by; exact rfl; exact rfl; apply wl_val; apply opv_len; exact rfl; exact tyB.sl; exact rfl; apply wl_val; apply opv_fa; exact fa_sF (by decide); exact rfl; exact rfl; apply ws_st hs 0; exact rfl; exact rfl; exact d1_int; exact rfl; exact rfl; exact rfl; clear hs; intro _ hs; dsimp only [setC, List.set] at hs; refine wl_ns ?_; refine wc_region ?_; refine wl_mv rfl rfl ?_; refine wl_mv rfl rfl ?_; apply wl_val; apply opv_loadX; exact rfl; exact hs.ar 0 rfl; exact sF; exact rfl
          replace hs := ((hs.front 3 rfl).front 3 rfl).front 3 rfl
          dsimp only [delC] at hs
          subst hx
          obtain ⟨S2, hS2, _, _, _, hB⟩ := St.lend (H1 := [.blk g 75 (dkV d2 (some m)), .ck (mpC m ((X ++ x :: Y).map FE.me) clk), .ck (flC (X ++ x :: Y))]) (H2 := [_]) hs
          refine wl_call ok_disk_Disk_put (putS_any (s := x.f.data.length) hS2 hI hn hX) ⟨rfl, rfl, rfl, trivial⟩ rfl ?_
          rintro _ _ ⟨rfl, hsx⟩
          replace hs := (hB _ _ hsx).drop 1 rfl
          refine wl_nil ?_
          exact we_cut _ ⟨rfl, hs⟩ ⟨rfl, trivial⟩
  · rintro _ _ ⟨rfl, hs⟩
    refine we_seq ?_; refine wc_sr ?_; refine wl_mv rfl rfl ?_; refine wl_as rfl rfl ?_; refine wl_ns ?_; refine wc_ret ?_
    exact we_ret1 rfl rfl ⟨_, rfl, rfl, hs⟩
theorem RdB.cut' {w : World} {A : Option Addr} {c : Nat} {xs : List UInt8} (h : RdB w A xs) {j : Nat} (hj : j ≤ xs.length) (hc : xs.length ≤ c) : RdB w (cutA A c 0) (xs.take j) := by
  have := Rd.cut (l := 0) (h := j) (c := c) h (Nat.zero_le _) hj hc
  rw [bvs_cut, List.drop_zero, Nat.sub_zero] at this
  unfold RdB
  rw [List.length_take, Nat.min_eq_left hj]
  exact this
end Go.Proofs.YtdgagffieobiiaaGreatDoor

/-
  Contracts of Go's library that the kit's shelf holds, as its tools laid them at this seat: slices.Sorted(maps.Keys(m)) for the map of a disk's files.
-/
namespace Go.Proofs
open Go.Shelf
def Tryz.keys52_ren : Go.Shelf.Ren := ⟨fun | 7 => 73 | 10 => 97 | n => n, fun | 23 => 73 | 26 => 9 | 3 => 88 | 28 => 116 | 0 => 0 | 27 => 115 | 33 => 96 | 4 => 4 | n => n, fun | n => n⟩
theorem Tryz.keys52 : Go.Proofs.SlLaysZ.n7 Tryz.prog Tryz.keys52_ren := {
  mixed := by kernel_rfl
  f7 := ⟨Tryz.f73.name, by decide, Tryz.func73.trans (congrArg some (by kernel_rfl))⟩
  f10 := ⟨Tryz.f97.name, by decide, Tryz.func97.trans (congrArg some (by kernel_rfl))⟩
  t0 := Tryz.underlying0
  a0 := Tryz.isAgg0
  z0 := Tryz.sizeOf0
  v0 := Tryz.zeroValue0
  t4 := Tryz.underlying4
  a4 := Tryz.isAgg4
  z4 := Tryz.sizeOf4
  v4 := Tryz.zeroValue4
  t23 := Tryz.underlying73
  a23 := Tryz.isAgg73
  z23 := Tryz.sizeOf73
  v23 := Tryz.zeroValue73
  t26 := Tryz.underlying9
  a26 := Tryz.isAgg9
  z26 := Tryz.sizeOf9
  v26 := Tryz.zeroValue9
  t27 := Tryz.underlying115
  a27 := Tryz.isAgg115
  z27 := Tryz.sizeOf115
  v27 := Tryz.zeroValue115
  t28 := Tryz.underlying116
  a28 := Tryz.isAgg116
  z28 := Tryz.sizeOf116
  v28 := Tryz.zeroValue116
  t33 := Tryz.underlying96
  a33 := Tryz.isAgg96
  z33 := Tryz.sizeOf96
  v33 := Tryz.zeroValue96 }
def Tryz.sorted51_ren : Go.Shelf.Ren := ⟨fun | 6 => 72 | 8 => 95 | 9 => 96 | 11 => 107 | 13 => 109 | 12 => 108 | 23 => 124 | 24 => 125 | 14 => 115 | 15 => 116 | 16 => 117 | 17 => 118 | 18 => 119 | 19 => 120 | 20 => 121 | 21 => 122 | 22 => 123 | 25 => 127 | 26 => 128 | 27 => 129 | 28 => 130 | 29 => 131 | 30 => 132 | 31 => 133 | n => n, fun | 26 => 9 | 28 => 116 | 24 => 50 | 0 => 0 | 3 => 3 | 37 => 126 | 48 => 135 | 50 => 29 | 4 => 4 | 40 => 163 | 39 => 162 | 45 => 167 | 5 => 5 | 9 => 9 | 51 => 169 | 55 => 172 | 57 => 174 | 58 => 175 | 33 => 96 | n => n, fun | n => n⟩
theorem Tryz.sorted51 : Go.Proofs.SlLaysZ.n6 Tryz.prog Tryz.sorted51_ren := {
  mixed := by kernel_rfl
  f6 := ⟨Tryz.f72.name, by decide, Tryz.func72.trans (congrArg some (by kernel_rfl))⟩
  f8 := ⟨Tryz.f95.name, by decide, Tryz.func95.trans (congrArg some (by kernel_rfl))⟩
  f11 := ⟨Tryz.f107.name, by decide, Tryz.func107.trans (congrArg some (by kernel_rfl))⟩
  t0 := Tryz.underlying0
  a0 := Tryz.isAgg0
  z0 := Tryz.sizeOf0
  v0 := Tryz.zeroValue0
  t24 := Tryz.underlying50
  a24 := Tryz.isAgg50
  z24 := Tryz.sizeOf50
  v24 := Tryz.zeroValue50
  t26 := Tryz.underlying9
  a26 := Tryz.isAgg9
  z26 := Tryz.sizeOf9
  v26 := Tryz.zeroValue9
  t28 := Tryz.underlying116
  a28 := Tryz.isAgg116
  z28 := Tryz.sizeOf116
  v28 := Tryz.zeroValue116
  i26 := by kernel_rfl }
def Tryz.sort63_ren : Go.Shelf.Ren := ⟨fun | 6 => 96 | 8 => 109 | 9 => 108 | 19 => 124 | 20 => 125 | 21 => 115 | 22 => 116 | 23 => 117 | 24 => 118 | 25 => 119 | 26 => 120 | 27 => 121 | 28 => 122 | 29 => 123 | 36 => 127 | 31 => 128 | 32 => 129 | 37 => 130 | 38 => 131 | 39 => 132 | 41 => 133 | n => n, fun | 27 => 50 | 29 => 9 | 3 => 3 | 32 => 126 | 26 => 50 | 0 => 0 | 44 => 135 | 46 => 29 | 4 => 4 | 36 => 163 | 35 => 162 | 41 => 167 | 5 => 5 | 9 => 9 | 53 => 169 | 57 => 172 | 63 => 174 | 64 => 175 | n => n, fun | n => n⟩
theorem Tryz.sort63 : Go.Proofs.SlLaysM.n6 Tryz.prog Tryz.sort63_ren := {
  mixed := by kernel_rfl
  f6 := ⟨Tryz.f96.name, by decide, Tryz.func96.trans (congrArg some (by kernel_rfl))⟩
  f8 := Tryz.func109.trans (congrArg some (by kernel_rfl))
  f9 := ⟨Tryz.f108.name, by decide, Tryz.func108.trans (congrArg some (by kernel_rfl))⟩
  f19 := Tryz.func124.trans (congrArg some (by kernel_rfl))
  f20 := Tryz.func125.trans (congrArg some (by kernel_rfl))
  f21 := ⟨Tryz.f115.name, by decide, Tryz.func115.trans (congrArg some (by kernel_rfl))⟩
  f22 := ⟨Tryz.f116.name, by decide, Tryz.func116.trans (congrArg some (by kernel_rfl))⟩
  f23 := ⟨Tryz.f117.name, by decide, Tryz.func117.trans (congrArg some (by kernel_rfl))⟩
  f24 := ⟨Tryz.f118.name, by decide, Tryz.func118.trans (congrArg some (by kernel_rfl))⟩
  f25 := ⟨Tryz.f119.name, by decide, Tryz.func119.trans (congrArg some (by kernel_rfl))⟩
  f26 := ⟨Tryz.f120.name, by decide, Tryz.func120.trans (congrArg some (by kernel_rfl))⟩
  f27 := ⟨Tryz.f121.name, by decide, Tryz.func121.trans (congrArg some (by kernel_rfl))⟩
  f28 := ⟨Tryz.f122.name, by decide, Tryz.func122.trans (congrArg some (by kernel_rfl))⟩
  f29 := ⟨Tryz.f123.name, by decide, Tryz.func123.trans (congrArg some (by kernel_rfl))⟩
  f31 := Tryz.func128.trans (congrArg some (by kernel_rfl))
  f32 := Tryz.func129.trans (congrArg some (by kernel_rfl))
  f36 := ⟨Tryz.f127.name, by decide, Tryz.func127.trans (congrArg some (by kernel_rfl))⟩
  f37 := ⟨Tryz.f130.name, by decide, Tryz.func130.trans (congrArg some (by kernel_rfl))⟩
  f38 := ⟨Tryz.f131.name, by decide, Tryz.func131.trans (congrArg some (by kernel_rfl))⟩
  f39 := ⟨Tryz.f132.name, by decide, Tryz.func132.trans (congrArg some (by kernel_rfl))⟩
  f41 := ⟨Tryz.f133.name, by decide, Tryz.func133.trans (congrArg some (by kernel_rfl))⟩
  t0 := Tryz.underlying0
  a0 := Tryz.isAgg0
  z0 := Tryz.sizeOf0
  v0 := Tryz.zeroValue0
  t3 := Tryz.underlying3
  a3 := Tryz.isAgg3
  z3 := Tryz.sizeOf3
  v3 := Tryz.zeroValue3
  t4 := Tryz.underlying4
  a4 := Tryz.isAgg4
  z4 := Tryz.sizeOf4
  v4 := Tryz.zeroValue4
  t5 := Tryz.underlying5
  a5 := Tryz.isAgg5
  z5 := Tryz.sizeOf5
  v5 := Tryz.zeroValue5
  t9 := Tryz.underlying9
  a9 := Tryz.isAgg9
  z9 := Tryz.sizeOf9
  v9 := Tryz.zeroValue9
  t26 := Tryz.underlying50
  a26 := Tryz.isAgg50
  z26 := Tryz.sizeOf50
  v26 := Tryz.zeroValue50
  t27 := Tryz.underlying50
  a27 := Tryz.isAgg50
  z27 := Tryz.sizeOf50
  v27 := Tryz.zeroValue50
  t29 := Tryz.underlying9
  a29 := Tryz.isAgg9
  z29 := Tryz.sizeOf9
  v29 := Tryz.zeroValue9
  t32 := Tryz.underlying126
  a32 := Tryz.isAgg126
  z32 := Tryz.sizeOf126
  v32 := Tryz.zeroValue126
  t35 := Tryz.underlying162
  a35 := Tryz.isAgg162
  z35 := Tryz.sizeOf162
  v35 := Tryz.zeroValue162
  t36 := Tryz.underlying163
  a36 := Tryz.isAgg163
  z36 := Tryz.sizeOf163
  v36 := Tryz.zeroValue163
  t41 := Tryz.underlying167
  a41 := Tryz.isAgg167
  z41 := Tryz.sizeOf167
  v41 := Tryz.zeroValue167
  t44 := Tryz.underlying135
  a44 := Tryz.isAgg135
  z44 := Tryz.sizeOf135
  v44 := Tryz.zeroValue135
  t46 := Tryz.underlying29
  a46 := Tryz.isAgg29
  z46 := Tryz.sizeOf29
  v46 := Tryz.zeroValue29
  t53 := Tryz.underlying169
  a53 := Tryz.isAgg169
  z53 := Tryz.sizeOf169
  v53 := Tryz.zeroValue169
  t57 := Tryz.underlying172
  a57 := Tryz.isAgg172
  z57 := Tryz.sizeOf172
  v57 := Tryz.zeroValue172
  t63 := Tryz.underlying174
  a63 := Tryz.isAgg174
  z63 := Tryz.sizeOf174
  v63 := Tryz.zeroValue174
  t64 := Tryz.underlying175
  a64 := Tryz.isAgg175
  z64 := Tryz.sizeOf175
  v64 := Tryz.zeroValue175 }
open Go.RowKit Go.Maps Go.Sort Go.Shelf in
theorem Tryz.sorts51 (m : Nat) : AnyZ.SortsIn Tryz.prog Tryz.sorted51_ren Fence.wide m :=
  ⟨fun blk off cap ss W hH hblk hsz => callsIn_wide.2 (AnyM.slices_Sort_string Tryz.sort63 blk off cap ss W hH hblk hsz),
   fun p cap W => callsIn_wide.2 (AnyM.slices_Sort_string_none Tryz.sort63 p cap W)⟩
open Go.RowKit Go.Maps Go.Sort Go.Shelf in
theorem Tryz.maps_Keys_73 (mb : Option Nat) (W : World) : CallsIn Fence.wide 5 Tryz.prog 73 #[.map mb] W fun e w' => e = .returned (.func (.func 97) #[] #[.pointer (some ⟨W.heap.size, 0, none⟩)]) ∧ w' = W.alloc (.cells #[.map mb] 73) :=
  AnyZ.keys_in Tryz.keys52 Fence.wide 5 trivial rfl mb W
open Go.RowKit Go.Maps Go.Sort Go.Shelf in
theorem Tryz.slices_Sorted_keys_72_73 {H : Type} (b nn : Nat) (D0 : DataW H) (R : Value → Option (DataW H × List MemPlace)) (w : World) (hown : w.ownsMap Tryz.prog 9 R b nn D0) (hmax : Maps.size D0 ≤ maxLen) (hbytes : Maps.size D0 * 16 ≤ 140737488355328) :
    CallsIn Fence.wide 5 Tryz.prog 72 #[.func (.func 97) #[] #[.pointer (some ⟨w.heap.size, 0, none⟩)]] (w.alloc (.cells #[.map (some b)] 73)) fun e w' => ∃ (v : Value) (ss : List (List UInt8)), e = .returned v ∧ ss.Perm (strKeys D0) ∧
      w'.ownsRow (w.alloc (.cells #[.map (some b)] 73)).heap.size 9 1 v ss.length ((ss.mergeSort (fun x y => decide (x ≤ y))).map encStr) ∧ (v = .slice none 0 0 ↔ ss = []) ∧ Below (w.alloc (.cells #[.map (some b)] 73)).heap.size (w.alloc (.cells #[.map (some b)] 73)) w' := by
  have hbl := hown.lt
  have hseq : SeqGives Fence.wide 2 Tryz.prog 97 #[.pointer (some ⟨w.heap.size, 0, none⟩)] encStr (fun ss => ss.Perm (strKeys D0)) (Maps.size D0) (w.alloc (.cells #[.map (some b)] 73)) :=
    AnyZ.keys_gives (ρ := Tryz.keys52_ren) { Tryz.keys52 with } Fence.wide _ trivial rfl (by omega) w.heap.size b nn D0 _ (by simp) (by simp) (by
      obtain ⟨es, clock, hb, Ft, hs, hD⟩ := hown
      exact ⟨es, clock, (Below.heap_alloc _ _ b hbl).trans hb, Ft, hs, hD⟩)
  exact AnyZ.sorted_in Tryz.sorted51 Fence.wide 5 trivial trivial trivial trivial rfl (by omega) (Tryz.sorts51 _) (enters_of Tryz.func96 (by kernel_rfl) rfl) 97 #[.pointer (some ⟨w.heap.size, 0, none⟩)] trivial (enters_of Tryz.func97 (by kernel_rfl) rfl) _ _ hmax hbytes _ hseq
open Go.RowKit Go.Maps Go.Sort Go.Shelf in
theorem Tryz.slices_Sorted_keys_nil_72_73 (w : World) :
    CallsIn Fence.wide 5 Tryz.prog 72 #[.func (.func 97) #[] #[.pointer (some ⟨w.heap.size, 0, none⟩)]] (w.alloc (.cells #[.map none] 73)) fun e w' => ∃ (v : Value) (ss : List (List UInt8)), e = .returned v ∧ ss = [] ∧
      w'.ownsRow (w.alloc (.cells #[.map none] 73)).heap.size 9 1 v ss.length ((ss.mergeSort (fun x y => decide (x ≤ y))).map encStr) ∧ (v = .slice none 0 0 ↔ ss = []) ∧ Below (w.alloc (.cells #[.map none] 73)).heap.size (w.alloc (.cells #[.map none] 73)) w' := by
  have hseq : SeqGives Fence.wide 2 Tryz.prog 97 #[.pointer (some ⟨w.heap.size, 0, none⟩)] encStr (fun ss : List (List UInt8) => ss = []) 0 (w.alloc (.cells #[.map none] 73)) :=
    AnyZ.keys_gives_nil (ρ := Tryz.keys52_ren) { Tryz.keys52 with } Fence.wide _ trivial rfl w.heap.size _ (by simp) (by simp)
  exact AnyZ.sorted_in Tryz.sorted51 Fence.wide 5 trivial trivial trivial trivial rfl (by omega) (Tryz.sorts51 _) (enters_of Tryz.func96 (by kernel_rfl) rfl) 97 #[.pointer (some ⟨w.heap.size, 0, none⟩)] trivial (enters_of Tryz.func97 (by kernel_rfl) rfl) _ 0 (Nat.zero_le _) (by omega) _ hseq
end Go.Proofs

/-
  Walks over disks: the names.
-/
namespace Go.Proofs.YtdgagffieobiiaaGreatDoor
open Go.RowKit Go.Maps Go.Sort Go.Shelf

def sortN (fs : Fs) : List (List UInt8) := (fs.map (·.1)).mergeSort (fun x y => decide (x ≤ y))
theorem okKeys : CallOk Tryz.prog 73 := callOk Tryz.func73 (by kernel_rfl) rfl
theorem okSorted : CallOk Tryz.prog 72 := callOk Tryz.func72 (by kernel_rfl) rfl
theorem key_str {k : List UInt8} (h : k.length ≤ maxLen) : keyOf Tryz.prog 9 (str k) = some (.string k) := by
  have h' : (ByteArray.mk k.toArray).size ≤ maxLen := h
  simp [keyOf, tyStrD, mapKey, str, h']
/-- The map as the shelf reads it. -/
theorem dk_owns {w : World} {m clk : Nat} {xs : List FE} {fs : Fs} (hm : Mp w m (xs.map FE.me) clk) (hI : DkI fs xs clk) (hn : ∀ p ∈ fs, p.1.length ≤ maxLen) (hl : fs.length ≤ maxLen) :
    ∃ D0 : DataW Unit, w.ownsMap Tryz.prog 9 (fun _ => some (.nil, [])) m fs.length D0 ∧ Maps.size D0 = fs.length ∧ (strKeys D0).Perm (fs.map (·.1)) := by
  have hle : xs.length = fs.length := by rw [← hI.fs, List.length_map]
  have hrd : ∀ x ∈ xs, WideElems.rd (H := Unit) Tryz.prog 9 (fun _ => some (.nil, [])) (toE x.me) = some (.string x.nm, .nil) := by
    intro x hx
    have hk := key_str (k := x.nm) (hn (x.nm, x.f) (by rw [← hI.fs]; exact List.mem_map.2 ⟨x, hx, rfl⟩))
    unfold WideElems.rd
    rw [show (toE x.me).key = str x.nm from rfl, hk]; rfl
  have hrg : ((xs.map FE.me).map toE).map (WideElems.rg (H := Unit) Tryz.prog 9 (fun _ => some (.nil, []))) = xs.map fun x => (Lit.string x.nm, DataW.nil) := by
    rw [List.map_map, List.map_map]
    refine List.map_congr_left fun x hx => ?_
    have h1 := hrd x hx
    simp only [Function.comp_apply, WideElems.rg, h1, Option.getD_some]
  refine ⟨.map ((xs.map fun x => (Lit.string x.nm, DataW.nil)).foldr DataW.insert []), ⟨((xs.map FE.me).map toE).toArray, clk, hm, ⟨?_, ⟨?_, ?_, ?_⟩, ?_⟩, ?_, ?_⟩, ?_, ?_⟩
  · simp; omega
  · intro x hx
    simp only [List.map_map] at hx
    obtain ⟨y, hy, rfl⟩ := List.mem_map.1 hx
    exact hI.old y hy
  · have := hI.bn; simpa [List.map_map, Function.comp_def, toE, FE.me] using this
  · have h1 := hI.nd
    have : (((xs.map FE.me).map toE).toArray.toList.map (·.key)) = (xs.map (·.nm)).map str := by simp [List.map_map, Function.comp_def, toE, FE.me]
    rw [this]
    refine List.pairwise_map.2 (h1.imp fun {a b} hne e => hne ?_)
    simpa [str] using e
  · intro x hx
    simp only [List.map_map] at hx
    obtain ⟨y, hy, rfl⟩ := List.mem_map.1 hx
    exact ⟨_, hrd y hy⟩
  · simp; omega
  · rw [← hrg]
  · show List.length _ = _
    rw [(WideShapes.sorted_perm _).length_eq, List.length_map, hle]
  · show (List.map (fun p : Lit × DataW Unit => strOf p.1) _).Perm _
    refine ((WideShapes.sorted_perm _).map _).trans ?_
    rw [List.map_map, ← hI.fs, List.map_map]
    exact List.Perm.refl _
theorem keysC (m : Option Nat) (w : World) : CallsV Tryz.prog 73 #[.map m] w fun v w' => v = .func (.func 97) #[] #[.pointer (some ⟨w.heap.size, 0, none⟩)] ∧ w' = w.alloc (.cells #[.map m] 73) :=
  ((callsIn_wide (n := 5)).1 (Tryz.maps_Keys_73 m w)).mono fun e w' h => ⟨_, h.1, rfl, h.2⟩
theorem sortedC {w : World} {m n : Nat} {D0 : DataW Unit} {ns : List (List UInt8)} (ho : w.ownsMap Tryz.prog 9 (fun _ => some (.nil, [])) m n D0) (hs : Maps.size D0 ≤ 1048576) (hp : (strKeys D0).Perm ns) :
    CallsV Tryz.prog 72 #[.func (.func 97) #[] #[.pointer (some ⟨w.heap.size, 0, none⟩)]] (w.alloc (.cells #[.map (some m)] 73)) fun v w' => ∃ (A : Option Addr) (c : Nat), v = .slice A ns.length c ∧ Ow w' w.heap.size 9 A ns.length c ((ns.mergeSort (fun x y => decide (x ≤ y))).map str) ∧ Below w.heap.size w w' :=
  ((callsIn_wide (n := 5)).1 (Tryz.slices_Sorted_keys_72_73 m n D0 _ w ho (by simp only [maxLen]; omega) (by omega))).mono fun e w' ⟨v, ss, he, hss, hrow, _, hb⟩ => by
    have hpn := hss.trans hp
    have hlen := hpn.length_eq
    have hms : ss.mergeSort (fun x y => decide (x ≤ y)) = ns.mergeSort (fun x y => decide (x ≤ y)) := mergeSort_of_perm hpn
    rw [hlen, hms] at hrow
    have hbb : Below w.heap.size w w' := ((Below.refl _ w).alloc (Nat.le_refl _) _).trans (hb.mono (by simp))
    obtain ⟨A, c, hv⟩ : ∃ (A : Option Addr) (c : Nat), v = .slice A ns.length c := by
      rcases hrow.2 with ⟨hv, hn⟩ | ⟨g, cap, cur, hv, _⟩
      · exact ⟨none, 0, by rw [hv, hn]⟩
      · exact ⟨_, _, hv⟩
    subst hv
    exact ⟨_, he, A, c, rfl, Ow.mono (base := (w.alloc (.cells #[.map (some m)] 73)).heap.size) hrow (by simp), hbb⟩
theorem sortedN (w : World) :
    CallsV Tryz.prog 72 #[.func (.func 97) #[] #[.pointer (some ⟨w.heap.size, 0, none⟩)]] (w.alloc (.cells #[.map none] 73)) fun v w' => v = .slice none 0 0 ∧ Below w.heap.size w w' :=
  ((callsIn_wide (n := 5)).1 (Tryz.slices_Sorted_keys_nil_72_73 w)).mono fun e w' ⟨v, ss, he, hss, hrow, hv, hb⟩ => ⟨v, he, hv.2 hss, ((Below.refl _ w).alloc (Nat.le_refl _) _).trans (hb.mono (by simp))⟩
theorem names_any {g : Nat} {d : Dk} {w : World} (h : RdD w g d) (hn : ∀ p ∈ d.fs, p.1.length ≤ maxLen) (hl : d.fs.length ≤ 1048576) : CallsV Tryz.prog 42 #[.pointer (some ⟨g, 0, none⟩)] w fun v w' =>
    ∃ (A : Option Addr) (c : Nat), v = .slice A d.fs.length c ∧ Ow w' w.heap.size 9 A d.fs.length c ((sortN d.fs).map str) ∧ Below w.heap.size w w' := by
  have hb := Below.refl w.heap.size w
  have hmax : maxLen = 9223372036854775807 := rfl
  refine calls_in (N := _) Tryz.func42 rfl Tryz.ntmps42 rfl ?_; show WC _ _ _ _ _ _
  rcases h with ⟨h1, a1⟩ | ⟨m, xs, clk, hI, a1, hm, hrd⟩
  · rw [h1]
    unfold dkV at a1
    refine wc_sr ?_; refine wl_as rfl rfl ?_; refine wl_ns ?_; refine wc_sr ?_; refine wl_mv rfl rfl ?_; apply wl_val; apply opv_nilOk; exact rfl; exact rfl; apply wl_val; apply opv_fa; exact fa_sD (by decide); exact rfl; exact rfl; apply wl_val; apply opv_ldX; exact rfl; assumption; exact d1_map; exact rfl; exact rfl
    refine wl_call (vs := [.map none]) okKeys (keysC none w) ⟨rfl, trivial⟩ rfl ?_
    rintro _ _ ⟨rfl, rfl⟩
    skip
    refine wl_call okSorted (sortedN w) ⟨rfl, trivial⟩ rfl ?_
    rintro _ _ ⟨rfl, hbx⟩
    refine wl_as rfl rfl ?_; refine wl_ns ?_; refine wc_ret ?_
    exact we_ret1 rfl rfl ⟨_, rfl, none, 0, rfl, by rw [show sortN [] = [] by simp [sortN]]; exact Ow.nil _ _ _, hbx⟩
  · obtain ⟨D0, ho, hsz, hp⟩ := dk_owns hm hI hn (by omega)
    unfold dkV at a1
    refine wc_sr ?_; refine wl_as rfl rfl ?_; refine wl_ns ?_; refine wc_sr ?_; refine wl_mv rfl rfl ?_; apply wl_val; apply opv_nilOk; exact rfl; exact rfl; apply wl_val; apply opv_fa; exact fa_sD (by decide); exact rfl; exact rfl; apply wl_val; apply opv_ldX; exact rfl; assumption; exact d1_map; exact rfl; exact rfl
    refine wl_call (vs := [.map (some m)]) okKeys (keysC (some m) w) ⟨rfl, trivial⟩ rfl ?_
    rintro _ _ ⟨rfl, rfl⟩
    skip
    refine wl_call okSorted (sortedC (n := d.fs.length) ho (by omega) hp) ⟨rfl, trivial⟩ rfl ?_
    rintro _ _ ⟨A, c, rfl, ho2, hbx⟩
    rw [List.length_map] at ho2 ⊢
    refine wl_as rfl rfl ?_; refine wl_ns ?_; refine wc_ret ?_
    exact we_ret1 rfl rfl ⟨_, rfl, A, c, rfl, ho2, hbx⟩
end Go.Proofs.YtdgagffieobiiaaGreatDoor
