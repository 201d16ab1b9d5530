/-
  The texts of this proof, joined: Ml, Mm, Zd, Jq, Mn, Mo.
-/
import Derived.Test.YtpnckagibkdcpaaDoorChkM3
import Derived.Test.YtpnckagibkdcpaaDoorChkM2
import Derived.Test.YtpnckagibkdcpaaDoorChkM1
import Derived.Test.YtpnckagibkdcpaaDoorRows
import Derived.Lib.LaidU8
import Derived.Lib.LaidIn
import Derived.Deep.DeepHandedRow
import Derived.Deep.DeepWitnessRowRef
import Derived.SevenTiedAt

/-
  Walk over Range of a table.
-/
namespace Go.Proofs.YtpnckagibkdcpaaDoor
open Go.RowKit

/-- Is a key ahead of the end? -/
def befE (to : List UInt8) (x : En) : Bool := decide (to.length = 0 ∨ cmpB x.key to < 0)
def rgN (to : List UInt8) (post : List Nd) : List En := (post.map (·.a.x)).takeWhile (befE to)
set_option maxRecDepth 8000 in
set_option maxHeartbeats 2000000 in
theorem trange0_any {S : BS} {t kn e tn te : Nat} {r0 : Option Nat} {ns pre post : List Nd} {sz : Int} {K T : Option Addr} {key to : List UInt8} {w : World} (h0 : Sat w (tabP t r0 ns sz) S) (hn : r0 = none → ns = []) (hns : ns = pre ++ post) (hpre : ∀ n ∈ pre, cmpE n.a.x key 18446744073709551615 < 0) (hpost : ∀ n ∈ post, ¬ cmpE n.a.x key 18446744073709551615 < 0)
    (hh : ∀ n ∈ ns, 1 ≤ n.h) (hkn : key.length = kn) (hkey : ∀ w', Mod S w w' → RdB w' K key) (htn : to.length = tn) (hto : ∀ w', Mod S w w' → RdB w' T to) (hok : ∀ n ∈ ns, n.a.x.key.length ≤ 140737488355328 ∧ n.a.x.val.length ≤ 140737488355328) (hlen : ns.length ≤ 1099511627776) :
    CallsV Tryd.prog 15 #[pN t, .slice K kn e, .slice T tn te] w fun v w' => ∃ r R c, v = .slice R (rgN to post).length c ∧ St S w w' (.ck (rsC 4 39 R c ((rgN to post).map oE)) :: tabP t (some r) ns sz) := by
  have hs := St.start h0
  unfold pN
  refine calls_in (N := _) Tryd.func15 rfl Tryd.ntmps15 rfl ?_; show WC _ _ _ _ _ _
  refine wc_sr ?_; refine wl_as rfl rfl ?_; refine wl_ns ?_; refine wc_sr ?_; refine wl_as rfl rfl ?_; refine wl_ns ?_; refine wc_seq ?_; refine wc_sr ?_; refine wl_mv rfl rfl ?_; refine wl_mv rfl rfl ?_
  obtain ⟨S2, hS2, _, hM, _, hB⟩ := St.lend (H1 := tabP t r0 ns sz) (H2 := []) (by rw [List.append_nil]; exact hs)
  refine wl_call ok_mem_Table_seek (seek_any (seq := 18446744073709551615) hS2 hn hns hpre hpost hh hkn fun w' hm => hkey w' (hM w' hm)) ⟨rfl, rfl, rfl, trivial⟩ rfl ?_
  rintro _ w2 ⟨r, rfl, hsx⟩
  replace hs := hB _ _ hsx
  rw [List.append_nil] at hs
  clear hB hsx hS2 hM
  simp only [tabP, tabQ] at hs
  replace hs := hs.nilS 4 39
  refine wl_as rfl rfl ?_; refine wl_ns ?_; refine wc_block ?_
  refine wc_loop (fun L wr mm => ∃ (d rest : List Nd) (R : Option Addr) (c : Nat), L = [(2, .slice T tn te), (7, .slice R d.length c), (8, fstN rest)] ∧ post = d ++ rest ∧ (∀ n ∈ d, befE to n.a.x = true) ∧ St S w wr [.ck (rsC 4 39 R c ((d.map (·.a.x)).map oE)), .blk t 72 (tbV (hdS (some r)) ns.length sz), .ck (packC (hdP (some r) ns)), .ck (packC (nodP ns))] ∧ mm = rest.length)
    [(2, .slice T tn te), (7, .slice none 0 0), (8, fstN post)] post.length ⟨[], post, none, 0, rfl, rfl, by simp, hs, rfl⟩ ⟨rfl, rfl, rfl, trivial⟩ ?_
  clear hs
  rintro _ w4 mm ⟨d, rest, R, c, rfl, hd, hbef, hs, rfl⟩
  cases rest with
  | nil =>
    unfold fstN
    have hz : rgN to post = d.map (·.a.x) := by
      rw [rgN, hd, List.map_append, List.takeWhile_append_of_pos (fun x hx => by obtain ⟨n, hn, rfl⟩ := List.mem_map.1 hx; exact hbef n hn)]; simp
    rw [hz]
    refine wc_seq ?_; refine wc_sr ?_; refine wl_mv rfl rfl ?_; apply wl_val; apply opv_bin; exact rfl; exact rfl; exact bin_neqNilNil tyPN; exact rfl; refine wl_mv rfl rfl ?_; apply wl_skip; exact rfl; exact rfl; exact rfl; exact bR2; exact rfl; apply wl_skip; exact rfl; exact rfl; exact rfl; exact bR2; exact rfl; apply wl_skip; exact rfl; exact rfl; exact rfl; exact bR2; exact rfl; apply wl_skip; exact rfl; exact rfl; exact rfl; exact bR2; exact rfl; apply wl_skipU; exact rfl; exact rfl; exact rfl; exact rfl; apply wl_skipU; exact rfl; exact rfl; exact rfl; exact rfl; apply wl_skipU; exact rfl; exact rfl; exact rfl; exact rfl; apply wl_skipU; exact rfl; exact rfl; exact rfl; exact rfl; apply wl_skipU; exact rfl; exact rfl; exact rfl; exact rfl; apply wl_skipU; exact rfl; exact rfl; exact rfl; exact rfl; apply wl_skipU; exact rfl; exact rfl; exact rfl; exact rfl; apply wl_skipU; exact rfl; exact rfl; exact rfl; exact rfl; apply wl_skip; exact rfl; exact rfl; exact rfl; exact bR2; exact rfl; apply wl_val; apply opv_pickF; exact rfl; exact rfl; exact rfl; exact rfl; refine wl_ns ?_; apply wc_condFb; exact rfl; exact rfl; refine wc_exit ?_; refine we_seq_exit ?_; refine we_loop_exit ?_; refine we_block_exit ?_; refine we_seq ?_; refine wc_sr ?_; refine wl_mv rfl rfl ?_; refine wl_as rfl rfl ?_; refine wl_ns ?_; refine wc_ret ?_
    exact we_ret1 rfl rfl ⟨_, rfl, r, R, c, by rw [List.length_map], hs⟩
  | cons n rest =>
    have hns2 : ns = (pre ++ d) ++ n :: rest := by rw [hns, hd, List.append_assoc]
    have hdl : d.length < ns.length := by rw [hns2]; simp; omega
    unfold fstN pN
    obtain ⟨j1, _⟩ := node_wi hs 3 rfl hns2
    obtain ⟨_, _, rn, rn2⟩ := node_read hs 3 rfl hns2
    unfold eaV at j1
    have hstop : befE to n.a.x = false → rgN to post = d.map (·.a.x) := fun hb => by
      rw [rgN, hd, List.map_append, List.takeWhile_append_of_pos (fun x hx => by obtain ⟨n, hn, rfl⟩ := List.mem_map.1 hx; exact hbef n hn), List.map_cons, List.takeWhile_cons, hb]; simp
    by_cases h1 : to.length = 0
    · have hb : befE to n.a.x = true := decide_eq_true (.inl h1)
      have h1' : (tn : Int) = 0 := by omega
      refine wc_seq ?_; refine wc_sr ?_; refine wl_mv rfl rfl ?_; apply wl_val; apply opv_bin; exact rfl; exact rfl; exact bin_neqPtrNil tyPN; exact rfl; refine wl_mv rfl rfl ?_; apply wl_take; exact rfl; exact rfl; exact rfl; exact rfl; refine wl_mv rfl rfl ?_; apply wl_take; exact rfl; exact rfl; exact rfl; exact rfl; apply wl_val; apply opv_len; exact rfl; exact tyB.sl; exact rfl; apply wl_take; exact rfl; exact rfl; exact rfl; exact rfl; refine wl_bin rfl rfl bin_eql rfl ?_; apply wl_take; exact rfl; exact rfl; exact rfl; exact rfl; refine wl_mv rfl rfl ?_; apply wl_skip; exact rfl; exact rfl; exact rfl; refine bTn ?_; (with_reducible assumption); exact rfl; apply wl_skip; exact rfl; exact rfl; exact rfl; refine bTn ?_; (with_reducible assumption); exact rfl; apply wl_skip; exact rfl; exact rfl; exact rfl; refine bTn ?_; (with_reducible assumption); exact rfl; apply wl_skip; exact rfl; exact rfl; exact rfl; refine bTn ?_; (with_reducible assumption); exact rfl; apply wl_skip; exact rfl; exact rfl; exact rfl; refine bTn ?_; (with_reducible assumption); exact rfl; apply wl_skip; exact rfl; exact rfl; exact rfl; refine bTn ?_; (with_reducible assumption); exact rfl; apply wl_skip; exact rfl; exact rfl; exact rfl; refine bTn ?_; (with_reducible assumption); exact rfl; apply wl_skip; exact rfl; exact rfl; exact rfl; refine bTn ?_; (with_reducible assumption); exact rfl; apply wl_take; exact rfl; exact rfl; exact rfl; exact rfl; apply wl_val; apply opv_pickT; exact rfl; refine bT ?_; (with_reducible assumption); exact rfl; exact rfl; apply wl_val; apply opv_pickT; exact rfl; exact rfl; exact rfl; exact rfl; refine wl_ns ?_; apply wc_condTb; exact rfl; exact rfl; refine wc_skip ?_; refine we_seq ?_; refine wc_seq ?_; refine wc_block ?_; refine wc_region ?_; refine wl_mv rfl rfl ?_; refine wl_mv rfl rfl ?_; apply wl_val; apply opv_nilOk; exact rfl; exact rfl; apply wl_val; apply opv_fa; exact fa_N0; exact rfl; exact rfl; apply wl_val; apply opv_ldG; exact rfl; assumption; exact sE; exact rfl
      refine wl_call ok_mem_twin (ttwin_any rn rn2 (hok n (by rw [hns2]; simp)).1 (hok n (by rw [hns2]; simp)).2) ⟨rfl, trivial⟩ rfl ?_
      rintro _ w5 ⟨C, e2, D, f2, rfl, hsx⟩
      replace hs := ((hs.call hsx).pack (H1 := enOw n.a.x C e2 D f2) (.ce (oE n.a.x) (enV n.a.x C e2 D f2)) oE_of).front 1 rfl
      dsimp only [delC] at hs
      refine ws_pushS hs tkE (fun _ => rfl) (by simp) ⟨_, rfl, rfl⟩ rfl rfl (by decide) (by omega) (by simp only [maxLen]; omega) rfl rfl ?_; clear hs; intro _ R2 c2 _ hs
      refine wl_as rfl rfl ?_; refine wl_nil ?_; refine we_block_norm ?_; refine we_seq ?_; refine wc_region ?_; refine wl_mv rfl rfl ?_; apply wl_val; apply opv_nilOk; exact rfl; exact rfl; apply wl_val; apply opv_fa; exact fa_N1; exact rfl; exact rfl
      obtain ⟨_, j2⟩ := node_wi hs 3 rfl hns2
      obtain ⟨_, hrow, _, _⟩ := node_read hs 3 rfl hns2
      have hu := rowV_get (ns := rest) (show 0 < n.h from hh n (by rw [hns2]; simp))
      rw [nxt_zero fun m hm => hh m (by rw [hns2]; simp [hm])] at hu
      apply wl_val; apply opv_ldX; exact rfl; assumption; exact e1_ns; exact rfl; exact rfl; apply wl_elK (T := tyN) (hr := hrow) (hb := hu); exact rfl; exact rfl; exact rfl; exact rfl; exact rfl; intro _; refine wl_as rfl rfl ?_; refine wl_nil ?_
      refine we_loop _ rest.length ⟨d ++ [n], rest, R2, c2, rfl, by rw [hd]; simp, fun m hm => ?_, by rw [List.map_append, List.map_append]; exact hs, rfl⟩ (by simp) ⟨rfl, by rw [List.length_append]; rfl, rfl, trivial⟩
      rcases List.mem_append.1 hm with hm | hm
      · exact hbef m hm
      · rw [List.mem_singleton.1 hm]; exact hb
    · have h1' : ¬ (tn : Int) = 0 := by omega
      refine wc_seq ?_; refine wc_sr ?_; refine wl_mv rfl rfl ?_; apply wl_val; apply opv_bin; exact rfl; exact rfl; exact bin_neqPtrNil tyPN; exact rfl; refine wl_mv rfl rfl ?_; apply wl_take; exact rfl; exact rfl; exact rfl; exact rfl; refine wl_mv rfl rfl ?_; apply wl_take; exact rfl; exact rfl; exact rfl; exact rfl; apply wl_val; apply opv_len; exact rfl; exact tyB.sl; exact rfl; apply wl_take; exact rfl; exact rfl; exact rfl; exact rfl; refine wl_bin rfl rfl bin_eql rfl ?_; apply wl_take; exact rfl; exact rfl; exact rfl; exact rfl; refine wl_mv rfl rfl ?_; apply wl_take; exact rfl; exact rfl; exact rfl; refine bF ?_; (with_reducible assumption); refine wl_mv rfl rfl ?_; apply wl_take; exact rfl; exact rfl; exact rfl; refine bF ?_; (with_reducible assumption); apply wl_val; apply opv_nilOk; exact rfl; exact rfl; apply wl_take; exact rfl; exact rfl; exact rfl; refine bF ?_; (with_reducible assumption); apply wl_val; apply opv_fa; exact fa_N0; exact rfl; exact rfl; apply wl_take; exact rfl; exact rfl; exact rfl; refine bF ?_; (with_reducible assumption); apply wl_val; apply opv_fa; exact fa_sE (by decide); exact rfl; exact rfl; apply wl_take; exact rfl; exact rfl; exact rfl; refine bF ?_; (with_reducible assumption); apply wl_val; apply opv_ldX; exact rfl; assumption; exact e1_by; exact rfl; exact rfl; apply wl_take; exact rfl; exact rfl; exact rfl; refine bF ?_; (with_reducible assumption); refine wl_mv rfl rfl ?_; apply wl_take; exact rfl; exact rfl; exact rfl; refine bF ?_; (with_reducible assumption)
      refine wl_call ok_codec_Cmp (cmp_any rn (hto _ hs.1) rfl htn) ⟨rfl, rfl, trivial⟩ rfl ?_
      rintro _ _ ⟨rfl, rfl⟩
      by_cases h2 : cmpB n.a.x.key to < 0
      · have hb : befE to n.a.x = true := decide_eq_true (.inr h2)
        apply wl_take; exact rfl; exact rfl; exact rfl; refine bF ?_; (with_reducible assumption); refine wl_bin rfl rfl bin_lss rfl ?_; apply wl_take; exact rfl; exact rfl; exact rfl; exact rfl; apply wl_val; apply opv_pickF; exact rfl; refine bF ?_; (with_reducible assumption); exact rfl; exact rfl; apply wl_val; apply opv_pickT; exact rfl; exact rfl; exact rfl; exact rfl; refine wl_ns ?_; apply wc_decT; exact rfl; (with_reducible assumption); refine wc_skip ?_; refine we_seq ?_; refine wc_seq ?_; refine wc_block ?_; refine wc_region ?_; refine wl_mv rfl rfl ?_; refine wl_mv rfl rfl ?_; apply wl_val; apply opv_nilOk; exact rfl; exact rfl; apply wl_val; apply opv_fa; exact fa_N0; exact rfl; exact rfl; apply wl_val; apply opv_ldG; exact rfl; assumption; exact sE; exact rfl
        refine wl_call ok_mem_twin (ttwin_any rn rn2 (hok n (by rw [hns2]; simp)).1 (hok n (by rw [hns2]; simp)).2) ⟨rfl, trivial⟩ rfl ?_
        rintro _ w5 ⟨C, e2, D, f2, rfl, hsx⟩
        replace hs := ((hs.call hsx).pack (H1 := enOw n.a.x C e2 D f2) (.ce (oE n.a.x) (enV n.a.x C e2 D f2)) oE_of).front 1 rfl
        dsimp only [delC] at hs
        refine ws_pushS hs tkE (fun _ => rfl) (by simp) ⟨_, rfl, rfl⟩ rfl rfl (by decide) (by omega) (by simp only [maxLen]; omega) rfl rfl ?_; clear hs; intro _ R2 c2 _ hs
        refine wl_as rfl rfl ?_; refine wl_nil ?_; refine we_block_norm ?_; refine we_seq ?_; refine wc_region ?_; refine wl_mv rfl rfl ?_; apply wl_val; apply opv_nilOk; exact rfl; exact rfl; apply wl_val; apply opv_fa; exact fa_N1; exact rfl; exact rfl
        obtain ⟨_, j2⟩ := node_wi hs 3 rfl hns2
        obtain ⟨_, hrow, _, _⟩ := node_read hs 3 rfl hns2
        have hu := rowV_get (ns := rest) (show 0 < n.h from hh n (by rw [hns2]; simp))
        rw [nxt_zero fun m hm => hh m (by rw [hns2]; simp [hm])] at hu
        apply wl_val; apply opv_ldX; exact rfl; assumption; exact e1_ns; exact rfl; exact rfl; apply wl_elK (T := tyN) (hr := hrow) (hb := hu); exact rfl; exact rfl; exact rfl; exact rfl; exact rfl; intro _; refine wl_as rfl rfl ?_; refine wl_nil ?_
        refine we_loop _ rest.length ⟨d ++ [n], rest, R2, c2, rfl, by rw [hd]; simp, fun m hm => ?_, by rw [List.map_append, List.map_append]; exact hs, rfl⟩ (by simp) ⟨rfl, by rw [List.length_append]; rfl, rfl, trivial⟩
        rcases List.mem_append.1 hm with hm | hm
        · exact hbef m hm
        · rw [List.mem_singleton.1 hm]; exact hb
      · rw [hstop (decide_eq_false fun h => h.elim h1 h2)]
        apply wl_take; exact rfl; exact rfl; exact rfl; refine bF ?_; (with_reducible assumption); refine wl_bin rfl rfl bin_lss rfl ?_; apply wl_take; exact rfl; exact rfl; exact rfl; exact rfl; apply wl_val; apply opv_pickF; exact rfl; refine bF ?_; (with_reducible assumption); exact rfl; exact rfl; apply wl_val; apply opv_pickT; exact rfl; exact rfl; exact rfl; exact rfl; refine wl_ns ?_; apply wc_decF; exact rfl; (with_reducible assumption); refine wc_exit ?_; refine we_seq_exit ?_; refine we_loop_exit ?_; refine we_block_exit ?_; refine we_seq ?_; refine wc_sr ?_; refine wl_mv rfl rfl ?_; refine wl_as rfl rfl ?_; refine wl_ns ?_; refine wc_ret ?_
        exact we_ret1 rfl rfl ⟨_, rfl, r, R, c, by rw [List.length_map], hs⟩
end Go.Proofs.YtpnckagibkdcpaaDoor


/-
  Range of a table told by its entries.
-/
namespace Go.Proofs.YtpnckagibkdcpaaDoor
open Go.RowKit

def rangeE (l : List En) (f t : List UInt8) : List En := l.filter fun x => decide (0 ≤ cmpB x.key f ∧ (t.length = 0 ∨ cmpB x.key t < 0))
theorem filter_while {l : List En} (t : List UInt8) (ho : Ord l) : l.filter (befE t) = l.takeWhile (befE t) := by
  induction l with
  | nil => rfl
  | cons x l ih =>
    obtain ⟨h1, h2⟩ := List.pairwise_cons.1 ho
    rw [List.filter_cons, List.takeWhile_cons]
    cases hb : befE t x with
    | true => simp only [if_true]; rw [ih h2]
    | false =>
      simp only [Bool.false_eq_true, if_false]
      refine List.filter_eq_nil_iff.2 fun y hy => ?_
      have h3 := of_decide_eq_false hb
      intro h4
      have h5 := of_decide_eq_true h4
      rcases h5 with h5 | h5
      · exact h3 (.inl h5)
      · refine h3 (.inr ?_)
        rcases lessE_iff.1 (h1 y hy) with h6 | ⟨h6, _⟩
        · exact cmp_trans h6 h5
        · rw [h6]; exact h5
theorem range_eq {pre post : List Nd} {f : List UInt8} (t : List UInt8) (ho : Ord ((pre ++ post).map (·.a.x))) (hsq : ∀ n ∈ pre ++ post, n.a.x.seq < 18446744073709551616) (hpre : ∀ n ∈ pre, cmpE n.a.x f 18446744073709551615 < 0) (hpost : ∀ n ∈ post, ¬ cmpE n.a.x f 18446744073709551615 < 0) :
    rangeE ((pre ++ post).map (·.a.x)) f t = rgN t post := by
  have h1 : (pre.map (·.a.x)).filter (fun x => decide (0 ≤ cmpB x.key f ∧ (t.length = 0 ∨ cmpB x.key t < 0))) = [] := List.filter_eq_nil_iff.2 fun x hx => by
    obtain ⟨n, hn, rfl⟩ := List.mem_map.1 hx
    rw [decide_eq_true_eq]
    rintro ⟨h, _⟩
    have h2 := hpre n hn
    by_cases hk : n.a.x.key = f
    · have := (cmpE_same hk).1 h2
      have := hsq n (List.mem_append_left _ hn)
      omega
    · rw [cmpE_diff hk] at h2; omega
  have h2 : (post.map (·.a.x)).filter (fun x => decide (0 ≤ cmpB x.key f ∧ (t.length = 0 ∨ cmpB x.key t < 0))) = (post.map (·.a.x)).filter (befE t) := List.filter_congr fun x hx => by
    obtain ⟨n, hn, rfl⟩ := List.mem_map.1 hx
    have h3 : 0 ≤ cmpB n.a.x.key f := by
      have h4 := hpost n hn
      by_cases hk : n.a.x.key = f
      · rw [hk, cmp_refl]; decide
      · rw [cmpE_diff hk] at h4; omega
    rw [befE]
    simp [h3]
  rw [rangeE, List.map_append, List.filter_append, h1, List.nil_append, h2, rgN]
  rw [List.map_append] at ho
  exact filter_while t (List.pairwise_append.1 ho).2.1
theorem trange_any {S : BS} {t kn e tn te : Nat} {xs : List En} {K T : Option Addr} {key to : List UInt8} {w : World} (h0 : Sat w [.ck (tblC t xs)] S) (ho : Ord xs) (hkn : key.length = kn) (hkey : ∀ w', Mod S w w' → RdB w' K key) (htn : to.length = tn) (hto : ∀ w', Mod S w w' → RdB w' T to) (hok : ∀ x ∈ xs, x.key.length ≤ 140737488355328 ∧ x.val.length ≤ 140737488355328) (hsq : ∀ x ∈ xs, x.seq < 18446744073709551616) (hlen : xs.length ≤ 1099511627776) :
    CallsV Tryd.prog 15 #[pN t, .slice K kn e, .slice T tn te] w fun v w' => ∃ R c, v = .slice R (rangeE xs key to).length c ∧ St S w w' [.ck (rsC 4 39 R c ((rangeE xs key to).map oE)), .ck (tblC t xs)] := by
  obtain ⟨r0, ns, h1, h2, h3, h4⟩ := tblC_get h0
  obtain ⟨pre, post, h5, h6, h7⟩ := ord_split ⟨key, 18446744073709551615, 0, []⟩ (h2 ▸ ho)
  subst h2
  refine (trange0_any (e := e) (te := te) h1 h3 h5 h6 h7 h4 hkn hkey htn hto (fun n hn => hok _ (List.mem_map_of_mem hn)) (by simpa using hlen)).mono fun v w' ⟨r, R, c, hv, hs⟩ => ?_
  subst h5
  rw [range_eq to ho (fun n hn => hsq _ (List.mem_map_of_mem hn)) h6 h7]
  exact ⟨R, c, hv, tblC_back (H := [_]) hs rfl (by simp) h4⟩
end Go.Proofs.YtpnckagibkdcpaaDoor


/-
  The bytes of a constant string, over pieces: made, marked, and read from then on. Nothing here names the program.
-/
namespace Go.Proofs.YtpnckagibkdcpaaDoor
open Go.RowKit

theorem zell_freeze (w : World) (a : Addr) (n : Nat) (p : Addr) : (w.freeze a n).cell? p = w.cell? p := by
  unfold World.freeze
  split
  · rfl
  · unfold World.cell?
    simp only [Array.getElem?_modify]
    by_cases h : a.block = p.block
    · rw [if_pos h]
      cases w.heap[p.block]? with
      | none => rfl
      | some o => cases o <;> rfl
    · rw [if_neg h]
theorem zelow_freeze {B : Nat} (w : World) (a : Addr) (n : Nat) (h : B ≤ a.block) : Below B w (w.freeze a n) := by
  unfold World.freeze
  split
  · exact Below.refl _ _
  · refine ⟨rfl, rfl, rfl, by simp, fun j hj => ?_⟩
    simp only [Array.getElem?_modify]
    rw [if_neg (by omega)]
section
variable {P : Program} {N : Nat} {ops : Array Oper} {Q : Exit → Act → World → Prop} {rest : List Oper} {L : FL} {w0 w : World} {M : BS} {H : List Cd} {t e : TypeId} {bytes : Nat}
theorem ws_lit {d1 d2 len : Nat} {ps : List (Nat × Operand)} {ty1 ty2 : TypeId} {p1 p2 : String} {f1 f2 : Array Edge} (hs : St M w0 w H) (xs : List UInt8) (T : Row1 P t e (.int .u8 0) bytes) (he : P.underlying e = some (.int .u8)) (hp : PLooks L 0 ps (bvs xs)) (hl : xs.length = len) (hle : len ≤ 16777216) (h0 : 0 < len) (hd1 : Nat.blt d1 N = true) (hd2 : Nat.blt d2 N = true)
    (h : ∀ p A w', St M w0 w' (.ce (byEl xs) [.slice A xs.length xs.length] :: H) → WL P N ops Q rest ((d2, .slice A xs.length xs.length) :: (d1, p) :: L) w') :
    WL P N ops Q (⟨some d1, .buildSlice t len ps.toArray, ty1, p1, f1, none⟩ :: ⟨some d2, .convert t t (.tmp d1), ty2, p2, f2, none⟩ :: rest) L w := by
  subst hl
  refine wl_bs T hp (bvs_length xs) hle hd1 fun A w1 ho hb _ => ?_
  have hr : RdR 1 w1 All A [] := RdR.nil _
  have hr : Rd w1 A xs.length (bvs xs) := ho.rd
  obtain ⟨b, o, rfl, hb1, hc⟩ := hr.2 h0
  have hlen : 0 < (bvs xs).length := by rw [bvs_length]; exact h0
  have h0c := hc 0 (bvs xs)[0] (List.getElem?_eq_getElem hlen)
  obtain ⟨k, hk⟩ : ∃ k, w1.shape? b = some k := by
    unfold World.cell? at h0c
    unfold World.shape?
    simp only at h0c
    cases hh : w1.heap[b]? with
    | none => rw [hh] at h0c; cases h0c
    | some ob => cases ob <;> first | exact ⟨_, rfl⟩ | (rw [hh] at h0c; cases h0c)
  have hge : w.heap.size ≤ b := (Ow.lt ho _ rfl).1
  have hbf : Below w.heap.size w (w1.freeze ⟨b, k.2, none⟩ 1) := hb.trans (zelow_freeze _ _ _ hge)
  refine wl_val (v := .slice (some ⟨b, o, none⟩) xs.length xs.length) (w' := w1.freeze ⟨b, k.2, none⟩ 1) (fun ρ op hρ ho _ => ?_) hd2 (h _ _ _ ?_)
  · unfold execOp
    simp only [ho, hρ (.tmp d1) (.slice (some ⟨b, o, none⟩) xs.length xs.length) (by simp [look, lookT]), convert, Sem.run_bind, run_underlying T.sl, Result.andThen_ok]
    simp [run_underlying he, markStringish, hk]
  · refine hs.new (T := fun b => w.heap.size ≤ b) (c := .ce (byEl xs) [.slice (some ⟨b, o, none⟩) xs.length xs.length]) hbf ?_ fun _ _ h => h
    refine byEl.mk ⟨hr.1, fun _ => ⟨b, o, rfl, ?_, fun j u hu => by rw [zell_freeze]; exact hc j u hu⟩⟩ (Nat.le_refl _) fun a ha _ => by cases ha; exact hge
    unfold World.freeze; simp; exact hb1
end
end Go.Proofs.YtpnckagibkdcpaaDoor


/-
  How arguments that are entries, or lists of them, are read; walks over awake and over the laws MergeSees and MergeKeeps.
-/
namespace Go.Proofs.YtpnckagibkdcpaaDoor
open Go.RowKit Go.ChangeShapes Go.WideShapes Go.ChangeAt Go.Deep

theorem open_boolV {H : Type} {enc : TypeId × Value → H} {P : Program} {w : World} {base : Nat} {spare : Nat → Bool} {held : Bool} {t : TypeId} {b : Bool} {d : DataW H} {ps : List MemPlace} (ht : P.underlying t = some .bool) (hd : DataW.Trod enc P w base spare held t (.bool b) d ps) : d = .lit (.bool b) ∧ ps = [] := by
  obtain ⟨fuel, hf⟩ := hd
  obtain ⟨b', h, hx⟩ := DataW.trod_bool ht hf
  simp [Value.cells] at h
  subst h
  simp only [Prod.mk.injEq] at hx
  exact hx
def enB (x : En) : Nat := x.key.length + x.val.length
theorem opens_entry : Opens Tryd.prog 39 enEl 4 enB (fun x => x.seq < 2 ^ 64) := fun {H} enc W fuel cs x h => by
  obtain ⟨xs, n, rfl, rfl, hl, hx, hf⟩ := DataW.trod_struct Tryd.underlying39 h
  replace hl : cs.length = 4 := hl.trans (by kernel_rfl)
  obtain ⟨c0, c1, c2, c3, rfl⟩ := len4 hl
  obtain ⟨y0, y1, y2, y3, rfl⟩ := len4 hx
  obtain ⟨a0, h0, _, k0, b0⟩ := opens_bytes enc W n [c0] y0 (field_at hf (i := 0) (off := 0) (k := 1) (t := 31) rfl rfl rfl (by kernel_rfl))
  obtain ⟨a1, h1, _, k1, b1⟩ := opens_int Tryd.underlying37 enc W n [c1] y1 (field_at hf (i := 1) (off := 1) (k := 1) (t := 37) rfl rfl rfl (by kernel_rfl))
  obtain ⟨a2, h2, _, k2, b2⟩ := opens_int Tryd.underlying5 enc W n [c2] y2 (field_at hf (i := 2) (off := 2) (k := 1) (t := 5) rfl rfl rfl (by kernel_rfl))
  obtain ⟨a3, h3, _, k3, b3⟩ := opens_bytes enc W n [c3] y3 (field_at hf (i := 3) (off := 3) (k := 1) (t := 31) rfl rfl rfl (by kernel_rfl))
  obtain rfl : c1 = .int .u64 a1 := by simpa [vEl] using h1
  obtain rfl : c2 = .int .u8 a2 := by simpa [vEl] using h2
  have k1' : 0 ≤ a1 ∧ a1 ≤ 18446744073709551615 := by simpa [Lit.wf, IntKind.min, IntKind.max, IntKind.signed, IntKind.bits] using k1
  have k2' : 0 ≤ a2 ∧ a2 ≤ 255 := by simpa [Lit.wf, IntKind.min, IntKind.max, IntKind.signed, IntKind.bits] using k2
  obtain ⟨s, rfl⟩ := Int.eq_ofNat_of_zero_le k1'.1
  obtain ⟨q, rfl⟩ := Int.eq_ofNat_of_zero_le k2'.1
  have h0' := h0
  have h3' := h3
  obtain ⟨A, c, e0, _⟩ := h0
  obtain ⟨B, d, e3, _⟩ := h3
  obtain rfl : c0 = .slice A a0.length c := by simpa using e0
  obtain rfl : c3 = .slice B a3.length d := by simpa using e3
  refine ⟨⟨a0, s, UInt8.ofNat q, a3⟩, ⟨A, c, B, d, ?_, h0', h3'⟩, rfl, ?_, ?_⟩
  · have : (UInt8.ofNat q).toNat = q := by rw [UInt8.toNat_ofNat', Nat.mod_eq_of_lt (by omega)]
    simp [enV, this]
  · show s < 2 ^ 64; omega
  · replace b0 : a0.length + 1 ≤ _ := b0
    replace b3 : a3.length + 1 ≤ _ := b3
    simp only [enB, Rows.uptoBulk, Rows.uptoBulkAll, List.map_cons, List.map_nil]
    omega
abbrev uEl (m : Nat) : El := vEl (.int .u64 (m : Int))
theorem opens_u64 : Opens Tryd.prog 37 uEl 1 (fun _ => 0) (fun m => m < 2 ^ 64) := fun {H} enc W fuel cs x h => by
  obtain ⟨a, h1, h2, k, b⟩ := opens_int Tryd.underlying37 enc W fuel cs x h
  have k' : 0 ≤ a ∧ a ≤ 18446744073709551615 := by simpa [Lit.wf, IntKind.min, IntKind.max, IntKind.signed, IntKind.bits] using k
  obtain ⟨s, rfl⟩ := Int.eq_ofNat_of_zero_le k'.1
  exact ⟨s, h1, h2, by omega, b⟩
theorem tkU : RowK Tryd.prog 23 37 1 (.int .u64 0) 8 := ⟨Tryd.underlying23, by kernel_rfl, rfl, by decide⟩
theorem opens_entries : Opens Tryd.prog 22 (fun l : List En => rowEl 4 (l.map enEl)) 1 (sumB enB) (fun l => ∀ x ∈ l, x.seq < 2 ^ 64) := opens_slice tkE (by kernel_rfl) opens_entry
theorem opens_u64s : Opens Tryd.prog 23 (fun l : List Nat => rowEl 1 (l.map uEl)) 1 (sumB fun _ => 0) (fun l => ∀ m ∈ l, m < 2 ^ 64) := opens_slice tkU (by kernel_rfl) opens_u64
theorem flat_u64s : ∀ (ms : List Nat), (ms.map fun (m : Nat) => [Value.int .u64 (m : Int)]).flatten = u64s ms
  | [] => rfl
  | m :: ms => by rw [List.map_cons, List.flatten_cons, flat_u64s ms]; rfl
theorem rd_u64s {w : World} {S : BS} {A : Option Addr} {ms : List Nat} (h : RdR 1 w S A (ms.map uEl)) : Rd w A ms.length (u64s ms) := by
  obtain ⟨css, h1, h2, _⟩ := h
  have he : css.flatten = u64s ms := by
    have hl := h1.1
    rw [List.length_map] at hl
    have : css = ms.map fun (m : Nat) => [Value.int .u64 (m : Int)] := by
      apply List.ext_getElem?
      intro i
      cases hi : css[i]? with
      | none => rw [List.getElem?_eq_none]; have := List.getElem?_eq_none_iff.1 hi; simp; omega
      | some cs =>
        obtain ⟨_, E, hE, hp⟩ := h1.2 i cs hi
        rw [List.getElem?_map] at hE ⊢
        cases hm : ms[i]? with
        | none => rw [hm] at hE; cases hE
        | some m => rw [hm] at hE; cases hE; exact congrArg some hp
    rw [this, flat_u64s]
  rw [he, List.length_map, Nat.mul_one] at h2
  exact h2
theorem ent_small {l : List En} (h : sumB enB l ≤ 1048576) : l.length ≤ 1048576 ∧ ∀ x ∈ l, x.key.length ≤ 1048576 ∧ x.val.length ≤ 1048576 := by
  have h1 := sumB_len (bulk := enB) l
  refine ⟨by omega, fun x hx => ?_⟩
  have h2 := sumB_mem (bulk := enB) hx
  have h3 : enB x = x.key.length + x.val.length := rfl
  omega
theorem w_ok {l : List En} (h : worstE [l] = 0) : checkE l = 0 ∧ Ord l := by
  have h1 : stepW 0 l = 0 := h
  unfold stepW errE at h1
  rcases checkE_le l with h0 | h0 | h0
  · cases ho : ordE l with
    | true => exact ⟨h0, ord_of ho⟩
    | false => rw [h0, ho] at h1; simp at h1
  · rw [h0] at h1; simp at h1
  · rw [h0] at h1; simp at h1
theorem check_ok {l : List En} (h : checkE l = 0) : ∀ x ∈ l, bigE x = false ∧ badE x = false := by
  intro x hx
  unfold checkE at h
  split at h
  · cases h
  · rename_i h1
    split at h
    · cases h
    · rename_i h2
      simp only [Bool.not_eq_true] at h1 h2
      have h1' := List.any_eq_false.1 h1 x hx
      have h2' := List.any_eq_false.1 h2 x hx
      simp only [Bool.not_eq_true] at h1' h2'
      exact ⟨h1', h2'⟩
theorem kind_ok {x : En} (h : badE x = false) : x.kind = 1 ∨ x.kind = 2 := by
  have := of_decide_eq_false h
  rcases Decidable.not_not.1 this with h | ⟨h, _⟩
  · exact .inl h
  · exact .inr h
theorem few_mem {l : List En} {n : Nat} {x : En} (h : x ∈ l.take n) : x ∈ l := List.mem_of_mem_take h
/-- The program's own list, of one key. -/
def awakeL : List En := [⟨[107], 9, 1, []⟩, ⟨[107], 7, 1, []⟩, ⟨[107], 5, 1, []⟩, ⟨[107], 3, 1, []⟩]
theorem awake_keep : worstE [awakeL] = 0 ∧ keepE awakeL false [6] = [⟨[107], 9, 1, []⟩, ⟨[107], 5, 1, []⟩] := by decide
abbrev RetTr (w : World) (v : Value) (w' : World) : Prop := v = .bool true ∧ Below w.heap.size w w'
theorem rows_one {w : World} {A : Option Addr} {n c : Nat} {l : List En} (hr : RdR 4 w All A (l.map enEl)) (hn : l.length = n) (hc : n ≤ c) : Grp 1 w All (rowsE [l]) [[.slice A n c]] :=
  Grp.one (by subst hn; have := rowEl.mk hr (c := c) (by simpa using hc) (by decide); simpa using this) rfl
theorem u64s_one (ms : List Nat) : ∀ u ∈ u64s ms, u.oneCell' = true := by
  intro u hu; simp [u64s] at hu; obtain ⟨_, _, rfl⟩ := hu; rfl
end Go.Proofs.YtpnckagibkdcpaaDoor


/-
  Literal bytes among pieces; walks over awake and over the law MemChecks.
-/
namespace Go.Proofs.YtpnckagibkdcpaaDoor
open Go.RowKit

theorem mod_freeze (w : World) (a : Addr) (n : Nat) {M : BS} (h : M a.block) : Mod M w (w.freeze a n) := by
  unfold World.freeze
  split
  · exact Mod.refl _ _
  · refine ⟨rfl, rfl, rfl, by simp, fun j _ hm => ?_⟩
    simp only [Array.getElem?_modify]
    rw [if_neg fun hk => hm (by rw [← hk]; exact h)]
section
variable {P : Program} {N : Nat} {ops : Array Oper} {Q : Exit → Act → World → Prop} {rest : List Oper} {L : FL} {w0 w : World} {M : BS} {H : List Cd} {t e : TypeId} {bytes : Nat}
/-- Bytes of one's own are marked as a constant's. -/
theorem ws_conv {d n c : Nat} {x : Operand} {ty : TypeId} {pos : String} {aft : Array Edge} {A : Option Addr} {xs : List UInt8} (hs : St M w0 w H) (i : Nat) (hx : look L x = some (.slice A n c)) (hi : nthC H i = some (.ow e A n c (bvs xs))) (T : Row1 P t e (.int .u8 0) bytes) (he : P.underlying e = some (.int .u8)) (h0 : 0 < n) (hd : Nat.blt d N = true)
    (h : ∀ w', St M w0 w' (setC H i (.ce (byEl xs) [.slice A n c])) → WL P N ops Q rest ((d, .slice A n c) :: L) w') :
    WL P N ops Q (⟨some d, .convert t t x, ty, pos, aft, none⟩ :: rest) L w := by
  have ho := hs.ow i hi
  have hn : xs.length = n := by have := ho.len; rwa [bvs_length] at this
  subst hn
  have hr := ho.rd
  obtain ⟨b, o, rfl, hb1, hc⟩ := hr.2 h0
  have hlen : 0 < (bvs xs).length := by rw [bvs_length]; exact h0
  have h0c := hc 0 (bvs xs)[0] (List.getElem?_eq_getElem hlen)
  obtain ⟨k, hk⟩ : ∃ k, w.shape? b = some k := by
    unfold World.cell? at h0c
    unfold World.shape?
    simp only at h0c
    cases hh : w.heap[b]? with
    | none => rw [hh] at h0c; cases h0c
    | some ob => cases ob <;> first | exact ⟨_, rfl⟩ | (rw [hh] at h0c; cases h0c)
  obtain ⟨S, hcP, hS, hK⟩ := hs.upd i hi
  refine wl_val (v := .slice (some ⟨b, o, none⟩) xs.length c) (w' := w.freeze ⟨b, k.2, none⟩ 1) (fun ρ op hρ ho _ => ?_) hd (h _ ?_)
  · unfold execOp
    simp only [ho, hρ x _ hx, convert, Sem.run_bind, run_underlying T.sl, Result.andThen_ok]
    simp [run_underlying he, markStringish, hk]
  · refine hK _ (.ce (byEl xs) [.slice (some ⟨b, o, none⟩) xs.length c]) S (mod_freeze _ _ _ (show S b from hcP.1 ⟨b, o, none⟩ rfl)) ?_ fun _ _ h => .inl h
    refine byEl.mk ⟨hr.1, fun _ => ⟨b, o, rfl, ?_, fun j u hu => by rw [zell_freeze]; exact hc j u hu⟩⟩ (ow_cap ho) fun a ha _ => hcP.1 a ha
    unfold World.freeze; split <;> simpa using hb1
end
theorem byEl_rdB {w : World} {S : Nat → Prop} {xs : List UInt8} {A : Option Addr} {n c : Nat} (h : (byEl xs).P w S [.slice A n c]) : RdB w A xs := by
  obtain ⟨A', c', h1, h2, h3, _⟩ := h
  simp only [List.cons.injEq, Value.slice.injEq, and_true] at h1
  obtain ⟨rfl, _, rfl⟩ := h1
  exact h3
theorem rs_rdr {e : TypeId} {A : Option Addr} {c : Nat} {l : List En} {w : World} {T : BS} (h : (Cd.ck (rsC 4 e A c (l.map oE))).P w T) : RdR 4 w T A (l.map enEl) := by
  obtain ⟨h1, h2⟩ := rs_rg h
  obtain ⟨css, g1, g2⟩ := owr_en h2
  exact ⟨css, g1.mono fun b _ hb => hb.1, own_rd g2, fun a ha _ => h1 a ha⟩
abbrev aw7 : List En := [⟨[97], 1, 1, [120]⟩, ⟨[97], 3, 2, []⟩]
theorem aw7_put : putC [] aw7 = 0 ∧ aw7.foldl insE [] = [⟨[97], 3, 2, []⟩, ⟨[97], 1, 1, [120]⟩] := by decide
set_option maxRecDepth 8000 in
theorem awake7_any {w : World} (hg : GT w) : CallsV Tryd.prog 22 #[] w fun v w' => v = .bool true ∧ Below w.heap.size w w' := by
  have hs := St.init w
  refine calls_in (N := _) Tryd.func22 rfl Tryd.ntmps22 rfl ?_; show WC _ _ _ _ _ _
  refine wc_sr ?_; refine wl_as rfl rfl ?_; refine wl_ns ?_; refine wc_sr ?_
  refine wl_call ok_mem_New new_any trivial rfl ?_
  rintro _ w1 ⟨t, rfl, hsx⟩
  replace hs := hs.call hsx
  unfold pN
  refine wl_as rfl rfl ?_; refine wl_ns ?_; refine wc_seq ?_; refine wc_sr ?_; refine wl_mv rfl rfl ?_; apply wl_val; apply opv_bin; exact rfl; exact rfl; exact bin_eqlPtrNil Tryd.underlying24; exact rfl; refine wl_mv rfl rfl ?_; apply wl_take; exact rfl; exact rfl; exact rfl; exact rfl; refine wl_mv rfl rfl ?_; apply wl_take; exact rfl; exact rfl; exact rfl; exact rfl
  refine ws_bs (vs := bvs [97]) hs tyB ⟨rfl, rfl, rfl, trivial⟩ rfl (by decide) rfl ?_
  clear hs; intro A w2 hs
  apply wl_take; exact rfl; exact rfl; exact rfl; exact rfl
  refine ws_conv (xs := [97]) hs 0 rfl rfl tyB Tryd.underlying5 (by decide) rfl ?_
  clear hs; intro w3 hs; dsimp only [setC] at hs
  apply wl_take; exact rfl; exact rfl; exact rfl; exact rfl
  refine ws_bs (vs := bvs [120]) hs tyB ⟨rfl, rfl, rfl, trivial⟩ rfl (by decide) rfl ?_
  clear hs; intro B w4 hs
  apply wl_take; exact rfl; exact rfl; exact rfl; exact rfl
  refine ws_conv (xs := [120]) hs 0 rfl rfl tyB Tryd.underlying5 (by decide) rfl ?_
  clear hs; intro w5 hs; dsimp only [setC] at hs
  apply wl_take; exact rfl; exact rfl; exact rfl; exact rfl
  refine wl_val (opv_build (vs := [(0, .slice A 1 1), (1, .int .u64 1), (2, .int .u8 1), (3, .slice B 1 1)]) (cs := enV ⟨[97], 1, 1, [120]⟩ A 1 B 1) ⟨rfl, rfl, rfl, rfl, rfl, rfl, rfl, rfl, trivial⟩ (by kernel_rfl)) rfl ?_
  apply wl_take; exact rfl; exact rfl; exact rfl; exact rfl
  refine ws_bs (vs := bvs [97]) hs tyB ⟨rfl, rfl, rfl, trivial⟩ rfl (by decide) rfl ?_
  clear hs; intro C w6 hs
  apply wl_take; exact rfl; exact rfl; exact rfl; exact rfl
  refine ws_conv (xs := [97]) hs 0 rfl rfl tyB Tryd.underlying5 (by decide) rfl ?_
  clear hs; intro w7 hs; dsimp only [setC] at hs
  apply wl_take; exact rfl; exact rfl; exact rfl; exact rfl
  refine wl_val (opv_build (vs := [(0, .slice C 1 1), (1, .int .u64 3), (2, .int .u8 2)]) (cs := enV ⟨[97], 3, 2, []⟩ C 1 none 0) ⟨rfl, rfl, rfl, rfl, rfl, rfl, trivial⟩ (by kernel_rfl)) rfl ?_
  apply wl_take; exact rfl; exact rfl; exact rfl; exact rfl
  refine wl_bsG (css := [enV ⟨[97], 1, 1, [120]⟩ A 1 B 1, enV ⟨[97], 3, 2, []⟩ C 1 none 0]) tkE ⟨rfl, ⟨_, rfl, rfl⟩, rfl, rfl, ⟨_, rfl, rfl⟩, rfl, trivial⟩ (els := [enV ⟨[97], 1, 1, [120]⟩ A 1 B 1, enV ⟨[97], 3, 2, []⟩ C 1 none 0].map rawEl) (S := NoB) rfl (by decide) (by decide)
    (grp_raw (by simp [enV])) rfl fun R w8 hR hbx _ => ?_
  replace hs := hs.newG hbx hR (Nat.le_refl _) fun _ _ h => h.elim
  clear hR hbx
  dsimp only [List.append_nil, List.cons_append, List.nil_append] at hs
  obtain ⟨S2, hS2, _, hM, hH, hB⟩ := St.lend (H1 := [.ck (tblC t [])]) (H2 := [_, _, _, _]) (hs.front 4 rfl)
  have hr : RdR 4 w8 (fun b => Fr NoB w b ∧ ¬ S2 b) R (aw7.map enEl) := by
    obtain ⟨T1, hT1, hrg, T2, hT2, h2, T3, hT3, h3, T4, hT4, h4, _⟩ := hH w8 (Mod.refl _ _)
    obtain ⟨ho, _⟩ := OwR.raw (css := [enV ⟨[97], 1, 1, [120]⟩ A 1 B 1, enV ⟨[97], 3, 2, []⟩ C 1 none 0]) hrg.2
    refine ⟨[enV ⟨[97], 1, 1, [120]⟩ A 1 B 1, enV ⟨[97], 3, 2, []⟩ C 1 none 0], (Grp.one (E := enEl ⟨[97], 1, 1, [120]⟩) (enEl.mk ?_ ?_) rfl).append (Grp.one (E := enEl ⟨[97], 3, 2, []⟩) (enEl.mk ?_ ?_) rfl), own_rd ho, fun a ha _ => hT1 _ (hrg.1 a ha)⟩
    · exact El.mono h4 fun b _ h => (hT4 b h).1.1.1
    · exact El.mono h3 fun b _ h => (hT3 b h).1.1
    · exact El.mono h2 fun b _ h => (hT2 b h).1
    · exact byEl.mk (xs := []) (Rd.nil _ _) (Nat.zero_le _) fun a h _ => by cases h
  apply wl_take; exact rfl; exact rfl; exact rfl; exact rfl
  refine wl_call ok_mem_Table_Put (put_any (n := 2) (c := 2) (xs := []) (l := aw7) hS2 .nil hr (fun b _ h => h.2) rfl (by decide) (by decide) (by decide) fun w' hm => hg.mod (hM w' hm) id) ⟨rfl, rfl, trivial⟩ rfl ?_
  rintro _ w9 ⟨rfl, hsx⟩
  replace hs := hB _ _ hsx
  clear hB hsx hS2 hM hH hr
  rw [aw7_put.1, if_pos rfl, aw7_put.2] at hs
  rw [aw7_put.1]
  dsimp only [List.cons_append, List.nil_append] at hs
  apply wl_take; exact rfl; exact rfl; exact rfl; exact rfl; refine wl_bin rfl rfl bin_neq rfl ?_; apply wl_val; apply opv_pickF; exact rfl; exact rfl; exact rfl; exact rfl; refine wl_ns ?_; apply wc_condFb; exact rfl; exact rfl; refine wc_skip ?_; refine we_seq ?_; refine wc_sr ?_; refine wl_mv rfl rfl ?_
  replace hs := hs.drop 1 rfl
  dsimp only [delC] at hs
  refine ws_lit hs [97] tyB Tryd.underlying5 ⟨rfl, rfl, rfl, trivial⟩ rfl (by decide) (by decide) rfl rfl ?_
  clear hs; intro _ K w10 hs
  obtain ⟨S2, hS2, _, hM, hH, hB⟩ := St.lend (H1 := [.ck (tblC t _)]) (H2 := [_, _, _, _]) (hs.front 1 rfl)
  refine wl_call ok_mem_Table_Get (tget_any (key := [97]) (m := 2) (kn := 1) (e := 1) hS2 (by decide) rfl (fun w' hm => ?_) (by decide)) ⟨rfl, rfl, rfl, trivial⟩ rfl ?_
  · obtain ⟨_, _, h⟩ := (hH w' hm).mem (c := .ce (byEl [97]) [.slice K 1 1]) (by simp)
    exact byEl_rdB h
  rintro _ w11 ⟨H, ⟨X, cx, Y, cy, rfl, rfl⟩, hsx⟩
  replace hs := hB _ _ hsx
  clear hB hsx hS2 hM hH
  unfold enOw at hs
  dsimp only [List.cons_append, List.nil_append] at hs
  refine wl_mv rfl rfl ?_; apply wl_val; apply opv_extract; exact rfl; exact rfl; exact rfl; apply wl_val; apply opv_extract; exact rfl; exact rfl; exact rfl
  refine ws_var (cs := enV ⟨[97], 1, 1, [120]⟩ X cx Y cy) hs zeroE sE rfl (fun _ => rfl) (by first | rfl | simp [Value.oneCell']) rfl ?_; clear hs; intro g2 _ hs
  unfold enV at hs
  refine wl_as rfl rfl ?_; refine wl_ns ?_; refine wc_sr ?_; refine wl_mv rfl rfl ?_; refine wl_mv rfl rfl ?_; apply wl_take; exact rfl; exact rfl; exact rfl; exact rfl; apply wl_val; apply opv_fa; exact fa_sE (by decide); exact rfl; exact rfl; apply wl_take; exact rfl; exact rfl; exact rfl; exact rfl; apply wl_val; apply opv_ldX; exact rfl; exact hs.ar 0 rfl; exact e1_u64; exact rfl; exact rfl; apply wl_take; exact rfl; exact rfl; exact rfl; exact rfl; refine wl_bin rfl rfl bin_eql rfl ?_; apply wl_val; apply opv_pickT; exact rfl; exact rfl; exact rfl; exact rfl; refine wl_mv rfl rfl ?_; apply wl_take; exact rfl; exact rfl; exact rfl; refine bT ?_; exact rfl; refine wl_mv rfl rfl ?_; apply wl_take; exact rfl; exact rfl; exact rfl; refine bT ?_; exact rfl
  obtain ⟨S2, hS2, _, hM, hH, hB⟩ := St.lend (H1 := [.ck (tblC t _)]) (H2 := [_, _, _, _, _, _, _]) (hs.front 3 rfl)
  refine wl_call ok_mem_Table_Len (tlen_any hS2) ⟨rfl, trivial⟩ rfl ?_
  rintro _ _ ⟨rfl, rfl⟩
  apply wl_take; exact rfl; exact rfl; exact rfl; refine bT ?_; exact rfl; refine wl_bin rfl rfl bin_eql rfl ?_; apply wl_val; apply opv_pickT; exact rfl; refine bT ?_; exact rfl; exact rfl; exact rfl; refine wl_mv rfl rfl ?_; apply wl_take; exact rfl; exact rfl; exact rfl; refine bT ?_; exact rfl; refine wl_mv rfl rfl ?_; apply wl_take; exact rfl; exact rfl; exact rfl; refine bT ?_; exact rfl
  refine wl_call ok_mem_Table_Size (tsize_any hS2) ⟨rfl, trivial⟩ rfl ?_
  rintro _ _ ⟨rfl, rfl⟩
  apply wl_take; exact rfl; exact rfl; exact rfl; refine bT ?_; exact rfl; refine wl_bin rfl rfl bin_eql rfl ?_; apply wl_val; apply opv_pickT; exact rfl; refine bT ?_; exact rfl; exact rfl; exact rfl; refine wl_as rfl rfl ?_; refine wl_ns ?_; refine wc_ret ?_
  exact we_ret1 rfl rfl ⟨_, rfl, rfl, hs.bel⟩
theorem few7_any {A : Option Addr} {n c m : Nat} {l : List En} {w : World} (hn : l.length = n) (hc : n ≤ c) :
    CallsV Tryd.prog 25 #[.slice A n c, .int .i64 (m : Int)] w fun v w' => v = .slice A (l.take m).length c ∧ w = w' := by
  subst hn
  refine calls_in (N := _) Tryd.func25 rfl Tryd.ntmps25 rfl ?_; show WC _ _ _ _ _ _
  refine wc_sr ?_; refine wl_as rfl rfl ?_; refine wl_ns ?_; refine wc_seq ?_; refine wc_sr ?_; refine wl_mv rfl rfl ?_; apply wl_val; apply opv_len; exact rfl; exact tkE.sl; exact rfl; refine wl_mv rfl rfl ?_; refine wl_bin rfl rfl bin_gtr rfl ?_; refine wl_ns ?_
  refine wc_cond rfl (fun h1 => ?_) (fun h1 => ?_)
  · refine wc_region ?_; refine wl_mv rfl rfl ?_; refine wl_mv rfl rfl ?_
    refine wl_slK (l := 0) (h := m) tkE rfl rfl ⟨_, rfl⟩ (by omega) (by omega) rfl ?_
    rw [cutK_zero]
    refine wl_as rfl rfl ?_; refine wl_ns ?_; refine wc_sr ?_; refine wl_mv rfl rfl ?_; refine wl_as rfl rfl ?_; refine wl_ns ?_; refine wc_ret ?_
    exact we_ret1 rfl rfl ⟨_, rfl, slice_eq (by simp; omega), rfl⟩
  · refine wc_skip ?_; refine we_seq ?_; refine wc_sr ?_; refine wl_mv rfl rfl ?_; refine wl_as rfl rfl ?_; refine wl_ns ?_; refine wc_ret ?_
    exact we_ret1 rfl rfl ⟨_, rfl, slice_eq (by simp; omega), rfl⟩
theorem checks_any {A : Option Addr} {n c : Nat} {l : List En} {w : World} (hr : RdR 4 w All A (l.map enEl)) (hn : l.length = n) (hc : n ≤ c) (hsq : ∀ x ∈ l, x.seq < 2 ^ 64) (hl : sumB enB l ≤ 1048576) (hg : GT w) :
    CallsV Tryd.prog 4 #[.slice A n c] w (RetTr w) := by
  obtain ⟨hl1, hok1⟩ := ent_small hl
  have hs := St.init w
  refine calls_in (N := _) Tryd.func4 rfl Tryd.ntmps4 rfl ?_; show WC _ _ _ _ _ _
  refine wc_sr ?_; refine wl_as rfl rfl ?_; refine wl_ns ?_; refine wc_seq ?_; refine wc_sr ?_
  refine wl_call ok_caissonlaw07_awake (awake7_any hg) trivial rfl ?_; rintro _ _ ⟨rfl, hbx⟩; replace hs := hs.below hbx; try dsimp only [List.cons_append, List.nil_append, setC, delC] at hs
  apply wl_val; apply opv_not; exact rfl; exact rfl; refine wl_mv rfl rfl ?_; apply wl_take; exact rfl; exact rfl; exact rfl; exact Bool.not_true; refine wl_mv rfl rfl ?_; apply wl_take; exact rfl; exact rfl; exact rfl; exact Bool.not_true
  refine wl_call ok_caissonref07_Twins (twins3_any (hr.below hs.bel) hn (fun x hx => by have := hok1 x hx; omega) (by omega)) ⟨rfl, trivial⟩ rfl ?_
  rintro _ w2 ⟨B, d, rfl, hsx⟩
  replace hs := hs.call hsx
  dsimp only [List.cons_append, List.nil_append] at hs
  apply wl_take; exact rfl; exact rfl; exact rfl; exact Bool.not_true
  refine wl_call ok_mem_Check (check_any (l := l) (OwR.rd (hs.rsE 0 rfl)) rfl (by simp only [maxLen]; omega)) ⟨rfl, trivial⟩ rfl ?_; rintro _ _ ⟨rfl, hbx⟩; replace hs := hs.below hbx; try dsimp only [List.cons_append, List.nil_append, setC, delC] at hs
  apply wl_take; exact rfl; exact rfl; exact rfl; exact Bool.not_true; refine wl_mv rfl rfl ?_; apply wl_take; exact rfl; exact rfl; exact rfl; exact Bool.not_true
  refine wl_call ok_caissonref07_Check (refCheck_any (l := l) (hr.below hs.bel) hn (by simp only [maxLen]; omega)) ⟨rfl, trivial⟩ rfl ?_; rintro _ _ ⟨rfl, hbx⟩; replace hs := hs.below hbx; try dsimp only [List.cons_append, List.nil_append, setC, delC] at hs
  apply wl_take; exact rfl; exact rfl; exact rfl; exact Bool.not_true; refine wl_bin rfl rfl bin_neq rfl ?_; apply wl_val; apply opv_pickF; exact rfl; exact Bool.not_true; exact rfl; exact rfl; refine wl_ns ?_; apply wc_decF; exact rfl; (with_reducible exact nne); refine wc_skip ?_; refine we_seq ?_; refine wc_sr ?_; refine wl_mv rfl rfl ?_
  refine wl_call ok_caissonlaw07_few (few7_any (m := 60) hn hc) ⟨rfl, rfl, trivial⟩ rfl ?_; rintro _ _ ⟨rfl, rfl⟩
  have hr2 := take_rdr (m := 60) hr (by omega)
  have hok : ∀ x ∈ l.take 60, x.key.length ≤ 1048576 ∧ x.val.length ≤ 1048576 := fun x hx => hok1 x (few_mem hx)
  have hlen : (l.take 60).length ≤ 60 := by rw [List.length_take]; omega
  have hlc : (l.take 60).length ≤ c := by rw [List.length_take]; omega
  obtain ⟨k, hk⟩ : ∃ q, l.take 60 = q := ⟨_, rfl⟩
  rw [hk] at hr2 hok hlen hlc
  rw [hk]
  clear hr hok1 hsq hk hsx hbx
  refine wl_as rfl rfl ?_; refine wl_ns ?_; refine wc_seq ?_; refine wc_sr ?_; refine wl_mv rfl rfl ?_; apply wl_val; apply opv_len; exact rfl; exact tkE.sl; exact rfl; refine wl_mv rfl rfl ?_; refine wl_ns ?_; refine wc_block ?_
  refine wc_loop (fun L wr mm => ∃ i : Nat, L = [(0, .slice A k.length c), (18, .int .i64 (k.length : Int)), (19, .int .i64 (i : Int))] ∧ i ≤ k.length ∧ Below w.heap.size w wr ∧ mm = k.length - i)
    [(0, .slice A k.length c), (18, .int .i64 (k.length : Int)), (19, .int .i64 0)] k.length ⟨0, rfl, by omega, hs.bel, rfl⟩ ⟨rfl, rfl, rfl, trivial⟩ ?_
  clear hs
  rintro _ w4 mm ⟨i, rfl, hi, hw4, rfl⟩
  refine wc_sr ?_; refine wl_bin rfl rfl bin_lss rfl ?_; refine wl_ns ?_; refine wc_seq ?_
  refine wc_cond rfl (fun h1 => ?_) (fun h1 => ?_)
  · refine wc_skip ?_; refine we_seq ?_; refine wc_seq ?_; refine wc_block ?_; refine wc_sr ?_; refine wl_mv rfl rfl ?_; refine wl_as rfl rfl ?_; refine wl_ns ?_; refine wc_sr ?_; refine wl_mv rfl rfl ?_; apply wl_val; apply opv_len; exact rfl; exact tkE.sl; exact rfl; refine wl_mv rfl rfl ?_; refine wl_ns ?_; refine wc_block ?_
    refine wc_loop (fun L wr mm => ∃ j : Nat, L = [(0, .slice A k.length c), (3, .int .i64 (i : Int)), (18, .int .i64 (k.length : Int)), (19, .int .i64 (i : Int)), (23, .int .i64 (k.length : Int)), (24, .int .i64 (j : Int))] ∧ j ≤ k.length ∧ Below w.heap.size w wr ∧ mm = k.length - j)
      [(0, .slice A k.length c), (3, .int .i64 (i : Int)), (18, .int .i64 (k.length : Int)), (19, .int .i64 (i : Int)), (23, .int .i64 (k.length : Int)), (24, .int .i64 0)] k.length ⟨0, rfl, by omega, hw4, rfl⟩ ⟨rfl, rfl, rfl, rfl, rfl, rfl, trivial⟩ ?_
    clear hw4
    rintro _ w5 mm ⟨j, rfl, hj, hw5, rfl⟩
    refine wc_sr ?_; refine wl_bin rfl rfl bin_lss rfl ?_; refine wl_ns ?_; refine wc_seq ?_
    refine wc_cond rfl (fun h2 => ?_) (fun h2 => ?_)
    · obtain ⟨x, hx⟩ : ∃ x, k[i]? = some x := ⟨_, List.getElem?_eq_getElem (by omega)⟩
      obtain ⟨y, hy⟩ : ∃ x, k[j]? = some x := ⟨_, List.getElem?_eq_getElem (by omega)⟩
      obtain ⟨b, o, cs, rfl, _, _, hp, i1⟩ := RdR.at (k := 4) (by decide) hr2 (E := enEl x) (i := i) (by rw [List.getElem?_map, hx]; rfl)
      obtain ⟨X, cx, X2, cx2, rfl, rx, _, rx2, _⟩ := enEl.rd hp
      obtain ⟨b', o', cs, hbo, _, _, hp, i2⟩ := RdR.at (k := 4) (by decide) hr2 (E := enEl y) (i := j) (by rw [List.getElem?_map, hy]; rfl)
      obtain ⟨Y, cy, Y2, cy2, rfl, ry, _, ry2, _⟩ := enEl.rd hp
      simp only [Option.some.injEq, Addr.mk.injEq, and_true] at hbo
      obtain ⟨rfl, rfl⟩ := hbo
      have hox := hok x (List.mem_of_getElem? hx)
      have hoy := hok y (List.mem_of_getElem? hy)
      replace i1 := i1.below hw5
      replace i2 := i2.below hw5
      refine wc_skip ?_; refine we_seq ?_; refine wc_seq ?_; refine wc_block ?_; refine wc_sr ?_; refine wl_mv rfl rfl ?_; refine wl_as rfl rfl ?_; refine wl_ns ?_; refine wc_seq ?_
      refine wc_heldB mixed fun w6 hS => ?_
      apply wh_takeH 0; exact rfl; intro _ hw_; apply opv_move; exact rfl; exact rfl; kernel_rfl; exact hS; apply wh_takeH 1; exact rfl; intro _ hw_; apply opv_move; exact rfl; exact rfl; kernel_rfl; exact hS; apply wh_takeH 2; exact rfl; intro _ hw_; apply opv_idxG tkE; exact rfl; exact rfl; exact rfl; omega; exact rfl; kernel_rfl; exact hS; apply wh_takeH 3; exact rfl; intro _ hw_; apply opv_ldG; exact rfl; exact Wi.below (by assumption) hw_; exact sE; exact rfl; kernel_rfl; exact hS; apply wh_takeH 5; exact rfl; intro _ hw_; apply opv_move; exact rfl; exact rfl; kernel_rfl; exact hS; apply wh_takeH 6; exact rfl; intro _ hw_; apply opv_move; exact rfl; exact rfl; kernel_rfl; exact hS; apply wh_takeH 7; exact rfl; intro _ hw_; apply opv_idxG tkE; exact rfl; exact rfl; exact rfl; omega; exact rfl; kernel_rfl; exact hS; apply wh_takeH 8; exact rfl; intro _ hw_; apply opv_ldG; exact rfl; exact Wi.below (by assumption) hw_; exact sE; exact rfl; kernel_rfl; exact hS; apply wh_takeH 11; exact rfl; intro _ hw_; apply opv_move; exact rfl; exact rfl; kernel_rfl; exact hS; apply wh_takeH 12; exact rfl; intro _ hw_; apply opv_move; exact rfl; exact rfl; kernel_rfl; exact hS; apply wh_takeH 13; exact rfl; intro _ hw_; apply opv_idxG tkE; exact rfl; exact rfl; exact rfl; omega; exact rfl; kernel_rfl; exact hS; apply wh_takeH 14; exact rfl; intro _ hw_; apply opv_ldG; exact rfl; exact Wi.below (by assumption) hw_; exact sE; exact rfl; kernel_rfl; exact hS; apply wh_takeH 15; exact rfl; intro _ hw_; apply opv_move; exact rfl; exact rfl; kernel_rfl; exact hS; apply wh_takeH 16; exact rfl; intro _ hw_; apply opv_move; exact rfl; exact rfl; kernel_rfl; exact hS; apply wh_takeH 17; exact rfl; intro _ hw_; apply opv_idxG tkE; exact rfl; exact rfl; exact rfl; omega; exact rfl; kernel_rfl; exact hS; apply wh_takeH 18; exact rfl; intro _ hw_; apply opv_ldG; exact rfl; exact Wi.below (by assumption) hw_; exact sE; exact rfl; kernel_rfl; exact hS
      refine wh_one 4 (o := ⟨_, _, _, _, _, _⟩) (by kernel_rfl) rfl ?_
      refine wl_call ok_caissonref07_Twin (twin2_any (x := x) ((rx.below hw5).below hS) ((rx2.below hw5).below hS) (by omega) (by omega)) ⟨rfl, trivial⟩ rfl ?_
      rintro _ w7 ⟨C1, d1, C2, d2, rfl, hsx⟩
      have q1 := (hsx.ow 0 rfl).rd
      have hS1 := hsx.bel
      replace hS := hS.trans (hsx.bel.mono hS.size)
      clear hsx
      refine wl_nil ?_
      refine we_held hS ?_
      refine wh_one 9 (o := ⟨_, _, _, _, _, _⟩) (by kernel_rfl) rfl ?_
      refine wl_call ok_caissonref07_Twin (twin2_any (x := y) ((ry.below hw5).below hS) ((ry2.below hw5).below hS) (by omega) (by omega)) ⟨rfl, trivial⟩ rfl ?_
      rintro _ w8 ⟨D1, e1, D2, e2, rfl, hsx⟩
      replace q1 := q1.below hsx.bel
      have q2 := (hsx.ow 0 rfl).rd
      replace hS := hS.trans (hsx.bel.mono hS.size)
      clear hsx
      refine wl_nil ?_
      refine we_held hS ?_
      refine wh_one 10 (o := ⟨_, _, _, _, _, _⟩) (by kernel_rfl) rfl ?_
      refine wl_call ok_mem_Less (less_any (x := x) (y := y) q1 q2) ⟨rfl, rfl, trivial⟩ rfl ?_
      rintro _ w9 ⟨rfl, hbx⟩
      replace hS := hS.trans (hbx.mono hS.size)
      refine wl_nil ?_
      refine we_held hS ?_
      refine wh_one 19 (o := ⟨_, _, _, _, _, _⟩) (by kernel_rfl) rfl ?_
      refine wl_call ok_caissonref07_Less (refLess_any (x := x) (y := y) ((rx.below hw5).below hS) ((ry.below hw5).below hS) (by simp only [maxLen]; omega) (by simp only [maxLen]; omega)) ⟨rfl, rfl, trivial⟩ rfl ?_
      rintro _ w10 ⟨rfl, hbx⟩
      replace hS := hS.trans (hbx.mono hS.size)
      refine wl_nil ?_
      refine we_held hS ?_
      have hb0 : (lessE x y != lessE x y) = false := by cases lessE x y <;> rfl
      apply wh_takeH 20; exact rfl; intro _ hw_; apply opv_bin; exact rfl; exact rfl; exact bin_neqB tyBool; exact rfl; kernel_rfl; exact hS
      refine wh_done (by kernel_rfl) ?_
      refine we_seq ?_; apply wc_decF; exact rfl; (with_reducible exact nne); refine wc_skip ?_; refine we_block_norm ?_; refine we_seq ?_; refine wc_region ?_; apply wl_val; apply opv_bin; exact rfl; exact rfl; exact bin_add64 (by omega); exact rfl; refine wl_mv rfl rfl ?_; refine wl_nil ?_
      exact we_loop _ (k.length - (j + 1)) ⟨j + 1, rfl, by omega, hw5.trans (hS.mono hw5.size), rfl⟩ (by omega) ⟨rfl, rfl, rfl, rfl, rfl, by simp [lookT], trivial⟩
    · refine wc_exit ?_; refine we_seq_exit ?_; refine we_loop_exit ?_; refine we_block_exit ?_; refine we_block_norm ?_; refine we_seq ?_; refine wc_region ?_; apply wl_val; apply opv_bin; exact rfl; exact rfl; exact bin_add64 (by omega); exact rfl; refine wl_mv rfl rfl ?_; refine wl_nil ?_
      exact we_loop _ (k.length - (i + 1)) ⟨i + 1, rfl, by omega, hw5, rfl⟩ (by omega) ⟨rfl, rfl, by simp [lookT], trivial⟩
  · refine wc_exit ?_; refine we_seq_exit ?_; refine we_loop_exit ?_; refine we_block_exit ?_; refine we_seq ?_; refine wc_sr ?_; refine wl_as rfl rfl ?_; refine wl_ns ?_; refine wc_ret ?_
    exact we_ret1 rfl rfl ⟨_, rfl, rfl, hw4⟩
end Go.Proofs.YtpnckagibkdcpaaDoor


/-
  Rows that list the tables of math/bits: what the listed data give, the witness's world.
-/
namespace Go.Proofs.YtpnckagibkdcpaaDoor
open Go.RowKit Go.ChangeShapes Go.WideShapes Go.ChangeAt Go.Lib

abbrev tabs : List (String × DataW Unit) := [("math/bits.deBruijn32tab", Rows.laid_math_bits_deBruijn32tab), ("math/bits.deBruijn64tab", Rows.laid_math_bits_deBruijn64tab)]
theorem gt_of {W : World} (h : laidMetH Tryd.prog tabs W) : GT W := by
  rw [MakeChecks.laidMetH_plain _ _ _ (by kernel_rfl)] at h
  obtain ⟨g, t, cs, fuel, p, hg, hty, hvar, hd⟩ := Lib.laidMet.reads h (.tail _ (.head _))
  obtain rfl : 2 = g := Option.some.inj ((show Tryd.prog.globalNamed "math/bits.deBruijn64tab" = some 2 by kernel_rfl).symm.trans hg)
  obtain rfl : 122 = t := Option.some.inj ((show (Tryd.prog.globals[2]?).map (·.type) = some 122 by kernel_rfl).symm.trans hty)
  have key : ∀ i, i < 64 → ∃ x : UInt8, W.cell? ⟨2, i, none⟩ = some (bv x) := fun i hi => by
    obtain ⟨fuel', d, q, _, he⟩ := Lib.array_elem Tryd.underlying122 hd i hi
    rw [show Tryd.prog.cellsOf 5 = 1 by kernel_rfl, Nat.mul_one] at he
    obtain ⟨z, hz, _, hwf⟩ := DataW.trod_int Tryd.underlying5 he
    have h2 := congrArg (·[0]?) hz
    simp only [List.getElem?_take, List.getElem?_drop] at h2
    have h3 : 0 ≤ z ∧ z ≤ 255 := by simpa [Lit.wf, IntKind.min, IntKind.max, IntKind.signed, IntKind.bits] using hwf
    obtain ⟨q, rfl⟩ := Int.eq_ofNat_of_zero_le h3.1
    refine ⟨UInt8.ofNat q, ?_⟩
    rw [World.var?_cell hg hvar i, ← Array.getElem?_toList]
    have : (UInt8.ofNat q).toNat = q := by rw [UInt8.toNat_ofNat', Nat.mod_eq_of_lt (by omega)]
    simp at h2
    simp [bv, this, h2]
  refine ⟨?_, key⟩
  obtain ⟨x, hx⟩ := key 0 (by decide)
  unfold World.cell? at hx
  rcases Nat.lt_or_ge 2 W.heap.size with h1 | h1
  · exact h1
  · rw [Array.getElem?_eq_none h1] at hx; cases hx
def dbCells (d : DataW Unit) : List Value := match d with
  | .agg ds => ds.filterMap fun x => match x with | .lit (.int k z) => some (.int k z) | _ => none
  | _ => []
/-- The settled world, the two variables holding what their initialisers lay. -/
noncomputable def laidWorld (os : Os) : World :=
  let w0 := World.holding Tryd.prog os ⟨#[], #[], []⟩
  let put (h : Array Obj) (g : Nat) (cs : Array Value) : Array Obj := h.modify g fun
    | .cells _ t frozen => .cells cs t frozen
    | o => o
  let h1 := put w0.heap 1 (dbCells Rows.laid_math_bits_deBruijn32tab).toArray
  let h2 := put h1 2 (dbCells Rows.laid_math_bits_deBruijn64tab).toArray
  { w0 with heap := h2 }
theorem laid_met (os : Os) (args : Array Value) : laidMet Tryd.prog tabs ((laidWorld os).forCall (fun _ _ => 0) ⟨#[], args, []⟩).memory :=
  (LaidIn.of_run (l := tabs) [1, 2] 8 (by kernel_rfl) (by kernel_rfl) (by kernel_rfl) (by kernel_rfl)).met
end Go.Proofs.YtpnckagibkdcpaaDoor
