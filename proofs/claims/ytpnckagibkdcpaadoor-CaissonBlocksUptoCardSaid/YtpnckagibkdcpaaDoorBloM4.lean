/-
  The texts of this proof, joined: Mk, Ml, Mm, Zd, Jq, Mn, Mo, Pe, Pf, Pg, Pd, Ba, Bb, Va, Wb, Wc, Wd, Vb, Vc, Wi, Wj, Wk, Vd, Bc, Ve.
-/
import Derived.Test.YtpnckagibkdcpaaDoorBloM3
import Derived.Test.YtpnckagibkdcpaaDoorBloM2
import Derived.Test.YtpnckagibkdcpaaDoorBloM1
import Derived.Test.YtpnckagibkdcpaaDoorRows
import Derived.Lib.LaidU8
import Derived.Lib.LaidIn
import Derived.Deep.DeepHandedRow
import Derived.Deep.DeepWitnessRowRef
import Derived.SevenTiedAt
import Derived.Lib.Hide

/-
  Walks over twin and Get of a table.
-/
namespace Go.Proofs.YtpnckagibkdcpaaDoor
open Go.RowKit

theorem ttwin_any {x : En} {A B : Option Addr} {c d : Nat} {w : World} (rx : RdB w A x.key) (rx2 : RdB w B x.val) (hl : x.key.length ≤ 140737488355328) (hl2 : x.val.length ≤ 140737488355328) :
    CallsV Tryd.prog 50 #[.agg (enV x A c B d).toArray] w (RetE2 w x) := by
  have hs := St.init w
  refine calls_in (N := _) Tryd.func50 rfl Tryd.ntmps50 rfl ?_; show WC _ _ _ _ _ _
  refine wc_sr ?_
  refine ws_box (cs := enV x A c B d) hs rfl rfl ?_; clear hs; intro g1 _ hs
  refine ws_new hs zeroE rfl ?_; clear hs; intro g2 _ hs
  refine wl_ns ?_; refine wc_seq ?_
  unfold enV at hs
  refine wc_heldM 7 mixed fun w_ hS => ?_
  apply wm_take 0; exact rfl; intro _ hw_; apply opv_fa; exact fa_sE (by decide); exact rfl; exact rfl; kernel_rfl; exact hS; apply wm_take 1; exact rfl; intro _ hw_; apply opv_ldX; exact rfl; exact Ar.bel (hs.ar 1 rfl) hw_; exact e1_by; exact rfl; exact rfl; kernel_rfl; exact hS; apply wm_take 3; exact rfl; intro _ hw_; apply opv_fa; exact fa_sE (by decide); exact rfl; exact rfl; kernel_rfl; exact hS; apply wm_take 4; exact rfl; intro _ hw_; apply opv_ldX; exact rfl; exact Ar.bel (hs.ar 1 rfl) hw_; exact e1_by; exact rfl; exact rfl; kernel_rfl; exact hS
  replace hs := hs.below hS
  refine wm_one 2 (by kernel_rfl) rfl ?_; dsimp only [List.getElem_toArray, List.getElem_cons_succ, List.getElem_cons_zero]
  refine wl_call ok_bytes_Clone (clone_any (rx.below hs.bel) rfl hl) ⟨rfl, trivial⟩ rfl ?_; rintro _ _ ⟨C, e, rfl, o_, hbx⟩; replace hs := hs.newO hbx o_ (Nat.le_refl _); try dsimp only [List.cons_append, List.nil_append, setC, delC] at hs
  replace hS := hS.trans (hbx.mono hS.size)
  refine wl_nil ?_
  refine we_heldM (fun _ => hS) ?_
  apply wm_take 6; exact rfl; intro _ hw_; apply opv_fa; exact fa_sE (by decide); exact rfl; exact rfl; kernel_rfl; exact hS
  refine wm_one 5 (by kernel_rfl) rfl ?_; dsimp only [List.getElem_toArray, List.getElem_cons_succ, List.getElem_cons_zero]
  refine wl_call ok_bytes_Clone (clone_any (rx2.below hs.bel) rfl hl2) ⟨rfl, trivial⟩ rfl ?_; rintro _ _ ⟨D, f, rfl, o_, hbx⟩; replace hs := hs.newO hbx o_ (Nat.le_refl _); try dsimp only [List.cons_append, List.nil_append, setC, delC] at hs
  replace hS := hS.trans (hbx.mono hS.size)
  refine wl_nil ?_
  refine we_heldM (fun _ => hS) ?_
  refine wm_one 7 (by kernel_rfl) rfl ?_; dsimp only [List.getElem_toArray, List.getElem_cons_succ, List.getElem_cons_zero]
  apply ws_st hs 3; exact rfl; exact rfl; exact e1_by; exact rfl; exact rfl; exact rfl; clear hs; intro _ hs; dsimp only [setC, List.set] at hs; refine wl_nil ?_
  refine we_heldM (fun h => absurd h (by decide)) ?_
  refine wm_one 8 (by kernel_rfl) rfl ?_; dsimp only [List.getElem_toArray, List.getElem_cons_succ, List.getElem_cons_zero]
  apply wl_val; apply opv_fa; exact fa_sE (by decide); exact rfl; exact rfl; refine wl_nil ?_
  refine we_heldM (fun h => absurd h (by decide)) ?_
  refine wm_one 9 (by kernel_rfl) rfl ?_; dsimp only [List.getElem_toArray, List.getElem_cons_succ, List.getElem_cons_zero]
  apply ws_st hs 3; exact rfl; exact rfl; exact e1_by; exact rfl; exact rfl; exact rfl; clear hs; intro _ hs; dsimp only [setC, List.set] at hs; refine wl_nil ?_
  refine we_heldM (fun h => absurd h (by decide)) ?_
  refine wm_done (by kernel_rfl) ?_
  refine we_seq ?_; refine wc_sr ?_; apply wl_val; apply opv_loadX; exact rfl; exact hs.ar 3 rfl; exact sE; exact rfl; apply ws_stS hs 2; exact rfl; exact rfl; exact rfl; exact sE; exact rfl; exact rfl; clear hs; intro _ hs; dsimp only [setC] at hs; refine wl_ns ?_; refine wc_ret ?_
  exact we_retC rfl rfl (hs.ar 2 rfl) sE ⟨_, rfl, C, e, D, f, rfl, (((hs.drop 2 rfl).drop 2 rfl).front 1 rfl)⟩
theorem cmpE_same {x : En} {key : List UInt8} {seq : Nat} (h : x.key = key) : cmpE x key seq < 0 ↔ seq < x.seq := by
  subst h
  rw [cmpE, if_pos (cmp_refl _)]
  constructor
  · intro h
    split at h
    · assumption
    · split at h <;> exact absurd h (by decide)
  · intro h; rw [if_pos h]; decide
theorem cmpE_diff {x : En} {key : List UInt8} {seq : Nat} (h : ¬ x.key = key) : cmpE x key seq = cmpB x.key key := by
  rw [cmpE, if_neg fun h0 => h (cmp_zero h0)]
def hdE (key : List UInt8) : List Nd → Option En
  | [] => none
  | n :: _ => if n.a.x.key = key then some n.a.x else none
theorem get_eq {pre post : List Nd} {key : List UInt8} {m : Nat} (ho : Ord ((pre ++ post).map (·.a.x))) (hpre : ∀ n ∈ pre, cmpE n.a.x key m < 0) (hpost : ∀ n ∈ post, ¬ cmpE n.a.x key m < 0) :
    getE ((pre ++ post).map (·.a.x)) key m = hdE key post := by
  have h1 : (pre.map (·.a.x)).find? (fun x => decide (x.key = key ∧ x.seq ≤ m)) = none := List.find?_eq_none.2 fun x hx => by
    obtain ⟨n, hn, rfl⟩ := List.mem_map.1 hx
    rw [decide_eq_true_eq]
    rintro ⟨h, h'⟩
    have := (cmpE_same h).1 (hpre n hn)
    omega
  rw [getE, List.map_append, List.find?_append, h1, Option.none_or]
  cases post with
  | nil => rfl
  | cons n post =>
    rw [List.map_cons]
    by_cases hk : n.a.x.key = key
    · have h2 : n.a.x.seq ≤ m := by
        have := hpost n List.mem_cons_self
        rw [cmpE_same hk] at this
        omega
      rw [List.find?_cons, decide_eq_true ⟨hk, h2⟩]
      rw [hdE, if_pos hk]
    · rw [hdE, if_neg hk]
      refine List.find?_eq_none.2 fun x hx => ?_
      rw [decide_eq_true_eq]
      rintro ⟨h, h'⟩
      rcases List.mem_cons.1 hx with rfl | hx
      · exact hk h
      · rw [List.map_append, List.map_cons] at ho
        have h2 := (List.pairwise_cons.1 (List.pairwise_append.1 ho).2.1).1 _ hx
        have h3 := hpost n List.mem_cons_self
        rw [cmpE_diff hk] at h3
        rw [lessE_iff, h] at h2
        rcases h2 with h2 | ⟨h2, _⟩
        · exact h3 h2
        · exact hk h2
/-- What Get answers, and what it brings. -/
def tgV (o : Option En) (v : Value) (H : List Cd) : Prop := match o with
  | some x => ∃ (A : Option Addr) (c : Nat) (B : Option Addr) (d : Nat), v = .tuple #[.agg (enV x A c B d).toArray, .bool true] ∧ H = enOw x A c B d
  | none => v = .tuple #[.agg zE.toArray, .bool false] ∧ H = []
theorem tblC_back {TX : TypeId × List Value} {M : BS} {w0 w : World} {t : Nat} {r0 : Option Nat} {ns : List Nd} {xs : List En} {H : List Cd} (hs : St M w0 w (H ++ tabP TX t r0 ns (tszE xs : Nat))) (hx : ns.map (·.a.x) = xs) (hn : r0 = none → ns = []) (hh : ∀ n ∈ ns, 1 ≤ n.h) : St M w0 w (H ++ [.ck (tblX TX t xs)]) :=
  (((hs.map fun _ h => h.swap).pack (.ck (tblX TX t xs)) fun _ _ h => ⟨r0, ns, h, hx, hn, hh⟩).map fun _ h => Sat.swap (H1 := [_]) h)
theorem tget_any {TX : TypeId × List Value} {S : BS} {t kn e m : Nat} {xs : List En} {K : Option Addr} {key : List UInt8} {w : World} (h0 : Sat w [.ck (tblX TX t xs)] S) (ho : Ord xs) (hkn : key.length = kn) (hkey : ∀ w', Mod S w w' → RdB w' K key) (hok : ∀ x ∈ xs, x.key.length ≤ 140737488355328 ∧ x.val.length ≤ 140737488355328) :
    CallsV Tryd.prog 18 #[pN t, .slice K kn e, .int .u64 (m : Int)] w fun v w' => ∃ H, tgV (getE xs key m) v H ∧ St S w w' (H ++ [.ck (tblX TX t xs)]) := by
  subst hkn
  obtain ⟨r0, ns, h1, h2, h3, h4⟩ := tblC_get h0
  obtain ⟨pre, post, h5, h6, h7⟩ := ord_split ⟨key, m, 0, []⟩ (h2 ▸ ho)
  have hs := St.start h1
  unfold pN
  refine calls_in (N := _) Tryd.func18 rfl Tryd.ntmps18 rfl ?_; show WC _ _ _ _ _ _
  refine wc_sr ?_
  refine ws_new hs zeroE rfl ?_; clear hs; intro g6 _ hs
  refine wl_as rfl rfl ?_; refine wl_ns ?_; refine wc_sr ?_; refine wl_mv rfl rfl ?_; refine wl_mv rfl rfl ?_; refine wl_mv rfl rfl ?_
  obtain ⟨S2, hS2, _, hM, _, hB⟩ := St.lend (H1 := tabP TX t r0 ns (tszE xs : Nat)) (H2 := [.blk g6 39 zE]) (((hs.front 3 rfl).front 3 rfl).front 3 rfl)
  refine wl_call ok_mem_Table_seek (seek_any hS2 h3 h5 h6 h7 h4 rfl fun w' hm => hkey w' (hM w' hm)) ⟨rfl, rfl, rfl, trivial⟩ rfl ?_
  rintro _ w2 ⟨r, rfl, hsx⟩
  replace hs := (hB _ _ hsx).front 3 rfl
  clear hB hsx hS2 hM
  simp only [tabP, tabQ] at hs
  dsimp only [List.cons_append, List.nil_append, delC] at hs
  unfold zE at hs
  subst h5 h2
  have hge := get_eq ho h6 h7
  cases post with
  | nil =>
    unfold fstN
    refine wl_as rfl rfl ?_; refine wl_ns ?_; refine wc_seq ?_; refine wc_sr ?_; refine wl_mv rfl rfl ?_; apply wl_val; apply opv_bin; exact rfl; exact rfl; exact bin_eqlNilNil Tryd.underlying84; exact rfl; refine wl_mv rfl rfl ?_; apply wl_skip; exact rfl; exact rfl; exact rfl; exact bR1; exact rfl; apply wl_skip; exact rfl; exact rfl; exact rfl; exact bR1; exact rfl; apply wl_skip; exact rfl; exact rfl; exact rfl; exact bR1; exact rfl; apply wl_skip; exact rfl; exact rfl; exact rfl; exact bR1; exact rfl; apply wl_skip; exact rfl; exact rfl; exact rfl; exact bR1; exact rfl; apply wl_skip; exact rfl; exact rfl; exact rfl; exact bR1; exact rfl; apply wl_skip; exact rfl; exact rfl; exact rfl; exact bR1; exact rfl; apply wl_skip; exact rfl; exact rfl; exact rfl; exact bR1; exact rfl; apply wl_val; apply opv_pickT; exact rfl; exact rfl; exact rfl; exact rfl; refine wl_ns ?_; apply wc_condTb; exact rfl; exact rfl; refine wc_sr ?_
    refine wl_val (opv_build (vs := []) (cs := zE) trivial (by kernel_rfl)) rfl ?_
    apply ws_stS hs 0; exact rfl; exact rfl; exact rfl; exact sE; exact rfl; exact rfl; clear hs; intro _ hs; dsimp only [setC] at hs; refine wl_as rfl rfl ?_; refine wl_ns ?_; refine wc_ret ?_; refine we_seq_ret ?_
    exact we_retC1 rfl rfl rfl (hs.ar 0 rfl) sE ⟨_, rfl, [], by rw [hge]; exact ⟨rfl, rfl⟩, tblC_back (H := []) (hs.drop 0 rfl) rfl (by simp) h4⟩
  | cons n post =>
    unfold fstN pN
    obtain ⟨j1, _⟩ := node_wi hs 3 rfl rfl
    obtain ⟨_, _, rn, rn2⟩ := node_read hs 3 rfl rfl
    unfold eaV at j1
    refine wl_as rfl rfl ?_; refine wl_ns ?_; refine wc_seq ?_; refine wc_sr ?_; refine wl_mv rfl rfl ?_; apply wl_val; apply opv_bin; exact rfl; exact rfl; exact bin_eqlPtrNil Tryd.underlying84; exact rfl; refine wl_mv rfl rfl ?_; apply wl_take; exact rfl; exact rfl; exact rfl; exact rfl; refine wl_mv rfl rfl ?_; apply wl_take; exact rfl; exact rfl; exact rfl; exact rfl; apply wl_val; apply opv_nilOk; exact rfl; exact rfl; apply wl_take; exact rfl; exact rfl; exact rfl; exact rfl; apply wl_val; apply opv_fa; exact fa_N0; exact rfl; exact rfl; apply wl_take; exact rfl; exact rfl; exact rfl; exact rfl; apply wl_val; apply opv_fa; exact fa_sE (by decide); exact rfl; exact rfl; apply wl_take; exact rfl; exact rfl; exact rfl; exact rfl; apply wl_val; apply opv_ldX; exact rfl; assumption; exact e1_by; exact rfl; exact rfl; apply wl_take; exact rfl; exact rfl; exact rfl; exact rfl; refine wl_mv rfl rfl ?_; apply wl_take; exact rfl; exact rfl; exact rfl; exact rfl
    refine wl_call ok_codec_Cmp (cmp_any rn (hkey _ hs.1) rfl rfl) ⟨rfl, rfl, trivial⟩ rfl ?_
    rintro _ _ ⟨rfl, rfl⟩
    by_cases hk : n.a.x.key = key
    · have hc : cmpB n.a.x.key key = 0 := by rw [hk]; exact cmp_refl _
      apply wl_take; exact rfl; exact rfl; exact rfl; exact rfl; refine wl_bin rfl rfl bin_neq rfl ?_; apply wl_val; apply opv_pickF; exact rfl; exact rfl; exact rfl; exact rfl; refine wl_ns ?_; apply wc_decF; exact rfl; omega; refine wc_skip ?_; refine we_seq ?_; refine wc_sr ?_; refine wl_mv rfl rfl ?_; apply wl_val; apply opv_nilOk; exact rfl; exact rfl; apply wl_val; apply opv_fa; exact fa_N0; exact rfl; exact rfl; apply wl_val; apply opv_ldG; exact rfl; assumption; exact sE; exact rfl
      obtain ⟨l1, l2⟩ := hok n.a.x (List.mem_map_of_mem (by simp))
      refine wl_call ok_mem_twin (ttwin_any rn rn2 l1 l2) ⟨rfl, trivial⟩ rfl ?_
      rintro _ w3 ⟨A, c, B, d, rfl, hsx⟩
      replace hs := hs.call hsx
      unfold enOw at hs
      dsimp only [List.cons_append, List.nil_append] at hs
      apply ws_stS hs 2; exact rfl; exact rfl; exact rfl; exact sE; exact rfl; exact rfl; clear hs; intro _ hs; dsimp only [setC] at hs; refine wl_as rfl rfl ?_; refine wl_ns ?_; refine wc_ret ?_
      exact we_retC1 rfl rfl rfl (hs.ar 2 rfl) sE ⟨_, rfl, enOw n.a.x A c B d, by rw [hge, hdE, if_pos hk]; exact ⟨A, c, B, d, rfl, rfl⟩, tblC_back (H := enOw n.a.x A c B d) (hs.drop 2 rfl) rfl (by simp) h4⟩
    · have hc : ¬ cmpB n.a.x.key key = 0 := fun h => hk (cmp_zero h)
      apply wl_take; exact rfl; exact rfl; exact rfl; exact rfl; refine wl_bin rfl rfl bin_neq rfl ?_; apply wl_val; apply opv_pickF; exact rfl; exact rfl; exact rfl; exact rfl; refine wl_ns ?_; apply wc_decT; exact rfl; (with_reducible assumption); refine wc_sr ?_
      refine wl_val (opv_build (vs := []) (cs := zE) trivial (by kernel_rfl)) rfl ?_
      apply ws_stS hs 0; exact rfl; exact rfl; exact rfl; exact sE; exact rfl; exact rfl; clear hs; intro _ hs; dsimp only [setC] at hs; refine wl_as rfl rfl ?_; refine wl_ns ?_; refine wc_ret ?_; refine we_seq_ret ?_
      exact we_retC1 rfl rfl rfl (hs.ar 0 rfl) sE ⟨_, rfl, [], by rw [hge, hdE, if_neg hk]; exact ⟨rfl, rfl⟩, tblC_back (H := []) (hs.drop 0 rfl) rfl (by simp) h4⟩
end Go.Proofs.YtpnckagibkdcpaaDoor


/-
  Walk over Range of a table.
-/
namespace Go.Proofs.YtpnckagibkdcpaaDoor
open Go.RowKit

/-- Is a key ahead of the end? -/
def befE (to : List UInt8) (x : En) : Bool := decide (to.length = 0 ∨ cmpB x.key to < 0)
def rgN (to : List UInt8) (post : List Nd) : List En := (post.map (·.a.x)).takeWhile (befE to)
set_option maxRecDepth 8000 in
set_option maxHeartbeats 2000000 in
theorem trange0_any {TX : TypeId × List Value} {S : BS} {t kn e tn te : Nat} {r0 : Option Nat} {ns pre post : List Nd} {sz : Int} {K T : Option Addr} {key to : List UInt8} {w : World} (h0 : Sat w (tabP TX t r0 ns sz) S) (hn : r0 = none → ns = []) (hns : ns = pre ++ post) (hpre : ∀ n ∈ pre, cmpE n.a.x key 18446744073709551615 < 0) (hpost : ∀ n ∈ post, ¬ cmpE n.a.x key 18446744073709551615 < 0)
    (hh : ∀ n ∈ ns, 1 ≤ n.h) (hkn : key.length = kn) (hkey : ∀ w', Mod S w w' → RdB w' K key) (htn : to.length = tn) (hto : ∀ w', Mod S w w' → RdB w' T to) (hok : ∀ n ∈ ns, n.a.x.key.length ≤ 140737488355328 ∧ n.a.x.val.length ≤ 140737488355328) (hlen : ns.length ≤ 1099511627776) :
    CallsV Tryd.prog 15 #[pN t, .slice K kn e, .slice T tn te] w fun v w' => ∃ r R c, v = .slice R (rgN to post).length c ∧ St S w w' (.ck (rsC 4 39 R c ((rgN to post).map oE)) :: tabP TX t (some r) ns sz) := by
  have hs := St.start h0
  unfold pN
  refine calls_in (N := _) Tryd.func15 rfl Tryd.ntmps15 rfl ?_; show WC _ _ _ _ _ _
  refine wc_sr ?_; refine wl_as rfl rfl ?_; refine wl_ns ?_; refine wc_sr ?_; refine wl_as rfl rfl ?_; refine wl_ns ?_; refine wc_seq ?_; refine wc_sr ?_; refine wl_mv rfl rfl ?_; refine wl_mv rfl rfl ?_
  obtain ⟨S2, hS2, _, hM, _, hB⟩ := St.lend (H1 := tabP TX t r0 ns sz) (H2 := []) (by rw [List.append_nil]; exact hs)
  refine wl_call ok_mem_Table_seek (seek_any (seq := 18446744073709551615) hS2 hn hns hpre hpost hh hkn fun w' hm => hkey w' (hM w' hm)) ⟨rfl, rfl, rfl, trivial⟩ rfl ?_
  rintro _ w2 ⟨r, rfl, hsx⟩
  replace hs := hB _ _ hsx
  rw [List.append_nil] at hs
  clear hB hsx hS2 hM
  simp only [tabP, tabQ] at hs
  replace hs := hs.nilS 4 39
  refine wl_as rfl rfl ?_; refine wl_ns ?_; refine wc_block ?_
  refine wc_loop (fun L wr mm => ∃ (d rest : List Nd) (R : Option Addr) (c : Nat), L = [(2, .slice T tn te), (7, .slice R d.length c), (8, fstN rest)] ∧ post = d ++ rest ∧ (∀ n ∈ d, befE to n.a.x = true) ∧ St S w wr [.ck (rsC 4 39 R c ((d.map (·.a.x)).map oE)), .blk t TX.1 (tbV (hdS (some r)) ns.length sz TX.2), .ck (packC (hdP (some r) ns)), .ck (packC (nodP ns))] ∧ mm = rest.length)
    [(2, .slice T tn te), (7, .slice none 0 0), (8, fstN post)] post.length ⟨[], post, none, 0, rfl, rfl, by simp, hs, rfl⟩ ⟨rfl, rfl, rfl, trivial⟩ ?_
  clear hs
  rintro _ w4 mm ⟨d, rest, R, c, rfl, hd, hbef, hs, rfl⟩
  cases rest with
  | nil =>
    unfold fstN
    have hz : rgN to post = d.map (·.a.x) := by
      rw [rgN, hd, List.map_append, List.takeWhile_append_of_pos (fun x hx => by obtain ⟨n, hn, rfl⟩ := List.mem_map.1 hx; exact hbef n hn)]; simp
    rw [hz]
    refine wc_seq ?_; refine wc_sr ?_; refine wl_mv rfl rfl ?_; apply wl_val; apply opv_bin; exact rfl; exact rfl; exact bin_neqNilNil tyPN; exact rfl; refine wl_mv rfl rfl ?_; apply wl_skip; exact rfl; exact rfl; exact rfl; exact bR2; exact rfl; apply wl_skip; exact rfl; exact rfl; exact rfl; exact bR2; exact rfl; apply wl_skip; exact rfl; exact rfl; exact rfl; exact bR2; exact rfl; apply wl_skip; exact rfl; exact rfl; exact rfl; exact bR2; exact rfl; apply wl_skipU; exact rfl; exact rfl; exact rfl; exact rfl; apply wl_skipU; exact rfl; exact rfl; exact rfl; exact rfl; apply wl_skipU; exact rfl; exact rfl; exact rfl; exact rfl; apply wl_skipU; exact rfl; exact rfl; exact rfl; exact rfl; apply wl_skipU; exact rfl; exact rfl; exact rfl; exact rfl; apply wl_skipU; exact rfl; exact rfl; exact rfl; exact rfl; apply wl_skipU; exact rfl; exact rfl; exact rfl; exact rfl; apply wl_skipU; exact rfl; exact rfl; exact rfl; exact rfl; apply wl_skip; exact rfl; exact rfl; exact rfl; exact bR2; exact rfl; apply wl_val; apply opv_pickF; exact rfl; exact rfl; exact rfl; exact rfl; refine wl_ns ?_; apply wc_condFb; exact rfl; exact rfl; refine wc_exit ?_; refine we_seq_exit ?_; refine we_loop_exit ?_; refine we_block_exit ?_; refine we_seq ?_; refine wc_sr ?_; refine wl_mv rfl rfl ?_; refine wl_as rfl rfl ?_; refine wl_ns ?_; refine wc_ret ?_
    exact we_ret1 rfl rfl ⟨_, rfl, r, R, c, by rw [List.length_map], hs⟩
  | cons n rest =>
    have hns2 : ns = (pre ++ d) ++ n :: rest := by rw [hns, hd, List.append_assoc]
    have hdl : d.length < ns.length := by rw [hns2]; simp; omega
    unfold fstN pN
    obtain ⟨j1, _⟩ := node_wi hs 3 rfl hns2
    obtain ⟨_, _, rn, rn2⟩ := node_read hs 3 rfl hns2
    unfold eaV at j1
    have hstop : befE to n.a.x = false → rgN to post = d.map (·.a.x) := fun hb => by
      rw [rgN, hd, List.map_append, List.takeWhile_append_of_pos (fun x hx => by obtain ⟨n, hn, rfl⟩ := List.mem_map.1 hx; exact hbef n hn), List.map_cons, List.takeWhile_cons, hb]; simp
    by_cases h1 : to.length = 0
    · have hb : befE to n.a.x = true := decide_eq_true (.inl h1)
      have h1' : (tn : Int) = 0 := by omega
      refine wc_seq ?_; refine wc_sr ?_; refine wl_mv rfl rfl ?_; apply wl_val; apply opv_bin; exact rfl; exact rfl; exact bin_neqPtrNil tyPN; exact rfl; refine wl_mv rfl rfl ?_; apply wl_take; exact rfl; exact rfl; exact rfl; exact rfl; refine wl_mv rfl rfl ?_; apply wl_take; exact rfl; exact rfl; exact rfl; exact rfl; apply wl_val; apply opv_len; exact rfl; exact tyB.sl; exact rfl; apply wl_take; exact rfl; exact rfl; exact rfl; exact rfl; refine wl_bin rfl rfl bin_eql rfl ?_; apply wl_take; exact rfl; exact rfl; exact rfl; exact rfl; refine wl_mv rfl rfl ?_; apply wl_skip; exact rfl; exact rfl; exact rfl; refine bTn ?_; (with_reducible assumption); exact rfl; apply wl_skip; exact rfl; exact rfl; exact rfl; refine bTn ?_; (with_reducible assumption); exact rfl; apply wl_skip; exact rfl; exact rfl; exact rfl; refine bTn ?_; (with_reducible assumption); exact rfl; apply wl_skip; exact rfl; exact rfl; exact rfl; refine bTn ?_; (with_reducible assumption); exact rfl; apply wl_skip; exact rfl; exact rfl; exact rfl; refine bTn ?_; (with_reducible assumption); exact rfl; apply wl_skip; exact rfl; exact rfl; exact rfl; refine bTn ?_; (with_reducible assumption); exact rfl; apply wl_skip; exact rfl; exact rfl; exact rfl; refine bTn ?_; (with_reducible assumption); exact rfl; apply wl_skip; exact rfl; exact rfl; exact rfl; refine bTn ?_; (with_reducible assumption); exact rfl; apply wl_take; exact rfl; exact rfl; exact rfl; exact rfl; apply wl_val; apply opv_pickT; exact rfl; refine bT ?_; (with_reducible assumption); exact rfl; exact rfl; apply wl_val; apply opv_pickT; exact rfl; exact rfl; exact rfl; exact rfl; refine wl_ns ?_; apply wc_condTb; exact rfl; exact rfl; refine wc_skip ?_; refine we_seq ?_; refine wc_seq ?_; refine wc_block ?_; refine wc_region ?_; refine wl_mv rfl rfl ?_; refine wl_mv rfl rfl ?_; apply wl_val; apply opv_nilOk; exact rfl; exact rfl; apply wl_val; apply opv_fa; exact fa_N0; exact rfl; exact rfl; apply wl_val; apply opv_ldG; exact rfl; assumption; exact sE; exact rfl
      refine wl_call ok_mem_twin (ttwin_any rn rn2 (hok n (by rw [hns2]; simp)).1 (hok n (by rw [hns2]; simp)).2) ⟨rfl, trivial⟩ rfl ?_
      rintro _ w5 ⟨C, e2, D, f2, rfl, hsx⟩
      replace hs := ((hs.call hsx).pack (H1 := enOw n.a.x C e2 D f2) (.ce (oE n.a.x) (enV n.a.x C e2 D f2)) oE_of).front 1 rfl
      dsimp only [delC] at hs
      refine ws_pushS hs tkE (fun _ => rfl) (by simp) ⟨_, rfl, rfl⟩ rfl rfl (by decide) (by omega) (by simp only [maxLen]; omega) rfl rfl ?_; clear hs; intro _ R2 c2 _ hs
      refine wl_as rfl rfl ?_; refine wl_nil ?_; refine we_block_norm ?_; refine we_seq ?_; refine wc_region ?_; refine wl_mv rfl rfl ?_; apply wl_val; apply opv_nilOk; exact rfl; exact rfl; apply wl_val; apply opv_fa; exact fa_N1; exact rfl; exact rfl
      obtain ⟨_, j2⟩ := node_wi hs 3 rfl hns2
      obtain ⟨_, hrow, _, _⟩ := node_read hs 3 rfl hns2
      have hu := rowV_get (ns := rest) (show 0 < n.h from hh n (by rw [hns2]; simp))
      rw [nxt_zero fun m hm => hh m (by rw [hns2]; simp [hm])] at hu
      apply wl_val; apply opv_ldX; exact rfl; assumption; exact e1_ns; exact rfl; exact rfl; apply wl_elK (T := tyN) (hr := hrow) (hb := hu); exact rfl; exact rfl; exact rfl; exact rfl; exact rfl; intro _; refine wl_as rfl rfl ?_; refine wl_nil ?_
      refine we_loop _ rest.length ⟨d ++ [n], rest, R2, c2, rfl, by rw [hd]; simp, fun m hm => ?_, by rw [List.map_append, List.map_append]; exact hs, rfl⟩ (by simp) ⟨rfl, by rw [List.length_append]; rfl, rfl, trivial⟩
      rcases List.mem_append.1 hm with hm | hm
      · exact hbef m hm
      · rw [List.mem_singleton.1 hm]; exact hb
    · have h1' : ¬ (tn : Int) = 0 := by omega
      refine wc_seq ?_; refine wc_sr ?_; refine wl_mv rfl rfl ?_; apply wl_val; apply opv_bin; exact rfl; exact rfl; exact bin_neqPtrNil tyPN; exact rfl; refine wl_mv rfl rfl ?_; apply wl_take; exact rfl; exact rfl; exact rfl; exact rfl; refine wl_mv rfl rfl ?_; apply wl_take; exact rfl; exact rfl; exact rfl; exact rfl; apply wl_val; apply opv_len; exact rfl; exact tyB.sl; exact rfl; apply wl_take; exact rfl; exact rfl; exact rfl; exact rfl; refine wl_bin rfl rfl bin_eql rfl ?_; apply wl_take; exact rfl; exact rfl; exact rfl; exact rfl; refine wl_mv rfl rfl ?_; apply wl_take; exact rfl; exact rfl; exact rfl; refine bF ?_; (with_reducible assumption); refine wl_mv rfl rfl ?_; apply wl_take; exact rfl; exact rfl; exact rfl; refine bF ?_; (with_reducible assumption); apply wl_val; apply opv_nilOk; exact rfl; exact rfl; apply wl_take; exact rfl; exact rfl; exact rfl; refine bF ?_; (with_reducible assumption); apply wl_val; apply opv_fa; exact fa_N0; exact rfl; exact rfl; apply wl_take; exact rfl; exact rfl; exact rfl; refine bF ?_; (with_reducible assumption); apply wl_val; apply opv_fa; exact fa_sE (by decide); exact rfl; exact rfl; apply wl_take; exact rfl; exact rfl; exact rfl; refine bF ?_; (with_reducible assumption); apply wl_val; apply opv_ldX; exact rfl; assumption; exact e1_by; exact rfl; exact rfl; apply wl_take; exact rfl; exact rfl; exact rfl; refine bF ?_; (with_reducible assumption); refine wl_mv rfl rfl ?_; apply wl_take; exact rfl; exact rfl; exact rfl; refine bF ?_; (with_reducible assumption)
      refine wl_call ok_codec_Cmp (cmp_any rn (hto _ hs.1) rfl htn) ⟨rfl, rfl, trivial⟩ rfl ?_
      rintro _ _ ⟨rfl, rfl⟩
      by_cases h2 : cmpB n.a.x.key to < 0
      · have hb : befE to n.a.x = true := decide_eq_true (.inr h2)
        apply wl_take; exact rfl; exact rfl; exact rfl; refine bF ?_; (with_reducible assumption); refine wl_bin rfl rfl bin_lss rfl ?_; apply wl_take; exact rfl; exact rfl; exact rfl; exact rfl; apply wl_val; apply opv_pickF; exact rfl; refine bF ?_; (with_reducible assumption); exact rfl; exact rfl; apply wl_val; apply opv_pickT; exact rfl; exact rfl; exact rfl; exact rfl; refine wl_ns ?_; apply wc_decT; exact rfl; (with_reducible assumption); refine wc_skip ?_; refine we_seq ?_; refine wc_seq ?_; refine wc_block ?_; refine wc_region ?_; refine wl_mv rfl rfl ?_; refine wl_mv rfl rfl ?_; apply wl_val; apply opv_nilOk; exact rfl; exact rfl; apply wl_val; apply opv_fa; exact fa_N0; exact rfl; exact rfl; apply wl_val; apply opv_ldG; exact rfl; assumption; exact sE; exact rfl
        refine wl_call ok_mem_twin (ttwin_any rn rn2 (hok n (by rw [hns2]; simp)).1 (hok n (by rw [hns2]; simp)).2) ⟨rfl, trivial⟩ rfl ?_
        rintro _ w5 ⟨C, e2, D, f2, rfl, hsx⟩
        replace hs := ((hs.call hsx).pack (H1 := enOw n.a.x C e2 D f2) (.ce (oE n.a.x) (enV n.a.x C e2 D f2)) oE_of).front 1 rfl
        dsimp only [delC] at hs
        refine ws_pushS hs tkE (fun _ => rfl) (by simp) ⟨_, rfl, rfl⟩ rfl rfl (by decide) (by omega) (by simp only [maxLen]; omega) rfl rfl ?_; clear hs; intro _ R2 c2 _ hs
        refine wl_as rfl rfl ?_; refine wl_nil ?_; refine we_block_norm ?_; refine we_seq ?_; refine wc_region ?_; refine wl_mv rfl rfl ?_; apply wl_val; apply opv_nilOk; exact rfl; exact rfl; apply wl_val; apply opv_fa; exact fa_N1; exact rfl; exact rfl
        obtain ⟨_, j2⟩ := node_wi hs 3 rfl hns2
        obtain ⟨_, hrow, _, _⟩ := node_read hs 3 rfl hns2
        have hu := rowV_get (ns := rest) (show 0 < n.h from hh n (by rw [hns2]; simp))
        rw [nxt_zero fun m hm => hh m (by rw [hns2]; simp [hm])] at hu
        apply wl_val; apply opv_ldX; exact rfl; assumption; exact e1_ns; exact rfl; exact rfl; apply wl_elK (T := tyN) (hr := hrow) (hb := hu); exact rfl; exact rfl; exact rfl; exact rfl; exact rfl; intro _; refine wl_as rfl rfl ?_; refine wl_nil ?_
        refine we_loop _ rest.length ⟨d ++ [n], rest, R2, c2, rfl, by rw [hd]; simp, fun m hm => ?_, by rw [List.map_append, List.map_append]; exact hs, rfl⟩ (by simp) ⟨rfl, by rw [List.length_append]; rfl, rfl, trivial⟩
        rcases List.mem_append.1 hm with hm | hm
        · exact hbef m hm
        · rw [List.mem_singleton.1 hm]; exact hb
      · rw [hstop (decide_eq_false fun h => h.elim h1 h2)]
        apply wl_take; exact rfl; exact rfl; exact rfl; refine bF ?_; (with_reducible assumption); refine wl_bin rfl rfl bin_lss rfl ?_; apply wl_take; exact rfl; exact rfl; exact rfl; exact rfl; apply wl_val; apply opv_pickF; exact rfl; refine bF ?_; (with_reducible assumption); exact rfl; exact rfl; apply wl_val; apply opv_pickT; exact rfl; exact rfl; exact rfl; exact rfl; refine wl_ns ?_; apply wc_decF; exact rfl; (with_reducible assumption); refine wc_exit ?_; refine we_seq_exit ?_; refine we_loop_exit ?_; refine we_block_exit ?_; refine we_seq ?_; refine wc_sr ?_; refine wl_mv rfl rfl ?_; refine wl_as rfl rfl ?_; refine wl_ns ?_; refine wc_ret ?_
        exact we_ret1 rfl rfl ⟨_, rfl, r, R, c, by rw [List.length_map], hs⟩
end Go.Proofs.YtpnckagibkdcpaaDoor


/-
  Range of a table told by its entries.
-/
namespace Go.Proofs.YtpnckagibkdcpaaDoor
open Go.RowKit

def rangeE (l : List En) (f t : List UInt8) : List En := l.filter fun x => decide (0 ≤ cmpB x.key f ∧ (t.length = 0 ∨ cmpB x.key t < 0))
theorem filter_while {l : List En} (t : List UInt8) (ho : Ord l) : l.filter (befE t) = l.takeWhile (befE t) := by
  induction l with
  | nil => rfl
  | cons x l ih =>
    obtain ⟨h1, h2⟩ := List.pairwise_cons.1 ho
    rw [List.filter_cons, List.takeWhile_cons]
    cases hb : befE t x with
    | true => simp only [if_true]; rw [ih h2]
    | false =>
      simp only [Bool.false_eq_true, if_false]
      refine List.filter_eq_nil_iff.2 fun y hy => ?_
      have h3 := of_decide_eq_false hb
      intro h4
      have h5 := of_decide_eq_true h4
      rcases h5 with h5 | h5
      · exact h3 (.inl h5)
      · refine h3 (.inr ?_)
        rcases lessE_iff.1 (h1 y hy) with h6 | ⟨h6, _⟩
        · exact cmp_trans h6 h5
        · rw [h6]; exact h5
theorem range_eq {pre post : List Nd} {f : List UInt8} (t : List UInt8) (ho : Ord ((pre ++ post).map (·.a.x))) (hsq : ∀ n ∈ pre ++ post, n.a.x.seq < 18446744073709551616) (hpre : ∀ n ∈ pre, cmpE n.a.x f 18446744073709551615 < 0) (hpost : ∀ n ∈ post, ¬ cmpE n.a.x f 18446744073709551615 < 0) :
    rangeE ((pre ++ post).map (·.a.x)) f t = rgN t post := by
  have h1 : (pre.map (·.a.x)).filter (fun x => decide (0 ≤ cmpB x.key f ∧ (t.length = 0 ∨ cmpB x.key t < 0))) = [] := List.filter_eq_nil_iff.2 fun x hx => by
    obtain ⟨n, hn, rfl⟩ := List.mem_map.1 hx
    rw [decide_eq_true_eq]
    rintro ⟨h, _⟩
    have h2 := hpre n hn
    by_cases hk : n.a.x.key = f
    · have := (cmpE_same hk).1 h2
      have := hsq n (List.mem_append_left _ hn)
      omega
    · rw [cmpE_diff hk] at h2; omega
  have h2 : (post.map (·.a.x)).filter (fun x => decide (0 ≤ cmpB x.key f ∧ (t.length = 0 ∨ cmpB x.key t < 0))) = (post.map (·.a.x)).filter (befE t) := List.filter_congr fun x hx => by
    obtain ⟨n, hn, rfl⟩ := List.mem_map.1 hx
    have h3 : 0 ≤ cmpB n.a.x.key f := by
      have h4 := hpost n hn
      by_cases hk : n.a.x.key = f
      · rw [hk, cmp_refl]; decide
      · rw [cmpE_diff hk] at h4; omega
    rw [befE]
    simp [h3]
  rw [rangeE, List.map_append, List.filter_append, h1, List.nil_append, h2, rgN]
  rw [List.map_append] at ho
  exact filter_while t (List.pairwise_append.1 ho).2.1
theorem trange_any {TX : TypeId × List Value} {S : BS} {t kn e tn te : Nat} {xs : List En} {K T : Option Addr} {key to : List UInt8} {w : World} (h0 : Sat w [.ck (tblX TX t xs)] S) (ho : Ord xs) (hkn : key.length = kn) (hkey : ∀ w', Mod S w w' → RdB w' K key) (htn : to.length = tn) (hto : ∀ w', Mod S w w' → RdB w' T to) (hok : ∀ x ∈ xs, x.key.length ≤ 140737488355328 ∧ x.val.length ≤ 140737488355328) (hsq : ∀ x ∈ xs, x.seq < 18446744073709551616) (hlen : xs.length ≤ 1099511627776) :
    CallsV Tryd.prog 15 #[pN t, .slice K kn e, .slice T tn te] w fun v w' => ∃ R c, v = .slice R (rangeE xs key to).length c ∧ St S w w' [.ck (rsC 4 39 R c ((rangeE xs key to).map oE)), .ck (tblX TX t xs)] := by
  obtain ⟨r0, ns, h1, h2, h3, h4⟩ := tblC_get h0
  obtain ⟨pre, post, h5, h6, h7⟩ := ord_split ⟨key, 18446744073709551615, 0, []⟩ (h2 ▸ ho)
  subst h2
  refine (trange0_any (e := e) (te := te) h1 h3 h5 h6 h7 h4 hkn hkey htn hto (fun n hn => hok _ (List.mem_map_of_mem hn)) (by simpa using hlen)).mono fun v w' ⟨r, R, c, hv, hs⟩ => ?_
  subst h5
  rw [range_eq to ho (fun n hn => hsq _ (List.mem_map_of_mem hn)) h6 h7]
  exact ⟨R, c, hv, tblC_back (H := [_]) hs rfl (by simp) h4⟩
end Go.Proofs.YtpnckagibkdcpaaDoor


/-
  The bytes of a constant string, over pieces: made, marked, and read from then on. Nothing here names the program.
-/
namespace Go.Proofs.YtpnckagibkdcpaaDoor
open Go.RowKit

theorem zell_freeze (w : World) (a : Addr) (n : Nat) (p : Addr) : (w.freeze a n).cell? p = w.cell? p := by
  unfold World.freeze
  split
  · rfl
  · unfold World.cell?
    simp only [Array.getElem?_modify]
    by_cases h : a.block = p.block
    · rw [if_pos h]
      cases w.heap[p.block]? with
      | none => rfl
      | some o => cases o <;> rfl
    · rw [if_neg h]
theorem zelow_freeze {B : Nat} (w : World) (a : Addr) (n : Nat) (h : B ≤ a.block) : Below B w (w.freeze a n) := by
  unfold World.freeze
  split
  · exact Below.refl _ _
  · refine ⟨rfl, rfl, rfl, by simp, fun j hj => ?_⟩
    simp only [Array.getElem?_modify]
    rw [if_neg (by omega)]
section
variable {P : Program} {N : Nat} {ops : Array Oper} {Q : Exit → Act → World → Prop} {rest : List Oper} {L : FL} {w0 w : World} {M : BS} {H : List Cd} {t e : TypeId} {bytes : Nat}
theorem ws_lit {d1 d2 len : Nat} {ps : List (Nat × Operand)} {ty1 ty2 : TypeId} {p1 p2 : String} {f1 f2 : Array Edge} (hs : St M w0 w H) (xs : List UInt8) (T : Row1 P t e (.int .u8 0) bytes) (he : P.underlying e = some (.int .u8)) (hp : PLooks L 0 ps (bvs xs)) (hl : xs.length = len) (hle : len ≤ 16777216) (h0 : 0 < len) (hd1 : Nat.blt d1 N = true) (hd2 : Nat.blt d2 N = true)
    (h : ∀ p A w', St M w0 w' (.ce (byEl xs) [.slice A xs.length xs.length] :: H) → WL P N ops Q rest ((d2, .slice A xs.length xs.length) :: (d1, p) :: L) w') :
    WL P N ops Q (⟨some d1, .buildSlice t len ps.toArray, ty1, p1, f1, none⟩ :: ⟨some d2, .convert t t (.tmp d1), ty2, p2, f2, none⟩ :: rest) L w := by
  subst hl
  refine wl_bs T hp (bvs_length xs) hle hd1 fun A w1 ho hb _ => ?_
  have hr : RdR 1 w1 All A [] := RdR.nil _
  have hr : Rd w1 A xs.length (bvs xs) := ho.rd
  obtain ⟨b, o, rfl, hb1, hc⟩ := hr.2 h0
  have hlen : 0 < (bvs xs).length := by rw [bvs_length]; exact h0
  have h0c := hc 0 (bvs xs)[0] (List.getElem?_eq_getElem hlen)
  obtain ⟨k, hk⟩ : ∃ k, w1.shape? b = some k := by
    unfold World.cell? at h0c
    unfold World.shape?
    simp only at h0c
    cases hh : w1.heap[b]? with
    | none => rw [hh] at h0c; cases h0c
    | some ob => cases ob <;> first | exact ⟨_, rfl⟩ | (rw [hh] at h0c; cases h0c)
  have hge : w.heap.size ≤ b := (Ow.lt ho _ rfl).1
  have hbf : Below w.heap.size w (w1.freeze ⟨b, k.2, none⟩ 1) := hb.trans (zelow_freeze _ _ _ hge)
  refine wl_val (v := .slice (some ⟨b, o, none⟩) xs.length xs.length) (w' := w1.freeze ⟨b, k.2, none⟩ 1) (fun ρ op hρ ho _ => ?_) hd2 (h _ _ _ ?_)
  · unfold execOp
    simp only [ho, hρ (.tmp d1) (.slice (some ⟨b, o, none⟩) xs.length xs.length) (by simp [look, lookT]), convert, Sem.run_bind, run_underlying T.sl, Result.andThen_ok]
    simp [run_underlying he, markStringish, hk]
  · refine hs.new (T := fun b => w.heap.size ≤ b) (c := .ce (byEl xs) [.slice (some ⟨b, o, none⟩) xs.length xs.length]) hbf ?_ fun _ _ h => h
    refine byEl.mk ⟨hr.1, fun _ => ⟨b, o, rfl, ?_, fun j u hu => by rw [zell_freeze]; exact hc j u hu⟩⟩ (Nat.le_refl _) fun a ha _ => by cases ha; exact hge
    unfold World.freeze; simp; exact hb1
end
end Go.Proofs.YtpnckagibkdcpaaDoor


/-
  How arguments that are entries, or lists of them, are read; walks over awake and over the laws MergeSees and MergeKeeps.
-/
namespace Go.Proofs.YtpnckagibkdcpaaDoor
open Go.RowKit Go.ChangeShapes Go.WideShapes Go.ChangeAt Go.Deep

theorem open_boolV {H : Type} {enc : TypeId × Value → H} {P : Program} {w : World} {base : Nat} {spare : Nat → Bool} {held : Bool} {t : TypeId} {b : Bool} {d : DataW H} {ps : List MemPlace} (ht : P.underlying t = some .bool) (hd : DataW.Trod enc P w base spare held t (.bool b) d ps) : d = .lit (.bool b) ∧ ps = [] := by
  obtain ⟨fuel, hf⟩ := hd
  obtain ⟨b', h, hx⟩ := DataW.trod_bool ht hf
  simp [Value.cells] at h
  subst h
  simp only [Prod.mk.injEq] at hx
  exact hx
def enB (x : En) : Nat := x.key.length + x.val.length
theorem opens_entry : Opens Tryd.prog 39 enEl 4 enB (fun x => x.seq < 2 ^ 64) := fun {H} enc W fuel cs x h => by
  obtain ⟨xs, n, rfl, rfl, hl, hx, hf⟩ := DataW.trod_struct Tryd.underlying39 h
  replace hl : cs.length = 4 := hl.trans (by kernel_rfl)
  obtain ⟨c0, c1, c2, c3, rfl⟩ := len4 hl
  obtain ⟨y0, y1, y2, y3, rfl⟩ := len4 hx
  obtain ⟨a0, h0, _, k0, b0⟩ := opens_bytes enc W n [c0] y0 (field_at hf (i := 0) (off := 0) (k := 1) (t := 31) rfl rfl rfl (by kernel_rfl))
  obtain ⟨a1, h1, _, k1, b1⟩ := opens_int Tryd.underlying37 enc W n [c1] y1 (field_at hf (i := 1) (off := 1) (k := 1) (t := 37) rfl rfl rfl (by kernel_rfl))
  obtain ⟨a2, h2, _, k2, b2⟩ := opens_int Tryd.underlying5 enc W n [c2] y2 (field_at hf (i := 2) (off := 2) (k := 1) (t := 5) rfl rfl rfl (by kernel_rfl))
  obtain ⟨a3, h3, _, k3, b3⟩ := opens_bytes enc W n [c3] y3 (field_at hf (i := 3) (off := 3) (k := 1) (t := 31) rfl rfl rfl (by kernel_rfl))
  obtain rfl : c1 = .int .u64 a1 := by simpa [vEl] using h1
  obtain rfl : c2 = .int .u8 a2 := by simpa [vEl] using h2
  have k1' : 0 ≤ a1 ∧ a1 ≤ 18446744073709551615 := by simpa [Lit.wf, IntKind.min, IntKind.max, IntKind.signed, IntKind.bits] using k1
  have k2' : 0 ≤ a2 ∧ a2 ≤ 255 := by simpa [Lit.wf, IntKind.min, IntKind.max, IntKind.signed, IntKind.bits] using k2
  obtain ⟨s, rfl⟩ := Int.eq_ofNat_of_zero_le k1'.1
  obtain ⟨q, rfl⟩ := Int.eq_ofNat_of_zero_le k2'.1
  have h0' := h0
  have h3' := h3
  obtain ⟨A, c, e0, _⟩ := h0
  obtain ⟨B, d, e3, _⟩ := h3
  obtain rfl : c0 = .slice A a0.length c := by simpa using e0
  obtain rfl : c3 = .slice B a3.length d := by simpa using e3
  refine ⟨⟨a0, s, UInt8.ofNat q, a3⟩, ⟨A, c, B, d, ?_, h0', h3'⟩, rfl, ?_, ?_⟩
  · have : (UInt8.ofNat q).toNat = q := by rw [UInt8.toNat_ofNat', Nat.mod_eq_of_lt (by omega)]
    simp [enV, this]
  · show s < 2 ^ 64; omega
  · replace b0 : a0.length + 1 ≤ _ := b0
    replace b3 : a3.length + 1 ≤ _ := b3
    simp only [enB, Rows.uptoBulk, Rows.uptoBulkAll, List.map_cons, List.map_nil]
    omega
abbrev uEl (m : Nat) : El := vEl (.int .u64 (m : Int))
theorem opens_u64 : Opens Tryd.prog 37 uEl 1 (fun _ => 0) (fun m => m < 2 ^ 64) := fun {H} enc W fuel cs x h => by
  obtain ⟨a, h1, h2, k, b⟩ := opens_int Tryd.underlying37 enc W fuel cs x h
  have k' : 0 ≤ a ∧ a ≤ 18446744073709551615 := by simpa [Lit.wf, IntKind.min, IntKind.max, IntKind.signed, IntKind.bits] using k
  obtain ⟨s, rfl⟩ := Int.eq_ofNat_of_zero_le k'.1
  exact ⟨s, h1, h2, by omega, b⟩
theorem tkU : RowK Tryd.prog 23 37 1 (.int .u64 0) 8 := ⟨Tryd.underlying23, by kernel_rfl, rfl, by decide⟩
theorem opens_entries : Opens Tryd.prog 22 (fun l : List En => rowEl 4 (l.map enEl)) 1 (sumB enB) (fun l => ∀ x ∈ l, x.seq < 2 ^ 64) := opens_slice tkE (by kernel_rfl) opens_entry
theorem opens_u64s : Opens Tryd.prog 23 (fun l : List Nat => rowEl 1 (l.map uEl)) 1 (sumB fun _ => 0) (fun l => ∀ m ∈ l, m < 2 ^ 64) := opens_slice tkU (by kernel_rfl) opens_u64
theorem flat_u64s : ∀ (ms : List Nat), (ms.map fun (m : Nat) => [Value.int .u64 (m : Int)]).flatten = u64s ms
  | [] => rfl
  | m :: ms => by rw [List.map_cons, List.flatten_cons, flat_u64s ms]; rfl
theorem rd_u64s {w : World} {S : BS} {A : Option Addr} {ms : List Nat} (h : RdR 1 w S A (ms.map uEl)) : Rd w A ms.length (u64s ms) := by
  obtain ⟨css, h1, h2, _⟩ := h
  have he : css.flatten = u64s ms := by
    have hl := h1.1
    rw [List.length_map] at hl
    have : css = ms.map fun (m : Nat) => [Value.int .u64 (m : Int)] := by
      apply List.ext_getElem?
      intro i
      cases hi : css[i]? with
      | none => rw [List.getElem?_eq_none]; have := List.getElem?_eq_none_iff.1 hi; simp; omega
      | some cs =>
        obtain ⟨_, E, hE, hp⟩ := h1.2 i cs hi
        rw [List.getElem?_map] at hE ⊢
        cases hm : ms[i]? with
        | none => rw [hm] at hE; cases hE
        | some m => rw [hm] at hE; cases hE; exact congrArg some hp
    rw [this, flat_u64s]
  rw [he, List.length_map, Nat.mul_one] at h2
  exact h2
theorem ent_small {l : List En} (h : sumB enB l ≤ 1048576) : l.length ≤ 1048576 ∧ ∀ x ∈ l, x.key.length ≤ 1048576 ∧ x.val.length ≤ 1048576 := by
  have h1 := sumB_len (bulk := enB) l
  refine ⟨by omega, fun x hx => ?_⟩
  have h2 := sumB_mem (bulk := enB) hx
  have h3 : enB x = x.key.length + x.val.length := rfl
  omega
theorem w_ok {l : List En} (h : worstE [l] = 0) : checkE l = 0 ∧ Ord l := by
  have h1 : stepW 0 l = 0 := h
  unfold stepW errE at h1
  rcases checkE_le l with h0 | h0 | h0
  · cases ho : ordE l with
    | true => exact ⟨h0, ord_of ho⟩
    | false => rw [h0, ho] at h1; simp at h1
  · rw [h0] at h1; simp at h1
  · rw [h0] at h1; simp at h1
theorem check_ok {l : List En} (h : checkE l = 0) : ∀ x ∈ l, bigE x = false ∧ badE x = false := by
  intro x hx
  unfold checkE at h
  split at h
  · cases h
  · rename_i h1
    split at h
    · cases h
    · rename_i h2
      simp only [Bool.not_eq_true] at h1 h2
      have h1' := List.any_eq_false.1 h1 x hx
      have h2' := List.any_eq_false.1 h2 x hx
      simp only [Bool.not_eq_true] at h1' h2'
      exact ⟨h1', h2'⟩
theorem kind_ok {x : En} (h : badE x = false) : x.kind = 1 ∨ x.kind = 2 := by
  have := of_decide_eq_false h
  rcases Decidable.not_not.1 this with h | ⟨h, _⟩
  · exact .inl h
  · exact .inr h
theorem few_mem {l : List En} {n : Nat} {x : En} (h : x ∈ l.take n) : x ∈ l := List.mem_of_mem_take h
/-- The program's own list, of one key. -/
def awakeL : List En := [⟨[107], 9, 1, []⟩, ⟨[107], 7, 1, []⟩, ⟨[107], 5, 1, []⟩, ⟨[107], 3, 1, []⟩]
theorem awake_keep : worstE [awakeL] = 0 ∧ keepE awakeL false [6] = [⟨[107], 9, 1, []⟩, ⟨[107], 5, 1, []⟩] := by decide
abbrev RetTr (w : World) (v : Value) (w' : World) : Prop := v = .bool true ∧ Below w.heap.size w w'
theorem rows_one {w : World} {A : Option Addr} {n c : Nat} {l : List En} (hr : RdR 4 w All A (l.map enEl)) (hn : l.length = n) (hc : n ≤ c) : Grp 1 w All (rowsE [l]) [[.slice A n c]] :=
  Grp.one (by subst hn; have := rowEl.mk hr (c := c) (by simpa using hc) (by decide); simpa using this) rfl
theorem u64s_one (ms : List Nat) : ∀ u ∈ u64s ms, u.oneCell' = true := by
  intro u hu; simp [u64s] at hu; obtain ⟨_, _, rfl⟩ := hu; rfl
end Go.Proofs.YtpnckagibkdcpaaDoor


/-
  Literal bytes among pieces; walks over awake and over the law MemChecks.
-/
namespace Go.Proofs.YtpnckagibkdcpaaDoor
open Go.RowKit

theorem mod_freeze (w : World) (a : Addr) (n : Nat) {M : BS} (h : M a.block) : Mod M w (w.freeze a n) := by
  unfold World.freeze
  split
  · exact Mod.refl _ _
  · refine ⟨rfl, rfl, rfl, by simp, fun j _ hm => ?_⟩
    simp only [Array.getElem?_modify]
    rw [if_neg fun hk => hm (by rw [← hk]; exact h)]
section
variable {P : Program} {N : Nat} {ops : Array Oper} {Q : Exit → Act → World → Prop} {rest : List Oper} {L : FL} {w0 w : World} {M : BS} {H : List Cd} {t e : TypeId} {bytes : Nat}
/-- Bytes of one's own are marked as a constant's. -/
theorem ws_conv {d n c : Nat} {x : Operand} {ty : TypeId} {pos : String} {aft : Array Edge} {A : Option Addr} {xs : List UInt8} (hs : St M w0 w H) (i : Nat) (hx : look L x = some (.slice A n c)) (hi : nthC H i = some (.ow e A n c (bvs xs))) (T : Row1 P t e (.int .u8 0) bytes) (he : P.underlying e = some (.int .u8)) (h0 : 0 < n) (hd : Nat.blt d N = true)
    (h : ∀ w', St M w0 w' (setC H i (.ce (byEl xs) [.slice A n c])) → WL P N ops Q rest ((d, .slice A n c) :: L) w') :
    WL P N ops Q (⟨some d, .convert t t x, ty, pos, aft, none⟩ :: rest) L w := by
  have ho := hs.ow i hi
  have hn : xs.length = n := by have := ho.len; rwa [bvs_length] at this
  subst hn
  have hr := ho.rd
  obtain ⟨b, o, rfl, hb1, hc⟩ := hr.2 h0
  have hlen : 0 < (bvs xs).length := by rw [bvs_length]; exact h0
  have h0c := hc 0 (bvs xs)[0] (List.getElem?_eq_getElem hlen)
  obtain ⟨k, hk⟩ : ∃ k, w.shape? b = some k := by
    unfold World.cell? at h0c
    unfold World.shape?
    simp only at h0c
    cases hh : w.heap[b]? with
    | none => rw [hh] at h0c; cases h0c
    | some ob => cases ob <;> first | exact ⟨_, rfl⟩ | (rw [hh] at h0c; cases h0c)
  obtain ⟨S, hcP, hS, hK⟩ := hs.upd i hi
  refine wl_val (v := .slice (some ⟨b, o, none⟩) xs.length c) (w' := w.freeze ⟨b, k.2, none⟩ 1) (fun ρ op hρ ho _ => ?_) hd (h _ ?_)
  · unfold execOp
    simp only [ho, hρ x _ hx, convert, Sem.run_bind, run_underlying T.sl, Result.andThen_ok]
    simp [run_underlying he, markStringish, hk]
  · refine hK _ (.ce (byEl xs) [.slice (some ⟨b, o, none⟩) xs.length c]) S (mod_freeze _ _ _ (show S b from hcP.1 ⟨b, o, none⟩ rfl)) ?_ fun _ _ h => .inl h
    refine byEl.mk ⟨hr.1, fun _ => ⟨b, o, rfl, ?_, fun j u hu => by rw [zell_freeze]; exact hc j u hu⟩⟩ (ow_cap ho) fun a ha _ => hcP.1 a ha
    unfold World.freeze; split <;> simpa using hb1
end
theorem byEl_rdB {w : World} {S : Nat → Prop} {xs : List UInt8} {A : Option Addr} {n c : Nat} (h : (byEl xs).P w S [.slice A n c]) : RdB w A xs := by
  obtain ⟨A', c', h1, h2, h3, _⟩ := h
  simp only [List.cons.injEq, Value.slice.injEq, and_true] at h1
  obtain ⟨rfl, _, rfl⟩ := h1
  exact h3
theorem rs_rdr {e : TypeId} {A : Option Addr} {c : Nat} {l : List En} {w : World} {T : BS} (h : (Cd.ck (rsC 4 e A c (l.map oE))).P w T) : RdR 4 w T A (l.map enEl) := by
  obtain ⟨h1, h2⟩ := rs_rg h
  obtain ⟨css, g1, g2⟩ := owr_en h2
  exact ⟨css, g1.mono fun b _ hb => hb.1, own_rd g2, fun a ha _ => h1 a ha⟩
abbrev aw7 : List En := [⟨[97], 1, 1, [120]⟩, ⟨[97], 3, 2, []⟩]
theorem aw7_put : putC [] aw7 = 0 ∧ aw7.foldl insE [] = [⟨[97], 3, 2, []⟩, ⟨[97], 1, 1, [120]⟩] := by decide
set_option maxRecDepth 8000 in
theorem awake7_any {w : World} (hg : GT w) : CallsV Tryd.prog 22 #[] w fun v w' => v = .bool true ∧ Below w.heap.size w w' := by
  have hs := St.init w
  refine calls_in (N := _) Tryd.func22 rfl Tryd.ntmps22 rfl ?_; show WC _ _ _ _ _ _
  refine wc_sr ?_; refine wl_as rfl rfl ?_; refine wl_ns ?_; refine wc_sr ?_
  refine wl_call ok_mem_New new_any trivial rfl ?_
  rintro _ w1 ⟨t, rfl, hsx⟩
  replace hs := hs.call hsx
  unfold pN
  refine wl_as rfl rfl ?_; refine wl_ns ?_; refine wc_seq ?_; refine wc_sr ?_; refine wl_mv rfl rfl ?_; apply wl_val; apply opv_bin; exact rfl; exact rfl; exact bin_eqlPtrNil Tryd.underlying24; exact rfl; refine wl_mv rfl rfl ?_; apply wl_take; exact rfl; exact rfl; exact rfl; exact rfl; refine wl_mv rfl rfl ?_; apply wl_take; exact rfl; exact rfl; exact rfl; exact rfl
  refine ws_bs (vs := bvs [97]) hs tyB ⟨rfl, rfl, rfl, trivial⟩ rfl (by decide) rfl ?_
  clear hs; intro A w2 hs
  apply wl_take; exact rfl; exact rfl; exact rfl; exact rfl
  refine ws_conv (xs := [97]) hs 0 rfl rfl tyB Tryd.underlying5 (by decide) rfl ?_
  clear hs; intro w3 hs; dsimp only [setC] at hs
  apply wl_take; exact rfl; exact rfl; exact rfl; exact rfl
  refine ws_bs (vs := bvs [120]) hs tyB ⟨rfl, rfl, rfl, trivial⟩ rfl (by decide) rfl ?_
  clear hs; intro B w4 hs
  apply wl_take; exact rfl; exact rfl; exact rfl; exact rfl
  refine ws_conv (xs := [120]) hs 0 rfl rfl tyB Tryd.underlying5 (by decide) rfl ?_
  clear hs; intro w5 hs; dsimp only [setC] at hs
  apply wl_take; exact rfl; exact rfl; exact rfl; exact rfl
  refine wl_val (opv_build (vs := [(0, .slice A 1 1), (1, .int .u64 1), (2, .int .u8 1), (3, .slice B 1 1)]) (cs := enV ⟨[97], 1, 1, [120]⟩ A 1 B 1) ⟨rfl, rfl, rfl, rfl, rfl, rfl, rfl, rfl, trivial⟩ (by kernel_rfl)) rfl ?_
  apply wl_take; exact rfl; exact rfl; exact rfl; exact rfl
  refine ws_bs (vs := bvs [97]) hs tyB ⟨rfl, rfl, rfl, trivial⟩ rfl (by decide) rfl ?_
  clear hs; intro C w6 hs
  apply wl_take; exact rfl; exact rfl; exact rfl; exact rfl
  refine ws_conv (xs := [97]) hs 0 rfl rfl tyB Tryd.underlying5 (by decide) rfl ?_
  clear hs; intro w7 hs; dsimp only [setC] at hs
  apply wl_take; exact rfl; exact rfl; exact rfl; exact rfl
  refine wl_val (opv_build (vs := [(0, .slice C 1 1), (1, .int .u64 3), (2, .int .u8 2)]) (cs := enV ⟨[97], 3, 2, []⟩ C 1 none 0) ⟨rfl, rfl, rfl, rfl, rfl, rfl, trivial⟩ (by kernel_rfl)) rfl ?_
  apply wl_take; exact rfl; exact rfl; exact rfl; exact rfl
  refine wl_bsG (css := [enV ⟨[97], 1, 1, [120]⟩ A 1 B 1, enV ⟨[97], 3, 2, []⟩ C 1 none 0]) tkE ⟨rfl, ⟨_, rfl, rfl⟩, rfl, rfl, ⟨_, rfl, rfl⟩, rfl, trivial⟩ (els := [enV ⟨[97], 1, 1, [120]⟩ A 1 B 1, enV ⟨[97], 3, 2, []⟩ C 1 none 0].map rawEl) (S := NoB) rfl (by decide) (by decide)
    (grp_raw (by simp [enV])) rfl fun R w8 hR hbx _ => ?_
  replace hs := hs.newG hbx hR (Nat.le_refl _) fun _ _ h => h.elim
  clear hR hbx
  dsimp only [List.append_nil, List.cons_append, List.nil_append] at hs
  obtain ⟨S2, hS2, _, hM, hH, hB⟩ := St.lend (H1 := [.ck (tblC t [])]) (H2 := [_, _, _, _]) (hs.front 4 rfl)
  have hr : RdR 4 w8 (fun b => Fr NoB w b ∧ ¬ S2 b) R (aw7.map enEl) := by
    obtain ⟨T1, hT1, hrg, T2, hT2, h2, T3, hT3, h3, T4, hT4, h4, _⟩ := hH w8 (Mod.refl _ _)
    obtain ⟨ho, _⟩ := OwR.raw (css := [enV ⟨[97], 1, 1, [120]⟩ A 1 B 1, enV ⟨[97], 3, 2, []⟩ C 1 none 0]) hrg.2
    refine ⟨[enV ⟨[97], 1, 1, [120]⟩ A 1 B 1, enV ⟨[97], 3, 2, []⟩ C 1 none 0], (Grp.one (E := enEl ⟨[97], 1, 1, [120]⟩) (enEl.mk ?_ ?_) rfl).append (Grp.one (E := enEl ⟨[97], 3, 2, []⟩) (enEl.mk ?_ ?_) rfl), own_rd ho, fun a ha _ => hT1 _ (hrg.1 a ha)⟩
    · exact El.mono h4 fun b _ h => (hT4 b h).1.1.1
    · exact El.mono h3 fun b _ h => (hT3 b h).1.1
    · exact El.mono h2 fun b _ h => (hT2 b h).1
    · exact byEl.mk (xs := []) (Rd.nil _ _) (Nat.zero_le _) fun a h _ => by cases h
  apply wl_take; exact rfl; exact rfl; exact rfl; exact rfl
  refine wl_call ok_mem_Table_Put (put_any (n := 2) (c := 2) (xs := []) (l := aw7) hS2 .nil hr (fun b _ h => h.2) rfl (by decide) (by decide) (by decide) fun w' hm => hg.mod (hM w' hm) id) ⟨rfl, rfl, trivial⟩ rfl ?_
  rintro _ w9 ⟨rfl, hsx⟩
  replace hs := hB _ _ hsx
  clear hB hsx hS2 hM hH hr
  rw [aw7_put.1, if_pos rfl, aw7_put.2] at hs
  rw [aw7_put.1]
  dsimp only [List.cons_append, List.nil_append] at hs
  apply wl_take; exact rfl; exact rfl; exact rfl; exact rfl; refine wl_bin rfl rfl bin_neq rfl ?_; apply wl_val; apply opv_pickF; exact rfl; exact rfl; exact rfl; exact rfl; refine wl_ns ?_; apply wc_condFb; exact rfl; exact rfl; refine wc_skip ?_; refine we_seq ?_; refine wc_sr ?_; refine wl_mv rfl rfl ?_
  replace hs := hs.drop 1 rfl
  dsimp only [delC] at hs
  refine ws_lit hs [97] tyB Tryd.underlying5 ⟨rfl, rfl, rfl, trivial⟩ rfl (by decide) (by decide) rfl rfl ?_
  clear hs; intro _ K w10 hs
  obtain ⟨S2, hS2, _, hM, hH, hB⟩ := St.lend (H1 := [.ck (tblC t _)]) (H2 := [_, _, _, _]) (hs.front 1 rfl)
  refine wl_call ok_mem_Table_Get (tget_any (key := [97]) (m := 2) (kn := 1) (e := 1) hS2 (by decide) rfl (fun w' hm => ?_) (by decide)) ⟨rfl, rfl, rfl, trivial⟩ rfl ?_
  · obtain ⟨_, _, h⟩ := (hH w' hm).mem (c := .ce (byEl [97]) [.slice K 1 1]) (by simp)
    exact byEl_rdB h
  rintro _ w11 ⟨H, ⟨X, cx, Y, cy, rfl, rfl⟩, hsx⟩
  replace hs := hB _ _ hsx
  clear hB hsx hS2 hM hH
  unfold enOw at hs
  dsimp only [List.cons_append, List.nil_append] at hs
  refine wl_mv rfl rfl ?_; apply wl_val; apply opv_extract; exact rfl; exact rfl; exact rfl; apply wl_val; apply opv_extract; exact rfl; exact rfl; exact rfl
  refine ws_var (cs := enV ⟨[97], 1, 1, [120]⟩ X cx Y cy) hs zeroE sE rfl (fun _ => rfl) (by first | rfl | simp [Value.oneCell']) rfl ?_; clear hs; intro g2 _ hs
  unfold enV at hs
  refine wl_as rfl rfl ?_; refine wl_ns ?_; refine wc_sr ?_; refine wl_mv rfl rfl ?_; refine wl_mv rfl rfl ?_; apply wl_take; exact rfl; exact rfl; exact rfl; exact rfl; apply wl_val; apply opv_fa; exact fa_sE (by decide); exact rfl; exact rfl; apply wl_take; exact rfl; exact rfl; exact rfl; exact rfl; apply wl_val; apply opv_ldX; exact rfl; exact hs.ar 0 rfl; exact e1_u64; exact rfl; exact rfl; apply wl_take; exact rfl; exact rfl; exact rfl; exact rfl; refine wl_bin rfl rfl bin_eql rfl ?_; apply wl_val; apply opv_pickT; exact rfl; exact rfl; exact rfl; exact rfl; refine wl_mv rfl rfl ?_; apply wl_take; exact rfl; exact rfl; exact rfl; refine bT ?_; exact rfl; refine wl_mv rfl rfl ?_; apply wl_take; exact rfl; exact rfl; exact rfl; refine bT ?_; exact rfl
  obtain ⟨S2, hS2, _, hM, hH, hB⟩ := St.lend (H1 := [.ck (tblC t _)]) (H2 := [_, _, _, _, _, _, _]) (hs.front 3 rfl)
  refine wl_call ok_mem_Table_Len (tlen_any hS2) ⟨rfl, trivial⟩ rfl ?_
  rintro _ _ ⟨rfl, rfl⟩
  apply wl_take; exact rfl; exact rfl; exact rfl; refine bT ?_; exact rfl; refine wl_bin rfl rfl bin_eql rfl ?_; apply wl_val; apply opv_pickT; exact rfl; refine bT ?_; exact rfl; exact rfl; exact rfl; refine wl_mv rfl rfl ?_; apply wl_take; exact rfl; exact rfl; exact rfl; refine bT ?_; exact rfl; refine wl_mv rfl rfl ?_; apply wl_take; exact rfl; exact rfl; exact rfl; refine bT ?_; exact rfl
  refine wl_call ok_mem_Table_Size (tsize_any hS2) ⟨rfl, trivial⟩ rfl ?_
  rintro _ _ ⟨rfl, rfl⟩
  apply wl_take; exact rfl; exact rfl; exact rfl; refine bT ?_; exact rfl; refine wl_bin rfl rfl bin_eql rfl ?_; apply wl_val; apply opv_pickT; exact rfl; refine bT ?_; exact rfl; exact rfl; exact rfl; refine wl_as rfl rfl ?_; refine wl_ns ?_; refine wc_ret ?_
  exact we_ret1 rfl rfl ⟨_, rfl, rfl, hs.bel⟩
theorem few7_any {A : Option Addr} {n c m : Nat} {l : List En} {w : World} (hn : l.length = n) (hc : n ≤ c) :
    CallsV Tryd.prog 25 #[.slice A n c, .int .i64 (m : Int)] w fun v w' => v = .slice A (l.take m).length c ∧ w = w' := by
  subst hn
  refine calls_in (N := _) Tryd.func25 rfl Tryd.ntmps25 rfl ?_; show WC _ _ _ _ _ _
  refine wc_sr ?_; refine wl_as rfl rfl ?_; refine wl_ns ?_; refine wc_seq ?_; refine wc_sr ?_; refine wl_mv rfl rfl ?_; apply wl_val; apply opv_len; exact rfl; exact tkE.sl; exact rfl; refine wl_mv rfl rfl ?_; refine wl_bin rfl rfl bin_gtr rfl ?_; refine wl_ns ?_
  refine wc_cond rfl (fun h1 => ?_) (fun h1 => ?_)
  · refine wc_region ?_; refine wl_mv rfl rfl ?_; refine wl_mv rfl rfl ?_
    refine wl_slK (l := 0) (h := m) tkE rfl rfl ⟨_, rfl⟩ (by omega) (by omega) rfl ?_
    rw [cutK_zero]
    refine wl_as rfl rfl ?_; refine wl_ns ?_; refine wc_sr ?_; refine wl_mv rfl rfl ?_; refine wl_as rfl rfl ?_; refine wl_ns ?_; refine wc_ret ?_
    exact we_ret1 rfl rfl ⟨_, rfl, slice_eq (by simp; omega), rfl⟩
  · refine wc_skip ?_; refine we_seq ?_; refine wc_sr ?_; refine wl_mv rfl rfl ?_; refine wl_as rfl rfl ?_; refine wl_ns ?_; refine wc_ret ?_
    exact we_ret1 rfl rfl ⟨_, rfl, slice_eq (by simp; omega), rfl⟩
theorem checks_any {A : Option Addr} {n c : Nat} {l : List En} {w : World} (hr : RdR 4 w All A (l.map enEl)) (hn : l.length = n) (hc : n ≤ c) (hsq : ∀ x ∈ l, x.seq < 2 ^ 64) (hl : sumB enB l ≤ 1048576) (hg : GT w) :
    CallsV Tryd.prog 4 #[.slice A n c] w (RetTr w) := by
  obtain ⟨hl1, hok1⟩ := ent_small hl
  have hs := St.init w
  refine calls_in (N := _) Tryd.func4 rfl Tryd.ntmps4 rfl ?_; show WC _ _ _ _ _ _
  refine wc_sr ?_; refine wl_as rfl rfl ?_; refine wl_ns ?_; refine wc_seq ?_; refine wc_sr ?_
  refine wl_call ok_caissonlaw07_awake (awake7_any hg) trivial rfl ?_; rintro _ _ ⟨rfl, hbx⟩; replace hs := hs.below hbx; try dsimp only [List.cons_append, List.nil_append, setC, delC] at hs
  apply wl_val; apply opv_not; exact rfl; exact rfl; refine wl_mv rfl rfl ?_; apply wl_take; exact rfl; exact rfl; exact rfl; exact Bool.not_true; refine wl_mv rfl rfl ?_; apply wl_take; exact rfl; exact rfl; exact rfl; exact Bool.not_true
  refine wl_call ok_caissonref07_Twins (twins3_any (hr.below hs.bel) hn (fun x hx => by have := hok1 x hx; omega) (by omega)) ⟨rfl, trivial⟩ rfl ?_
  rintro _ w2 ⟨B, d, rfl, hsx⟩
  replace hs := hs.call hsx
  dsimp only [List.cons_append, List.nil_append] at hs
  apply wl_take; exact rfl; exact rfl; exact rfl; exact Bool.not_true
  refine wl_call ok_mem_Check (check_any (l := l) (OwR.rd (hs.rsE 0 rfl)) rfl (by simp only [maxLen]; omega)) ⟨rfl, trivial⟩ rfl ?_; rintro _ _ ⟨rfl, hbx⟩; replace hs := hs.below hbx; try dsimp only [List.cons_append, List.nil_append, setC, delC] at hs
  apply wl_take; exact rfl; exact rfl; exact rfl; exact Bool.not_true; refine wl_mv rfl rfl ?_; apply wl_take; exact rfl; exact rfl; exact rfl; exact Bool.not_true
  refine wl_call ok_caissonref07_Check (refCheck_any (l := l) (hr.below hs.bel) hn (by simp only [maxLen]; omega)) ⟨rfl, trivial⟩ rfl ?_; rintro _ _ ⟨rfl, hbx⟩; replace hs := hs.below hbx; try dsimp only [List.cons_append, List.nil_append, setC, delC] at hs
  apply wl_take; exact rfl; exact rfl; exact rfl; exact Bool.not_true; refine wl_bin rfl rfl bin_neq rfl ?_; apply wl_val; apply opv_pickF; exact rfl; exact Bool.not_true; exact rfl; exact rfl; refine wl_ns ?_; apply wc_decF; exact rfl; (with_reducible exact nne); refine wc_skip ?_; refine we_seq ?_; refine wc_sr ?_; refine wl_mv rfl rfl ?_
  refine wl_call ok_caissonlaw07_few (few7_any (m := 60) hn hc) ⟨rfl, rfl, trivial⟩ rfl ?_; rintro _ _ ⟨rfl, rfl⟩
  have hr2 := take_rdr (m := 60) hr (by omega)
  have hok : ∀ x ∈ l.take 60, x.key.length ≤ 1048576 ∧ x.val.length ≤ 1048576 := fun x hx => hok1 x (few_mem hx)
  have hlen : (l.take 60).length ≤ 60 := by rw [List.length_take]; omega
  have hlc : (l.take 60).length ≤ c := by rw [List.length_take]; omega
  obtain ⟨k, hk⟩ : ∃ q, l.take 60 = q := ⟨_, rfl⟩
  rw [hk] at hr2 hok hlen hlc
  rw [hk]
  clear hr hok1 hsq hk hsx hbx
  refine wl_as rfl rfl ?_; refine wl_ns ?_; refine wc_seq ?_; refine wc_sr ?_; refine wl_mv rfl rfl ?_; apply wl_val; apply opv_len; exact rfl; exact tkE.sl; exact rfl; refine wl_mv rfl rfl ?_; refine wl_ns ?_; refine wc_block ?_
  refine wc_loop (fun L wr mm => ∃ i : Nat, L = [(0, .slice A k.length c), (18, .int .i64 (k.length : Int)), (19, .int .i64 (i : Int))] ∧ i ≤ k.length ∧ Below w.heap.size w wr ∧ mm = k.length - i)
    [(0, .slice A k.length c), (18, .int .i64 (k.length : Int)), (19, .int .i64 0)] k.length ⟨0, rfl, by omega, hs.bel, rfl⟩ ⟨rfl, rfl, rfl, trivial⟩ ?_
  clear hs
  rintro _ w4 mm ⟨i, rfl, hi, hw4, rfl⟩
  refine wc_sr ?_; refine wl_bin rfl rfl bin_lss rfl ?_; refine wl_ns ?_; refine wc_seq ?_
  refine wc_cond rfl (fun h1 => ?_) (fun h1 => ?_)
  · refine wc_skip ?_; refine we_seq ?_; refine wc_seq ?_; refine wc_block ?_; refine wc_sr ?_; refine wl_mv rfl rfl ?_; refine wl_as rfl rfl ?_; refine wl_ns ?_; refine wc_sr ?_; refine wl_mv rfl rfl ?_; apply wl_val; apply opv_len; exact rfl; exact tkE.sl; exact rfl; refine wl_mv rfl rfl ?_; refine wl_ns ?_; refine wc_block ?_
    refine wc_loop (fun L wr mm => ∃ j : Nat, L = [(0, .slice A k.length c), (3, .int .i64 (i : Int)), (18, .int .i64 (k.length : Int)), (19, .int .i64 (i : Int)), (23, .int .i64 (k.length : Int)), (24, .int .i64 (j : Int))] ∧ j ≤ k.length ∧ Below w.heap.size w wr ∧ mm = k.length - j)
      [(0, .slice A k.length c), (3, .int .i64 (i : Int)), (18, .int .i64 (k.length : Int)), (19, .int .i64 (i : Int)), (23, .int .i64 (k.length : Int)), (24, .int .i64 0)] k.length ⟨0, rfl, by omega, hw4, rfl⟩ ⟨rfl, rfl, rfl, rfl, rfl, rfl, trivial⟩ ?_
    clear hw4
    rintro _ w5 mm ⟨j, rfl, hj, hw5, rfl⟩
    refine wc_sr ?_; refine wl_bin rfl rfl bin_lss rfl ?_; refine wl_ns ?_; refine wc_seq ?_
    refine wc_cond rfl (fun h2 => ?_) (fun h2 => ?_)
    · obtain ⟨x, hx⟩ : ∃ x, k[i]? = some x := ⟨_, List.getElem?_eq_getElem (by omega)⟩
      obtain ⟨y, hy⟩ : ∃ x, k[j]? = some x := ⟨_, List.getElem?_eq_getElem (by omega)⟩
      obtain ⟨b, o, cs, rfl, _, _, hp, i1⟩ := RdR.at (k := 4) (by decide) hr2 (E := enEl x) (i := i) (by rw [List.getElem?_map, hx]; rfl)
      obtain ⟨X, cx, X2, cx2, rfl, rx, _, rx2, _⟩ := enEl.rd hp
      obtain ⟨b', o', cs, hbo, _, _, hp, i2⟩ := RdR.at (k := 4) (by decide) hr2 (E := enEl y) (i := j) (by rw [List.getElem?_map, hy]; rfl)
      obtain ⟨Y, cy, Y2, cy2, rfl, ry, _, ry2, _⟩ := enEl.rd hp
      simp only [Option.some.injEq, Addr.mk.injEq, and_true] at hbo
      obtain ⟨rfl, rfl⟩ := hbo
      have hox := hok x (List.mem_of_getElem? hx)
      have hoy := hok y (List.mem_of_getElem? hy)
      replace i1 := i1.below hw5
      replace i2 := i2.below hw5
      refine wc_skip ?_; refine we_seq ?_; refine wc_seq ?_; refine wc_block ?_; refine wc_sr ?_; refine wl_mv rfl rfl ?_; refine wl_as rfl rfl ?_; refine wl_ns ?_; refine wc_seq ?_
      refine wc_heldB mixed fun w6 hS => ?_
      apply wh_takeH 0; exact rfl; intro _ hw_; apply opv_move; exact rfl; exact rfl; kernel_rfl; exact hS; apply wh_takeH 1; exact rfl; intro _ hw_; apply opv_move; exact rfl; exact rfl; kernel_rfl; exact hS; apply wh_takeH 2; exact rfl; intro _ hw_; apply opv_idxG tkE; exact rfl; exact rfl; exact rfl; omega; exact rfl; kernel_rfl; exact hS; apply wh_takeH 3; exact rfl; intro _ hw_; apply opv_ldG; exact rfl; exact Wi.below (by assumption) hw_; exact sE; exact rfl; kernel_rfl; exact hS; apply wh_takeH 5; exact rfl; intro _ hw_; apply opv_move; exact rfl; exact rfl; kernel_rfl; exact hS; apply wh_takeH 6; exact rfl; intro _ hw_; apply opv_move; exact rfl; exact rfl; kernel_rfl; exact hS; apply wh_takeH 7; exact rfl; intro _ hw_; apply opv_idxG tkE; exact rfl; exact rfl; exact rfl; omega; exact rfl; kernel_rfl; exact hS; apply wh_takeH 8; exact rfl; intro _ hw_; apply opv_ldG; exact rfl; exact Wi.below (by assumption) hw_; exact sE; exact rfl; kernel_rfl; exact hS; apply wh_takeH 11; exact rfl; intro _ hw_; apply opv_move; exact rfl; exact rfl; kernel_rfl; exact hS; apply wh_takeH 12; exact rfl; intro _ hw_; apply opv_move; exact rfl; exact rfl; kernel_rfl; exact hS; apply wh_takeH 13; exact rfl; intro _ hw_; apply opv_idxG tkE; exact rfl; exact rfl; exact rfl; omega; exact rfl; kernel_rfl; exact hS; apply wh_takeH 14; exact rfl; intro _ hw_; apply opv_ldG; exact rfl; exact Wi.below (by assumption) hw_; exact sE; exact rfl; kernel_rfl; exact hS; apply wh_takeH 15; exact rfl; intro _ hw_; apply opv_move; exact rfl; exact rfl; kernel_rfl; exact hS; apply wh_takeH 16; exact rfl; intro _ hw_; apply opv_move; exact rfl; exact rfl; kernel_rfl; exact hS; apply wh_takeH 17; exact rfl; intro _ hw_; apply opv_idxG tkE; exact rfl; exact rfl; exact rfl; omega; exact rfl; kernel_rfl; exact hS; apply wh_takeH 18; exact rfl; intro _ hw_; apply opv_ldG; exact rfl; exact Wi.below (by assumption) hw_; exact sE; exact rfl; kernel_rfl; exact hS
      refine wh_one 4 (o := ⟨_, _, _, _, _, _⟩) (by kernel_rfl) rfl ?_
      refine wl_call ok_caissonref07_Twin (twin2_any (x := x) ((rx.below hw5).below hS) ((rx2.below hw5).below hS) (by omega) (by omega)) ⟨rfl, trivial⟩ rfl ?_
      rintro _ w7 ⟨C1, d1, C2, d2, rfl, hsx⟩
      have q1 := (hsx.ow 0 rfl).rd
      have hS1 := hsx.bel
      replace hS := hS.trans (hsx.bel.mono hS.size)
      clear hsx
      refine wl_nil ?_
      refine we_held hS ?_
      refine wh_one 9 (o := ⟨_, _, _, _, _, _⟩) (by kernel_rfl) rfl ?_
      refine wl_call ok_caissonref07_Twin (twin2_any (x := y) ((ry.below hw5).below hS) ((ry2.below hw5).below hS) (by omega) (by omega)) ⟨rfl, trivial⟩ rfl ?_
      rintro _ w8 ⟨D1, e1, D2, e2, rfl, hsx⟩
      replace q1 := q1.below hsx.bel
      have q2 := (hsx.ow 0 rfl).rd
      replace hS := hS.trans (hsx.bel.mono hS.size)
      clear hsx
      refine wl_nil ?_
      refine we_held hS ?_
      refine wh_one 10 (o := ⟨_, _, _, _, _, _⟩) (by kernel_rfl) rfl ?_
      refine wl_call ok_mem_Less (less_any (x := x) (y := y) q1 q2) ⟨rfl, rfl, trivial⟩ rfl ?_
      rintro _ w9 ⟨rfl, hbx⟩
      replace hS := hS.trans (hbx.mono hS.size)
      refine wl_nil ?_
      refine we_held hS ?_
      refine wh_one 19 (o := ⟨_, _, _, _, _, _⟩) (by kernel_rfl) rfl ?_
      refine wl_call ok_caissonref07_Less (refLess_any (x := x) (y := y) ((rx.below hw5).below hS) ((ry.below hw5).below hS) (by simp only [maxLen]; omega) (by simp only [maxLen]; omega)) ⟨rfl, rfl, trivial⟩ rfl ?_
      rintro _ w10 ⟨rfl, hbx⟩
      replace hS := hS.trans (hbx.mono hS.size)
      refine wl_nil ?_
      refine we_held hS ?_
      have hb0 : (lessE x y != lessE x y) = false := by cases lessE x y <;> rfl
      apply wh_takeH 20; exact rfl; intro _ hw_; apply opv_bin; exact rfl; exact rfl; exact bin_neqB tyBool; exact rfl; kernel_rfl; exact hS
      refine wh_done (by kernel_rfl) ?_
      refine we_seq ?_; apply wc_decF; exact rfl; (with_reducible exact nne); refine wc_skip ?_; refine we_block_norm ?_; refine we_seq ?_; refine wc_region ?_; apply wl_val; apply opv_bin; exact rfl; exact rfl; exact bin_add64 (by omega); exact rfl; refine wl_mv rfl rfl ?_; refine wl_nil ?_
      exact we_loop _ (k.length - (j + 1)) ⟨j + 1, rfl, by omega, hw5.trans (hS.mono hw5.size), rfl⟩ (by omega) ⟨rfl, rfl, rfl, rfl, rfl, by simp [lookT], trivial⟩
    · refine wc_exit ?_; refine we_seq_exit ?_; refine we_loop_exit ?_; refine we_block_exit ?_; refine we_block_norm ?_; refine we_seq ?_; refine wc_region ?_; apply wl_val; apply opv_bin; exact rfl; exact rfl; exact bin_add64 (by omega); exact rfl; refine wl_mv rfl rfl ?_; refine wl_nil ?_
      exact we_loop _ (k.length - (i + 1)) ⟨i + 1, rfl, by omega, hw5, rfl⟩ (by omega) ⟨rfl, rfl, by simp [lookT], trivial⟩
  · refine wc_exit ?_; refine we_seq_exit ?_; refine we_loop_exit ?_; refine we_block_exit ?_; refine we_seq ?_; refine wc_sr ?_; refine wl_as rfl rfl ?_; refine wl_ns ?_; refine wc_ret ?_
    exact we_ret1 rfl rfl ⟨_, rfl, rfl, hw4⟩
end Go.Proofs.YtpnckagibkdcpaaDoor


/-
  Rows that list the tables of math/bits: what the listed data give, the witness's world.
-/
namespace Go.Proofs.YtpnckagibkdcpaaDoor
open Go.RowKit Go.ChangeShapes Go.WideShapes Go.ChangeAt Go.Lib

abbrev tabs : List (String × DataW Unit) := [("math/bits.deBruijn32tab", Rows.laid_math_bits_deBruijn32tab), ("math/bits.deBruijn64tab", Rows.laid_math_bits_deBruijn64tab)]
theorem gt_of {W : World} (h : laidMetH Tryd.prog tabs W) : GT W := by
  rw [MakeChecks.laidMetH_plain _ _ _ (by kernel_rfl)] at h
  obtain ⟨g, t, cs, fuel, p, hg, hty, hvar, hd⟩ := Lib.laidMet.reads h (.tail _ (.head _))
  obtain rfl : 2 = g := Option.some.inj ((show Tryd.prog.globalNamed "math/bits.deBruijn64tab" = some 2 by kernel_rfl).symm.trans hg)
  obtain rfl : 122 = t := Option.some.inj ((show (Tryd.prog.globals[2]?).map (·.type) = some 122 by kernel_rfl).symm.trans hty)
  have key : ∀ i, i < 64 → ∃ x : UInt8, W.cell? ⟨2, i, none⟩ = some (bv x) := fun i hi => by
    obtain ⟨fuel', d, q, _, he⟩ := Lib.array_elem Tryd.underlying122 hd i hi
    rw [show Tryd.prog.cellsOf 5 = 1 by kernel_rfl, Nat.mul_one] at he
    obtain ⟨z, hz, _, hwf⟩ := DataW.trod_int Tryd.underlying5 he
    have h2 := congrArg (·[0]?) hz
    simp only [List.getElem?_take, List.getElem?_drop] at h2
    have h3 : 0 ≤ z ∧ z ≤ 255 := by simpa [Lit.wf, IntKind.min, IntKind.max, IntKind.signed, IntKind.bits] using hwf
    obtain ⟨q, rfl⟩ := Int.eq_ofNat_of_zero_le h3.1
    refine ⟨UInt8.ofNat q, ?_⟩
    rw [World.var?_cell hg hvar i, ← Array.getElem?_toList]
    have : (UInt8.ofNat q).toNat = q := by rw [UInt8.toNat_ofNat', Nat.mod_eq_of_lt (by omega)]
    simp at h2
    simp [bv, this, h2]
  refine ⟨?_, key⟩
  obtain ⟨x, hx⟩ := key 0 (by decide)
  unfold World.cell? at hx
  rcases Nat.lt_or_ge 2 W.heap.size with h1 | h1
  · exact h1
  · rw [Array.getElem?_eq_none h1] at hx; cases hx
def dbCells (d : DataW Unit) : List Value := match d with
  | .agg ds => ds.filterMap fun x => match x with | .lit (.int k z) => some (.int k z) | _ => none
  | _ => []
/-- The settled world, the two variables holding what their initialisers lay. -/
noncomputable def laidWorld (os : Os) : World :=
  let w0 := World.holding Tryd.prog os ⟨#[], #[], []⟩
  let put (h : Array Obj) (g : Nat) (cs : Array Value) : Array Obj := h.modify g fun
    | .cells _ t frozen => .cells cs t frozen
    | o => o
  let h1 := put w0.heap 1 (dbCells Rows.laid_math_bits_deBruijn32tab).toArray
  let h2 := put h1 2 (dbCells Rows.laid_math_bits_deBruijn64tab).toArray
  { w0 with heap := h2 }
theorem laid_met (os : Os) (args : Array Value) : laidMet Tryd.prog tabs ((laidWorld os).forCall (fun _ _ => 0) ⟨#[], args, []⟩).memory :=
  (LaidIn.of_run (l := tabs) [1, 2] 8 (by kernel_rfl) (by kernel_rfl) (by kernel_rfl) (by kernel_rfl)).met
end Go.Proofs.YtpnckagibkdcpaaDoor


/-
  Plain laws of numbers written in eight bytes, the greatest first. No program in sight.
-/
namespace Go.Proofs.YtpnckagibkdcpaaDoor

/-- The lowest k bytes of a number, the greatest first. -/
def ordK : Nat → Nat → List UInt8
  | 0, _ => []
  | k + 1, n => ordK k (n / 256) ++ [UInt8.ofNat n]
def ordU (n : Nat) : List UInt8 := ordK 8 n
def numB (l : List UInt8) : Nat := l.foldl (fun n x => n * 256 + x.toNat) 0
def getOrdU (b : List UInt8) (p : Int) : Nat × Int × Nat :=
  if p < 0 ∨ (b.length : Int) < p then (0, 0, 1)
  else if (b.length : Int) - p < 8 then (0, 0, 5)
  else (numB ((b.drop p.toNat).take 8), p + 8, 0)

theorem ordK_length : ∀ (k n : Nat), (ordK k n).length = k
  | 0, _ => rfl
  | k + 1, n => by simp [ordK, ordK_length k]
theorem ordU_length (n : Nat) : (ordU n).length = 8 := ordK_length 8 n
theorem numB_snoc (l : List UInt8) (x : UInt8) : numB (l ++ [x]) = numB l * 256 + x.toNat := by simp [numB]
theorem numB_ordK : ∀ (k n : Nat), numB (ordK k n) = n % 256 ^ k
  | 0, n => by simp [ordK, numB, Nat.mod_one]
  | k + 1, n => by
    rw [ordK, numB_snoc, numB_ordK k]
    rw [Nat.pow_succ, Nat.mul_comm (256 ^ k) 256, Nat.mod_mul]
    simp
    omega
theorem numB_ordU {n : Nat} (h : n < 2 ^ 64) : numB (ordU n) = n := by
  rw [ordU, numB_ordK]; exact Nat.mod_eq_of_lt h
theorem ordK_numB : ∀ (k : Nat) (l : List UInt8), l.length = k → ordK k (numB l) = l
  | 0, l, h => by simp [ordK, List.length_eq_zero_iff.1 h]
  | k + 1, l, h => by
    have hne : l ≠ [] := by rintro rfl; simp at h
    have e := List.dropLast_concat_getLast hne
    rw [← e, numB_snoc, ordK]
    have hx := (l.getLast hne).toNat_lt
    have e1 : (numB l.dropLast * 256 + (l.getLast hne).toNat) / 256 = numB l.dropLast := by omega
    rw [e1, ordK_numB k _ (by simp [h])]
    congr 2
    apply UInt8.toNat_inj.1
    simp
theorem ordU_numB {l : List UInt8} (h : l.length = 8) : ordU (numB l) = l := ordK_numB 8 l h
theorem numB_cons : ∀ (l : List UInt8) (a : Nat), l.foldl (fun n x => n * 256 + x.toNat) a = a * 256 ^ l.length + numB l
  | [], a => by simp [numB]
  | x :: l, a => by
    have h1 := numB_cons l (a * 256 + x.toNat)
    have h2 := numB_cons l (0 * 256 + x.toNat)
    simp only [numB, List.foldl_cons, List.length_cons] at h1 h2 ⊢
    rw [h1, h2, Nat.pow_succ]
    simp only [Nat.add_mul, Nat.mul_assoc, Nat.zero_mul, Nat.zero_add]
    rw [Nat.mul_comm 256 (256 ^ l.length)]
    omega
theorem numB_lt (l : List UInt8) : numB l < 256 ^ l.length := by
  have h := numB_ordK l.length (numB l)
  rw [ordK_numB _ l rfl] at h
  rw [h]; exact Nat.mod_lt _ (Nat.pow_pos (by decide))
theorem cmp_num : ∀ (a b : List UInt8), a.length = b.length → (cmpB a b < 0 ↔ numB a < numB b)
  | [], [], _ => by simp [cmpB, numB]
  | [], _ :: _, h => by simp at h
  | _ :: _, [], h => by simp at h
  | x :: a, y :: b, h => by
    simp only [List.length_cons, Nat.add_right_cancel_iff] at h
    have ha : numB (x :: a) = x.toNat * 256 ^ a.length + numB a := by
      have := numB_cons a (0 * 256 + x.toNat); simp only [numB, List.foldl_cons] at this ⊢; rw [this]; simp
    have hb : numB (y :: b) = y.toNat * 256 ^ a.length + numB b := by
      have := numB_cons b (0 * 256 + y.toNat); simp only [numB, List.foldl_cons] at this ⊢; rw [this, h]; simp
    have la := numB_lt a
    have lb := numB_lt b
    rw [← h] at lb
    rw [ha, hb]
    by_cases h1 : x < y
    · rw [cmp_lt h1]
      rw [UInt8.lt_iff_toNat_lt] at h1
      have := Nat.mul_le_mul_right (256 ^ a.length) (show x.toNat + 1 ≤ y.toNat from h1)
      rw [Nat.add_mul, Nat.one_mul] at this
      constructor
      · intro _; omega
      · intro _; decide
    · by_cases h2 : y < x
      · rw [cmp_gt h2]
        rw [UInt8.lt_iff_toNat_lt] at h2
        have := Nat.mul_le_mul_right (256 ^ a.length) (show y.toNat + 1 ≤ x.toNat from h2)
        rw [Nat.add_mul, Nat.one_mul] at this
        constructor
        · intro h; omega
        · intro h; omega
      · have e : x = y := UInt8.le_antisymm (UInt8.not_lt.1 h2) (UInt8.not_lt.1 h1)
        subst e
        rw [cmp_same, cmp_num a b h]
        omega
theorem cmp_ordU {n m : Nat} (hn : n < 2 ^ 64) (hm : m < 2 ^ 64) : (cmpB (ordU n) (ordU m) < 0) = (n < m) := by
  rw [cmp_num _ _ (by rw [ordU_length, ordU_length]), numB_ordU hn, numB_ordU hm]
theorem ordK_get : ∀ (k n i : Nat), i < k → (ordK k n)[i]? = some (UInt8.ofNat (n / 256 ^ (k - 1 - i)))
  | 0, _, _, h => by omega
  | k + 1, n, i, h => by
    rw [ordK]
    by_cases hi : i < k
    · rw [List.getElem?_append_left (by rw [ordK_length]; exact hi), ordK_get k _ i hi, Nat.div_div_eq_div_mul]
      have e : 256 * 256 ^ (k - 1 - i) = 256 ^ (k + 1 - 1 - i) := by
        rw [show k + 1 - 1 - i = (k - 1 - i) + 1 by omega, Nat.pow_succ, Nat.mul_comm]
      rw [e]
    · have : i = k := by omega
      subst this
      rw [List.getElem?_append_right (by rw [ordK_length]; omega), ordK_length]
      simp
theorem numB_step {l : List UInt8} {k : Nat} {x : UInt8} (h : l[k]? = some x) : numB (l.take (k + 1)) = numB (l.take k) * 256 + x.toNat := by
  rw [take_getR h, numB_snoc]
theorem xor_top {u : Nat} (h : u < 2 ^ 64) : u ^^^ 9223372036854775808 = (u + 9223372036854775808) % 18446744073709551616 := by
  rw [show 9223372036854775808 = 2 ^ 63 from rfl, show 18446744073709551616 = 2 ^ 64 from rfl]
  apply Nat.eq_of_testBit_eq
  intro j
  rw [Nat.testBit_xor, Nat.testBit_mod_two_pow, Nat.add_comm]
  rcases Nat.lt_trichotomy j 63 with hj | hj | hj
  · rw [Nat.testBit_two_pow_of_ne (by omega), Nat.testBit_two_pow_add_gt hj]
    have : j < 64 := by omega
    simp [this]
  · subst hj
    rw [Nat.testBit_two_pow_self, Nat.testBit_two_pow_add_eq]
    simp
  · rw [Nat.testBit_two_pow_of_ne (by omega), Nat.testBit_lt_two_pow (Nat.lt_of_lt_of_le h (Nat.pow_le_pow_right (by decide) (by omega)))]
    have : ¬ j < 64 := by omega
    simp [this]
theorem getOrdU_arg {b : List UInt8} {p : Int} (h : ¬ (0 ≤ p ∧ p ≤ b.length)) : getOrdU b p = (0, 0, 1) := by
  rw [getOrdU, if_pos (by omega)]
theorem getOrdU_end {b : List UInt8} {p : Int} (h : 0 ≤ p ∧ p ≤ b.length) (h8 : (b.length : Int) - p < 8) : getOrdU b p = (0, 0, 5) := by
  rw [getOrdU, if_neg (by omega), if_pos h8]
theorem getOrdU_ok {b : List UInt8} {q : Nat} (h : q + 8 ≤ b.length) : getOrdU b q = (numB ((b.drop q).take 8), (q : Int) + 8, 0) := by
  rw [getOrdU, if_neg (by omega), if_neg (by omega)]; simp
theorem getOrdU_cases (b : List UInt8) (p : Int) : (∃ e : Nat, ¬ e = 0 ∧ getOrdU b p = (0, 0, e)) ∨ ∃ q : Nat, p = q ∧ q + 8 ≤ b.length ∧ getOrdU b p = (numB ((b.drop q).take 8), (q : Int) + 8, 0) := by
  by_cases h : 0 ≤ p ∧ p ≤ b.length
  · by_cases h8 : (b.length : Int) - p < 8
    · exact .inl ⟨5, by decide, getOrdU_end h h8⟩
    · obtain ⟨q, rfl⟩ := Int.eq_ofNat_of_zero_le h.1
      exact .inr ⟨q, rfl, by omega, getOrdU_ok (by omega)⟩
  · exact .inl ⟨1, by decide, getOrdU_arg h⟩
end Go.Proofs.YtpnckagibkdcpaaDoor


/-
  Plain laws of the sum: what a step of the division does, that it keeps differences, and that no change within 32 bits of one another goes unseen. No program in sight.
-/
namespace Go.Proofs.YtpnckagibkdcpaaDoor

def stepC (x : Nat) : Nat := if x % 2 = 1 then (x / 2) ^^^ 3988292384 else x / 2
def stepsC : Nat → Nat → Nat
  | 0, x => x
  | k + 1, x => stepsC k (stepC x)
def eightC (x : Nat) : Nat := stepsC 8 x
def crcRaw (x : Nat) (l : List UInt8) : Nat := l.foldl (fun x b => eightC (x ^^^ b.toNat)) x
def crcOf (l : List UInt8) : Nat := 4294967295 - crcRaw 4294967295 l

theorem stepC_odd {x : Nat} (h : x % 2 = 1) : stepC x = (x / 2) ^^^ 3988292384 := by rw [stepC, if_pos h]
theorem stepC_even {x : Nat} (h : ¬ x % 2 = 1) : stepC x = x / 2 := by rw [stepC, if_neg h]
theorem xor_div2 (a b : Nat) : (a ^^^ b) / 2 = a / 2 ^^^ b / 2 := by
  have := Nat.shiftRight_xor_distrib (a := a) (b := b) (i := 1)
  simpa [Nat.shiftRight_succ] using this
theorem xor_mod2 (a b : Nat) : (a ^^^ b) % 2 = (a + b) % 2 := by
  have h := Nat.testBit_xor a b 0
  simp only [Nat.testBit_zero] at h
  rcases Nat.mod_two_eq_zero_or_one a with ha | ha <;> rcases Nat.mod_two_eq_zero_or_one b with hb | hb <;> rcases Nat.mod_two_eq_zero_or_one (a ^^^ b) with hc | hc <;> simp [ha, hb, hc] at h <;> omega
theorem step_xor (a b : Nat) : stepC (a ^^^ b) = stepC a ^^^ stepC b := by
  have hm := xor_mod2 a b
  have hd := xor_div2 a b
  by_cases ha : a % 2 = 1
  · by_cases hb : b % 2 = 1
    · rw [stepC_even (by omega), stepC_odd ha, stepC_odd hb, hd]
      rw [Nat.xor_assoc, Nat.xor_comm 3988292384 (b / 2 ^^^ 3988292384), Nat.xor_assoc, Nat.xor_self, Nat.xor_zero]
    · rw [stepC_odd (by omega), stepC_odd ha, stepC_even hb, hd]
      rw [Nat.xor_assoc, Nat.xor_assoc, Nat.xor_comm (b / 2)]
  · by_cases hb : b % 2 = 1
    · rw [stepC_odd (by omega), stepC_even ha, stepC_odd hb, hd, Nat.xor_assoc]
    · rw [stepC_even (by omega), stepC_even ha, stepC_even hb, hd]
theorem steps_xor : ∀ (k a b : Nat), stepsC k (a ^^^ b) = stepsC k a ^^^ stepsC k b
  | 0, _, _ => rfl
  | k + 1, a, b => by simp only [stepsC]; rw [step_xor, steps_xor k]
theorem steps_add : ∀ (k m a : Nat), stepsC (k + m) a = stepsC m (stepsC k a)
  | 0, m, a => by rw [Nat.zero_add]; rfl
  | k + 1, m, a => by rw [show k + 1 + m = (k + m) + 1 by omega]; simp only [stepsC]; rw [steps_add k m]
theorem steps_zero : ∀ (k : Nat), stepsC k 0 = 0
  | 0 => rfl
  | k + 1 => by simp only [stepsC]; rw [show stepC 0 = 0 from rfl, steps_zero k]
theorem step_lt {x : Nat} (h : x < 4294967296) : stepC x < 4294967296 := by
  unfold stepC
  split
  · exact Nat.xor_lt_two_pow (n := 32) (by omega) (by decide)
  · omega
theorem steps_lt : ∀ (k : Nat) {x : Nat}, x < 4294967296 → stepsC k x < 4294967296
  | 0, _, h => h
  | k + 1, _, h => steps_lt k (step_lt h)
theorem steps_shift : ∀ (k m : Nat), stepsC k (m * 2 ^ k) = m
  | 0, m => by simp [stepsC]
  | k + 1, m => by
    have e : m * 2 ^ (k + 1) = 2 * (m * 2 ^ k) := by rw [Nat.pow_succ, ← Nat.mul_assoc, Nat.mul_comm]
    simp only [stepsC]
    rw [e, stepC_even (by omega), Nat.mul_div_cancel_left _ (by decide), steps_shift k]
theorem step_ne {x : Nat} (h : x < 4294967296) (h0 : x ≠ 0) : stepC x ≠ 0 := by
  intro hc
  by_cases ho : x % 2 = 1
  · rw [stepC_odd ho] at hc
    have e : x / 2 = 3988292384 := by
      have := congrArg (· ^^^ 3988292384) hc
      simpa [Nat.xor_assoc] using this
    omega
  · rw [stepC_even ho] at hc; omega
theorem steps_ne : ∀ (k : Nat) {x : Nat}, x < 4294967296 → x ≠ 0 → stepsC k x ≠ 0
  | 0, _, _, h => h
  | k + 1, _, h, h0 => steps_ne k (step_lt h) (step_ne h h0)
/-- A burst of 32 bits, wherever it begins, is never lost. -/
theorem burst_ne {n a d : Nat} (hd : d < 4294967296) (h0 : d ≠ 0) (ha : a ≤ n) : stepsC n (d * 2 ^ a) ≠ 0 := by
  obtain ⟨m, rfl⟩ := Nat.exists_eq_add_of_le ha
  rw [steps_add, steps_shift]
  exact steps_ne m hd h0
theorem xor_low (q r : Nat) (hr : r < 256) : q * 256 ^^^ r = q * 256 + r := by
  have h1 : (q * 256 ^^^ r) / 256 = q := by
    have := Nat.shiftRight_xor_distrib (a := q * 256) (b := r) (i := 8)
    simp only [Nat.shiftRight_eq_div_pow] at this
    rw [show (2 : Nat) ^ 8 = 256 from rfl, Nat.mul_div_cancel _ (by decide), Nat.div_eq_of_lt hr, Nat.xor_zero] at this
    exact this
  have h2 : (q * 256 ^^^ r) % 256 = r := by
    have := Nat.xor_mod_two_pow (a := q * 256) (b := r) (n := 8)
    rw [show (2 : Nat) ^ 8 = 256 from rfl, Nat.mul_mod_left, Nat.zero_xor, Nat.mod_eq_of_lt hr] at this
    exact this
  omega
theorem eight_high (q : Nat) : eightC (q * 256) = q := steps_shift 8 q
/-- A byte's entry does for it. -/
theorem eight_split (x : Nat) (b : UInt8) : eightC (x ^^^ b.toNat) = x / 256 ^^^ eightC (x % 256 ^^^ b.toNat) := by
  have e : x = x / 256 * 256 ^^^ x % 256 := by rw [xor_low _ _ (Nat.mod_lt _ (by decide))]; omega
  have e2 : eightC (x ^^^ b.toNat) = eightC (x / 256 * 256 ^^^ (x % 256 ^^^ b.toNat)) := by
    rw [← Nat.xor_assoc, ← e]
  rw [e2]
  unfold eightC
  rw [steps_xor]
  congr 1
  exact eight_high (x / 256)
theorem eight_lt {x : Nat} (h : x < 4294967296) : eightC x < 4294967296 := steps_lt 8 h
theorem xorb_lt {x : Nat} (h : x < 4294967296) (b : UInt8) : x ^^^ b.toNat < 4294967296 :=
  Nat.xor_lt_two_pow (n := 32) h (Nat.lt_trans b.toNat_lt (by decide))
theorem raw_cons (x : Nat) (b : UInt8) (l : List UInt8) : crcRaw x (b :: l) = crcRaw (eightC (x ^^^ b.toNat)) l := rfl
theorem raw_snoc (x : Nat) (b : UInt8) (l : List UInt8) : crcRaw x (l ++ [b]) = eightC (crcRaw x l ^^^ b.toNat) := by simp [crcRaw]
theorem raw_append (x : Nat) (l m : List UInt8) : crcRaw x (l ++ m) = crcRaw (crcRaw x l) m := by simp [crcRaw]
theorem raw_lt : ∀ (l : List UInt8) {x : Nat}, x < 4294967296 → crcRaw x l < 4294967296
  | [], _, h => h
  | b :: l, _, h => raw_lt l (eight_lt (xorb_lt h b))
theorem crcOf_lt (l : List UInt8) : crcOf l < 4294967296 := by unfold crcOf; omega

/-- Bytes as one number, the lowest first. -/
def low : List UInt8 → Nat
  | [] => 0
  | b :: l => low l * 256 + b.toNat
theorem raw_low : ∀ (l : List UInt8) (x : Nat), crcRaw x l = stepsC (8 * l.length) (x ^^^ low l)
  | [], x => by simp [crcRaw, low, stepsC]
  | b :: l, x => by
    have hb := b.toNat_lt
    rw [raw_cons, raw_low l, List.length_cons, show 8 * (l.length + 1) = 8 + 8 * l.length by omega, steps_add]
    congr 1
    rw [low, ← xor_low _ _ hb, Nat.xor_comm (low l * 256), ← Nat.xor_assoc, steps_xor]
    congr 1
    exact (eight_high _).symm
theorem raw_diff (x : Nat) {l m : List UInt8} (h : l.length = m.length) : crcRaw x l ^^^ crcRaw x m = stepsC (8 * l.length) (low l ^^^ low m) := by
  rw [raw_low, raw_low, ← h, ← steps_xor]
  congr 1
  rw [Nat.xor_comm x (low l), Nat.xor_assoc, ← Nat.xor_assoc x x, Nat.xor_self, Nat.zero_xor]
theorem low_set : ∀ (l : List UInt8) (i j : Nat) (x : UInt8), l[i]? = some x → j < 8 → low (l.set i (UInt8.ofNat (x.toNat ^^^ 2 ^ j))) = low l ^^^ 2 ^ (8 * i + j)
  | [], _, _, _, h, _ => by simp at h
  | b :: l, 0, j, x, h, hj => by
    simp only [List.getElem?_cons_zero, Option.some.injEq] at h
    subst h
    have hp : 2 ^ j < 256 := Nat.lt_of_lt_of_le (Nat.pow_lt_pow_right (by decide) hj) (by decide)
    have hx : b.toNat ^^^ 2 ^ j < 256 := Nat.xor_lt_two_pow (n := 8) b.toNat_lt hp
    simp only [List.set_cons_zero, low]
    have ex : (UInt8.ofNat (b.toNat ^^^ 2 ^ j)).toNat = b.toNat ^^^ 2 ^ j := by rw [UInt8.toNat_ofNat']; exact Nat.mod_eq_of_lt hx
    rw [ex, ← xor_low _ _ hx, ← xor_low _ _ b.toNat_lt, Nat.xor_assoc]
    simp
  | b :: l, i + 1, j, x, h, hj => by
    simp only [List.getElem?_cons_succ] at h
    simp only [List.set_cons_succ, low]
    rw [low_set l i j x h hj, ← xor_low _ _ b.toNat_lt, ← xor_low _ _ b.toNat_lt]
    have e : (low l ^^^ 2 ^ (8 * i + j)) * 256 = low l * 256 ^^^ 2 ^ (8 * (i + 1) + j) := by
      have h1 : ∀ a b : Nat, (a ^^^ b) * 256 = a * 256 ^^^ b * 256 := fun a b => by
        have := Nat.shiftLeft_xor_distrib (a := a) (b := b) (i := 8)
        simpa only [Nat.shiftLeft_eq] using this
      rw [h1, show 8 * (i + 1) + j = (8 * i + j) + 8 by omega, Nat.pow_add 2 (8 * i + j) 8]
    rw [e, Nat.xor_assoc, Nat.xor_comm (2 ^ (8 * (i + 1) + j)), ← Nat.xor_assoc]
end Go.Proofs.YtpnckagibkdcpaaDoor


/-
  Plain laws of sealed records. No program in sight.
-/
namespace Go.Proofs.YtpnckagibkdcpaaDoor

/-- Four bytes, the greatest first. -/
def four (n : Nat) : List UInt8 := ordK 4 n
theorem four_length (n : Nat) : (four n).length = 4 := ordK_length 4 n
theorem ordU_four (n : Nat) : (ordU n).drop 4 = four n := by
  have e : ordU n = ordK 4 (n / 256 / 256 / 256 / 256) ++ four n := by
    show ordK 8 n = _
    simp [ordK, four]
  rw [e, List.drop_append_of_le_length (by rw [ordK_length]; omega), List.drop_of_length_le (by rw [ordK_length]; omega)]
  rfl
theorem four_list (n : Nat) : four n = [UInt8.ofNat (n / 16777216), UInt8.ofNat (n / 65536), UInt8.ofNat (n / 256), UInt8.ofNat n] := by
  simp [four, ordK, Nat.div_div_eq_div_mul]
theorem numB_four {n : Nat} (h : n < 4294967296) : numB (four n) = n := by
  rw [four, numB_ordK]; exact Nat.mod_eq_of_lt h
theorem four_numB {l : List UInt8} (h : l.length = 4) : four (numB l) = l := ordK_numB 4 l h
theorem numB_lt4 {l : List UInt8} (h : l.length = 4) : numB l < 4294967296 := by
  have := numB_lt l; rw [h] at this; exact this

def crcRec (b : List UInt8) : List UInt8 := four b.length ++ (four (crcOf (four b.length ++ b)) ++ b)
theorem crcRec_length (b : List UInt8) : (crcRec b).length = 8 + b.length := by simp [crcRec, four_length]; omega
def sealB (b : List UInt8) : List UInt8 × Nat := if 1048576 < b.length then ([], 2) else (crcRec b, 0)
/-- What is sealed at the head of a list: the body, and the error. -/
def openH (y : List UInt8) : List UInt8 × Nat :=
  if y.length < 8 then ([], 5)
  else if 1048576 < numB (y.take 4) then ([], 2)
  else if y.length < 8 + numB (y.take 4) then ([], 5)
  else if crcOf (y.take 4 ++ (y.take (8 + numB (y.take 4))).drop 8) = numB ((y.drop 4).take 4) then ((y.take (8 + numB (y.take 4))).drop 8, 0) else ([], 4)
/-- At a place: the body, what stands behind it, and the error. -/
def openB (xs : List UInt8) (p : Int) : List UInt8 × Nat × Nat :=
  if p < 0 ∨ (xs.length : Int) < p then ([], 0, 1)
  else if (openH (xs.drop p.toNat)).2 = 0 then ((openH (xs.drop p.toNat)).1, p.toNat + 8 + (openH (xs.drop p.toNat)).1.length, 0)
  else ([], 0, (openH (xs.drop p.toNat)).2)
theorem openH_short {y : List UInt8} (h : y.length < 8) : openH y = ([], 5) := by rw [openH, if_pos h]
theorem openH_size {y : List UInt8} (h : ¬ y.length < 8) (h2 : 1048576 < numB (y.take 4)) : openH y = ([], 2) := by rw [openH, if_neg h, if_pos h2]
theorem openH_end {y : List UInt8} (h : ¬ y.length < 8) (h2 : ¬ 1048576 < numB (y.take 4)) (h3 : y.length < 8 + numB (y.take 4)) : openH y = ([], 5) := by rw [openH, if_neg h, if_neg h2, if_pos h3]
theorem openH_sum {y : List UInt8} (h : ¬ y.length < 8) (h2 : ¬ 1048576 < numB (y.take 4)) (h3 : ¬ y.length < 8 + numB (y.take 4)) (h4 : ¬ crcOf (y.take 4 ++ (y.take (8 + numB (y.take 4))).drop 8) = numB ((y.drop 4).take 4)) : openH y = ([], 4) := by
  rw [openH, if_neg h, if_neg h2, if_neg h3, if_neg h4]
theorem openH_ok {y : List UInt8} (h : ¬ y.length < 8) (h2 : ¬ 1048576 < numB (y.take 4)) (h3 : ¬ y.length < 8 + numB (y.take 4)) (h4 : crcOf (y.take 4 ++ (y.take (8 + numB (y.take 4))).drop 8) = numB ((y.drop 4).take 4)) : openH y = ((y.take (8 + numB (y.take 4))).drop 8, 0) := by
  rw [openH, if_neg h, if_neg h2, if_neg h3, if_pos h4]
theorem openB_arg {xs : List UInt8} {p : Int} (h : ¬ (0 ≤ p ∧ p ≤ xs.length)) : openB xs p = ([], 0, 1) := by rw [openB, if_pos (by omega)]
theorem openB_at {xs : List UInt8} {q : Nat} (h : q ≤ xs.length) {r : List UInt8} {e : Nat} (ho : openH (xs.drop q) = (r, e)) : openB xs q = if e = 0 then (r, q + 8 + r.length, 0) else ([], 0, e) := by
  rw [openB, if_neg (by omega), Int.toNat_natCast, ho]
theorem openB_ok {xs : List UInt8} {q : Nat} (h : q ≤ xs.length) {r : List UInt8} (ho : openH (xs.drop q) = (r, 0)) : openB xs q = (r, q + 8 + r.length, 0) := by rw [openB_at h ho, if_pos rfl]
theorem openB_err {xs : List UInt8} {q : Nat} (h : q ≤ xs.length) {r : List UInt8} {e : Nat} (ho : openH (xs.drop q) = (r, e)) (he : ¬ e = 0) : openB xs q = ([], 0, e) := by rw [openB_at h ho, if_neg he]
theorem openH_len {y r : List UInt8} (h : openH y = (r, 0)) : 8 + r.length ≤ y.length ∧ r.length ≤ 1048576 := by
  unfold openH at h
  split at h
  · simp at h
  · split at h
    · simp at h
    · split at h
      · simp at h
      · split at h
        · simp only [Prod.mk.injEq, and_true] at h
          subst h
          simp; omega
        · simp at h
theorem openB_inv {xs r : List UInt8} {q x : Nat} (hq : q ≤ xs.length) (h : openB xs q = (r, x, 0)) : x = q + 8 + r.length ∧ x ≤ xs.length ∧ r.length ≤ 1048576 := by
  obtain ⟨s, e, ho⟩ : ∃ s e, openH (xs.drop q) = (s, e) := ⟨_, _, rfl⟩
  rw [openB_at hq ho] at h
  split at h
  · rename_i he
    subst he
    simp only [Prod.mk.injEq, and_true] at h
    obtain ⟨rfl, rfl⟩ := h
    have := openH_len ho
    rw [List.length_drop] at this
    omega
  · simp only [Prod.mk.injEq] at h
    omega
theorem openB_err' {xs r : List UInt8} {p : Int} {x e : Nat} (h : openB xs p = (r, x, e)) (he : ¬ e = 0) : r = [] ∧ x = 0 := by
  unfold openB at h
  split at h
  · simp only [Prod.mk.injEq] at h; exact ⟨h.1.symm, h.2.1.symm⟩
  · split at h
    · simp only [Prod.mk.injEq] at h; omega
    · simp only [Prod.mk.injEq] at h; exact ⟨h.1.symm, h.2.1.symm⟩
/-- What is sealed opens to what it was. -/
theorem openH_rec {b : List UInt8} (h : b.length ≤ 1048576) (rest : List UInt8) : openH (crcRec b ++ rest) = (b, 0) := by
  have e1 : (crcRec b ++ rest).take 4 = four b.length := by
    unfold crcRec; rw [List.append_assoc, List.take_append_of_le_length (by rw [four_length]; omega), List.take_of_length_le (by rw [four_length]; omega)]
  have e2 : numB ((crcRec b ++ rest).take 4) = b.length := by rw [e1, numB_four (by omega)]
  have e3 : ((crcRec b ++ rest).drop 4).take 4 = four (crcOf (four b.length ++ b)) := by
    unfold crcRec
    rw [List.append_assoc, List.drop_append_of_le_length (by rw [four_length]; omega), List.drop_of_length_le (by rw [four_length]; omega), List.nil_append, List.append_assoc,
      List.take_append_of_le_length (by rw [four_length]; omega), List.take_of_length_le (by rw [four_length]; omega)]
  have e4 : ((crcRec b ++ rest).take (8 + b.length)).drop 8 = b := by
    rw [List.take_append_of_le_length (by rw [crcRec_length]; omega), List.take_of_length_le (by rw [crcRec_length]; omega)]
    unfold crcRec
    rw [← List.append_assoc, List.drop_append_of_le_length (by simp [four_length]), List.drop_of_length_le (by simp [four_length]), List.nil_append]
  have hl : (crcRec b ++ rest).length = 8 + b.length + rest.length := by rw [List.length_append, crcRec_length]
  rw [openH_ok (by omega) (by omega) (by omega) (by rw [e2, e3, e4, e1, numB_four (crcOf_lt _)]), e2, e4]
theorem openB_rec {b : List UInt8} (h : b.length ≤ 1048576) : openB (crcRec b) 0 = (b, (crcRec b).length, 0) := by
  have := openH_rec h []
  rw [List.append_nil] at this
  have := openB_ok (q := 0) (xs := crcRec b) (by omega) this
  rw [crcRec_length]
  simpa using this
/-- The reference's test: a record is what would be sealed of its body. -/
theorem rec_iff {y : List UInt8} (h : ¬ y.length < 8) (h3 : ¬ y.length < 8 + numB (y.take 4)) :
    (crcRec ((y.take (8 + numB (y.take 4))).drop 8) = y.take (8 + numB (y.take 4))) = (crcOf (y.take 4 ++ (y.take (8 + numB (y.take 4))).drop 8) = numB ((y.drop 4).take 4)) := by
  obtain ⟨n, hn⟩ : ∃ n, numB (y.take 4) = n := ⟨_, rfl⟩
  rw [hn] at h3 ⊢
  have hl : ((y.take (8 + n)).drop 8).length = n := by simp; omega
  have h4 : (y.take 4).length = 4 := by simp; omega
  have e4 : four n = y.take 4 := by rw [← hn, four_numB h4]
  have es : y.take (8 + n) = y.take 4 ++ ((y.drop 4).take 4 ++ (y.take (8 + n)).drop 8) := by
    have a1 : y.take (8 + n) = (y.take (8 + n)).take 4 ++ ((y.take (8 + n)).drop 4) := (List.take_append_drop 4 _).symm
    have a2 : (y.take (8 + n)).drop 4 = ((y.take (8 + n)).drop 4).take 4 ++ ((y.take (8 + n)).drop 4).drop 4 := (List.take_append_drop 4 _).symm
    rw [List.drop_drop] at a2
    rw [a2] at a1
    rw [List.take_take, Nat.min_eq_left (by omega)] at a1
    rw [show ((y.take (8 + n)).drop 4).take 4 = (y.drop 4).take 4 by rw [List.drop_take, List.take_take, Nat.min_eq_left (by omega)]] at a1
    exact a1
  unfold crcRec
  rw [hl, e4]
  apply propext
  constructor
  · intro h
    rw [es] at h
    have h1 := (List.append_inj h rfl).2
    have h2 := (List.append_inj h1 (by simp [four_length]; omega)).1
    have := congrArg numB h2
    rw [← es] at this
    rw [numB_four (crcOf_lt _)] at this
    exact this
  · intro h
    rw [h, four_numB (by simp; omega)]
    exact es.symm

/-- All records, up to the first that doesn't open. -/
def openAllF : Nat → List UInt8 → Nat → List (List UInt8) → List (List UInt8) × Nat
  | 0, _, q, out => (out, q)
  | f + 1, b, q, out =>
    if b.length ≤ q then (out, q)
    else if (openB b q).2.2 = 0 then openAllF f b (openB b q).2.1 (out ++ [(openB b q).1])
    else (out, q)
def openAll (b : List UInt8) : List (List UInt8) × Nat := openAllF b.length b 0 []
theorem openAllF_end {f : Nat} {b : List UInt8} {q : Nat} {out : List (List UInt8)} (h : b.length ≤ q) : openAllF f b q out = (out, q) := by
  cases f with
  | zero => rfl
  | succ f => rw [openAllF, if_pos h]
theorem openAllF_err {f : Nat} {b r : List UInt8} {q x e : Nat} {out : List (List UInt8)} (hu : openB b q = (r, x, e)) (he : ¬ e = 0) : openAllF f b q out = (out, q) := by
  cases f with
  | zero => rfl
  | succ f =>
    by_cases h : b.length ≤ q
    · exact openAllF_end h
    · rw [openAllF, if_neg h, hu, if_neg he]
theorem openAllF_step {f : Nat} {b r : List UInt8} {q x : Nat} {out : List (List UInt8)} (h : ¬ b.length ≤ q) (hu : openB b q = (r, x, 0)) : openAllF (f + 1) b q out = openAllF f b x (out ++ [r]) := by
  rw [openAllF, if_neg h, hu, if_pos rfl]
theorem openAllF_size : ∀ (f : Nat) (b : List UInt8) (q : Nat) (out : List (List UInt8)), q ≤ b.length → out.length * 8 + out.flatten.length ≤ q → (openAllF f b q out).2 ≤ b.length ∧ (openAllF f b q out).1.length * 8 + (openAllF f b q out).1.flatten.length ≤ b.length
  | 0, b, q, out, hq, h => by simp only [openAllF]; omega
  | f + 1, b, q, out, hq, h => by
    by_cases h1 : b.length ≤ q
    · rw [openAllF_end h1]; exact ⟨hq, Nat.le_trans h hq⟩
    · obtain ⟨r, x, e, hu⟩ : ∃ r x e, openB b q = (r, x, e) := ⟨_, _, _, rfl⟩
      by_cases he : e = 0
      · subst he
        obtain ⟨h2, h3, _⟩ := openB_inv hq hu
        rw [openAllF_step h1 hu]
        refine openAllF_size f b _ _ h3 ?_
        simp only [List.flatten_append, List.flatten_cons, List.flatten_nil, List.length_append, List.length_cons, List.length_nil]
        omega
      · rw [openAllF_err hu he]; exact ⟨hq, Nat.le_trans h hq⟩
end Go.Proofs.YtpnckagibkdcpaaDoor


/-
  Plain laws of frames. No program in sight.
-/
namespace Go.Proofs.YtpnckagibkdcpaaDoor

def framed (l : List (List UInt8)) : List UInt8 := l.flatMap fun r => putU r.length ++ r
/-- The parts behind place q; out: those ahead of it. -/
def partsF : Nat → List UInt8 → Nat → List (List UInt8) → List (List UInt8) × Nat
  | 0, _, _, out => (out, 0)
  | f + 1, b, q, out =>
    if b.length ≤ q then (out, 0)
    else if (getU b q).2.2 = 0 then
      if b.length < (getU b q).2.1.toNat + (getU b q).1 then ([], 5)
      else partsF f b ((getU b q).2.1.toNat + (getU b q).1) (out ++ [(b.take ((getU b q).2.1.toNat + (getU b q).1)).drop (getU b q).2.1.toNat])
    else ([], (getU b q).2.2)
def parts (b : List UInt8) : List (List UInt8) × Nat := partsF b.length b 0 []

theorem putU_pos (n : Nat) : 0 < (putU n).length := by
  rw [putU]; split <;> simp
theorem getU_next {b : List UInt8} {q n : Nat} {x : Int} (h : getU b q = (n, x, 0)) : ∃ k : Nat, x = k ∧ q < k ∧ k ≤ b.length := by
  obtain ⟨q', k, hq, rfl, h1, h2, h3, _⟩ := getU_inv h
  obtain rfl : q = q' := by omega
  have := congrArg List.length h3
  have hp := putU_pos n
  refine ⟨k, rfl, ?_, h2⟩
  simp at this; omega
theorem partsF_end {f : Nat} {b : List UInt8} {q : Nat} {out : List (List UInt8)} (h : b.length ≤ q) : partsF f b q out = (out, 0) := by
  cases f with
  | zero => rfl
  | succ f => rw [partsF, if_pos h]
theorem partsF_err {f : Nat} {b : List UInt8} {q n e : Nat} {x : Int} {out : List (List UInt8)} (h : ¬ b.length ≤ q) (hu : getU b q = (n, x, e)) (he : ¬ e = 0) : partsF (f + 1) b q out = ([], e) := by
  rw [partsF, if_neg h, hu, if_neg he]
theorem partsF_short {f : Nat} {b : List UInt8} {q n k : Nat} {out : List (List UInt8)} (h : ¬ b.length ≤ q) (hu : getU b q = (n, (k : Int), 0)) (hs : b.length < k + n) : partsF (f + 1) b q out = ([], 5) := by
  rw [partsF, if_neg h, hu, if_pos rfl]
  simp only [Int.toNat_natCast]
  rw [if_pos hs]
theorem partsF_step {f : Nat} {b : List UInt8} {q n k : Nat} {out : List (List UInt8)} (h : ¬ b.length ≤ q) (hu : getU b q = (n, (k : Int), 0)) (hs : ¬ b.length < k + n) : partsF (f + 1) b q out = partsF f b (k + n) (out ++ [(b.take (k + n)).drop k]) := by
  rw [partsF, if_neg h, hu, if_pos rfl]
  simp only [Int.toNat_natCast]
  rw [if_neg hs]
/-- How much a list's parts hold, and what error there is. -/
theorem partsF_size : ∀ (f : Nat) (b : List UInt8) (q : Nat) (out : List (List UInt8)), q ≤ b.length → out.length + out.flatten.length ≤ q → (partsF f b q out).1.length + (partsF f b q out).1.flatten.length ≤ b.length
  | 0, b, q, out, hq, h => by simp only [partsF]; omega
  | f + 1, b, q, out, hq, h => by
    by_cases h1 : b.length ≤ q
    · rw [partsF_end h1]; exact Nat.le_trans h hq
    · obtain ⟨n, x, e, hu⟩ : ∃ n x e, getU b q = (n, x, e) := ⟨_, _, _, rfl⟩
      by_cases he : e = 0
      · subst he
        obtain ⟨k, rfl, h2, h3⟩ := getU_next hu
        by_cases hs : b.length < k + n
        · rw [partsF_short h1 hu hs]; simp
        · rw [partsF_step h1 hu hs]
          refine partsF_size f b _ _ (by omega) ?_
          simp only [List.flatten_append, List.flatten_cons, List.flatten_nil, List.length_append, List.length_cons, List.length_nil, List.length_drop, List.length_take]
          omega
      · rw [partsF_err h1 hu he]; simp
theorem getU_mid {pre rest : List UInt8} {n : Nat} (hn : n < 2 ^ 64) : getU (pre ++ (putU n ++ rest)) pre.length = (n, ((pre.length + (putU n).length : Nat) : Int), 0) := by
  have h := getAux_putU rest n 0 0 (by decide) hn (by omega) (.inl rfl)
  have := getU_ok (b := pre ++ (putU n ++ rest)) (q := pre.length) (n := n) (k := (putU n).length) (by simp) (by rw [List.drop_left, h]; simp)
  rw [this]; simp
theorem partsF_framed : ∀ (l : List (List UInt8)) (f : Nat) (pre : List UInt8) (out : List (List UInt8)), (∀ r ∈ l, r.length < 2 ^ 64) → (framed l).length ≤ f → partsF f (pre ++ framed l) pre.length out = (out ++ l, 0)
  | [], f, pre, out, _, _ => by rw [partsF_end (by simp [framed])]; simp
  | r :: l, f, pre, out, hr, hf => by
    have e : framed (r :: l) = putU r.length ++ (r ++ framed l) := by simp [framed]
    rw [e] at hf ⊢
    have hp := putU_pos r.length
    simp only [List.length_append] at hf
    obtain ⟨f, rfl⟩ : ∃ g, f = g + 1 := ⟨f - 1, by omega⟩
    have hg := getU_mid (pre := pre) (rest := r ++ framed l) (hr r (by simp))
    rw [partsF_step (by simp; omega) hg (by simp only [List.length_append]; omega)]
    have hb : pre ++ (putU r.length ++ (r ++ framed l)) = (pre ++ putU r.length ++ r) ++ framed l := by simp
    have hlen : (pre ++ putU r.length ++ r).length = pre.length + (putU r.length).length + r.length := by simp only [List.length_append]
    have hcut : ((pre ++ (putU r.length ++ (r ++ framed l))).take (pre.length + (putU r.length).length + r.length)).drop (pre.length + (putU r.length).length) = r := by
      rw [hb, ← hlen, List.take_left, show pre.length + (putU r.length).length = (pre ++ putU r.length).length by simp, List.drop_left]
    rw [hcut, hb, ← hlen, partsF_framed l f _ _ (fun x hx => hr x (by simp [hx])) (by omega)]
    simp
theorem parts_framed {l : List (List UInt8)} (h : ∀ r ∈ l, r.length < 2 ^ 64) : parts (framed l) = (l, 0) := by
  have := partsF_framed l (framed l).length [] [] h (Nat.le_refl _)
  simpa [parts] using this
theorem framed_take {l : List (List UInt8)} {k : Nat} {x : List UInt8} (h : l[k]? = some x) : framed (l.take (k + 1)) = framed (l.take k) ++ putU x.length ++ x := by
  rw [take_getR h]; simp [framed]
theorem framed_length : ∀ (l : List (List UInt8)), (∀ r ∈ l, r.length < 2 ^ 64) → (framed l).length ≤ l.flatten.length + 10 * l.length
  | [], _ => by simp [framed]
  | x :: l, h => by
    have h1 := framed_length l (fun r hr => h r (by simp [hr]))
    have h2 := putU_le (h x (by simp))
    simp only [framed, List.flatMap_cons, List.length_append, List.flatten_cons, List.length_cons] at h1 ⊢
    omega
theorem framed_take_le (l : List (List UInt8)) (k : Nat) : (framed (l.take k)).length ≤ (framed l).length := by
  have : framed l = framed (l.take k) ++ framed (l.drop k) := by
    rw [framed, framed, framed, ← List.flatMap_append, List.take_append_drop]
  rw [this, List.length_append]; omega
theorem mem_flat {l : List (List UInt8)} {x : List UInt8} (h : x ∈ l) : x.length ≤ l.flatten.length := by
  obtain ⟨k, hk, rfl⟩ := List.getElem_of_mem h
  exact flat_mem (List.getElem?_eq_getElem hk)
end Go.Proofs.YtpnckagibkdcpaaDoor


/-
  Blocks of entries in plain words: how they are written, how they are read, and that what was written is read back. No program in sight.
-/
namespace Go.Proofs.YtpnckagibkdcpaaDoor

/-- How many first bytes two lists have in common. -/
def comN : List UInt8 → List UInt8 → Nat
  | x :: xs, y :: ys => if x = y then comN xs ys + 1 else 0
  | _, _ => 0
theorem comN_le : ∀ (a b : List UInt8), comN a b ≤ a.length ∧ comN a b ≤ b.length
  | [], b => by simp [comN]
  | _ :: _, [] => by simp [comN]
  | x :: a, y :: b => by
    have := comN_le a b
    simp only [comN, List.length_cons]
    split <;> omega
theorem comN_take : ∀ (a b : List UInt8), a.take (comN a b) = b.take (comN a b)
  | [], b => by simp [comN]
  | _ :: _, [] => by simp [comN]
  | x :: a, y :: b => by
    rw [comN]
    split
    · rename_i h; subst h
      rw [List.take_succ_cons, List.take_succ_cons, comN_take a b]
    · rfl
/-- An entry's bytes, of whose key so many stand in the one ahead. -/
def entB (x : En) (s : Nat) : List UInt8 := putU s ++ (putU (x.key.length - s) ++ (putU x.seq ++ (x.kind :: (putU x.val.length ++ (x.key.drop s ++ x.val)))))
/-- The key ahead of an entry. -/
def prevK (l : List En) (i : Nat) : List UInt8 := match i with
  | 0 => []
  | j + 1 => (l[j]?.map (·.key)).getD []
def shrN (every : Nat) (l : List En) (i : Nat) : Nat := if i % every = 0 then 0 else comN (prevK l i) ((l[i]?.map (·.key)).getD [])
def bodyB (every : Nat) (l : List En) : Nat → List UInt8
  | 0 => []
  | k + 1 => bodyB every l k ++ (match l[k]? with | some x => entB x (shrN every l k) | none => [])
def resB (every : Nat) (l : List En) : Nat → List UInt8
  | 0 => []
  | k + 1 => resB every l k ++ (if k % every = 0 then four (bodyB every l k).length else [])
def stN (every : Nat) : Nat → Nat
  | 0 => 0
  | k + 1 => stN every k + (if k % every = 0 then 1 else 0)
def blkB (every : Nat) (l : List En) : List UInt8 := bodyB every l l.length ++ (resB every l l.length ++ four (stN every l.length))
/-- What Build answers. -/
def buildB (every : Nat) (l : List En) : List UInt8 × Nat :=
  if checkE l = 2 then ([], 2) else
  if (sealB (blkB every l)).2 = 0 then (if checkE l = 0 ∧ ordE l = true then ((sealB (blkB every l)).1, 0) else ([], 3)) else ([], (sealB (blkB every l)).2)
theorem bodyB_succ {every : Nat} {l : List En} {k : Nat} {x : En} (hx : l[k]? = some x) : bodyB every l (k + 1) = bodyB every l k ++ entB x (shrN every l k) := by rw [bodyB, hx]
theorem shrN_le {every : Nat} {l : List En} {k : Nat} {x : En} (hx : l[k]? = some x) : shrN every l k ≤ x.key.length ∧ shrN every l k ≤ (prevK l k).length := by
  rw [shrN, hx]
  split
  · omega
  · have := comN_le (prevK l k) x.key; simp; omega
theorem stN_le (every : Nat) : ∀ k, stN every k ≤ k
  | 0 => Nat.le_refl _
  | k + 1 => by have := stN_le every k; rw [stN]; split <;> omega
theorem resB_length (every : Nat) (l : List En) : ∀ k, (resB every l k).length = 4 * stN every k
  | 0 => rfl
  | k + 1 => by
    rw [resB, stN, List.length_append, resB_length every l k]
    split
    · rw [four_length]; omega
    · simp
theorem entB_length (x : En) (s : Nat) (hs : s ≤ x.key.length) (hk : x.key.length < 2 ^ 64) (hv : x.val.length < 2 ^ 64) (hq : x.seq < 2 ^ 64) : (entB x s).length ≤ x.key.length + x.val.length + 41 ∧ 5 ≤ (entB x s).length := by
  have h1 := putU_le (n := s) (by omega)
  have h2 := putU_le (n := x.key.length - s) (by omega)
  have h3 := putU_le hq
  have h4 := putU_le hv
  have p1 := putU_pos s
  have p2 := putU_pos (x.key.length - s)
  have p3 := putU_pos x.seq
  have p4 := putU_pos x.val.length
  simp only [entB, List.length_append, List.length_cons, List.length_drop]
  omega
/-! #### Reading -/
/-- One entry at a place behind a key. -/
def rdE (b : List UInt8) (p : Nat) (key : List UInt8) : Option (En × Nat) :=
  match getU b p with
  | (s, p1, 0) => match getU b p1 with
    | (r, p2, 0) => match getU b p2 with
      | (q, p3, 0) => match b[p3.toNat]? with
        | none => none
        | some kd => match getU b (p3 + 1) with
          | (z, p5, 0) => if key.length < s then none else if b.length - p5.toNat < r then none else if b.length - (p5.toNat + r) < z then none else
              some (⟨key.take s ++ (b.drop p5.toNat).take r, q, kd, (b.drop (p5.toNat + r)).take z⟩, p5.toNat + r + z)
          | _ => none
      | _ => none
    | _ => none
  | _ => none
theorem getU_adv {b : List UInt8} {p p1 : Int} {v : Nat} (h : getU b p = (v, p1, 0)) : 0 ≤ p ∧ p < p1 ∧ p1 ≤ b.length := by
  by_cases hp : 0 ≤ p ∧ p ≤ b.length
  · obtain ⟨q, rfl⟩ := Int.eq_ofNat_of_zero_le hp.1
    have key : ∀ (l : List UInt8) (i n v k : Nat), getAux i n l = (v, k, 0) → i < k ∧ k ≤ i + l.length := by
      intro l
      induction l with
      | nil => intro i n v k h; simp [getAux] at h
      | cons x r ih =>
        intro i n v k h
        rw [getAux] at h
        split at h
        · simp at h
        · split at h
          · simp only [Prod.mk.injEq, and_true] at h; simp only [List.length_cons]; omega
          · have := ih _ _ _ _ h; simp only [List.length_cons]; omega
    rw [getU, if_neg (by omega)] at h
    simp only [Int.toNat_natCast] at h
    split at h
    · rename_i n k hg
      simp only [Prod.mk.injEq] at h
      have := key _ _ _ _ _ hg
      simp only [List.length_drop] at this
      omega
    · rename_i e hg _
      simp only [Prod.mk.injEq] at h
      obtain ⟨_, _, h3⟩ := h
      subst h3
      simp_all
  · rw [getU_arg hp] at h; simp at h
theorem getU_splitB {b : List UInt8} {p : Int} : (∃ v p1, getU b p = (v, p1, 0)) ∨ ∃ e, ¬ e = 0 ∧ (getU b p).2.2 = e := by
  rcases h : getU b p with ⟨v, p1, e⟩
  cases e with
  | zero => exact .inl ⟨v, p1, rfl⟩
  | succ e => exact .inr ⟨e + 1, by omega, rfl⟩
theorem rdE_inv {b key : List UInt8} {p p' : Nat} {x : En} (h : rdE b p key = some (x, p')) : p < p' ∧ p' ≤ b.length := by
  unfold rdE at h
  split at h
  case h_2 => cases h
  rename_i s p1 h1
  split at h
  case h_2 => cases h
  rename_i r p2 h2
  split at h
  case h_2 => cases h
  rename_i q p3 h3
  split at h
  case h_1 => cases h
  rename_i kd h4
  split at h
  case h_2 => cases h
  rename_i z p5 h5
  have i1 := getU_adv h1
  have i2 := getU_adv h2
  have i3 := getU_adv h3
  have i5 := getU_adv h5
  split at h
  · cases h
  · split at h
    · cases h
    · split at h
      · cases h
      · simp only [Option.some.injEq, Prod.mk.injEq] at h
        omega
/-- All entries from a place on, each with its place. -/
def rdL (b : List UInt8) : Nat → Nat → List UInt8 → Option (List (En × Nat))
  | 0, p, _ => if p < b.length then none else some []
  | f + 1, p, key => if p < b.length then (match rdE b p key with
      | none => none
      | some (x, p') => (rdL b f p' x.key).map ((x, p) :: ·)) else some []
theorem getU_here {pre rest : List UInt8} {n : Nat} {p : Int} (hn : n < 2 ^ 64) (hp : p = (pre.length : Nat)) : getU (pre ++ (putU n ++ rest)) p = (n, ((pre.length + (putU n).length : Nat) : Int), 0) := by subst hp; exact getU_mid hn
/-- What was written is read. -/
theorem rdE_ent {pre rest key : List UInt8} {x : En} {s : Nat} (hs : s ≤ x.key.length) (hsk : s ≤ key.length) (ht : key.take s = x.key.take s) (hk : x.key.length < 2 ^ 64) (hv : x.val.length < 2 ^ 64) (hq : x.seq < 2 ^ 64) :
    rdE (pre ++ (entB x s ++ rest)) pre.length key = some (x, pre.length + (entB x s).length) := by
  obtain ⟨b, hb⟩ : ∃ q, pre ++ (entB x s ++ rest) = q := ⟨_, rfl⟩
  have e1 : b = pre ++ (putU s ++ (putU (x.key.length - s) ++ (putU x.seq ++ (x.kind :: (putU x.val.length ++ (x.key.drop s ++ (x.val ++ rest))))))) := by rw [← hb]; simp only [entB, List.append_assoc, List.cons_append]
  have e2 : b = (pre ++ putU s) ++ (putU (x.key.length - s) ++ (putU x.seq ++ (x.kind :: (putU x.val.length ++ (x.key.drop s ++ (x.val ++ rest)))))) := by rw [e1]; simp only [List.append_assoc, List.cons_append, List.nil_append]
  have e3 : b = (pre ++ putU s ++ putU (x.key.length - s)) ++ (putU x.seq ++ (x.kind :: (putU x.val.length ++ (x.key.drop s ++ (x.val ++ rest))))) := by rw [e1]; simp only [List.append_assoc, List.cons_append, List.nil_append]
  have e4 : b = (pre ++ putU s ++ putU (x.key.length - s) ++ putU x.seq) ++ (x.kind :: (putU x.val.length ++ (x.key.drop s ++ (x.val ++ rest)))) := by rw [e1]; simp only [List.append_assoc, List.cons_append, List.nil_append]
  have e5 : b = (pre ++ putU s ++ putU (x.key.length - s) ++ putU x.seq ++ [x.kind]) ++ (putU x.val.length ++ (x.key.drop s ++ (x.val ++ rest))) := by rw [e1]; simp only [List.append_assoc, List.cons_append, List.nil_append]
  have e6 : b = (pre ++ putU s ++ putU (x.key.length - s) ++ putU x.seq ++ [x.kind] ++ putU x.val.length) ++ (x.key.drop s ++ (x.val ++ rest)) := by rw [e1]; simp only [List.append_assoc, List.cons_append, List.nil_append]
  have e7 : b = (pre ++ putU s ++ putU (x.key.length - s) ++ putU x.seq ++ [x.kind] ++ putU x.val.length ++ x.key.drop s) ++ (x.val ++ rest) := by rw [e1]; simp only [List.append_assoc, List.cons_append, List.nil_append]
  have l2 : (pre ++ putU s).length = pre.length + (putU s).length := by simp
  have l3 : (pre ++ putU s ++ putU (x.key.length - s)).length = pre.length + (putU s).length + (putU (x.key.length - s)).length := by simp; omega
  have l4 : (pre ++ putU s ++ putU (x.key.length - s) ++ putU x.seq).length = pre.length + (putU s).length + (putU (x.key.length - s)).length + (putU x.seq).length := by simp; omega
  have l5 : (pre ++ putU s ++ putU (x.key.length - s) ++ putU x.seq ++ [x.kind]).length = pre.length + (putU s).length + (putU (x.key.length - s)).length + (putU x.seq).length + 1 := by simp; omega
  have l6 : (pre ++ putU s ++ putU (x.key.length - s) ++ putU x.seq ++ [x.kind] ++ putU x.val.length).length = pre.length + (putU s).length + (putU (x.key.length - s)).length + (putU x.seq).length + 1 + (putU x.val.length).length := by simp; omega
  have l7 : (pre ++ putU s ++ putU (x.key.length - s) ++ putU x.seq ++ [x.kind] ++ putU x.val.length ++ x.key.drop s).length = pre.length + (putU s).length + (putU (x.key.length - s)).length + (putU x.seq).length + 1 + (putU x.val.length).length + (x.key.length - s) := by simp; omega
  have le : (entB x s).length = (putU s).length + (putU (x.key.length - s)).length + (putU x.seq).length + 1 + (putU x.val.length).length + (x.key.length - s) + x.val.length := by simp [entB]; omega
  have lb : b.length = pre.length + (entB x s).length + rest.length := by rw [← hb]; simp; omega
  have g1 : getU b (pre.length : Nat) = (s, ((pre.length + (putU s).length : Nat) : Int), 0) := by rw [e1]; exact getU_here (by omega) rfl
  have g2 : getU b ((pre.length + (putU s).length : Nat) : Int) = (x.key.length - s, ((pre.length + (putU s).length + (putU (x.key.length - s)).length : Nat) : Int), 0) := by
    rw [e2, getU_here (by omega) (by rw [l2]), l2]
  have g3 : getU b ((pre.length + (putU s).length + (putU (x.key.length - s)).length : Nat) : Int) = (x.seq, ((pre.length + (putU s).length + (putU (x.key.length - s)).length + (putU x.seq).length : Nat) : Int), 0) := by
    rw [e3, getU_here hq (by rw [l3]), l3]
  have g4 : b[pre.length + (putU s).length + (putU (x.key.length - s)).length + (putU x.seq).length]? = some x.kind := by
    rw [e4, ← l4, List.getElem?_append_right (Nat.le_refl _), Nat.sub_self]; rfl
  have g5 : getU b (((pre.length + (putU s).length + (putU (x.key.length - s)).length + (putU x.seq).length : Nat) : Int) + 1) = (x.val.length, ((pre.length + (putU s).length + (putU (x.key.length - s)).length + (putU x.seq).length + 1 + (putU x.val.length).length : Nat) : Int), 0) := by
    rw [e5, getU_here hv (by rw [l5]; omega), l5]
  have g6 : (b.drop (pre.length + (putU s).length + (putU (x.key.length - s)).length + (putU x.seq).length + 1 + (putU x.val.length).length)).take (x.key.length - s) = x.key.drop s := by
    rw [e6, ← l6, List.drop_left, List.take_left' (by simp)]
  have g7 : (b.drop (pre.length + (putU s).length + (putU (x.key.length - s)).length + (putU x.seq).length + 1 + (putU x.val.length).length + (x.key.length - s))).take x.val.length = x.val := by
    rw [e7, ← l7, List.drop_left, List.take_left' rfl]
  rw [hb]
  unfold rdE
  rw [g1]
  simp only
  rw [g2]
  simp only
  rw [g3]
  simp only [Int.toNat_natCast]
  rw [g4]
  simp only
  rw [g5]
  simp only [Int.toNat_natCast]
  rw [if_neg (by omega), if_neg (by omega), if_neg (by omega), g6, g7, ht, List.take_append_drop]
  simp only [Option.some.injEq, Prod.mk.injEq, true_and]
  omega
theorem drop_getB {α : Type} {l : List α} {k : Nat} {b : α} (h : l[k]? = some b) : l.drop k = b :: l.drop (k + 1) := by
  obtain ⟨hk, rfl⟩ := List.getElem?_eq_some_iff.1 h
  exact List.drop_eq_getElem_cons hk
theorem bodyB_split (every : Nat) (l : List En) : ∀ d k, ∃ r, bodyB every l (k + d) = bodyB every l k ++ r
  | 0, k => ⟨[], by simp⟩
  | d + 1, k => by
    obtain ⟨r, hr⟩ := bodyB_split every l d k
    exact ⟨r ++ (match l[k + d]? with | some x => entB x (shrN every l (k + d)) | none => []), by rw [← Nat.add_assoc, bodyB, hr, List.append_assoc]⟩
/-- The sizes of entries are those of values of the type. -/
def Siz (l : List En) : Prop := ∀ x ∈ l, x.key.length < 2 ^ 64 ∧ x.val.length < 2 ^ 64 ∧ x.seq < 2 ^ 64
theorem bodyB_lt {every : Nat} {l : List En} (hz : Siz l) : ∀ d k, k + d < l.length → (bodyB every l k).length < (bodyB every l (k + (d + 1))).length
  | 0, k, h => by
    have hx : l[k]? = some (l[k]'(by omega)) := List.getElem?_eq_getElem (by omega)
    obtain ⟨z1, z2, z3⟩ := hz _ (List.mem_of_getElem? hx)
    have := (entB_length _ _ (shrN_le (every := every) hx).1 z1 z2 z3).2
    rw [show k + (0 + 1) = k + 1 from rfl, bodyB_succ hx, List.length_append]; omega
  | d + 1, k, h => by
    have h1 := bodyB_lt (every := every) hz d k (by omega)
    have h2 := bodyB_lt (every := every) hz 0 (k + (d + 1)) (by omega)
    exact Nat.lt_trans h1 h2
theorem bodyB_inj {every : Nat} {l : List En} (hz : Siz l) {i j : Nat} (hi : i ≤ l.length) (hj : j ≤ l.length) (h : (bodyB every l i).length = (bodyB every l j).length) : i = j := by
  rcases Nat.lt_trichotomy i j with h1 | h1 | h1
  · obtain ⟨d, rfl⟩ := Nat.exists_eq_add_of_lt h1
    have := bodyB_lt (every := every) hz d i (by omega)
    rw [← Nat.add_assoc] at this; omega
  · exact h1
  · obtain ⟨d, rfl⟩ := Nat.exists_eq_add_of_lt h1
    have := bodyB_lt (every := every) hz d j (by omega)
    rw [← Nat.add_assoc] at this; omega
theorem prevK_succ {l : List En} {k : Nat} {x : En} (hx : l[k]? = some x) : prevK l (k + 1) = x.key := by rw [prevK, hx]; rfl
/-- All that was written is read. -/
theorem rdL_body {every : Nat} {l : List En} (hz : Siz l) (rest : List UInt8) (hr : rest = []) : ∀ (f k : Nat), k ≤ l.length → (bodyB every l l.length).length ≤ (bodyB every l k).length + f →
    ∃ r, rdL (bodyB every l l.length ++ rest) f (bodyB every l k).length (prevK l k) = some r ∧ r.map (·.1) = l.drop k ∧ ∀ (j : Nat) (x : En × Nat), r[j]? = some x → x.2 = (bodyB every l (k + j)).length := by
  subst hr
  rw [List.append_nil]
  intro f
  induction f with
  | zero =>
    intro k hk hf
    rcases Nat.lt_or_ge k l.length with h | h
    · obtain ⟨d, hd⟩ := Nat.exists_eq_add_of_lt h
      have := bodyB_lt (every := every) hz d k (by omega)
      rw [show k + (d + 1) = l.length by omega] at this; omega
    · obtain rfl : k = l.length := by omega
      exact ⟨[], by rw [rdL, if_neg (Nat.lt_irrefl _)], by simp, by simp⟩
  | succ f ih =>
    intro k hk hf
    rcases Nat.lt_or_ge k l.length with h | h
    · have hx : l[k]? = some (l[k]'h) := List.getElem?_eq_getElem h
      obtain ⟨x, hxd⟩ : ∃ x, l[k]'h = x := ⟨_, rfl⟩
      rw [hxd] at hx
      obtain ⟨z1, z2, z3⟩ := hz _ (List.mem_of_getElem? hx)
      obtain ⟨s1, s2⟩ := shrN_le (every := every) hx
      have hlen := (entB_length x _ s1 z1 z2 z3).2
      obtain ⟨d, hd⟩ := Nat.exists_eq_add_of_lt h
      have hlt := bodyB_lt (every := every) hz d k (by omega)
      rw [show k + (d + 1) = l.length by omega] at hlt
      obtain ⟨t, ht⟩ := bodyB_split every l d (k + 1)
      rw [show k + 1 + d = l.length by omega, bodyB_succ hx, List.append_assoc] at ht
      have htake : (prevK l k).take (shrN every l k) = x.key.take (shrN every l k) := by
        rw [shrN, hx]
        split
        · rfl
        · exact comN_take _ _
      have hE := rdE_ent (pre := bodyB every l k) (rest := t) s1 s2 htake z1 z2 z3
      rw [← ht] at hE
      obtain ⟨r, h1, h2, h3⟩ := ih (k + 1) (by omega) (by rw [bodyB_succ hx, List.length_append]; omega)
      rw [bodyB_succ hx, List.length_append, prevK_succ hx] at h1
      refine ⟨(x, (bodyB every l k).length) :: r, ?_, ?_, ?_⟩
      · rw [rdL, if_pos hlt, hE]
        simp only
        rw [h1]; rfl
      · rw [List.map_cons, h2]
        exact (drop_getB hx).symm
      · intro j y hj
        cases j with
        | zero => simp at hj; subst hj; rfl
        | succ j =>
          have := h3 j y (by simpa using hj)
          rw [this, show k + 1 + j = k + (j + 1) by omega]
    · obtain rfl : k = l.length := by omega
      exact ⟨[], by rw [rdL, if_neg (Nat.lt_irrefl _)], by simp, by simp⟩
/-- The places of the restarts. -/
def startsB (b : List UInt8) (e n : Nat) : List Nat := (List.range n).map fun i => numB ((b.drop (e + 4 * i)).take 4)
/-- How many entries from restart to restart: what has been found of it behind i entries. -/
def evF (ss : List Nat) (ps : List Nat) : Nat → Nat
  | 0 => 0
  | i + 1 => if 1 < ss.length ∧ ps[i]? = ss[1]? ∧ evF ss ps i = 0 then i else evF ss ps i
def evL (ss : List Nat) (ps : List Nat) : Nat := if evF ss ps ps.length = 0 then ps.length + 1 else evF ss ps ps.length
/-- What Decode answers. -/
def decB (b : List UInt8) : List En × Nat :=
  match openB b 0 with
  | (body, next, 0) => if next < b.length ∨ body.length < 4 then ([], 3) else
      if (body.length - 4) / 4 < numB (body.drop (body.length - 4)) then ([], 3) else
      match rdL (body.take (body.length - 4 - 4 * numB (body.drop (body.length - 4)))) (body.length - 4 - 4 * numB (body.drop (body.length - 4))) 0 [] with
      | none => ([], 3)
      | some r => if buildB (evL (startsB (body.take (body.length - 4)) (body.length - 4 - 4 * numB (body.drop (body.length - 4))) (numB (body.drop (body.length - 4)))) (r.map (·.2))) (r.map (·.1)) = (b, 0) then (r.map (·.1), 0) else ([], 3)
  | (_, _, e) => ([], e)
end Go.Proofs.YtpnckagibkdcpaaDoor


/-
  Blocks in plain words: what Build has written is decoded as the same entries. No program in sight.
-/
namespace Go.Proofs.YtpnckagibkdcpaaDoor

theorem stN_bound {every : Nat} (he : 0 < every) : ∀ k, k ≤ stN every k * every ∧ stN every k * every < k + every
  | 0 => by simp [stN, he]
  | k + 1 => by
    obtain ⟨h1, h2⟩ := stN_bound he k
    rw [stN]
    split
    · rename_i h
      have h3 : stN every k * every = k := by
        obtain ⟨q, hq⟩ := Nat.dvd_of_mod_eq_zero h
        rw [Nat.mul_comm] at hq
        subst hq
        have h4 : stN every (q * every) = q := by
          rcases Nat.lt_trichotomy (stN every (q * every)) q with h5 | h5 | h5
          · have := Nat.mul_le_mul_right every (show stN every (q * every) + 1 ≤ q from h5)
            rw [Nat.add_mul] at this; omega
          · exact h5
          · have := Nat.mul_le_mul_right every (show q + 1 ≤ stN every (q * every) from h5)
            rw [Nat.add_mul] at this; omega
        rw [h4]
      rw [Nat.add_mul]; omega
    · rename_i h
      simp only [Nat.add_zero]
      have h3 : ¬ stN every k * every = k := fun h3 => h (by rw [← h3]; exact Nat.mul_mod_left _ _)
      omega
theorem stN_mul {every k : Nat} (he : 0 < every) (h : k % every = 0) : stN every k * every = k := by
  obtain ⟨q, rfl⟩ := Nat.dvd_of_mod_eq_zero h
  rw [Nat.mul_comm every q]
  obtain ⟨h1, h2⟩ := stN_bound he (q * every)
  rcases Nat.lt_trichotomy (stN every (q * every)) q with h5 | h5 | h5
  · have := Nat.mul_le_mul_right every (show stN every (q * every) + 1 ≤ q from h5)
    rw [Nat.add_mul] at this; omega
  · rw [h5]
  · have := Nat.mul_le_mul_right every (show q + 1 ≤ stN every (q * every) from h5)
    rw [Nat.add_mul] at this; omega
theorem resB_at {every : Nat} (he : 0 < every) (l : List En) : ∀ (k j : Nat), j < stN every k → ((resB every l k).drop (4 * j)).take 4 = four (bodyB every l (j * every)).length
  | 0, j, h => by simp [stN] at h
  | k + 1, j, h => by
    rw [stN] at h
    rw [resB]
    have hl := resB_length every l k
    by_cases hk : k % every = 0
    · rw [if_pos hk] at h ⊢
      rcases Nat.lt_or_ge j (stN every k) with h1 | h1
      · rw [List.drop_append_of_le_length (by omega), List.take_append_of_le_length (by rw [List.length_drop]; omega)]
        exact resB_at he l k j h1
      · obtain rfl : j = stN every k := by omega
        rw [← hl, List.drop_left, List.take_of_length_le (by rw [four_length]; exact Nat.le_refl _), stN_mul he hk]
    · rw [if_neg hk] at h ⊢
      rw [List.append_nil]
      exact resB_at he l k j h
theorem startsB_len (b : List UInt8) (e n : Nat) : (startsB b e n).length = n := by simp [startsB]
theorem bodyB_le (every : Nat) (l : List En) {i j : Nat} (h : i ≤ j) : (bodyB every l i).length ≤ (bodyB every l j).length := by
  obtain ⟨d, rfl⟩ := Nat.exists_eq_add_of_le h
  obtain ⟨r, hr⟩ := bodyB_split every l d i
  rw [hr, List.length_append]; omega
theorem starts_at {every : Nat} (he : 0 < every) (l : List En) {j : Nat} (hj : j < stN every l.length) (hb : (bodyB every l l.length).length < 4294967296) :
    (startsB (bodyB every l l.length ++ resB every l l.length) (bodyB every l l.length).length (stN every l.length))[j]? = some (bodyB every l (j * every)).length := by
  rw [startsB, List.getElem?_map, List.getElem?_range hj]
  simp only [Option.map_some]
  rw [← List.drop_drop, List.drop_left, resB_at he l l.length j hj]
  have h1 : j * every ≤ l.length := by
    have h2 := (stN_bound he l.length).2
    have := Nat.mul_le_mul_right every (show j + 1 ≤ stN every l.length from hj)
    rw [Nat.add_mul] at this; omega
  rw [numB_four (Nat.lt_of_le_of_lt (bodyB_le every l h1) hb)]
theorem evF_zero {ss ps : List Nat} {n : Nat} (h : ∀ i, i < n → 0 < i → ¬ (1 < ss.length ∧ ps[i]? = ss[1]?)) : evF ss ps n = 0 := by
  induction n with
  | zero => rfl
  | succ n ih =>
    have h1 := ih fun i hi => h i (by omega)
    rw [evF]
    split
    · rename_i hc
      rcases Nat.eq_zero_or_pos n with h0 | h0
      · exact h0
      · exact absurd ⟨hc.1, hc.2.1⟩ (h n (by omega) h0)
    · exact h1
theorem evF_pos {ss ps : List Nat} {e : Nat} (he : 0 < e) (h1 : 1 < ss.length) (h2 : ps[e]? = ss[1]?) (h3 : ∀ i, i < e → 0 < i → ¬ ps[i]? = ss[1]?) : ∀ n, e < n → evF ss ps n = e
  | 0, h => by omega
  | n + 1, h => by
    rcases Nat.lt_or_ge e n with h4 | h4
    · have h5 := evF_pos he h1 h2 h3 n h4
      rw [evF, if_neg (by rintro ⟨_, _, h6⟩; omega), h5]
    · obtain rfl : e = n := by omega
      have h5 : evF ss ps e = 0 := evF_zero fun i hi h0 => fun h6 => h3 i hi h0 h6.2
      rw [evF, if_pos ⟨h1, h2, h5⟩]
/-- With one restart at most it is all one how many entries there are from restart to restart. -/
theorem blk_one {every every' : Nat} {l : List En} (h1 : l.length ≤ every) (h2 : l.length ≤ every') : blkB every l = blkB every' l := by
  have hs : ∀ k, k < l.length → (k % every = 0 ↔ k % every' = 0) := fun k hk => by
    rw [Nat.mod_eq_of_lt (by omega), Nat.mod_eq_of_lt (by omega)]
  have hb : ∀ k, k ≤ l.length → bodyB every l k = bodyB every' l k := by
    intro k
    induction k with
    | zero => intro _; rfl
    | succ k ih =>
      intro hk
      have e : shrN every l k = shrN every' l k := by
        unfold shrN
        by_cases h : k % every = 0
        · rw [if_pos h, if_pos ((hs k (by omega)).1 h)]
        · rw [if_neg h, if_neg fun h' => h ((hs k (by omega)).2 h')]
      rw [bodyB, bodyB, ih (by omega), e]
  have hr : ∀ k, k ≤ l.length → resB every l k = resB every' l k ∧ stN every k = stN every' k := by
    intro k
    induction k with
    | zero => intro _; exact ⟨rfl, rfl⟩
    | succ k ih =>
      intro hk
      obtain ⟨i1, i2⟩ := ih (by omega)
      rw [resB, resB, stN, stN, i1, i2, hb k (by omega)]
      by_cases h : k % every = 0
      · rw [if_pos h, if_pos h, if_pos ((hs k (by omega)).1 h), if_pos ((hs k (by omega)).1 h)]; exact ⟨rfl, rfl⟩
      · rw [if_neg h, if_neg h, if_neg (fun h' => h ((hs k (by omega)).2 h')), if_neg (fun h' => h ((hs k (by omega)).2 h'))]; exact ⟨rfl, rfl⟩
  obtain ⟨h3, h4⟩ := hr l.length (Nat.le_refl _)
  rw [blkB, blkB, hb l.length (Nat.le_refl _), h3, h4]
theorem blkB_length (every : Nat) (l : List En) : (blkB every l).length = (bodyB every l l.length).length + 4 * stN every l.length + 4 := by
  rw [blkB, List.length_append, List.length_append, resB_length, four_length]; omega
/-- What Build has written is decoded. -/
theorem dec_build {every : Nat} {l : List En} (he : 0 < every) (hz : Siz l) (hc : checkE l = 0) (ho : ordE l = true) (hb : (blkB every l).length ≤ 1048576) : buildB every l = (crcRec (blkB every l), 0) ∧ decB (crcRec (blkB every l)) = (l, 0) := by
  have hbuild : ∀ {e : Nat}, blkB e l = blkB every l → buildB e l = (crcRec (blkB every l), 0) := fun {e} h => by
    have hs : sealB (blkB every l) = (crcRec (blkB every l), 0) := by rw [sealB, if_neg (by omega)]
    rw [buildB, hc, if_neg (by decide), h, hs, if_pos rfl, if_pos ⟨rfl, ho⟩]
  refine ⟨hbuild rfl, ?_⟩
  have hlen := blkB_length every l
  have hst : stN every l.length < 4294967296 := by omega
  have hbody : (bodyB every l l.length).length < 4294967296 := by omega
  have d1 : (blkB every l).length - 4 = (bodyB every l l.length ++ resB every l l.length).length := by rw [List.length_append, resB_length]; omega
  have e1 : blkB every l = (bodyB every l l.length ++ resB every l l.length) ++ four (stN every l.length) := by rw [blkB, List.append_assoc]
  have h1 : (blkB every l).drop ((blkB every l).length - 4) = four (stN every l.length) := by rw [d1, e1, List.drop_left]
  have h2 : (blkB every l).take ((blkB every l).length - 4) = bodyB every l l.length ++ resB every l l.length := by rw [d1, e1, List.take_left]
  have h3 : (blkB every l).length - 4 - 4 * stN every l.length = (bodyB every l l.length).length := by omega
  have h4 : (blkB every l).take (bodyB every l l.length).length = bodyB every l l.length := by rw [blkB, List.take_left]
  obtain ⟨r, r1, r2, r3⟩ := rdL_body (every := every) hz [] rfl (bodyB every l l.length).length 0 (Nat.zero_le _) (Nat.le_add_left _ _)
  rw [List.append_nil] at r1
  have r1' : rdL (bodyB every l l.length) (bodyB every l l.length).length 0 [] = some r := r1
  rw [List.drop_zero] at r2
  have hrl : r.length = l.length := by rw [← r2, List.length_map]
  unfold decB
  rw [openB_rec hb]
  simp only
  rw [if_neg (by rw [crcRec_length]; omega), h1, numB_four hst, if_neg (by omega), h3, h4, r1']
  simp only
  rw [h2, r2]
  have hps : ∀ i, i < l.length → (r.map (·.2))[i]? = some (bodyB every l i).length := fun i hi => by
    have hx : r[i]? = some (r[i]'(by omega)) := List.getElem?_eq_getElem (by omega)
    rw [List.getElem?_map, hx]
    simp only [Option.map_some]
    rw [r3 i _ hx, Nat.zero_add]
  have hss := startsB_len (bodyB every l l.length ++ resB every l l.length) (bodyB every l l.length).length (stN every l.length)
  have hev : blkB (evL (startsB (bodyB every l l.length ++ resB every l l.length) (bodyB every l l.length).length (stN every l.length)) (r.map (·.2))) l = blkB every l := by
    obtain ⟨b1, b2⟩ := stN_bound he l.length
    rcases Nat.lt_or_ge 1 (stN every l.length) with h5 | h5
    · have h6 : every < l.length := by
        have := Nat.mul_le_mul_right every (show 2 ≤ stN every l.length from h5)
        omega
      have hs1 := starts_at he l h5 hbody
      rw [Nat.one_mul] at hs1
      have h7 := evF_pos (ss := startsB (bodyB every l l.length ++ resB every l l.length) (bodyB every l l.length).length (stN every l.length)) (ps := r.map (·.2)) he (by rw [hss]; exact h5) (by rw [hs1, hps every h6]) (fun i hi h0 h8 => by
        rw [hs1, hps i (by omega)] at h8
        have := bodyB_inj hz (by omega) (by omega) (Option.some.inj h8)
        omega) l.length h6
      rw [evL, List.length_map, hrl, h7, if_neg (by omega)]
    · have h6 : l.length ≤ every := by
        have := Nat.mul_le_mul_right every h5
        omega
      have h7 : evF (startsB (bodyB every l l.length ++ resB every l l.length) (bodyB every l l.length).length (stN every l.length)) (r.map (·.2)) l.length = 0 := evF_zero fun i _ _ h8 => by rw [hss] at h8; omega
      rw [evL, List.length_map, hrl, h7, if_pos rfl]
      exact blk_one (by omega) h6
  rw [if_pos (hbuild hev)]
/-- How long a block is at most. -/
theorem blk_size {every : Nat} {l : List En} (hz : Siz l) : (blkB every l).length ≤ (l.map fun x => x.key.length + x.val.length).sum + 45 * l.length + 4 := by
  have key : ∀ k, k ≤ l.length → (bodyB every l k).length ≤ ((l.take k).map fun x => x.key.length + x.val.length).sum + 41 * k := by
    intro k
    induction k with
    | zero => intro _; simp [bodyB]
    | succ k ih =>
      intro hk
      have hx : l[k]? = some (l[k]'(by omega)) := List.getElem?_eq_getElem (by omega)
      obtain ⟨z1, z2, z3⟩ := hz _ (List.mem_of_getElem? hx)
      have h1 := (entB_length _ _ (shrN_le (every := every) hx).1 z1 z2 z3).1
      have h2 := ih (by omega)
      rw [bodyB_succ hx, List.length_append, take_getR hx, List.map_append, List.sum_append]
      simp only [List.map_cons, List.map_nil, List.sum_cons, List.sum_nil]
      omega
  have h1 := key l.length (Nat.le_refl _)
  rw [List.take_length] at h1
  have h2 := stN_le every l.length
  rw [blkB_length]
  omega
end Go.Proofs.YtpnckagibkdcpaaDoor


/-
  Walks over the sum's steps, its table and its bitwise answer.
-/
namespace Go.Proofs.YtpnckagibkdcpaaDoor
open Go.RowKit

theorem fill_upV {α : Type} {l : List α} {z x : α} {k m : Nat} (h : l[k]? = some x) : (l.take k ++ List.replicate (m + 1) z).set k x = l.take (k + 1) ++ List.replicate m z := by
  have hk := (List.getElem?_eq_some_iff.1 h).1
  have e : (l.take k).length = k := by simp; omega
  rw [List.set_append_right _ _ (by omega), e, Nat.sub_self, List.replicate_succ, List.set_cons_zero, List.take_add_one, h]
  simp

theorem step_any (x : Nat) (hx : x < 4294967296) (w : World) : CallsV Tryd.prog 83 #[.int .u32 x] w fun v w' => v = .int .u32 (stepC x : Nat) ∧ w = w' := by
  refine calls_in (N := _) Tryd.func83 rfl Tryd.ntmps83 rfl ?_; show WC _ _ _ _ _ _
  refine wc_sr ?_; refine wl_as rfl rfl ?_; refine wl_ns ?_; refine wc_seq ?_; refine wc_sr ?_; refine wl_mv rfl rfl ?_
  refine wl_val (opv_bin (b := .int .u32 (1 : Nat)) rfl rfl (bin_and rfl hx (by decide))) rfl ?_
  refine wl_bin rfl rfl bin_eql rfl ?_; refine wl_ns ?_
  refine wc_cond rfl (fun h => ?_) (fun h => ?_)
  · have h1 : x % 2 = 1 := by rw [← Nat.and_one_is_mod]; omega
    refine wc_sr ?_; refine wl_mv rfl rfl ?_
    refine wl_val (opv_bin (b := .int .u64 (1 : Nat)) rfl rfl (bin_shr hx)) rfl ?_
    refine wl_val (opv_bin (b := .int .u32 (3988292384 : Nat)) rfl rfl (bin_xor rfl (by simp only [IntKind.bits]; omega) (by decide))) rfl ?_
    refine wl_as rfl rfl ?_; refine wl_ns ?_; refine wc_ret ?_; refine we_seq_ret ?_
    exact we_ret1 rfl rfl ⟨_, rfl, by rw [stepC_odd h1], rfl⟩
  · have h1 : ¬ x % 2 = 1 := by rw [← Nat.and_one_is_mod]; omega
    refine wc_skip ?_; refine we_seq ?_; refine wc_sr ?_; refine wl_mv rfl rfl ?_
    refine wl_val (opv_bin (b := .int .u64 (1 : Nat)) rfl rfl (bin_shr hx)) rfl ?_
    refine wl_as rfl rfl ?_; refine wl_ns ?_; refine wc_ret ?_
    exact we_ret1 rfl rfl ⟨_, rfl, by rw [stepC_even h1], rfl⟩
theorem eight_any (x : Nat) (hx : x < 4294967296) (w : World) : CallsV Tryd.prog 81 #[.int .u32 x] w fun v w' => v = .int .u32 (eightC x : Nat) ∧ w = w' := by
  refine calls_in (N := _) Tryd.func81 rfl Tryd.ntmps81 rfl ?_; show WC _ _ _ _ _ _
  refine wc_sr ?_; refine wl_as rfl rfl ?_; refine wl_ns ?_; refine wc_seq ?_; refine wc_sr ?_; refine wl_mv rfl rfl ?_; refine wl_ns ?_; refine wc_block ?_
  refine wc_loop (fun L wr m => ∃ (k y : Nat), L = [(0, .int .u32 (y : Int)), (3, .int .i64 (k : Int))] ∧ k ≤ 8 ∧ y < 4294967296 ∧ stepsC (8 - k) y = eightC x ∧ w = wr ∧ m = 8 - k)
    [(0, .int .u32 (x : Int)), (3, .int .i64 (0 : Nat))] 8 ⟨0, x, rfl, by omega, hx, rfl, rfl, rfl⟩ ⟨rfl, rfl, trivial⟩ ?_
  rintro _ _ m ⟨k, y, rfl, hk, hy, he, rfl, rfl⟩
  refine wc_sr ?_; refine wl_bin rfl rfl bin_lss rfl ?_; refine wl_ns ?_; refine wc_seq ?_
  refine wc_cond rfl (fun h1 => ?_) (fun h1 => ?_)
  · refine wc_skip ?_; refine we_seq ?_; refine wc_seq ?_; refine wc_block ?_; refine wc_region ?_; refine wl_mv rfl rfl ?_
    refine wl_call ok_crc_step (step_any y hy w) ⟨rfl, trivial⟩ rfl ?_
    rintro _ _ ⟨rfl, rfl⟩
    refine wl_as rfl rfl ?_; refine wl_nil ?_; refine we_block_norm ?_; refine we_seq ?_; refine wc_region ?_; apply wl_val; apply opv_bin; exact rfl; exact rfl; exact bin_add64 (by omega); exact rfl; refine wl_mv rfl rfl ?_; refine wl_nil ?_
    refine we_loop [(0, .int .u32 (stepC y : Nat)), (3, .int .i64 ((k + 1 : Nat) : Int))] (8 - (k + 1)) ⟨k + 1, stepC y, rfl, by omega, step_lt hy, ?_, rfl, rfl⟩ (by omega) ⟨rfl, rfl, trivial⟩
    rw [← he, show 8 - k = (8 - (k + 1)) + 1 by omega]; rfl
  · obtain rfl : k = 8 := by omega
    have e : y = eightC x := he
    refine wc_exit ?_; refine we_seq_exit ?_; refine we_loop_exit ?_; refine we_block_exit ?_; refine we_seq ?_; refine wc_sr ?_; refine wl_mv rfl rfl ?_; refine wl_as rfl rfl ?_; refine wl_ns ?_; refine wc_ret ?_
    exact we_ret1 rfl rfl ⟨_, rfl, by rw [e], rfl⟩

/-- The table's cells. -/
def tabC : List Value := (List.range 256).map fun i => .int .u32 (eightC i : Nat)
theorem tabC_length : tabC.length = 256 := by simp [tabC]
theorem tabC_get {k : Nat} (h : k < 256) : tabC[k]? = some (.int .u32 (eightC k : Nat)) := by
  rw [tabC, List.getElem?_map, List.getElem?_range h]; rfl
theorem tabC_one : ∀ v ∈ tabC, v.oneCell' = true := by
  intro v hv
  simp only [tabC, List.mem_map] at hv
  obtain ⟨_, _, rfl⟩ := hv; rfl
theorem tyU : Cell1 Tryd.prog 103 := ⟨by kernel_rfl, by rw [Tryd.underlying103]⟩
theorem tyA_zero : (Tryd.prog.info? 112).map (·.zero) = some (some (.agg (List.replicate 256 (Value.int .u32 0)).toArray)) := by kernel_rfl
theorem tyA_size : (Tryd.prog.info? 112).map (·.size) = some 256 := by kernel_rfl

theorem table_any (w : World) : CallsV Tryd.prog 75 #[] w fun v w' => v = .agg tabC.toArray ∧ Below w.heap.size w w' := by
  have hb0 := Below.refl w.heap.size w
  refine calls_in (N := _) Tryd.func75 rfl Tryd.ntmps75 rfl ?_; show WC _ _ _ _ _ _
  refine wc_sr ?_
  refine wl_alloc tyA_zero rfl fun w1 a0 hb1 hs1 => ?_
  refine wl_ns ?_; refine wc_sr ?_
  refine wl_alloc tyA_zero rfl fun w2 a1 hb2 hs2 => ?_
  replace a0 := a0.bel hb2
  have hb3 := hb1.trans (hb2.mono hb1.size)
  clear hb0 hb1 hb2
  obtain ⟨g1, hg1⟩ : ∃ g, w1.heap.size = g := ⟨_, rfl⟩
  rw [hg1] at a1 ⊢
  have hne : g1 ≠ w.heap.size := by omega
  refine wl_ns ?_; refine wc_seq ?_; refine wc_sr ?_; refine wl_mv rfl rfl ?_; refine wl_ns ?_; refine wc_block ?_
  refine wc_loop (fun L wr m => ∃ k : Nat, L = [(0, .pointer (some ⟨w.heap.size, 0, none⟩)), (1, .pointer (some ⟨g1, 0, none⟩)), (3, .int .i64 (k : Int))] ∧ k ≤ 256 ∧ Ar wr g1 112 (tabC.take k ++ List.replicate (256 - k) (Value.int .u32 0)) ∧ Ar wr w.heap.size 112 (List.replicate 256 (Value.int .u32 0)) ∧ Below w.heap.size w wr ∧ m = 256 - k)
    [(0, .pointer (some ⟨w.heap.size, 0, none⟩)), (1, .pointer (some ⟨g1, 0, none⟩)), (3, .int .i64 (0 : Nat))] 256 ⟨0, rfl, by omega, a1, a0, hb3, rfl⟩ ⟨rfl, rfl, rfl, trivial⟩ ?_
  rintro _ w4 m ⟨k, rfl, hk, b1, b0, hb4, rfl⟩
  refine wc_sr ?_; refine wl_bin rfl rfl bin_lss rfl ?_; refine wl_ns ?_; refine wc_seq ?_
  refine wc_cond rfl (fun h1 => ?_) (fun h1 => ?_)
  · refine wc_skip ?_; refine we_seq ?_; refine wc_seq ?_; refine wc_block ?_; refine wc_sr ?_; refine wl_mv rfl rfl ?_; refine wl_as rfl rfl ?_; refine wl_ns ?_; refine wc_region ?_; refine wl_mv rfl rfl ?_; refine wl_mv rfl rfl ?_; apply wl_val; apply opv_convR; exact rfl; exact Tryd.underlying3; exact Tryd.underlying103; exact IntWalk.u32_in _ (by omega); exact rfl
    refine wl_call ok_crc_eight (eight_any k (by omega) w4) ⟨rfl, trivial⟩ rfl ?_
    rintro _ _ ⟨rfl, rfl⟩
    refine wl_setA (kk := k) Tryd.underlying112 tyU rfl rfl b1 (by simp [tabC_length]; omega) rfl (by omega) (fun _ => rfl) rfl rfl fun p => ?_
    have c1 := b1.setCell k (.int .u32 (eightC k : Nat))
    have c0 := b0.ne k (.int .u32 (eightC k : Nat)) hne
    have hb5 := below_setCell (k := k) (v := .int .u32 (eightC k : Nat)) hb4 (show w.heap.size ≤ g1 by omega)
    have e : (tabC.take k ++ List.replicate (256 - k) (Value.int .u32 0)).set k (.int .u32 (eightC k : Nat)) = tabC.take (k + 1) ++ List.replicate (256 - (k + 1)) (Value.int .u32 0) := by
      rw [show 256 - k = (256 - (k + 1)) + 1 by omega]; exact fill_upV (tabC_get (by omega))
    rw [e] at c1
    refine wl_nil ?_; refine we_block_norm ?_; refine we_seq ?_; refine wc_region ?_; apply wl_val; apply opv_bin; exact rfl; exact rfl; exact bin_add64 (by omega); exact rfl; refine wl_mv rfl rfl ?_; refine wl_nil ?_
    refine we_loop [(0, .pointer (some ⟨w.heap.size, 0, none⟩)), (1, .pointer (some ⟨g1, 0, none⟩)), (3, .int .i64 ((k + 1 : Nat) : Int))] (256 - (k + 1)) ⟨k + 1, rfl, by omega, c1, c0, hb5, rfl⟩ (by omega) ⟨rfl, rfl, rfl, trivial⟩
  · obtain rfl : k = 256 := by omega
    have e : tabC.take 256 ++ List.replicate (256 - 256) (Value.int .u32 0) = tabC := by rw [List.take_of_length_le (by rw [tabC_length]; omega)]; simp
    rw [e] at b1
    refine wc_exit ?_; refine we_seq_exit ?_; refine we_loop_exit ?_; refine we_block_exit ?_; refine we_seq ?_; refine wc_sr ?_
    refine wl_val (opv_loadW Tryd.underlying112 (by rw [tabC_length]; exact tyA_size) rfl b1) rfl ?_
    refine wl_unitN (opu_storeW (by rw [List.length_replicate]; exact tyA_size) (by rw [tabC_length, List.length_replicate]) rfl rfl b0 tabC_one) ?_
    have d0 := b0.setRow (cs' := tabC)
    have hb6 := below_setRow (cs' := tabC.toArray) hb4 (Nat.le_refl _)
    refine wl_ns ?_; refine wc_ret ?_
    exact we_retA rfl rfl Tryd.underlying112 (by rw [tabC_length]; exact tyA_size) d0 ⟨_, rfl, rfl, hb6⟩
end Go.Proofs.YtpnckagibkdcpaaDoor


/-
  Walks over PutU of the program and of the reference, inside, and GetU of both.
-/
namespace Go.Proofs.YtpnckagibkdcpaaDoor
open Go.RowKit

def PutI (w : World) (n : Nat) (s : Nat) : FL → World → Nat → Prop := fun L wr m =>
  ∃ (pre : List UInt8) (A : Option Addr) (c : Nat), L = [(0, .int .u64 m), (s, .slice A pre.length c)] ∧ OwB wr w.heap.size A c pre ∧ putU n = pre ++ putU m ∧ Below w.heap.size w wr ∧ m < 2 ^ (64 - 7 * pre.length) ∧ 7 * pre.length ≤ 63
theorem PutI.start {w : World} {n s : Nat} (hn : n < 2 ^ 64) : PutI w n s [(0, .int .u64 n), (s, .slice none 0 0)] w n :=
  ⟨[], none, 0, rfl, Ow.nil _ _ _, rfl, Below.refl _ _, hn, by decide⟩
theorem PutI.next {w wr w' : World} {n m s : Nat} {pre : List UInt8} {A A' : Option Addr} {c c' : Nat} {v : Value} (hown : OwB wr w.heap.size A c pre) (heq : putU n = pre ++ putU m) (hbel : Below w.heap.size w wr) (hm : m < 2 ^ (64 - 7 * pre.length)) (hl : 7 * pre.length ≤ 63)
    (h : 128 ≤ m) (ho : Ow w' w.heap.size 5 A' (pre.length + 1) c' (bvs pre ++ [v])) (hg : Gr wr w' A) (hv : bv (UInt8.ofNat (m % 128 + 128)) = v) :
    PutI w n s [(0, .int .u64 (m / 128 : Nat)), (s, .slice A' (pre.length + 1) c')] w' (m / 128) := by
  have h7 : 8 ≤ 64 - 7 * pre.length := by
    rcases Nat.lt_or_ge 7 (64 - 7 * pre.length) with h' | h'
    · exact h'
    · have := Nat.lt_of_lt_of_le hm (Nat.pow_le_pow_right (by decide) h'); omega
  refine ⟨pre ++ [UInt8.ofNat (m % 128 + 128)], A', c', by simp, OwB.snoc ho hv, ?_, hg.below hbel hown (Nat.le_refl _) hbel.size, ?_, ?_⟩
  · rw [heq, putU, if_neg (by omega)]; simp
  · refine Nat.div_lt_of_lt_mul ?_
    rw [show 128 = 2 ^ 7 from rfl, ← Nat.pow_add]
    simp only [List.length_append, List.length_cons, List.length_nil]
    rw [show 7 + (64 - 7 * (pre.length + (0 + 1))) = 64 - 7 * pre.length by omega]
    exact hm
  · simp; omega
theorem PutI.last {w wr w' : World} {n m : Nat} {pre : List UInt8} {A A' : Option Addr} {c c' : Nat} {v : Value} (hown : OwB wr w.heap.size A c pre) (heq : putU n = pre ++ putU m) (hbel : Below w.heap.size w wr)
    (h : m < 128) (ho : Ow w' w.heap.size 5 A' (pre.length + 1) c' (bvs pre ++ [v])) (hg : Gr wr w' A) (hv : bv (UInt8.ofNat m) = v) :
    RetB w (putU n) (.slice A' (pre.length + 1) c') w' := by
  have e : putU n = pre ++ [UInt8.ofNat m] := by rw [heq, putU, if_pos h]
  rw [e]
  exact ⟨A', c', by simp, OwB.snoc ho hv, hg.below hbel hown (Nat.le_refl _) hbel.size⟩

theorem putU_any (n : Nat) (hn : n < 2 ^ 64) (w : World) : CallsV Tryd.prog 64 #[.int .u64 n] w (RetB w (putU n)) := by
  refine calls_in (N := _) Tryd.func64 rfl Tryd.ntmps64 rfl ?_; show WC _ _ _ _ _ _
  refine wc_sr ?_; refine wl_as rfl rfl ?_; refine wl_ns ?_; refine wc_sr ?_; refine wl_as rfl rfl ?_; refine wl_ns ?_; refine wc_seq ?_; refine wc_block ?_
  refine wc_loop (PutI w n 3) [(0, .int .u64 n), (3, .slice none 0 0)] n (PutI.start hn) ⟨rfl, rfl, trivial⟩ ?_
  rintro _ wr m ⟨pre, A, c, rfl, hown, heq, hbel, hm, hl⟩
  have hsz := hbel.size
  have hm64 : m < 2 ^ 64 := Nat.lt_of_lt_of_le hm (Nat.pow_le_pow_right (by decide) (by omega))
  refine wc_seq ?_; refine wc_sr ?_; refine wl_mv rfl rfl ?_; refine wl_bin rfl rfl bin_geq rfl ?_; refine wl_ns ?_
  refine wc_cond rfl (fun h => ?_) (fun h => ?_)
  · refine wc_skip ?_; refine we_seq ?_; refine wc_block ?_; refine wc_sr ?_; refine wl_mv rfl rfl ?_; refine wl_mv rfl rfl ?_; apply wl_val; apply opv_convR; exact rfl; exact Tryd.underlying37; exact Tryd.underlying5; exact wrap_nat rfl _; exact rfl
    refine wl_val (opv_bin (b := .int .u8 (128 : Nat)) rfl rfl (bin_or rfl (Nat.mod_lt _ (by decide)) (by decide))) rfl ?_
    refine wl_push (vs := [_]) tyB rfl hown ⟨rfl, rfl, rfl, trivial⟩ rfl (by decide) rfl (by omega) (by simp only [maxLen]; omega) hsz rfl rfl fun p A' c' w' ho hg hat => ?_
    refine wl_as rfl rfl ?_; refine wl_ns ?_; refine wc_region ?_; refine wl_mv rfl rfl ?_
    refine wl_val (opv_bin (b := .int .u64 (7 : Nat)) rfl rfl (bin_shr hm64)) rfl ?_
    refine wl_as rfl rfl ?_; refine wl_nil ?_; refine we_block_norm ?_
    refine we_loop _ (m / 128) (PutI.next hown heq hbel hm hl (by omega) ho hg ?_) (by omega) ⟨rfl, rfl, trivial⟩
    rw [bv_of (by omega), show IntKind.u8.bits = 8 from rfl, show 2 ^ 8 = 256 from rfl, or128]
  · refine wc_exit ?_; refine we_seq_exit ?_; refine we_loop_exit ?_; refine we_block_exit ?_; refine we_seq ?_; refine wc_sr ?_; refine wl_mv rfl rfl ?_; refine wl_mv rfl rfl ?_; apply wl_val; apply opv_convR; exact rfl; exact Tryd.underlying37; exact Tryd.underlying5; exact IntWalk.u8_in _ (by omega); exact rfl
    refine wl_push (vs := [_]) tyB rfl hown ⟨rfl, rfl, rfl, trivial⟩ rfl (by decide) rfl (by omega) (by simp only [maxLen]; omega) hsz rfl rfl fun p A' c' w' ho hg hat => ?_
    refine wl_as rfl rfl ?_; refine wl_ns ?_; refine wc_ret ?_
    exact we_ret1 rfl rfl ⟨_, rfl, PutI.last hown heq hbel (by omega) ho hg (bv_of (by omega))⟩
theorem inside_any {A : Option Addr} {n c : Nat} (p : Int) (w : World) : CallsV Tryd.prog 82 #[.slice A n c, .int .i64 p] w fun v w' => v = .bool (decide (0 ≤ p ∧ p ≤ n)) ∧ w = w' := by
  refine calls_in (N := _) Tryd.func82 rfl Tryd.ntmps82 rfl ?_; show WC _ _ _ _ _ _
  refine wc_sr ?_; refine wl_as rfl rfl ?_; refine wl_ns ?_; refine wc_sr ?_; refine wl_mv rfl rfl ?_; refine wl_bin rfl rfl bin_geq rfl ?_; refine wl_mv rfl rfl ?_
  refine wl_cutV 5 12 (.bool (decide ((0 ≤ p) ∧ (p ≤ n)))) ?c8 ?_; (case c8 => (dsimp only [List.take]; by_cases hc0 : (0 ≤ p); (focus (apply wl_take; exact rfl; exact rfl; exact rfl; refine bT ?_; (with_reducible assumption); refine wl_mv rfl rfl ?_; apply wl_take; exact rfl; exact rfl; exact rfl; refine bT ?_; (with_reducible assumption); refine wl_mv rfl rfl ?_; apply wl_take; exact rfl; exact rfl; exact rfl; refine bT ?_; (with_reducible assumption); apply wl_val; apply opv_len; exact rfl; exact tyB.sl; exact rfl; apply wl_take; exact rfl; exact rfl; exact rfl; refine bT ?_; (with_reducible assumption); refine wl_bin rfl rfl bin_leq rfl ?_; apply wl_val; apply opv_pickT; exact rfl; refine bT ?_; (with_reducible assumption); exact rfl; exact rfl; refine wl_nil ?_; refine we_cut _ ⟨rfl, rfl⟩ ⟨congrArg (fun b => some (Value.bool b)) ?e8_0, ?s8_0⟩; (case e8_0 => ((simp [hc0]; done))); (case s8_0 => (refine And.intro rfl ?_; refine And.intro rfl ?_; refine And.intro rfl ?_; refine And.intro rfl ?_; refine And.intro rfl ?_; refine And.intro rfl ?_; exact True.intro)))); (focus (apply wl_skip; exact rfl; exact rfl; exact rfl; refine bFn ?_; (with_reducible assumption); exact rfl; apply wl_skip; exact rfl; exact rfl; exact rfl; refine bFn ?_; (with_reducible assumption); exact rfl; apply wl_skip; exact rfl; exact rfl; exact rfl; refine bFn ?_; (with_reducible assumption); exact rfl; apply wl_skip; exact rfl; exact rfl; exact rfl; refine bFn ?_; (with_reducible assumption); exact rfl; apply wl_val; apply opv_pickF; exact rfl; refine bF ?_; (with_reducible assumption); exact rfl; exact rfl; refine wl_nil ?_; refine we_cut _ ⟨rfl, rfl⟩ ⟨congrArg (fun b => some (Value.bool b)) ?e8_1, ?s8_1⟩; (case e8_1 => ((simp [hc0]; done))); (case s8_1 => (refine And.intro rfl ?_; refine And.intro rfl ?_; refine And.intro rfl ?_; refine And.intro rfl ?_; refine And.intro rfl ?_; refine And.intro rfl ?_; exact True.intro)))))); dsimp only [List.drop]
  refine wl_as rfl rfl ?_; refine wl_ns ?_; refine wc_ret ?_
  exact we_ret1 rfl rfl ⟨_, rfl, rfl, rfl⟩
/-- A number, a place and an error are handed back. -/
def RetN (w : World) (r : Nat × Int × Nat) (v : Value) (w' : World) : Prop := v = .tuple #[.int .u64 (r.1 : Int), .int .i64 r.2.1, .int .i64 (r.2.2 : Int)] ∧ Below w.heap.size w w'

theorem getU_any {A : Option Addr} {n c : Nat} {xs : List UInt8} {p : Int} {w : World} (hr : RdB w A xs) (hn : xs.length = n) (hl : xs.length ≤ maxLen) (hp : -9223372036854775808 ≤ p ∧ p ≤ 9223372036854775807) :
    CallsV Tryd.prog 78 #[.slice A n c, .int .i64 p] w (RetN w (getU xs p)) := by
  subst hn
  have hmx : xs.length ≤ 9223372036854775807 := by simpa only [maxLen] using hl
  clear hl
  refine calls_in (N := _) Tryd.func78 rfl Tryd.ntmps78 rfl ?_; show WC _ _ _ _ _ _
  refine wc_sr ?_; refine wl_as rfl rfl ?_; refine wl_as rfl rfl ?_; refine wl_as rfl rfl ?_; refine wl_ns ?_; refine wc_seq ?_; refine wc_sr ?_; refine wl_mv rfl rfl ?_; refine wl_mv rfl rfl ?_
  refine wl_call ok_codec_inside (inside_any p w) ⟨rfl, rfl, trivial⟩ rfl ?_
  rintro _ _ ⟨rfl, rfl⟩
  apply wl_val; apply opv_notD; exact rfl; exact rfl; refine wl_ns ?_
  refine wc_cond rfl (fun h => ?_) (fun h => ?_)
  · refine wc_sr ?_; refine wl_as rfl rfl ?_; refine wl_as rfl rfl ?_; refine wl_as rfl rfl ?_; refine wl_ns ?_; refine wc_ret ?_; refine we_seq_ret ?_
    exact we_ret3 rfl rfl rfl rfl ⟨_, rfl, by rw [getU_arg h]; rfl, Below.refl _ _⟩
  · have h' : 0 ≤ p ∧ p ≤ xs.length := by simpa using h
    obtain ⟨q, rfl⟩ := Int.eq_ofNat_of_zero_le h'.1
    have hq : q ≤ xs.length := by omega
    refine wc_skip ?_; refine we_seq ?_; refine wc_sr ?_; refine wl_as rfl rfl ?_; refine wl_ns ?_; refine wc_seq ?_; refine wc_sr ?_; refine wl_as rfl rfl ?_; refine wl_ns ?_; refine wc_block ?_
    refine wc_loop (fun L wr m => ∃ i n : Nat, L = [(0, .slice A xs.length c), (1, .int .i64 (q : Int)), (7, .int .u64 (n : Int)), (8, .int .i64 (i : Int))] ∧ q + i ≤ xs.length ∧ i ≤ 9 ∧ n < 128 ^ i ∧ getAux 0 0 (xs.drop q) = getAux i n (xs.drop (q + i)) ∧ w = wr ∧ m = xs.length - i)
      [(0, .slice A xs.length c), (1, .int .i64 (q : Int)), (7, .int .u64 (0 : Nat)), (8, .int .i64 (0 : Nat))] xs.length ⟨0, 0, rfl, hq, by omega, by omega, rfl, rfl, rfl⟩ ⟨rfl, rfl, rfl, rfl, trivial⟩ ?_
    rintro _ _ m ⟨i, n, rfl, hqi, hi, hn, heq, rfl, rfl⟩
    refine wc_seq ?_; refine wc_sr ?_; refine wl_mv rfl rfl ?_; refine wl_mv rfl rfl ?_; apply wl_val; apply opv_bin; exact rfl; exact rfl; exact bin_add64 (by omega); exact rfl; refine wl_mv rfl rfl ?_; apply wl_val; apply opv_len; exact rfl; exact tyB.sl; exact rfl; refine wl_bin rfl rfl bin_lss rfl ?_; refine wl_ns ?_
    refine wc_cond rfl (fun h1 => ?_) (fun h1 => ?_)
    · have hlt : q + i < xs.length := by omega
      refine wc_skip ?_; refine we_seq ?_; refine wc_seq ?_; refine wc_block ?_; refine wc_sr ?_; refine wl_mv rfl rfl ?_; refine wl_mv rfl rfl ?_; refine wl_mv rfl rfl ?_; apply wl_val; apply opv_bin; exact rfl; exact rfl; exact bin_add64 (by omega); exact rfl
      refine wl_by (kk := q + i) tyB rfl rfl hr (by simp) hlt rfl rfl fun p1 x hx => ?_
      have hdrop := drop_get hx
      have hx256 := x.toNat_lt
      apply wl_val; apply opv_convR; exact rfl; exact Tryd.underlying5; exact Tryd.underlying37; exact IntWalk.u64_in _ (by omega); exact rfl; refine wl_as rfl rfl ?_; refine wl_ns ?_; refine wc_seq ?_; refine wc_sr ?_; refine wl_mv rfl rfl ?_; refine wl_bin rfl rfl bin_eql rfl ?_; refine wl_mv rfl rfl ?_
      refine wl_cutV 3 34 (.bool (decide ((i : Int) = 9 ∧ 1 < (x.toNat : Int)))) ?c22 ?_; (case c22 => (dsimp only [List.take]; by_cases hc0 : ((i : Int) = 9); (focus (by_cases hc1 : (1 < (x.toNat : Int)); (focus (apply wl_take; exact rfl; exact rfl; exact rfl; refine bT ?_; (with_reducible assumption); refine wl_mv rfl rfl ?_; apply wl_take; exact rfl; exact rfl; exact rfl; refine bT ?_; (with_reducible assumption); refine wl_bin rfl rfl bin_gtr rfl ?_; apply wl_val; apply opv_pickT; exact rfl; refine bT ?_; (with_reducible assumption); exact rfl; exact rfl; refine wl_nil ?_; refine we_cut _ ⟨rfl, rfl⟩ ⟨congrArg (fun b => some (Value.bool b)) ?e22_0, ?s22_0⟩; (case e22_0 => ((simp [hc0, hc1]; done))); (case s22_0 => (refine And.intro rfl ?_; refine And.intro rfl ?_; refine And.intro rfl ?_; refine And.intro rfl ?_; refine And.intro rfl ?_; refine And.intro rfl ?_; refine And.intro rfl ?_; refine And.intro rfl ?_; refine And.intro rfl ?_; refine And.intro rfl ?_; refine And.intro rfl ?_; refine And.intro rfl ?_; refine And.intro rfl ?_; refine And.intro rfl ?_; refine And.intro rfl ?_; refine And.intro rfl ?_; refine And.intro rfl ?_; refine And.intro rfl ?_; refine And.intro rfl ?_; refine And.intro rfl ?_; refine And.intro rfl ?_; exact True.intro)))); (focus (apply wl_take; exact rfl; exact rfl; exact rfl; refine bT ?_; (with_reducible assumption); refine wl_mv rfl rfl ?_; apply wl_take; exact rfl; exact rfl; exact rfl; refine bT ?_; (with_reducible assumption); refine wl_bin rfl rfl bin_gtr rfl ?_; apply wl_val; apply opv_pickT; exact rfl; refine bT ?_; (with_reducible assumption); exact rfl; exact rfl; refine wl_nil ?_; refine we_cut _ ⟨rfl, rfl⟩ ⟨congrArg (fun b => some (Value.bool b)) ?e22_1, ?s22_1⟩; (case e22_1 => ((simp [hc0, hc1]; done))); (case s22_1 => (refine And.intro rfl ?_; refine And.intro rfl ?_; refine And.intro rfl ?_; refine And.intro rfl ?_; refine And.intro rfl ?_; refine And.intro rfl ?_; refine And.intro rfl ?_; refine And.intro rfl ?_; refine And.intro rfl ?_; refine And.intro rfl ?_; refine And.intro rfl ?_; refine And.intro rfl ?_; refine And.intro rfl ?_; refine And.intro rfl ?_; refine And.intro rfl ?_; refine And.intro rfl ?_; refine And.intro rfl ?_; refine And.intro rfl ?_; refine And.intro rfl ?_; refine And.intro rfl ?_; refine And.intro rfl ?_; exact True.intro)))))); (focus (by_cases hc1 : (1 < (x.toNat : Int)); (focus (apply wl_skip; exact rfl; exact rfl; exact rfl; refine bFn ?_; (with_reducible assumption); exact rfl; apply wl_skip; exact rfl; exact rfl; exact rfl; refine bFn ?_; (with_reducible assumption); exact rfl; apply wl_val; apply opv_pickF; exact rfl; refine bF ?_; (with_reducible assumption); exact rfl; exact rfl; refine wl_nil ?_; refine we_cut _ ⟨rfl, rfl⟩ ⟨congrArg (fun b => some (Value.bool b)) ?e22_2, ?s22_2⟩; (case e22_2 => ((simp [hc0, hc1]; done))); (case s22_2 => (refine And.intro rfl ?_; refine And.intro rfl ?_; refine And.intro rfl ?_; refine And.intro rfl ?_; refine And.intro rfl ?_; refine And.intro rfl ?_; refine And.intro rfl ?_; refine And.intro rfl ?_; refine And.intro rfl ?_; refine And.intro rfl ?_; refine And.intro rfl ?_; refine And.intro rfl ?_; refine And.intro rfl ?_; refine And.intro rfl ?_; refine And.intro rfl ?_; refine And.intro rfl ?_; refine And.intro rfl ?_; refine And.intro rfl ?_; refine And.intro rfl ?_; refine And.intro rfl ?_; refine And.intro rfl ?_; exact True.intro)))); (focus (apply wl_skip; exact rfl; exact rfl; exact rfl; refine bFn ?_; (with_reducible assumption); exact rfl; apply wl_skip; exact rfl; exact rfl; exact rfl; refine bFn ?_; (with_reducible assumption); exact rfl; apply wl_val; apply opv_pickF; exact rfl; refine bF ?_; (with_reducible assumption); exact rfl; exact rfl; refine wl_nil ?_; refine we_cut _ ⟨rfl, rfl⟩ ⟨congrArg (fun b => some (Value.bool b)) ?e22_3, ?s22_3⟩; (case e22_3 => ((simp [hc0, hc1]; done))); (case s22_3 => (refine And.intro rfl ?_; refine And.intro rfl ?_; refine And.intro rfl ?_; refine And.intro rfl ?_; refine And.intro rfl ?_; refine And.intro rfl ?_; refine And.intro rfl ?_; refine And.intro rfl ?_; refine And.intro rfl ?_; refine And.intro rfl ?_; refine And.intro rfl ?_; refine And.intro rfl ?_; refine And.intro rfl ?_; refine And.intro rfl ?_; refine And.intro rfl ?_; refine And.intro rfl ?_; refine And.intro rfl ?_; refine And.intro rfl ?_; refine And.intro rfl ?_; refine And.intro rfl ?_; refine And.intro rfl ?_; exact True.intro)))))))); dsimp only [List.drop]
      refine wl_mv rfl rfl ?_
      refine wl_cutV 7 42 (.bool (decide (((i : Int) = 9 ∧ 1 < (x.toNat : Int)) ∨ ((x.toNat : Int) = 0 ∧ 0 < (i : Int))))) ?c35 ?_; (case c35 => (dsimp only [List.take]; by_cases hc0 : ((i : Int) = 9 ∧ 1 < (x.toNat : Int)); (focus (by_cases hc1 : ((x.toNat : Int) = 0); (focus (by_cases hc2 : (0 < (i : Int)); (focus (apply wl_take; exact rfl; exact rfl; exact rfl; refine bF ?_; omega; refine wl_mv rfl rfl ?_; apply wl_take; exact rfl; exact rfl; exact rfl; refine bF ?_; omega; refine wl_bin rfl rfl bin_eql rfl ?_; apply wl_take; exact rfl; exact rfl; exact rfl; refine bF ?_; omega; refine wl_mv rfl rfl ?_; apply wl_take; exact rfl; exact rfl; exact rfl; refine bT ?_; (with_reducible assumption); refine wl_mv rfl rfl ?_; apply wl_take; exact rfl; exact rfl; exact rfl; refine bT ?_; (with_reducible assumption); refine wl_bin rfl rfl bin_gtr rfl ?_; apply wl_take; exact rfl; exact rfl; exact rfl; refine bF ?_; omega; apply wl_val; apply opv_pickT; exact rfl; refine bT ?_; (with_reducible assumption); exact rfl; exact rfl; apply wl_val; apply opv_pickT; exact rfl; refine bT ?_; (with_reducible assumption); exact rfl; exact rfl; refine wl_nil ?_; refine we_cut _ ⟨rfl, rfl⟩ ⟨congrArg (fun b => some (Value.bool b)) ?e35_0, ?s35_0⟩; (case e35_0 => ((simp [hc0, hc1, hc2]; done))); (case s35_0 => (refine And.intro rfl ?_; refine And.intro rfl ?_; refine And.intro rfl ?_; refine And.intro rfl ?_; refine And.intro rfl ?_; refine And.intro rfl ?_; refine And.intro rfl ?_; refine And.intro rfl ?_; refine And.intro rfl ?_; refine And.intro rfl ?_; refine And.intro rfl ?_; refine And.intro rfl ?_; refine And.intro rfl ?_; refine And.intro rfl ?_; refine And.intro rfl ?_; refine And.intro rfl ?_; refine And.intro rfl ?_; refine And.intro rfl ?_; refine And.intro rfl ?_; refine And.intro rfl ?_; refine And.intro rfl ?_; refine And.intro rfl ?_; refine And.intro rfl ?_; exact True.intro)))); (focus (apply wl_take; exact rfl; exact rfl; exact rfl; refine bF ?_; omega; refine wl_mv rfl rfl ?_; apply wl_take; exact rfl; exact rfl; exact rfl; refine bF ?_; omega; refine wl_bin rfl rfl bin_eql rfl ?_; apply wl_take; exact rfl; exact rfl; exact rfl; refine bF ?_; omega; refine wl_mv rfl rfl ?_; apply wl_take; exact rfl; exact rfl; exact rfl; refine bT ?_; (with_reducible assumption); refine wl_mv rfl rfl ?_; apply wl_take; exact rfl; exact rfl; exact rfl; refine bT ?_; (with_reducible assumption); refine wl_bin rfl rfl bin_gtr rfl ?_; apply wl_take; exact rfl; exact rfl; exact rfl; refine bF ?_; omega; apply wl_val; apply opv_pickT; exact rfl; refine bT ?_; (with_reducible assumption); exact rfl; exact rfl; apply wl_val; apply opv_pickT; exact rfl; refine bT ?_; (with_reducible assumption); exact rfl; exact rfl; refine wl_nil ?_; refine we_cut _ ⟨rfl, rfl⟩ ⟨congrArg (fun b => some (Value.bool b)) ?e35_1, ?s35_1⟩; (case e35_1 => ((simp [hc0, hc1, hc2]; done))); (case s35_1 => (refine And.intro rfl ?_; refine And.intro rfl ?_; refine And.intro rfl ?_; refine And.intro rfl ?_; refine And.intro rfl ?_; refine And.intro rfl ?_; refine And.intro rfl ?_; refine And.intro rfl ?_; refine And.intro rfl ?_; refine And.intro rfl ?_; refine And.intro rfl ?_; refine And.intro rfl ?_; refine And.intro rfl ?_; refine And.intro rfl ?_; refine And.intro rfl ?_; refine And.intro rfl ?_; refine And.intro rfl ?_; refine And.intro rfl ?_; refine And.intro rfl ?_; refine And.intro rfl ?_; refine And.intro rfl ?_; refine And.intro rfl ?_; refine And.intro rfl ?_; exact True.intro)))))); (focus (by_cases hc2 : (0 < (i : Int)); (focus (apply wl_skip; exact rfl; exact rfl; exact rfl; refine bTn ?_; (with_reducible assumption); exact rfl; apply wl_skip; exact rfl; exact rfl; exact rfl; refine bTn ?_; (with_reducible assumption); exact rfl; apply wl_skip; exact rfl; exact rfl; exact rfl; refine bTn ?_; (with_reducible assumption); exact rfl; apply wl_skipU; exact rfl; exact rfl; exact rfl; exact rfl; apply wl_skipU; exact rfl; exact rfl; exact rfl; exact rfl; apply wl_skip; exact rfl; exact rfl; exact rfl; refine bTn ?_; (with_reducible assumption); exact rfl; apply wl_val; apply opv_pickT; exact rfl; refine bT ?_; (with_reducible assumption); exact rfl; exact rfl; refine wl_nil ?_; refine we_cut _ ⟨rfl, rfl⟩ ⟨congrArg (fun b => some (Value.bool b)) ?e35_2, ?s35_2⟩; (case e35_2 => ((simp [hc0, hc1, hc2]; done))); (case s35_2 => (refine And.intro rfl ?_; refine And.intro rfl ?_; refine And.intro rfl ?_; refine And.intro rfl ?_; refine And.intro rfl ?_; refine And.intro rfl ?_; refine And.intro rfl ?_; refine And.intro rfl ?_; refine And.intro rfl ?_; refine And.intro rfl ?_; refine And.intro rfl ?_; refine And.intro rfl ?_; refine And.intro rfl ?_; refine And.intro rfl ?_; refine And.intro rfl ?_; refine And.intro rfl ?_; refine And.intro rfl ?_; refine And.intro rfl ?_; refine And.intro rfl ?_; refine And.intro rfl ?_; refine And.intro rfl ?_; refine And.intro rfl ?_; refine And.intro rfl ?_; exact True.intro)))); (focus (apply wl_take; exact rfl; exact rfl; exact rfl; refine bF ?_; omega; refine wl_mv rfl rfl ?_; apply wl_take; exact rfl; exact rfl; exact rfl; refine bF ?_; omega; refine wl_bin rfl rfl bin_eql rfl ?_; apply wl_take; exact rfl; exact rfl; exact rfl; refine bF ?_; omega; refine wl_mv rfl rfl ?_; apply wl_take; exact rfl; exact rfl; exact rfl; refine bT ?_; omega; refine wl_mv rfl rfl ?_; apply wl_take; exact rfl; exact rfl; exact rfl; refine bT ?_; omega; refine wl_bin rfl rfl bin_gtr rfl ?_; apply wl_take; exact rfl; exact rfl; exact rfl; refine bF ?_; omega; apply wl_val; apply opv_pickT; exact rfl; refine bT ?_; omega; exact rfl; exact rfl; apply wl_val; apply opv_pickT; exact rfl; refine bT ?_; (with_reducible assumption); exact rfl; exact rfl; refine wl_nil ?_; refine we_cut _ ⟨rfl, rfl⟩ ⟨congrArg (fun b => some (Value.bool b)) ?e35_3, ?s35_3⟩; (case e35_3 => ((simp [hc0, hc1, hc2]; done))); (case s35_3 => (refine And.intro rfl ?_; refine And.intro rfl ?_; refine And.intro rfl ?_; refine And.intro rfl ?_; refine And.intro rfl ?_; refine And.intro rfl ?_; refine And.intro rfl ?_; refine And.intro rfl ?_; refine And.intro rfl ?_; refine And.intro rfl ?_; refine And.intro rfl ?_; refine And.intro rfl ?_; refine And.intro rfl ?_; refine And.intro rfl ?_; refine And.intro rfl ?_; refine And.intro rfl ?_; refine And.intro rfl ?_; refine And.intro rfl ?_; refine And.intro rfl ?_; refine And.intro rfl ?_; refine And.intro rfl ?_; refine And.intro rfl ?_; refine And.intro rfl ?_; exact True.intro)))))))); (focus (by_cases hc1 : ((x.toNat : Int) = 0); (focus (by_cases hc2 : (0 < (i : Int)); (focus (apply wl_take; exact rfl; exact rfl; exact rfl; refine bF ?_; (with_reducible assumption); refine wl_mv rfl rfl ?_; apply wl_take; exact rfl; exact rfl; exact rfl; refine bF ?_; (with_reducible assumption); refine wl_bin rfl rfl bin_eql rfl ?_; apply wl_take; exact rfl; exact rfl; exact rfl; refine bF ?_; (with_reducible assumption); refine wl_mv rfl rfl ?_; apply wl_take; exact rfl; exact rfl; exact rfl; refine bT ?_; (with_reducible assumption); refine wl_mv rfl rfl ?_; apply wl_take; exact rfl; exact rfl; exact rfl; refine bT ?_; (with_reducible assumption); refine wl_bin rfl rfl bin_gtr rfl ?_; apply wl_take; exact rfl; exact rfl; exact rfl; refine bF ?_; (with_reducible assumption); apply wl_val; apply opv_pickT; exact rfl; refine bT ?_; (with_reducible assumption); exact rfl; exact rfl; apply wl_val; apply opv_pickF; exact rfl; refine bF ?_; (with_reducible assumption); exact rfl; exact rfl; refine wl_nil ?_; refine we_cut _ ⟨rfl, rfl⟩ ⟨congrArg (fun b => some (Value.bool b)) ?e35_4, ?s35_4⟩; (case e35_4 => ((simp [hc0, hc1, hc2]; done))); (case s35_4 => (refine And.intro rfl ?_; refine And.intro rfl ?_; refine And.intro rfl ?_; refine And.intro rfl ?_; refine And.intro rfl ?_; refine And.intro rfl ?_; refine And.intro rfl ?_; refine And.intro rfl ?_; refine And.intro rfl ?_; refine And.intro rfl ?_; refine And.intro rfl ?_; refine And.intro rfl ?_; refine And.intro rfl ?_; refine And.intro rfl ?_; refine And.intro rfl ?_; refine And.intro rfl ?_; refine And.intro rfl ?_; refine And.intro rfl ?_; refine And.intro rfl ?_; refine And.intro rfl ?_; refine And.intro rfl ?_; refine And.intro rfl ?_; refine And.intro rfl ?_; exact True.intro)))); (focus (apply wl_take; exact rfl; exact rfl; exact rfl; refine bF ?_; (with_reducible assumption); refine wl_mv rfl rfl ?_; apply wl_take; exact rfl; exact rfl; exact rfl; refine bF ?_; (with_reducible assumption); refine wl_bin rfl rfl bin_eql rfl ?_; apply wl_take; exact rfl; exact rfl; exact rfl; refine bF ?_; (with_reducible assumption); refine wl_mv rfl rfl ?_; apply wl_take; exact rfl; exact rfl; exact rfl; refine bT ?_; (with_reducible assumption); refine wl_mv rfl rfl ?_; apply wl_take; exact rfl; exact rfl; exact rfl; refine bT ?_; (with_reducible assumption); refine wl_bin rfl rfl bin_gtr rfl ?_; apply wl_take; exact rfl; exact rfl; exact rfl; refine bF ?_; (with_reducible assumption); apply wl_val; apply opv_pickT; exact rfl; refine bT ?_; (with_reducible assumption); exact rfl; exact rfl; apply wl_val; apply opv_pickF; exact rfl; refine bF ?_; (with_reducible assumption); exact rfl; exact rfl; refine wl_nil ?_; refine we_cut _ ⟨rfl, rfl⟩ ⟨congrArg (fun b => some (Value.bool b)) ?e35_5, ?s35_5⟩; (case e35_5 => ((simp [hc0, hc1, hc2]; done))); (case s35_5 => (refine And.intro rfl ?_; refine And.intro rfl ?_; refine And.intro rfl ?_; refine And.intro rfl ?_; refine And.intro rfl ?_; refine And.intro rfl ?_; refine And.intro rfl ?_; refine And.intro rfl ?_; refine And.intro rfl ?_; refine And.intro rfl ?_; refine And.intro rfl ?_; refine And.intro rfl ?_; refine And.intro rfl ?_; refine And.intro rfl ?_; refine And.intro rfl ?_; refine And.intro rfl ?_; refine And.intro rfl ?_; refine And.intro rfl ?_; refine And.intro rfl ?_; refine And.intro rfl ?_; refine And.intro rfl ?_; refine And.intro rfl ?_; refine And.intro rfl ?_; exact True.intro)))))); (focus (by_cases hc2 : (0 < (i : Int)); (focus (apply wl_take; exact rfl; exact rfl; exact rfl; refine bF ?_; (with_reducible assumption); refine wl_mv rfl rfl ?_; apply wl_take; exact rfl; exact rfl; exact rfl; refine bF ?_; (with_reducible assumption); refine wl_bin rfl rfl bin_eql rfl ?_; apply wl_take; exact rfl; exact rfl; exact rfl; refine bF ?_; (with_reducible assumption); refine wl_mv rfl rfl ?_; apply wl_skip; exact rfl; exact rfl; exact rfl; refine bFn ?_; (with_reducible assumption); exact rfl; apply wl_skip; exact rfl; exact rfl; exact rfl; refine bFn ?_; (with_reducible assumption); exact rfl; apply wl_take; exact rfl; exact rfl; exact rfl; refine bF ?_; (with_reducible assumption); apply wl_val; apply opv_pickF; exact rfl; refine bF ?_; (with_reducible assumption); exact rfl; exact rfl; apply wl_val; apply opv_pickF; exact rfl; refine bF ?_; (with_reducible assumption); exact rfl; exact rfl; refine wl_nil ?_; refine we_cut _ ⟨rfl, rfl⟩ ⟨congrArg (fun b => some (Value.bool b)) ?e35_6, ?s35_6⟩; (case e35_6 => ((rw [Bool.eq_iff_iff]; simp only [decide_eq_true_eq, Bool.false_eq_true, true_iff, false_iff]; omega))); (case s35_6 => (refine And.intro rfl ?_; refine And.intro rfl ?_; refine And.intro rfl ?_; refine And.intro rfl ?_; refine And.intro rfl ?_; refine And.intro rfl ?_; refine And.intro rfl ?_; refine And.intro rfl ?_; refine And.intro rfl ?_; refine And.intro rfl ?_; refine And.intro rfl ?_; refine And.intro rfl ?_; refine And.intro rfl ?_; refine And.intro rfl ?_; refine And.intro rfl ?_; refine And.intro rfl ?_; refine And.intro rfl ?_; refine And.intro rfl ?_; refine And.intro rfl ?_; refine And.intro rfl ?_; refine And.intro rfl ?_; refine And.intro rfl ?_; refine And.intro rfl ?_; exact True.intro)))); (focus (apply wl_take; exact rfl; exact rfl; exact rfl; refine bF ?_; (with_reducible assumption); refine wl_mv rfl rfl ?_; apply wl_take; exact rfl; exact rfl; exact rfl; refine bF ?_; (with_reducible assumption); refine wl_bin rfl rfl bin_eql rfl ?_; apply wl_take; exact rfl; exact rfl; exact rfl; refine bF ?_; (with_reducible assumption); refine wl_mv rfl rfl ?_; apply wl_skip; exact rfl; exact rfl; exact rfl; refine bFn ?_; (with_reducible assumption); exact rfl; apply wl_skip; exact rfl; exact rfl; exact rfl; refine bFn ?_; (with_reducible assumption); exact rfl; apply wl_take; exact rfl; exact rfl; exact rfl; refine bF ?_; (with_reducible assumption); apply wl_val; apply opv_pickF; exact rfl; refine bF ?_; (with_reducible assumption); exact rfl; exact rfl; apply wl_val; apply opv_pickF; exact rfl; refine bF ?_; (with_reducible assumption); exact rfl; exact rfl; refine wl_nil ?_; refine we_cut _ ⟨rfl, rfl⟩ ⟨congrArg (fun b => some (Value.bool b)) ?e35_7, ?s35_7⟩; (case e35_7 => ((rw [Bool.eq_iff_iff]; simp only [decide_eq_true_eq, Bool.false_eq_true, true_iff, false_iff]; omega))); (case s35_7 => (refine And.intro rfl ?_; refine And.intro rfl ?_; refine And.intro rfl ?_; refine And.intro rfl ?_; refine And.intro rfl ?_; refine And.intro rfl ?_; refine And.intro rfl ?_; refine And.intro rfl ?_; refine And.intro rfl ?_; refine And.intro rfl ?_; refine And.intro rfl ?_; refine And.intro rfl ?_; refine And.intro rfl ?_; refine And.intro rfl ?_; refine And.intro rfl ?_; refine And.intro rfl ?_; refine And.intro rfl ?_; refine And.intro rfl ?_; refine And.intro rfl ?_; refine And.intro rfl ?_; refine And.intro rfl ?_; refine And.intro rfl ?_; refine And.intro rfl ?_; exact True.intro)))))))))); dsimp only [List.drop]
      refine wl_ns ?_
      refine wc_cond rfl (fun h2 => ?_) (fun h2 => ?_)
      · refine wc_sr ?_; refine wl_as rfl rfl ?_; refine wl_as rfl rfl ?_; refine wl_as rfl rfl ?_; refine wl_ns ?_; refine wc_ret ?_; refine we_seq_ret ?_; refine we_block_ret ?_; refine we_seq_ret ?_; refine we_loop_ret ?_; refine we_block_ret ?_; refine we_seq_ret ?_
        have e := getU_bad hq (heq.trans (by rw [hdrop]; exact getAux_form (by omega)))
        exact we_ret3 rfl rfl rfl rfl ⟨_, rfl, by rw [e]; rfl, Below.refl _ _⟩
      · have h3 : ¬ ((i = 9 ∧ 1 < x.toNat) ∨ (x.toNat = 0 ∧ 0 < i)) := by omega
        refine wc_skip ?_; refine we_seq ?_; refine wc_sr ?_; refine wl_mv rfl rfl ?_; refine wl_mv rfl rfl ?_
        refine wl_val (opv_bin (b := .int .u64 (128 : Nat)) rfl rfl (bin_andNot rfl (Nat.lt_trans hx256 (by decide)) (by decide))) rfl ?_
        refine wl_mv rfl rfl ?_
        refine wl_val (opv_bin (a := .int .i64 (7 : Nat)) rfl rfl (bin_mulN (by omega))) rfl ?_
        skip
        refine wl_val (opv_bin rfl rfl (bin_shl rfl)) rfl ?_
        have e9 : (128 : Nat) ^ i ≤ 128 ^ 9 := Nat.pow_le_pow_right (by decide) hi
        have hsum := sum_lt hn hi (x := x.toNat) (by omega)
        have hn64 : n < 2 ^ IntKind.u64.bits := by rw [pow128_9] at e9; simp only [IntKind.bits]; omega
        have hor : (n ||| (x.toNat &&& 2 ^ IntKind.u64.bits - 1 - 128) * 2 ^ (7 * i) % 2 ^ IntKind.u64.bits) = n + x.toNat % 128 * 128 ^ i := by
          rw [show 2 ^ IntKind.u64.bits - 1 - 128 = 18446744073709551615 - 128 from rfl, andNot128]
          have e : (128 : Nat) ^ i = 2 ^ (7 * i) := by rw [Nat.pow_mul]
          rw [← e, Nat.mod_eq_of_lt (by simp only [IntKind.bits]; omega), e, or_shift hn, e]
        refine wl_val (opv_bin rfl rfl ((bin_or rfl hn64 (Nat.mod_lt _ (by decide))).to (by rw [hor]))) rfl ?_
        refine wl_as rfl rfl ?_; refine wl_ns ?_; refine wc_sr ?_; refine wl_mv rfl rfl ?_; refine wl_bin rfl rfl bin_lss rfl ?_; refine wl_ns ?_
        refine wc_cond rfl (fun h4 => ?_) (fun h4 => ?_)
        · refine wc_sr ?_; refine wl_mv rfl rfl ?_; refine wl_mv rfl rfl ?_; refine wl_mv rfl rfl ?_; apply wl_val; apply opv_bin; exact rfl; exact rfl; exact bin_add64 (by omega); exact rfl; apply wl_val; apply opv_bin; exact rfl; exact rfl; exact bin_add64 (by omega); exact rfl; refine wl_as rfl rfl ?_; refine wl_as rfl rfl ?_; refine wl_as rfl rfl ?_; refine wl_ns ?_; refine wc_ret ?_; refine we_block_ret ?_; refine we_seq_ret ?_; refine we_loop_ret ?_; refine we_block_ret ?_; refine we_seq_ret ?_
          have e := getU_ok hq (heq.trans (by rw [hdrop]; exact getAux_last h3 (by omega)))
          refine we_ret3 rfl rfl rfl rfl ⟨_, rfl, ?_, Below.refl _ _⟩
          rw [e]
          have : ((q : Int) + ↑(i + 1)) = q + i + 1 := by omega
          rw [this]; rfl
        · have hi9 : i ≤ 8 := by omega
          refine wc_skip ?_; refine we_block_norm ?_; refine we_seq ?_; refine wc_region ?_; refine wl_mv rfl rfl ?_; apply wl_val; apply opv_bin; exact rfl; exact rfl; exact bin_add64 (by omega); exact rfl; refine wl_as rfl rfl ?_; refine wl_nil ?_
          refine we_loop [(0, .slice A xs.length c), (1, .int .i64 (q : Int)), (7, .int .u64 ((n + x.toNat % 128 * 128 ^ i : Nat) : Int)), (8, .int .i64 ((i + 1 : Nat) : Int))] (xs.length - (i + 1)) ⟨i + 1, _, rfl, by omega, by omega, group_lt hn (Nat.mod_lt _ (by decide)), ?_, rfl, rfl⟩ (by omega) ⟨rfl, rfl, rfl, rfl, trivial⟩
          rw [heq, hdrop, getAux_step h3 (by omega)]; rfl
    · refine wc_exit ?_; refine we_seq_exit ?_; refine we_loop_exit ?_; refine we_block_exit ?_; refine we_seq ?_; refine wc_sr ?_; refine wl_as rfl rfl ?_; refine wl_as rfl rfl ?_; refine wl_as rfl rfl ?_; refine wl_ns ?_; refine wc_ret ?_
      have hqe : q + i = xs.length := by omega
      have e := getU_bad hq (heq.trans (by rw [hqe, List.drop_length]; rfl))
      exact we_ret3 rfl rfl rfl rfl ⟨_, rfl, by rw [e]; rfl, Below.refl _ _⟩

theorem getU_at {A : Option Addr} {n c : Nat} {xs : List UInt8} {p : Int} {w : World} {v e : Nat} {x : Int} (h : getU xs p = (v, x, e)) (hr : RdB w A xs) (hn : xs.length = n) (hl : xs.length ≤ maxLen) (hp : -9223372036854775808 ≤ p ∧ p ≤ 9223372036854775807) :
    CallsV Tryd.prog 78 #[.slice A n c, .int .i64 p] w fun u w' => u = .tuple #[.int .u64 (v : Int), .int .i64 x, .int .i64 (e : Int)] ∧ Below w.heap.size w w' := by
  have := getU_any (c := c) hr hn hl hp
  rw [h] at this
  exact this
end Go.Proofs.YtpnckagibkdcpaaDoor


/-
  Walks over OrdText of the program and of the reference.
-/
namespace Go.Proofs.YtpnckagibkdcpaaDoor
open Go.RowKit

end Go.Proofs.YtpnckagibkdcpaaDoor


/-
  Walks over the fixed fact of layer 1's statements, and over the law CodecNumbers.
-/
namespace Go.Proofs.YtpnckagibkdcpaaDoor
open Go.RowKit

/-- A call that answers true and changes nothing that was there. -/
def RetTrue (w : World) (v : Value) (w' : World) : Prop := v = .bool true ∧ Below w.heap.size w w'

theorem putU_300 : putU 300 = [172, 2] := by simp [putU]
end Go.Proofs.YtpnckagibkdcpaaDoor


/-
  Walks over the sum of the program and of the reference, and over what the statements use.
-/
namespace Go.Proofs.YtpnckagibkdcpaaDoor
open Go.RowKit

theorem xor_ones {n x : Nat} (hx : x < 2 ^ n) : (2 ^ n - 1) ^^^ x = 2 ^ n - 1 - x := by
  apply Nat.eq_of_testBit_eq
  intro i
  rw [Nat.testBit_xor, Nat.testBit_two_pow_sub_one, show 2 ^ n - 1 - x = 2 ^ n - (x + 1) by omega, Nat.testBit_two_pow_sub_succ hx]
  by_cases h : i < n
  · simp [h]
  · have : x.testBit i = false := Nat.testBit_lt_two_pow (Nat.lt_of_lt_of_le hx (Nat.pow_le_pow_right (by decide) (by omega)))
    simp [h, this]
theorem opv_com {P : Program} {L : FL} {w : World} {x : Operand} {t ty : TypeId} {n : Nat} (hx : look L x = some (.int .u32 (n : Int))) (hn : n < 4294967296) : OpV P (.unOp .xor t x) ty L w (.int .u32 ((4294967295 - n : Nat) : Int)) w := fun ρ o hρ ho _ => by
  have h := (bin_xor (P := P) (t := t) (k := .u32) (a := 4294967295) (b := n) rfl (by decide) hn).run x x w
  have e := xor_ones (n := 32) hn
  simp only [eqGuard, binOp] at h
  rw [show (4294967295 ^^^ n) = 4294967295 - n from e] at h
  have hm : (if IntKind.u32.signed = true then (-1 : Int) else IntKind.u32.max) = (4294967295 : Int) := rfl
  unfold execOp
  simp only [ho, hρ x _ hx, Op.unary, hm, Sem.run_bind]
  simp at h
  rw [h]; simp

theorem sum_any {A : Option Addr} {n c : Nat} {rows : List (List UInt8)} {w : World} (hr : RdBB w A rows) (hn : rows.length = n) (hl : rows.flatten.length ≤ maxLen) (hl2 : rows.length ≤ maxLen) :
    CallsV Tryd.prog 66 #[.slice A n c] w fun v w' => v = .int .u32 (crcOf rows.flatten : Nat) ∧ Below w.heap.size w w' := by
  subst hn
  simp only [maxLen] at hl hl2
  refine calls_in (N := _) Tryd.func66 rfl Tryd.ntmps66 rfl ?_; show WC _ _ _ _ _ _
  refine wc_sr ?_; refine wl_as rfl rfl ?_; refine wl_ns ?_; refine wc_sr ?_
  refine wl_call ok_crc_Table (table_any w) trivial rfl ?_
  rintro _ w1 ⟨rfl, hb1⟩
  refine wl_alloc tyA_zero rfl fun w2 a2 hb2 hs2 => ?_
  obtain ⟨g, hg⟩ : ∃ g, w1.heap.size = g := ⟨_, rfl⟩
  have hge : w.heap.size ≤ g := by have := hb1.size; omega
  have hb12 := hb1.trans (hb2.mono hb1.size)
  rw [hg] at a2 ⊢
  replace a2 : Ar w2 g 112 (List.replicate 256 (Value.int .u32 0)) := a2
  refine wl_unitN (opu_storeW (by rw [List.length_replicate]; exact tyA_size) (by rw [tabC_length, List.length_replicate]) rfl rfl a2 tabC_one) ?_
  have a3 := a2.setRow (cs' := tabC)
  have hb3 := below_setRow (cs' := tabC.toArray) hb12 hge
  obtain ⟨w3, hw3⟩ : ∃ w3, w2.setRow g tabC.toArray = w3 := ⟨_, rfl⟩
  rw [hw3] at a3 hb3 ⊢
  have S3 := RdBB.below hr hb3
  clear hb1 hb2 a2 hs2
  refine wl_ns ?_; refine wc_sr ?_; refine wl_as rfl rfl ?_; refine wl_ns ?_; refine wc_seq ?_; refine wc_sr ?_; refine wl_mv rfl rfl ?_; apply wl_val; apply opv_len; exact rfl; exact tyBB.sl; exact rfl; refine wl_mv rfl rfl ?_; refine wl_ns ?_; refine wc_block ?_
  refine wc_loop (fun L wr m => ∃ k : Nat, L = [(3, .pointer (some ⟨g, 0, none⟩)), (4, .int .u32 (crcRaw 4294967295 (rows.take k).flatten : Nat)), (10, .slice A rows.length c), (11, .int .i64 (rows.length : Int)), (12, .int .i64 (k : Int))] ∧ k ≤ rows.length ∧ w3 = wr ∧ m = rows.length - k)
    [(3, .pointer (some ⟨g, 0, none⟩)), (4, .int .u32 (4294967295 : Nat)), (10, .slice A rows.length c), (11, .int .i64 (rows.length : Int)), (12, .int .i64 (0 : Nat))] rows.length ⟨0, rfl, by omega, rfl, rfl⟩ ⟨rfl, rfl, rfl, rfl, rfl, trivial⟩ ?_
  rintro _ _ m ⟨k, rfl, hk, rfl, rfl⟩
  have hlt := raw_lt (rows.take k).flatten (x := 4294967295) (by decide)
  refine wc_sr ?_; refine wl_bin rfl rfl bin_lss rfl ?_; refine wl_ns ?_; refine wc_seq ?_
  refine wc_cond rfl (fun h1 => ?_) (fun h1 => ?_)
  · obtain ⟨r, hx⟩ : ∃ x, rows[k]? = some x := ⟨_, List.getElem?_eq_getElem (by omega)⟩
    obtain ⟨vs, X, cx, hv, hvk, rx, hcx⟩ := S3.at hx
    have hxm : r.length ≤ rows.flatten.length := flat_mem hx
    refine wc_skip ?_; refine we_seq ?_; refine wc_seq ?_; refine wc_block ?_; refine wc_sr ?_; apply wl_elK (T := tyBB) (hr := hv) (hb := hvk); exact rfl; exact rfl; exact rfl; exact rfl; exact rfl; intro _; refine wl_as rfl rfl ?_; refine wl_ns ?_; refine wc_sr ?_; refine wl_mv rfl rfl ?_; apply wl_val; apply opv_len; exact rfl; exact tyB.sl; exact rfl; refine wl_mv rfl rfl ?_; refine wl_ns ?_; refine wc_block ?_
    refine wc_loop (fun L wr m => ∃ j : Nat, L = [(3, .pointer (some ⟨g, 0, none⟩)), (4, .int .u32 (crcRaw 4294967295 ((rows.take k).flatten ++ r.take j) : Nat)), (10, .slice A rows.length c), (11, .int .i64 (rows.length : Int)), (12, .int .i64 (k : Int)), (16, .slice X r.length cx), (17, .int .i64 (r.length : Int)), (18, .int .i64 (j : Int))] ∧ j ≤ r.length ∧ w3 = wr ∧ m = r.length - j)
      [(3, .pointer (some ⟨g, 0, none⟩)), (4, .int .u32 (crcRaw 4294967295 (rows.take k).flatten : Nat)), (10, .slice A rows.length c), (11, .int .i64 (rows.length : Int)), (12, .int .i64 (k : Int)), (16, .slice X r.length cx), (17, .int .i64 (r.length : Int)), (18, .int .i64 (0 : Nat))] r.length ⟨0, by simp, by omega, rfl, rfl⟩ ⟨rfl, rfl, rfl, rfl, rfl, rfl, rfl, rfl, trivial⟩ ?_
    rintro _ _ m ⟨j, rfl, hj, rfl, rfl⟩
    have hlt2 := raw_lt ((rows.take k).flatten ++ r.take j) (x := 4294967295) (by decide)
    refine wc_sr ?_; refine wl_bin rfl rfl bin_lss rfl ?_; refine wl_ns ?_; refine wc_seq ?_
    refine wc_cond rfl (fun h2 => ?_) (fun h2 => ?_)
    · obtain ⟨b, hbx⟩ : ∃ x, r[j]? = some x := ⟨_, List.getElem?_eq_getElem (by omega)⟩
      have hbl := b.toNat_lt
      obtain ⟨y, hy⟩ : ∃ y, crcRaw 4294967295 ((rows.take k).flatten ++ r.take j) = y := ⟨_, rfl⟩
      have hsn : crcRaw 4294967295 ((rows.take k).flatten ++ r.take (j + 1)) = y / 256 ^^^ eightC (y % 256 ^^^ b.toNat) := by
        rw [← eight_split, ← hy, List.take_add_one, hbx, ← List.append_assoc, Option.toList_some, raw_snoc]
      rw [hy] at hlt2 ⊢
      have hix : y % 256 ^^^ b.toNat < 256 := Nat.xor_lt_two_pow (n := 8) (Nat.mod_lt _ (by decide)) hbl
      have hel := eight_lt (x := y % 256 ^^^ b.toNat) (by omega)
      refine wc_skip ?_; refine we_seq ?_; refine wc_seq ?_; refine wc_block ?_; refine wc_sr ?_; apply wl_byK (T := tyB) (hr := rx) (hb := hbx); exact rfl; exact rfl; exact rfl; exact rfl; exact rfl; intro _; refine wl_as rfl rfl ?_; refine wl_ns ?_; refine wc_region ?_; refine wl_mv rfl rfl ?_
      refine wl_val (opv_bin (b := .int .u64 (8 : Nat)) rfl rfl (bin_shr hlt2)) rfl ?_
      refine wl_mv rfl rfl ?_; apply wl_val; apply opv_convR; exact rfl; exact Tryd.underlying103; exact Tryd.underlying5; exact wrap_nat rfl _; exact rfl; refine wl_mv rfl rfl ?_
      refine wl_val (opv_bin rfl rfl (bin_xor rfl (Nat.mod_lt _ (by decide)) hbl)) rfl ?_
      refine wl_elA (kk := y % 256 ^^^ b.toNat) Tryd.underlying112 tyU rfl rfl a3 tabC_length rfl (tabC_get hix) rfl rfl fun p => ?_
      refine wl_val (opv_bin rfl rfl (bin_xor rfl (by simp only [IntKind.bits]; omega) hel)) rfl ?_
      refine wl_as rfl rfl ?_; refine wl_nil ?_; refine we_block_norm ?_; refine we_seq ?_; refine wc_region ?_; apply wl_val; apply opv_bin; exact rfl; exact rfl; exact bin_add64 (by omega); exact rfl; refine wl_mv rfl rfl ?_; refine wl_nil ?_
      refine we_loop [(3, .pointer (some ⟨g, 0, none⟩)), (4, .int .u32 (crcRaw 4294967295 ((rows.take k).flatten ++ r.take (j + 1)) : Nat)), (10, .slice A rows.length c), (11, .int .i64 (rows.length : Int)), (12, .int .i64 (k : Int)), (16, .slice X r.length cx), (17, .int .i64 (r.length : Int)), (18, .int .i64 ((j + 1 : Nat) : Int))] (r.length - (j + 1)) ⟨j + 1, rfl, by omega, rfl, rfl⟩ (by omega) ⟨rfl, by rw [hsn]; rfl, rfl, rfl, rfl, rfl, rfl, by simp [lookT], trivial⟩
    · obtain rfl : j = r.length := by omega
      rw [List.take_length]
      refine wc_exit ?_; refine we_seq_exit ?_; refine we_loop_exit ?_; refine we_block_exit ?_; refine we_block_norm ?_; refine we_seq ?_; refine wc_region ?_; apply wl_val; apply opv_bin; exact rfl; exact rfl; exact bin_add64 (by omega); exact rfl; refine wl_mv rfl rfl ?_; refine wl_nil ?_
      refine we_loop [(3, .pointer (some ⟨g, 0, none⟩)), (4, .int .u32 (crcRaw 4294967295 (rows.take (k + 1)).flatten : Nat)), (10, .slice A rows.length c), (11, .int .i64 (rows.length : Int)), (12, .int .i64 ((k + 1 : Nat) : Int))] (rows.length - (k + 1)) ⟨k + 1, rfl, by omega, rfl, rfl⟩ (by omega) ⟨rfl, ?_, rfl, rfl, by simp [lookT], trivial⟩
      rw [show (rows.take (k + 1)).flatten = (rows.take k).flatten ++ r by rw [List.take_add_one, hx]; simp]; rfl
  · obtain rfl : k = rows.length := by omega
    rw [List.take_length] at hlt ⊢
    refine wc_exit ?_; refine we_seq_exit ?_; refine we_loop_exit ?_; refine we_block_exit ?_; refine we_seq ?_; refine wc_sr ?_; refine wl_mv rfl rfl ?_
    refine wl_val (opv_com rfl hlt) rfl ?_
    refine wl_as rfl rfl ?_; refine wl_ns ?_; refine wc_ret ?_
    exact we_ret1 rfl rfl ⟨_, rfl, rfl, hb3⟩

end Go.Proofs.YtpnckagibkdcpaaDoor


/-
  The fixed fact of layer 3's statements, and the walk over the law CrcSums.
-/
namespace Go.Proofs.YtpnckagibkdcpaaDoor
open Go.RowKit

theorem RdBB.one {w : World} {A A1 : Option Addr} {c1 : Nat} {r : List UInt8} (h : Rd w A 1 [.slice A1 r.length c1]) (h1 : RdB w A1 r) (hc : r.length ≤ c1) : RdBB w A [r] :=
  ⟨_, h, fun i q hi => by
    cases i with
    | zero => simp only [List.getElem?_cons_zero, Option.some.injEq] at hi; subst hi; exact ⟨A1, c1, rfl, h1, hc⟩
    | succ i => simp at hi⟩
theorem RdBB.two {w : World} {A A1 A2 : Option Addr} {c1 c2 : Nat} {r s : List UInt8} (h : Rd w A 2 [.slice A1 r.length c1, .slice A2 s.length c2]) (h1 : RdB w A1 r) (hc : r.length ≤ c1) (h2 : RdB w A2 s) (hc2 : s.length ≤ c2) : RdBB w A [r, s] :=
  ⟨_, h, fun i q hi => by
    cases i with
    | zero => simp only [List.getElem?_cons_zero, Option.some.injEq] at hi; subst hi; exact ⟨A1, c1, rfl, h1, hc⟩
    | succ i => cases i with
      | zero => simp only [List.getElem?_cons_succ, List.getElem?_cons_zero, Option.some.injEq] at hi; subst hi; exact ⟨A2, c2, rfl, h2, hc2⟩
      | succ i => simp at hi⟩
theorem RdBB.three {w : World} {A A1 A2 A3 : Option Addr} {c1 c2 c3 : Nat} {r s t : List UInt8} (h : Rd w A 3 [.slice A1 r.length c1, .slice A2 s.length c2, .slice A3 t.length c3]) (h1 : RdB w A1 r) (hc : r.length ≤ c1) (h2 : RdB w A2 s) (hc2 : s.length ≤ c2) (h3 : RdB w A3 t) (hc3 : t.length ≤ c3) : RdBB w A [r, s, t] :=
  ⟨_, h, fun i q hi => by
    cases i with
    | zero => simp only [List.getElem?_cons_zero, Option.some.injEq] at hi; subst hi; exact ⟨A1, c1, rfl, h1, hc⟩
    | succ i => cases i with
      | zero => simp only [List.getElem?_cons_succ, List.getElem?_cons_zero, Option.some.injEq] at hi; subst hi; exact ⟨A2, c2, rfl, h2, hc2⟩
      | succ i => cases i with
        | zero => simp only [List.getElem?_cons_succ, List.getElem?_cons_zero, Option.some.injEq] at hi; subst hi; exact ⟨A3, c3, rfl, h3, hc3⟩
        | succ i => simp at hi⟩
theorem cell_freeze (w : World) (a : Addr) (n : Nat) (x : Addr) : (w.freeze a n).cell? x = w.cell? x := by
  unfold World.freeze
  split
  · rfl
  · simp only [World.cell?, Array.getElem?_modify]
    by_cases h : a.block = x.block
    · rw [if_pos h]
      cases w.heap[x.block]? with
      | none => rfl
      | some o => cases o <;> rfl
    · rw [if_neg h]
theorem below_freeze {B : Nat} (w : World) (a : Addr) (n : Nat) (h : B ≤ a.block) : Below B w (w.freeze a n) := by
  unfold World.freeze
  split
  · exact Below.refl _ _
  · refine ⟨rfl, rfl, rfl, by simp, fun j hj => ?_⟩
    simp only [Array.getElem?_modify]
    rw [if_neg (by omega)]
/-- The bytes of a constant string as a slice: its block is marked. -/
theorem wl_frz {P : Program} {N : Nat} {ops : Array Oper} {Q : Exit → Act → World → Prop} {rest : List Oper} {L : FL} {w : World} {d : Nat} {x : Operand} {t e ty : TypeId} {pos : String} {aft : Array Edge} {A : Option Addr} {n c : Nat} {xs : List Value}
    (hx : look L x = some (.slice A n c)) (ht : P.underlying t = some (.slice e)) (he : P.underlying e = some (.int .u8)) (hr : Rd w A n xs) (hn : 0 < n) (hd : Nat.blt d N = true)
    (h : ∀ w', Rd w' A n xs → (∀ B a, A = some a → B ≤ a.block → Below B w w') → w'.heap.size = w.heap.size → WL P N ops Q rest ((d, .slice A n c) :: L) w') :
    WL P N ops Q (⟨some d, .convert t t x, ty, pos, aft, none⟩ :: rest) L w := by
  obtain ⟨b, o, rfl, hb, hc⟩ := hr.2 hn
  have hlen : 0 < xs.length := by rw [hr.1]; exact hn
  have h0 := hc 0 xs[0] (List.getElem?_eq_getElem hlen)
  obtain ⟨k, hk⟩ : ∃ k, w.shape? b = some k := by
    unfold World.cell? at h0
    unfold World.shape?
    simp only at h0
    cases hh : w.heap[b]? with
    | none => rw [hh] at h0; cases h0
    | some ob => cases ob <;> first | exact ⟨_, rfl⟩ | (rw [hh] at h0; cases h0)
  refine wl_val (v := .slice (some ⟨b, o, none⟩) n c) (w' := w.freeze ⟨b, k.2, none⟩ 1) (fun ρ op hρ ho _ => ?_) hd (h _ ⟨hr.1, fun _ => ⟨b, o, rfl, ?_, fun j u hu => by rw [cell_freeze]; exact hc j u hu⟩⟩ (fun B a ha hB => ?_) ?_)
  · unfold execOp
    simp only [ho, hρ x _ hx, convert, Sem.run_bind, run_underlying ht, Result.andThen_ok]
    simp [run_underlying he, markStringish, hk]
  · unfold World.freeze; simp; exact hb
  · cases ha; exact below_freeze _ _ _ hB
  · unfold World.freeze; simp
theorem crc_fact : crcOf [49, 50, 51, 52, 53, 54, 55, 56, 57] = 3421780262 := by decide +kernel
end Go.Proofs.YtpnckagibkdcpaaDoor


/-
  Walks over Frame and Parts of the program and of the references.
-/
namespace Go.Proofs.YtpnckagibkdcpaaDoor
open Go.RowKit

end Go.Proofs.YtpnckagibkdcpaaDoor


/-
  Walks over Parts of the program and of the reference.
-/
namespace Go.Proofs.YtpnckagibkdcpaaDoor
open Go.RowKit

theorem rd_cut {w : World} {A : Option Addr} {xs : List UInt8} {c l h : Nat} (hr : RdB w A xs) (h1 : l ≤ h) (hh : h ≤ xs.length) (hc : xs.length ≤ c) : RdB w (cutA A c l) ((xs.take h).drop l) := by
  have := Rd.cut (l := l) (h := h) hr h1 hh hc
  rw [bvs_cut] at this
  have e : ((xs.take h).drop l).length = h - l := by simp; omega
  unfold RdB; rw [e]; exact this
def RetP (w : World) (x : List (List UInt8) × Nat) (v : Value) (w' : World) : Prop :=
  ∃ (A : Option Addr) (c : Nat), v = .tuple #[.slice A x.1.length c, .int .i64 (x.2 : Int)] ∧ OwBB w' w.heap.size A c x.1 ∧ Below w.heap.size w w'

end Go.Proofs.YtpnckagibkdcpaaDoor


/-
  Walks over the numbers of eight bytes of the program and of the references.
-/
namespace Go.Proofs.YtpnckagibkdcpaaDoor
open Go.RowKit

theorem fill_up {α : Type} {l : List α} {z x : α} {k m : Nat} (h : l[k]? = some x) : (l.take k ++ List.replicate (m + 1) z).set k x = l.take (k + 1) ++ List.replicate m z := by
  have hk := (List.getElem?_eq_some_iff.1 h).1
  have e : (l.take k).length = k := by simp; omega
  rw [List.set_append_right _ _ (by omega), e, Nat.sub_self, List.replicate_succ, List.set_cons_zero, take_getR h]
  simp
theorem fill_down {α : Type} {l : List α} {z x : α} {k : Nat} (h : l[k]? = some x) : (List.replicate (k + 1) z ++ l.drop (k + 1)).set k x = List.replicate k z ++ l.drop k := by
  obtain ⟨hk, e⟩ := List.getElem?_eq_some_iff.1 h
  rw [List.set_append_left _ _ (by simp), List.replicate_succ', List.set_append_right _ _ (by simp)]
  rw [List.drop_eq_getElem_cons hk, e]
  simp
theorem byte_of (m : Nat) : Value.int .u8 ((m % 2 ^ IntKind.u8.bits : Nat) : Int) = bv (UInt8.ofNat m) := by
  simp [bv, IntKind.bits]

theorem ordU_any (n : Nat) (hn : n < 2 ^ 64) (w : World) : CallsV Tryd.prog 62 #[.int .u64 n] w (RetB w (ordU n)) := by
  refine calls_in (N := _) Tryd.func62 rfl Tryd.ntmps62 rfl ?_; show WC _ _ _ _ _ _
  refine wc_sr ?_; refine wl_as rfl rfl ?_; refine wl_ns ?_; refine wc_sr ?_
  refine wl_mk (n := 8) (c := 8) tyB rfl rfl rfl rfl (by omega) (by omega) (by simp only [maxLen]; omega) rfl fun A1 w1 o1 hb1 _ => ?_
  refine wl_as rfl rfl ?_; refine wl_ns ?_; refine wc_seq ?_; refine wc_sr ?_; refine wl_mv rfl rfl ?_; apply wl_val; apply opv_len; exact rfl; exact tyB.sl; exact rfl; refine wl_mv rfl rfl ?_; refine wl_ns ?_; refine wc_block ?_
  refine wc_loop (fun L wr m => ∃ k : Nat, L = [(0, .int .u64 (n : Int)), (3, .slice A1 8 8), (7, .int .i64 (8 : Int)), (8, .int .i64 (k : Int))] ∧ k ≤ 8 ∧ Ow wr w.heap.size 5 A1 8 8 (bvs ((ordU n).take k ++ List.replicate (8 - k) 0)) ∧ Below w.heap.size w wr ∧ m = 8 - k)
    [(0, .int .u64 (n : Int)), (3, .slice A1 8 8), (7, .int .i64 (8 : Int)), (8, .int .i64 (0 : Nat))] 8 ⟨0, rfl, by omega, by simpa [bvs, bv] using o1, hb1, rfl⟩ ⟨rfl, rfl, rfl, rfl, trivial⟩ ?_
  rintro _ w2 m ⟨k, rfl, hk, o2, hb2, rfl⟩
  refine wc_sr ?_; refine wl_bin rfl rfl bin_lss rfl ?_; refine wl_ns ?_; refine wc_seq ?_
  refine wc_cond rfl (fun h1 => ?_) (fun h1 => ?_)
  · have hg := ordK_get 8 n k (by omega)
    have hk7 : k ≤ 7 := by omega
    refine wc_skip ?_; refine we_seq ?_; refine wc_seq ?_; refine wc_block ?_; refine wc_sr ?_; refine wl_mv rfl rfl ?_; refine wl_as rfl rfl ?_; refine wl_ns ?_; refine wc_region ?_; refine wl_mv rfl rfl ?_; refine wl_mv rfl rfl ?_; refine wl_mv rfl rfl ?_; refine wl_mv rfl rfl ?_; apply wl_val; apply opv_bin; exact rfl; exact rfl; exact bin_sub64 (by omega); exact rfl
    refine wl_val (opv_bin rfl rfl ((bin_mul64 (by omega)).to (show _ = Value.int .i64 ((8 * (7 - k) : Nat) : Int) from by congr 1; omega))) rfl ?_
    refine wl_val (opv_bin rfl rfl (bin_shr hn)) rfl ?_
    apply wl_val; apply opv_convR; exact rfl; exact Tryd.underlying37; exact Tryd.underlying5; exact wrap_nat rfl _; exact rfl
    refine wl_set (kk := k) tyB rfl rfl o2 rfl (by omega) (fun _ => rfl) rfl rfl fun p w3 o3 g3 _ => ?_
    have hb3 := g3.below hb2 o2 (Nat.le_refl _) hb2.size
    rw [byte_of, bvs_set, show 8 - k = (7 - k) + 1 by omega, Nat.pow_mul, fill_up (l := ordU n) (by rw [ordU, hg])] at o3
    refine wl_nil ?_; refine we_block_norm ?_; refine we_seq ?_; refine wc_region ?_; apply wl_val; apply opv_bin; exact rfl; exact rfl; exact bin_add64 (by omega); exact rfl; refine wl_mv rfl rfl ?_; refine wl_nil ?_
    refine we_loop [(0, .int .u64 (n : Int)), (3, .slice A1 8 8), (7, .int .i64 (8 : Int)), (8, .int .i64 ((k + 1 : Nat) : Int))] (8 - (k + 1)) ⟨k + 1, rfl, by omega, by rw [show 8 - (k + 1) = 7 - k by omega]; exact o3, hb3, rfl⟩ (by omega) ⟨rfl, rfl, rfl, rfl, trivial⟩
  · obtain rfl : k = 8 := by omega
    have e : (ordU n).take 8 ++ List.replicate (8 - 8) 0 = ordU n := by rw [List.take_of_length_le (by rw [ordU_length]; omega)]; simp
    rw [e] at o2
    refine wc_exit ?_; refine we_seq_exit ?_; refine we_loop_exit ?_; refine we_block_exit ?_; refine we_seq ?_; refine wc_sr ?_; refine wl_mv rfl rfl ?_; refine wl_as rfl rfl ?_; refine wl_ns ?_; refine wc_ret ?_
    exact we_ret1 rfl rfl ⟨_, rfl, A1, 8, by rw [ordU_length], by unfold OwB; rw [ordU_length]; exact o2, hb2⟩

end Go.Proofs.YtpnckagibkdcpaaDoor


/-
  Walks over the opening of sealed records, of the program and of the reference.
-/
namespace Go.Proofs.YtpnckagibkdcpaaDoor
open Go.RowKit

theorem or_add {x y i : Nat} (h : y < 2 ^ i) : x * 2 ^ i ||| y = x * 2 ^ i + y := by
  have := Nat.shiftLeft_add_eq_or_of_lt h x
  rw [Nat.shiftLeft_eq] at this
  exact this.symm
theorem or4 {a b c d : Nat} (hb : b < 256) (hc : c < 256) (hd : d < 256) : a * 2 ^ 24 ||| b * 2 ^ 16 ||| c * 2 ^ 8 ||| d = ((a * 256 + b) * 256 + c) * 256 + d := by
  rw [or_add (show b * 2 ^ 16 < 2 ^ 24 by omega), show a * 2 ^ 24 + b * 2 ^ 16 = (a * 256 + b) * 2 ^ 16 by omega, or_add (show c * 2 ^ 8 < 2 ^ 16 by omega), show (a * 256 + b) * 2 ^ 16 + c * 2 ^ 8 = ((a * 256 + b) * 256 + c) * 2 ^ 8 by omega, or_add (show d < 2 ^ 8 by omega)]
theorem crcGet_any {A : Option Addr} {n c : Nat} {xs : List UInt8} {w : World} (hr : RdB w A xs) (hn : xs.length = n) (h4 : 4 ≤ xs.length) :
    CallsV Tryd.prog 77 #[.slice A n c] w fun v w' => v = .int .u32 (numB (xs.take 4) : Nat) ∧ Below w.heap.size w w' := by
  subst hn
  obtain ⟨x0, h0⟩ : ∃ x, xs[0]? = some x := ⟨_, List.getElem?_eq_getElem (by omega)⟩
  obtain ⟨x1, h1⟩ : ∃ x, xs[1]? = some x := ⟨_, List.getElem?_eq_getElem (by omega)⟩
  obtain ⟨x2, h2⟩ : ∃ x, xs[2]? = some x := ⟨_, List.getElem?_eq_getElem (by omega)⟩
  obtain ⟨x3, h3⟩ : ∃ x, xs[3]? = some x := ⟨_, List.getElem?_eq_getElem (by omega)⟩
  have l0 := x0.toNat_lt
  have l1 := x1.toNat_lt
  have l2 := x2.toNat_lt
  have l3 := x3.toNat_lt
  have q0 : x0.toNat * 2 ^ 24 < 2 ^ 32 := Nat.lt_of_lt_of_le ((Nat.mul_lt_mul_right (by decide)).2 l0) (by decide)
  have q1 : x1.toNat * 2 ^ 16 < 2 ^ 32 := Nat.lt_of_lt_of_le ((Nat.mul_lt_mul_right (by decide)).2 l1) (by decide)
  have q2 : x2.toNat * 2 ^ 8 < 2 ^ 32 := Nat.lt_of_lt_of_le ((Nat.mul_lt_mul_right (by decide)).2 l2) (by decide)
  have q3 : x3.toNat < 2 ^ 32 := Nat.lt_of_lt_of_le l3 (by decide)
  have e : numB (xs.take 4) = ((x0.toNat * 256 + x1.toNat) * 256 + x2.toNat) * 256 + x3.toNat := by
    rw [numB_step h3, numB_step h2, numB_step h1, numB_step h0]; simp [numB]
  rw [← or4 (a := x0.toNat) l1 l2 l3] at e
  rw [e]
  refine calls_in (N := _) Tryd.func77 rfl Tryd.ntmps77 rfl ?_; show WC _ _ _ _ _ _
  refine wc_sr ?_; refine wl_as rfl rfl ?_; refine wl_ns ?_; refine wc_seq ?_
  refine wc_drawB mixed (by kernel_rfl) ?_
  apply wq_val; intro _ hw_; apply opv_move; exact rfl; exact rfl; apply wq_byK (T := tyB) (hr := hr) (hb := h0); exact rfl; exact rfl; exact rfl; exact rfl; exact rfl; intro _; apply wq_val; intro _ hw_; apply opv_convR; exact rfl; exact Tryd.underlying5; exact Tryd.underlying103; exact IntWalk.u32_in _ (by omega); exact rfl
  refine wq_val (fun _ _ => opv_bin (b := .int .u64 (24 : Nat)) rfl rfl ((bin_shl rfl).to (congrArg (fun z : Nat => Value.int .u32 (z : Int)) (Nat.mod_eq_of_lt q0)))) rfl ?_
  apply wq_val; intro _ hw_; apply opv_move; exact rfl; exact rfl; apply wq_byK (T := tyB) (hr := hr) (hb := h1); exact rfl; exact rfl; exact rfl; exact rfl; exact rfl; intro _; apply wq_val; intro _ hw_; apply opv_convR; exact rfl; exact Tryd.underlying5; exact Tryd.underlying103; exact IntWalk.u32_in _ (by omega); exact rfl
  refine wq_val (fun _ _ => opv_bin (b := .int .u64 (16 : Nat)) rfl rfl ((bin_shl rfl).to (congrArg (fun z : Nat => Value.int .u32 (z : Int)) (Nat.mod_eq_of_lt q1)))) rfl ?_
  refine wq_val (fun _ _ => opv_bin rfl rfl (bin_or rfl q0 q1)) rfl ?_
  apply wq_val; intro _ hw_; apply opv_move; exact rfl; exact rfl; apply wq_byK (T := tyB) (hr := hr) (hb := h2); exact rfl; exact rfl; exact rfl; exact rfl; exact rfl; intro _; apply wq_val; intro _ hw_; apply opv_convR; exact rfl; exact Tryd.underlying5; exact Tryd.underlying103; exact IntWalk.u32_in _ (by omega); exact rfl
  refine wq_val (fun _ _ => opv_bin (b := .int .u64 (8 : Nat)) rfl rfl ((bin_shl rfl).to (congrArg (fun z : Nat => Value.int .u32 (z : Int)) (Nat.mod_eq_of_lt q2)))) rfl ?_
  refine wq_val (fun _ _ => opv_bin rfl rfl (bin_or rfl (Nat.or_lt_two_pow q0 q1) q2)) rfl ?_
  apply wq_val; intro _ hw_; apply opv_move; exact rfl; exact rfl; apply wq_byK (T := tyB) (hr := hr) (hb := h3); exact rfl; exact rfl; exact rfl; exact rfl; exact rfl; intro _; apply wq_val; intro _ hw_; apply opv_convR; exact rfl; exact Tryd.underlying5; exact Tryd.underlying103; exact IntWalk.u32_in _ (by omega); exact rfl
  refine wq_val (fun _ _ => opv_bin rfl rfl (bin_or rfl (Nat.or_lt_two_pow (Nat.or_lt_two_pow q0 q1) q2) q3)) rfl ?_
  apply wq_val; intro _ hw_; apply opv_assign; exact rfl; exact rfl; refine wq_nil fun w1 hw1 => ?_
  refine we_seq ?_; refine wc_ret ?_
  exact we_ret1 rfl rfl ⟨_, rfl, rfl, hw1⟩

theorem openB_errY {xs y : List UInt8} {q : Nat} (h : q ≤ xs.length) (hy : xs.drop q = y) {r : List UInt8} {e : Nat} (ho : openH y = (r, e)) (he : ¬ e = 0) : openB xs q = ([], 0, e) := openB_err h (hy.symm ▸ ho) he
theorem openB_okY {xs y : List UInt8} {q : Nat} (h : q ≤ xs.length) (hy : xs.drop q = y) {r : List UInt8} (ho : openH y = (r, 0)) : openB xs q = (r, q + 8 + r.length, 0) := openB_ok h (hy.symm ▸ ho)
/-- A body, a place and an error are handed back. -/
def RetO (w : World) (x : List UInt8 × Nat × Nat) (v : Value) (w' : World) : Prop :=
  ∃ (A : Option Addr) (c : Nat), v = .tuple #[.slice A x.1.length c, .int .i64 (x.2.1 : Int), .int .i64 (x.2.2 : Int)] ∧ OwB w' w.heap.size A c x.1 ∧ Below w.heap.size w w'
theorem RetO.err {w w' : World} {x : List UInt8 × Nat × Nat} {e : Nat} {k : Int} (h : x = ([], 0, e)) (hk : k = e) (hb : Below w.heap.size w w') : RetO w x (.tuple #[.slice none 0 0, .int .i64 0, .int .i64 k]) w' := by
  subst h hk; exact ⟨none, 0, rfl, Ow.nil _ _ _, hb⟩
theorem RdBB.two' {w : World} {A A1 A2 : Option Addr} {n1 n2 c1 c2 : Nat} {r s : List UInt8} (h : Rd w A 2 [.slice A1 n1 c1, .slice A2 n2 c2]) (h1 : RdB w A1 r) (e1 : r.length = n1) (hc : r.length ≤ c1) (h2 : RdB w A2 s) (e2 : s.length = n2) (hc2 : s.length ≤ c2) : RdBB w A [r, s] := by
  subst e1 e2; exact RdBB.two h h1 hc h2 hc2

theorem open_any {A : Option Addr} {n c : Nat} {xs : List UInt8} {p : Int} {w : World} (hr : RdB w A xs) (hn : xs.length = n) (hc : xs.length ≤ c) (hl : xs.length ≤ 140737488355328) :
    CallsV Tryd.prog 68 #[.slice A n c, .int .i64 p] w (RetO w (openB xs p)) := by
  subst hn
  refine calls_in (N := _) Tryd.func68 rfl Tryd.ntmps68 rfl ?_; show WC _ _ _ _ _ _
  refine wc_sr ?_; refine wl_as rfl rfl ?_; refine wl_as rfl rfl ?_; refine wl_as rfl rfl ?_; refine wl_ns ?_; refine wc_seq ?_; refine wc_sr ?_; refine wl_mv rfl rfl ?_; refine wl_bin rfl rfl bin_lss rfl ?_; refine wl_mv rfl rfl ?_
  refine wl_cutV 5 16 (.bool (decide ((p < 0) ∨ ((xs.length : Int) < p)))) ?c8 ?_; (case c8 => (dsimp only [List.take]; by_cases hc0 : (p < 0); (focus (apply wl_skip; exact rfl; exact rfl; exact rfl; refine bTn ?_; (with_reducible assumption); exact rfl; apply wl_skip; exact rfl; exact rfl; exact rfl; refine bTn ?_; (with_reducible assumption); exact rfl; apply wl_skip; exact rfl; exact rfl; exact rfl; refine bTn ?_; (with_reducible assumption); exact rfl; apply wl_skip; exact rfl; exact rfl; exact rfl; refine bTn ?_; (with_reducible assumption); exact rfl; apply wl_val; apply opv_pickT; exact rfl; refine bT ?_; (with_reducible assumption); exact rfl; exact rfl; refine wl_nil ?_; refine we_cut _ ⟨rfl, rfl⟩ ⟨congrArg (fun b => some (Value.bool b)) ?e8_0, ?s8_0⟩; (case e8_0 => ((simp [hc0]; done))); (case s8_0 => (refine And.intro rfl ?_; refine And.intro rfl ?_; refine And.intro rfl ?_; refine And.intro rfl ?_; refine And.intro rfl ?_; refine And.intro rfl ?_; refine And.intro rfl ?_; refine And.intro rfl ?_; exact True.intro)))); (focus (apply wl_take; exact rfl; exact rfl; exact rfl; refine bF ?_; (with_reducible assumption); refine wl_mv rfl rfl ?_; apply wl_take; exact rfl; exact rfl; exact rfl; refine bF ?_; (with_reducible assumption); refine wl_mv rfl rfl ?_; apply wl_take; exact rfl; exact rfl; exact rfl; refine bF ?_; (with_reducible assumption); apply wl_val; apply opv_len; exact rfl; exact tyB.sl; exact rfl; apply wl_take; exact rfl; exact rfl; exact rfl; refine bF ?_; (with_reducible assumption); refine wl_bin rfl rfl bin_gtr rfl ?_; apply wl_val; apply opv_pickF; exact rfl; refine bF ?_; (with_reducible assumption); exact rfl; exact rfl; refine wl_nil ?_; refine we_cut _ ⟨rfl, rfl⟩ ⟨congrArg (fun b => some (Value.bool b)) ?e8_1, ?s8_1⟩; (case e8_1 => ((simp [hc0]; done))); (case s8_1 => (refine And.intro rfl ?_; refine And.intro rfl ?_; refine And.intro rfl ?_; refine And.intro rfl ?_; refine And.intro rfl ?_; refine And.intro rfl ?_; refine And.intro rfl ?_; refine And.intro rfl ?_; exact True.intro)))))); dsimp only [List.drop]
  refine wl_ns ?_
  refine wc_cond rfl (fun h => ?_) (fun h => ?_)
  · refine wc_sr ?_; refine wl_as rfl rfl ?_; refine wl_as rfl rfl ?_; refine wl_as rfl rfl ?_; refine wl_ns ?_; refine wc_ret ?_; refine we_seq_ret ?_
    exact we_ret3 rfl rfl rfl rfl ⟨_, rfl, RetO.err (openB_arg (by omega)) rfl (Below.refl _ _)⟩
  · obtain ⟨q, rfl⟩ := Int.eq_ofNat_of_zero_le (show 0 ≤ p by omega)
    have hq : q ≤ xs.length := by omega
    refine wc_skip ?_; refine we_seq ?_; refine wc_sr ?_; refine wl_mv rfl rfl ?_; refine wl_mv rfl rfl ?_
    refine wl_sl (l := q) (h := xs.length) tyB rfl ⟨_, rfl⟩ rfl hq (by omega) rfl ?_
    obtain ⟨y, hy⟩ : ∃ y, xs.drop q = y := ⟨_, rfl⟩
    have ry : RdB w (cutA A c q) y := by have := rd_cut hr hq (Nat.le_refl _) hc; rw [List.take_length, hy] at this; exact this
    have hyl : xs.length - q = y.length := by rw [← hy, List.length_drop]
    obtain ⟨Y, hY⟩ : ∃ Y, cutA A c q = Y := ⟨_, rfl⟩
    obtain ⟨d, hd⟩ : ∃ d, c - q = d := ⟨_, rfl⟩
    have hyd : y.length ≤ d := by omega
    rw [hY] at ry
    rw [hyl, hY, hd]
    refine wl_as rfl rfl ?_; refine wl_ns ?_; refine wc_seq ?_; refine wc_sr ?_; refine wl_mv rfl rfl ?_; apply wl_val; apply opv_len; exact rfl; exact tyB.sl; exact rfl; refine wl_bin rfl rfl bin_lss rfl ?_; refine wl_ns ?_
    refine wc_cond rfl (fun h8 => ?_) (fun h8 => ?_)
    · refine wc_sr ?_; refine wl_as rfl rfl ?_; refine wl_as rfl rfl ?_; refine wl_as rfl rfl ?_; refine wl_ns ?_; refine wc_ret ?_; refine we_seq_ret ?_
      exact we_ret3 rfl rfl rfl rfl ⟨_, rfl, RetO.err (openB_errY hq hy (openH_short (by omega)) (by decide)) rfl (Below.refl _ _)⟩
    · refine wc_skip ?_; refine we_seq ?_; refine wc_sr ?_; refine wl_mv rfl rfl ?_
      refine wl_call ok_crc_get (crcGet_any ry rfl (by omega)) ⟨rfl, trivial⟩ rfl ?_
      rintro _ w1 ⟨rfl, hb1⟩
      obtain ⟨n, hn⟩ : ∃ n, numB (y.take 4) = n := ⟨_, rfl⟩
      have hnl : n < 4294967296 := by rw [← hn]; exact numB_lt4 (by simp; omega)
      rw [hn]
      replace ry := RdB.below ry hb1
      refine wl_as rfl rfl ?_; refine wl_ns ?_; refine wc_seq ?_; refine wc_sr ?_; refine wl_mv rfl rfl ?_; refine wl_bin rfl rfl bin_gtr rfl ?_; refine wl_ns ?_
      refine wc_cond rfl (fun h2 => ?_) (fun h2 => ?_)
      · refine wc_sr ?_; refine wl_as rfl rfl ?_; refine wl_as rfl rfl ?_; refine wl_as rfl rfl ?_; refine wl_ns ?_; refine wc_ret ?_; refine we_seq_ret ?_
        exact we_ret3 rfl rfl rfl rfl ⟨_, rfl, RetO.err (openB_errY hq hy (openH_size (by omega) (by omega)) (by decide)) rfl hb1⟩
      · refine wc_skip ?_; refine we_seq ?_; refine wc_sr ?_; refine wl_mv rfl rfl ?_; apply wl_val; apply opv_convR; exact rfl; exact Tryd.underlying103; exact Tryd.underlying3; exact IntWalk.i64_in _ (by omega); exact rfl; apply wl_val; apply opv_bin; exact rfl; exact rfl; exact bin_add64 (by omega); exact rfl; refine wl_as rfl rfl ?_; refine wl_ns ?_; refine wc_seq ?_; refine wc_sr ?_; refine wl_mv rfl rfl ?_; apply wl_val; apply opv_len; exact rfl; exact tyB.sl; exact rfl; refine wl_mv rfl rfl ?_; refine wl_bin rfl rfl bin_lss rfl ?_; refine wl_ns ?_
        refine wc_cond rfl (fun h3 => ?_) (fun h3 => ?_)
        · refine wc_sr ?_; refine wl_as rfl rfl ?_; refine wl_as rfl rfl ?_; refine wl_as rfl rfl ?_; refine wl_ns ?_; refine wc_ret ?_; refine we_seq_ret ?_
          exact we_ret3 rfl rfl rfl rfl ⟨_, rfl, RetO.err (openB_errY hq hy (openH_end (by omega) (by omega) (by omega)) (by decide)) rfl hb1⟩
        · have hyn : 8 + n ≤ y.length := by omega
          have hbl : ((y.take (8 + n)).drop 8).length = n := by simp; omega
          refine wc_skip ?_; refine we_seq ?_; refine wc_seq ?_; refine wc_seq ?_
          refine wc_heldB mixed fun w2 hS => ?_
          apply wh_take 0; exact rfl; kernel_rfl; kernel_rfl; kernel_rfl; exact hS; intro _ hw_; apply opv_move; exact rfl; exact rfl
          refine wh_take 1 rfl (by kernel_rfl) (by kernel_rfl) (by kernel_rfl) hS (fun _ _ => opv_slice (l := 0) (h := 4) tyB rfl rfl ⟨_, rfl⟩ (by omega) (by omega)) rfl ?_
          apply wh_take 2; exact rfl; kernel_rfl; kernel_rfl; kernel_rfl; exact hS; intro _ hw_; apply opv_move; exact rfl; exact rfl; apply wh_take 3; exact rfl; kernel_rfl; kernel_rfl; kernel_rfl; exact hS; intro _ hw_; apply opv_move; exact rfl; exact rfl
          refine wh_take 4 rfl (by kernel_rfl) (by kernel_rfl) (by kernel_rfl) hS (fun _ _ => opv_slice (l := 8) (h := 8 + n) tyB rfl ⟨_, rfl⟩ ⟨_, by simp only [Int.natCast_add]; rfl⟩ (by omega) (by omega)) rfl ?_
          apply wh_take 7; exact rfl; kernel_rfl; kernel_rfl; kernel_rfl; exact hS; intro _ hw_; apply opv_move; exact rfl; exact rfl
          refine wh_take 8 rfl (by kernel_rfl) (by kernel_rfl) (by kernel_rfl) hS (fun _ _ => opv_slice (l := 4) (h := y.length) tyB rfl ⟨_, rfl⟩ rfl (by omega) (by omega)) rfl ?_
          refine wh_one 5 (o := ⟨_, _, _, _, _, _⟩) (by kernel_rfl) rfl ?_
          refine wl_bs (vs := [_, _]) tyBB ⟨rfl, rfl, rfl, rfl, rfl, rfl, trivial⟩ rfl (by decide) rfl fun A5 w5 o5 h5 _ => ?_
          have hS5 := hS.trans (h5.mono hS.size)
          replace ry := RdB.below ry hS5
          have rA : RdB w5 (cutA Y d 0) (y.take 4) := by have := rd_cut (l := 0) (h := 4) ry (by omega) (by omega) hyd; exact this
          have rB := rd_cut (l := 8) (h := 8 + n) ry (by omega) hyn hyd
          have rC := rd_cut (l := 4) (h := y.length) ry (by omega) (Nat.le_refl _) hyd
          rw [List.take_length] at rC
          have hrows := RdBB.two' o5.rd rA (by simp; omega) (by simp; omega) rB (by simp; omega) (by simp; omega)
          refine wl_nil ?_
          refine we_held hS5 ?_
          refine wh_one 6 (o := ⟨_, _, _, _, _, _⟩) (by kernel_rfl) rfl ?_
          refine wl_call ok_crc_Sum (sum_any hrows rfl (by simp only [maxLen]; simp; omega) (by simp only [maxLen]; simp)) ⟨rfl, trivial⟩ rfl ?_
          rintro _ w6 ⟨rfl, h6⟩
          have hS6 := hS5.trans (h6.mono hS5.size)
          refine wl_nil ?_
          refine we_held hS6 ?_
          refine wh_one 9 (o := ⟨_, _, _, _, _, _⟩) (by kernel_rfl) rfl ?_
          refine wl_call ok_crc_get (crcGet_any (RdB.below rC h6) (by simp) (by simp; omega)) ⟨rfl, trivial⟩ rfl ?_
          rintro _ w7 ⟨rfl, h7⟩
          have hS7 := hS6.trans (h7.mono hS6.size)
          refine wl_nil ?_
          refine we_held hS7 ?_
          obtain ⟨s, hs⟩ : ∃ s, crcOf [y.take 4, (y.take (8 + n)).drop 8].flatten = s := ⟨_, rfl⟩
          obtain ⟨t, ht⟩ : ∃ t, numB ((y.drop 4).take 4) = t := ⟨_, rfl⟩
          rw [hs, ht]
          have hs' : crcOf (y.take 4 ++ (y.take (8 + n)).drop 8) = s := by rw [← hs]; simp
          apply wh_take 10; exact rfl; kernel_rfl; kernel_rfl; kernel_rfl; exact hS7; intro _ hw_; apply opv_bin; exact rfl; exact rfl; exact bin_neq; exact rfl
          refine wh_done (by kernel_rfl) ?_
          have hb7 := hb1.trans (hS7.mono hb1.size)
          refine we_seq ?_
          refine wc_cond rfl (fun h4 => ?_) (fun h4 => ?_)
          · refine wc_sr ?_; refine wl_as rfl rfl ?_; refine wl_as rfl rfl ?_; refine wl_as rfl rfl ?_; refine wl_ns ?_; refine wc_ret ?_; refine we_seq_ret ?_
            exact we_ret3 rfl rfl rfl rfl ⟨_, rfl, RetO.err (openB_errY hq hy (openH_sum (by omega) (by omega) (by omega) (by rw [hn, hs', ht]; omega)) (by decide)) rfl hb7⟩
          · refine wc_skip ?_; refine we_seq ?_; refine wc_sr ?_; refine wl_mv rfl rfl ?_; refine wl_mv rfl rfl ?_
            refine wl_sl (l := 8) (h := 8 + n) tyB rfl ⟨_, rfl⟩ ⟨_, by simp only [Int.natCast_add]; rfl⟩ (by omega) (by omega) rfl ?_
            have rD := RdB.below rB (h6.trans (h7.mono h6.size))
            refine wl_call ok_bytes_Clone (clone_any rD (by rw [hbl]; omega) (by rw [hbl]; omega)) ⟨rfl, trivial⟩ rfl ?_
            rintro _ w8 ⟨A8, c8, rfl, o8, h8'⟩
            have hb8 := hb7.trans (h8'.mono hb7.size)
            have eo := openB_okY hq hy (openH_ok (y := y) (by omega) (by omega) (by omega) (by rw [hn, hs', ht]; omega))
            rw [hn] at eo
            refine wl_mv rfl rfl ?_; refine wl_mv rfl rfl ?_; apply wl_val; apply opv_bin; exact rfl; exact rfl; exact bin_add64 (by omega); exact rfl; refine wl_as rfl rfl ?_; refine wl_as rfl rfl ?_; refine wl_as rfl rfl ?_; refine wl_ns ?_; refine wc_ret ?_
            refine we_ret3 rfl rfl rfl rfl ⟨_, rfl, ?_⟩
            rw [eo]
            refine ⟨A8, c8, ?_, Ow.mono o8 hb7.size, hb8⟩
            rw [hbl, show (q : Int) + (8 + (n : Int)) = ((q + 8 + n : Nat) : Int) by omega]; rfl

/-- Records and a place are handed back. -/
def RetOA (w : World) (x : List (List UInt8) × Nat) (v : Value) (w' : World) : Prop :=
  ∃ (A : Option Addr) (c : Nat), v = .tuple #[.slice A x.1.length c, .int .i64 (x.2 : Int)] ∧ OwBB w' w.heap.size A c x.1 ∧ Below w.heap.size w w'
theorem open_at {A : Option Addr} {n c : Nat} {xs : List UInt8} {p : Int} {w : World} {x : List UInt8 × Nat × Nat} (h : openB xs p = x) (hr : RdB w A xs) (hn : xs.length = n) (hc : xs.length ≤ c) (hl : xs.length ≤ 140737488355328) :
    CallsV Tryd.prog 68 #[.slice A n c, .int .i64 p] w (RetO w x) := h ▸ open_any hr hn hc hl

end Go.Proofs.YtpnckagibkdcpaaDoor


/-
  Engine: functions as values, shifts of ints; walks over put4, get4 and common of blocks.
-/
namespace Go.Proofs.YtpnckagibkdcpaaDoor
open Go.RowKit

section
variable {P : Program} {N : Nat} {ops : Array Oper} {Q : Exit → Act → World → Prop} {rest : List Oper} {L : FL} {w : World} {t ty : TypeId}
theorem opv_mkFunc {f : FuncId} {xs : List Operand} {us : List Value} (hx : Looks L xs us) : OpV P (.makeFunc (.func f) #[] xs.toArray) ty L w (.func (.func f) #[] us.toArray) w := fun ρ o hρ ho _ => by
  have hm := Looks.map hρ hx
  unfold execOp
  simp only [ho, Instr.makeFunc]
  have e : xs.toArray.map ρ = us.toArray := by simp [hm]
  rw [e]
  simp
theorem exec_callF {ρ : Operand → Value} {o : Oper} {x : Operand} {f : FuncId} {fs us : Array Value} {xs : List Operand} {vs : List Value} {ats : Array TypeId} (ho : o.op = .call { callee := .value x, args := xs.toArray, argTypes := ats })
    (hc : CallOk P f) (hρ : ∀ x u, look L x = some u → ρ x = u) (hf : look L x = some (.func (.func f) fs us)) (hx : Looks L xs vs) : (execOp ρ o).run P w = .ok (.enter f (fs ++ vs.toArray ++ us)) w := by
  have hf := hρ _ _ hf
  have hm := Looks.map hρ hx
  unfold execOp
  simp only [ho, resolve, Deferred.ofValue, hf, Sem.run_bind, Sem.run_pure, Result.andThen_ok, invoke]
  have : Array.map ρ xs.toArray = vs.toArray := by simp [hm]
  rw [this]
  exact hc _ _
/-- A call of a function that is a value. -/
theorem wl_callF {d : Nat} {x : Operand} {f : FuncId} {fs us : Array Value} {xs : List Operand} {ats : Array TypeId} {ty : TypeId} {pos : String} {aft : Array Edge} {vs : List Value} {R : Value → World → Prop}
    (hc : CallOk P f) (hf : look L x = some (.func (.func f) fs us)) (hr : CallsV P f (fs ++ vs.toArray ++ us) w R) (hx : Looks L xs vs) (hd : Nat.blt d N = true)
    (h : ∀ v w', R v w' → WL P N ops Q rest ((d, v) :: L) w') :
    WL P N ops Q (⟨some d, .call { callee := .value x, args := xs.toArray, argTypes := ats }, ty, pos, aft, none⟩ :: rest) L w := fun a ha =>
  wpList_plain rfl fun K hK => by
    unfold Oper.wp
    rw [exec_callF rfl hc (fun x u hx => ha.eval hx) hf hx]
    refine Calls.mono hr ?_
    rintro _ w' ⟨v, rfl, hv⟩
    exact hK _ _ (h v w' hv _ (ha.put hd v))
theorem wrap64_nat {n : Nat} (h : n ≤ 9223372036854775807) : IntKind.i64.wrap (n : Int) = (n : Int) := IntWalk.i64_in _ (by omega)
theorem bin_shl64 {x y : Nat} {yk : IntKind} (hy : y ≤ 64) (h : x * 2 ^ y ≤ 9223372036854775807) : BinV P .shl t (.int .i64 (x : Int)) (.int yk (y : Int)) (.int .i64 ((x * 2 ^ y : Nat) : Int)) := .mk fun u v w => by
  have h0 : ¬ (y : Int) < 0 := by omega
  have e : ((x : Int) * 2 ^ min y IntKind.i64.bits) = ((x * 2 ^ y : Nat) : Int) := by
    rw [Nat.min_eq_left (show y ≤ IntKind.i64.bits from hy)]; simp
  simp only [eqGuard, binOp, Op.shift, h0, if_false, Int.toNat_natCast, e, wrap64_nat h]
  simp
theorem bin_or64 {a b : Nat} (ha : a ≤ 9223372036854775807) (hb : b ≤ 9223372036854775807) : BinV P .or t (.int .i64 (a : Int)) (.int .i64 (b : Int)) (.int .i64 ((a ||| b : Nat) : Int)) :=
  bin_bits .or (.inr (.inl rfl)) fun w => by
    have h : a ||| b < 2 ^ 63 := Nat.or_lt_two_pow (Nat.lt_of_le_of_lt ha (by decide)) (Nat.lt_of_le_of_lt hb (by decide))
    have ha' : a < 2 ^ IntKind.i64.bits := Nat.lt_of_le_of_lt ha (by decide)
    have hb' : b < 2 ^ IntKind.i64.bits := Nat.lt_of_le_of_lt hb (by decide)
    simp only [Op.intBits, ofInt_nat, BitVec.toNat_or, BitVec.toNat_ofNat, Nat.mod_eq_of_lt ha', Nat.mod_eq_of_lt hb', wrap64_nat (show a ||| b ≤ 9223372036854775807 by omega)]; rfl
end
theorem put4_any (n : Nat) (hn : n < 2 ^ 63) (w : World) : CallsV Tryd.prog 44 #[.int .i64 n] w fun v w' => ∃ (A : Option Addr) (c : Nat), v = .slice A 4 c ∧ 4 ≤ c ∧ RdB w' A (four n) ∧ Below w.heap.size w w' := by
  have h1 : (n : Int) ≤ 9223372036854775807 := by omega
  refine calls_in (N := _) Tryd.func44 rfl Tryd.ntmps44 rfl ?_; show WC _ _ _ _ _ _
  refine wc_sr ?_; refine wl_as rfl rfl ?_; refine wl_ns ?_; refine wc_sr ?_; refine wl_mv rfl rfl ?_; apply wl_val; apply opv_convR; exact rfl; exact Tryd.underlying3; exact Tryd.underlying37; exact IntWalk.u64_in _ (by omega); exact rfl
  refine wl_call ok_codec_OrdU (ordU_any n (by omega) w) ⟨rfl, trivial⟩ rfl ?_
  rintro _ w1 ⟨A, c, rfl, o1, hb⟩
  have hcap := o1.cap
  rw [ordU_length] at hcap
  refine wl_sl (l := 4) (h := (ordU n).length) tyB rfl ⟨_, rfl⟩ rfl (by rw [ordU_length]; decide) o1.cap rfl ?_
  have hr := Rd.cut (l := 4) (h := (ordU n).length) (c := c) o1.rd (by rw [ordU_length]; decide) (Nat.le_refl _) o1.cap
  have e : ((bvs (ordU n)).take (ordU n).length).drop 4 = bvs (four n) := by
    rw [List.take_of_length_le (by rw [bvs_length]; exact Nat.le_refl _), ← ordU_four, bvs, bvs, List.map_drop]
  rw [e, ordU_length] at hr
  rw [ordU_length]
  refine wl_as rfl rfl ?_; refine wl_ns ?_; refine wc_ret ?_
  exact we_ret1 rfl rfl ⟨_, rfl, _, _, rfl, by omega, by unfold RdB; rw [four_length]; exact hr, hb⟩
theorem get4_any {A : Option Addr} {n c : Nat} {xs : List UInt8} {w : World} (hr : RdB w A xs) (hn : xs.length = n) (h4 : 4 ≤ xs.length) :
    CallsV Tryd.prog 69 #[.slice A n c] w fun v w' => v = .int .i64 (numB (xs.take 4) : Nat) ∧ Below w.heap.size w w' := by
  subst hn
  obtain ⟨x0, h0⟩ : ∃ x, xs[0]? = some x := ⟨_, List.getElem?_eq_getElem (by omega)⟩
  obtain ⟨x1, h1⟩ : ∃ x, xs[1]? = some x := ⟨_, List.getElem?_eq_getElem (by omega)⟩
  obtain ⟨x2, h2⟩ : ∃ x, xs[2]? = some x := ⟨_, List.getElem?_eq_getElem (by omega)⟩
  obtain ⟨x3, h3⟩ : ∃ x, xs[3]? = some x := ⟨_, List.getElem?_eq_getElem (by omega)⟩
  have l0 := x0.toNat_lt
  have l1 := x1.toNat_lt
  have l2 := x2.toNat_lt
  have l3 := x3.toNat_lt
  have q0 : x0.toNat * 2 ^ 24 < 2 ^ 32 := Nat.lt_of_lt_of_le ((Nat.mul_lt_mul_right (by decide)).2 l0) (by decide)
  have q1 : x1.toNat * 2 ^ 16 < 2 ^ 32 := Nat.lt_of_lt_of_le ((Nat.mul_lt_mul_right (by decide)).2 l1) (by decide)
  have q2 : x2.toNat * 2 ^ 8 < 2 ^ 32 := Nat.lt_of_lt_of_le ((Nat.mul_lt_mul_right (by decide)).2 l2) (by decide)
  have q3 : x3.toNat < 2 ^ 32 := Nat.lt_of_lt_of_le l3 (by decide)
  have e : numB (xs.take 4) = ((x0.toNat * 256 + x1.toNat) * 256 + x2.toNat) * 256 + x3.toNat := by
    rw [numB_step h3, numB_step h2, numB_step h1, numB_step h0]; simp [numB]
  rw [← or4 (a := x0.toNat) l1 l2 l3] at e
  rw [e]
  have o1 := Nat.or_lt_two_pow q0 q1
  have o2 := Nat.or_lt_two_pow o1 q2
  refine calls_in (N := _) Tryd.func69 rfl Tryd.ntmps69 rfl ?_; show WC _ _ _ _ _ _
  refine wc_sr ?_; refine wl_as rfl rfl ?_; refine wl_ns ?_; refine wc_seq ?_
  refine wc_drawB mixed (by kernel_rfl) ?_
  apply wq_val; intro _ hw_; apply opv_move; exact rfl; exact rfl; apply wq_byK (T := tyB) (hr := hr) (hb := h0); exact rfl; exact rfl; exact rfl; exact rfl; exact rfl; intro _; apply wq_val; intro _ hw_; apply opv_convR; exact rfl; exact Tryd.underlying5; exact Tryd.underlying3; exact IntWalk.i64_in _ (by omega); exact rfl
  refine wq_val (fun _ _ => opv_bin (b := .int .u64 (24 : Nat)) rfl rfl (bin_shl64 (by decide) (by omega))) rfl ?_
  apply wq_val; intro _ hw_; apply opv_move; exact rfl; exact rfl; apply wq_byK (T := tyB) (hr := hr) (hb := h1); exact rfl; exact rfl; exact rfl; exact rfl; exact rfl; intro _; apply wq_val; intro _ hw_; apply opv_convR; exact rfl; exact Tryd.underlying5; exact Tryd.underlying3; exact IntWalk.i64_in _ (by omega); exact rfl
  refine wq_val (fun _ _ => opv_bin (b := .int .u64 (16 : Nat)) rfl rfl (bin_shl64 (by decide) (by omega))) rfl ?_
  refine wq_val (fun _ _ => opv_bin rfl rfl (bin_or64 (by omega) (by omega))) rfl ?_
  apply wq_val; intro _ hw_; apply opv_move; exact rfl; exact rfl; apply wq_byK (T := tyB) (hr := hr) (hb := h2); exact rfl; exact rfl; exact rfl; exact rfl; exact rfl; intro _; apply wq_val; intro _ hw_; apply opv_convR; exact rfl; exact Tryd.underlying5; exact Tryd.underlying3; exact IntWalk.i64_in _ (by omega); exact rfl
  refine wq_val (fun _ _ => opv_bin (b := .int .u64 (8 : Nat)) rfl rfl (bin_shl64 (by decide) (by omega))) rfl ?_
  refine wq_val (fun _ _ => opv_bin rfl rfl (bin_or64 (by omega) (by omega))) rfl ?_
  apply wq_val; intro _ hw_; apply opv_move; exact rfl; exact rfl; apply wq_byK (T := tyB) (hr := hr) (hb := h3); exact rfl; exact rfl; exact rfl; exact rfl; exact rfl; intro _; apply wq_val; intro _ hw_; apply opv_convR; exact rfl; exact Tryd.underlying5; exact Tryd.underlying3; exact IntWalk.i64_in _ (by omega); exact rfl
  refine wq_val (fun _ _ => opv_bin rfl rfl (bin_or64 (by omega) (by omega))) rfl ?_
  apply wq_val; intro _ hw_; apply opv_assign; exact rfl; exact rfl; refine wq_nil fun w1 hw1 => ?_
  refine we_seq ?_; refine wc_ret ?_
  exact we_ret1 rfl rfl ⟨_, rfl, rfl, hw1⟩
/-- One more byte in common. -/
theorem comN_step {a b : List UInt8} {k : Nat} {x y : UInt8} (hx : a[k]? = some x) (hy : b[k]? = some y) : comN (a.drop k) (b.drop k) = if x = y then comN (a.drop (k + 1)) (b.drop (k + 1)) + 1 else 0 := by
  rw [drop_getB hx, drop_getB hy, comN]
theorem comN_end {a b : List UInt8} {k : Nat} (h : a.length ≤ k ∨ b.length ≤ k) : comN (a.drop k) (b.drop k) = 0 := by
  rcases h with h | h
  · rw [List.drop_of_length_le h, comN]; simp
  · rw [List.drop_of_length_le h]
    cases a.drop k <;> simp [comN]
theorem common_any {A B : Option Addr} {n m c d : Nat} {xs ys : List UInt8} {w : World} (hr : RdB w A xs) (hn : xs.length = n) (hs : RdB w B ys) (hm : ys.length = m) (hl : xs.length ≤ 1099511627776) (hl2 : ys.length ≤ 1099511627776) :
    CallsV Tryd.prog 45 #[.slice A n c, .slice B m d] w fun v w' => v = .int .i64 (comN xs ys : Nat) ∧ Below w.heap.size w w' := by
  subst hn hm
  refine calls_in (N := _) Tryd.func45 rfl Tryd.ntmps45 rfl ?_; show WC _ _ _ _ _ _
  refine wc_sr ?_; refine wl_as rfl rfl ?_; refine wl_ns ?_; refine wc_sr ?_; refine wl_as rfl rfl ?_; refine wl_ns ?_; refine wc_seq ?_; refine wc_block ?_
  refine wc_loop (fun L wr mm => ∃ k : Nat, L = [(0, .slice A xs.length c), (1, .slice B ys.length d), (5, .int .i64 (k : Int))] ∧ k ≤ xs.length ∧ comN xs ys = k + comN (xs.drop k) (ys.drop k) ∧ Below w.heap.size w wr ∧ mm = xs.length - k)
    [(0, .slice A xs.length c), (1, .slice B ys.length d), (5, .int .i64 (0 : Nat))] xs.length ⟨0, rfl, by omega, by simp, Below.refl _ _, rfl⟩ ⟨rfl, rfl, rfl, trivial⟩ ?_
  rintro _ w1 mm ⟨k, rfl, hk, hc, hb, rfl⟩
  replace hr := hr.below hb
  replace hs := hs.below hb
  refine wc_seq ?_; refine wc_seq ?_
  refine wc_cutE (fun L' w' => ∃ t : Bool, L' = [(0, .slice A xs.length c), (1, .slice B ys.length d), (5, .int .i64 (k : Int)), (26, .bool t)] ∧ Below w.heap.size w w' ∧ (if t then comN (xs.drop k) (ys.drop k) = comN (xs.drop (k + 1)) (ys.drop (k + 1)) + 1 ∧ k < xs.length else comN (xs.drop k) (ys.drop k) = 0)) ?_ ?_
  · by_cases h1 : k < xs.length
    · by_cases h2 : k < ys.length
      · obtain ⟨x, hx⟩ : ∃ x, xs[k]? = some x := ⟨_, List.getElem?_eq_getElem h1⟩
        obtain ⟨y, hy⟩ : ∃ x, ys[k]? = some x := ⟨_, List.getElem?_eq_getElem h2⟩
        have hst := comN_step hx hy
        have h1' : (k : Int) < (xs.length : Int) := by omega
        have h2' : (k : Int) < (ys.length : Int) := by omega
        have exy : (x.toNat : Int) = (y.toNat : Int) ↔ x = y := by rw [Int.ofNat_inj]; exact UInt8.toNat_inj
        by_cases h3 : x = y
        · have h3' := exy.2 h3
          rw [if_pos h3] at hst
          refine wc_drawB mixed (by kernel_rfl) ?_
          apply wq_val; intro _ hw_; apply opv_move; exact rfl; exact rfl; apply wq_val; intro _ hw_; apply opv_move; exact rfl; exact rfl; apply wq_val; intro _ hw_; apply opv_len; exact rfl; exact tyB.sl; exact rfl; apply wq_val; intro _ hw_; apply opv_bin; exact rfl; exact rfl; exact bin_lss; exact rfl; apply wq_val; intro _ hw_; apply opv_move; exact rfl; exact rfl; apply wq_take; exact rfl; exact rfl; exact rfl; refine bT ?_; (with_reducible assumption); apply wq_val; intro _ hw_; apply opv_move; exact rfl; exact rfl; apply wq_take; exact rfl; exact rfl; exact rfl; refine bT ?_; (with_reducible assumption); apply wq_val; intro _ hw_; apply opv_move; exact rfl; exact rfl; apply wq_take; exact rfl; exact rfl; exact rfl; refine bT ?_; (with_reducible assumption); apply wq_val; intro _ hw_; apply opv_len; exact rfl; exact tyB.sl; exact rfl; apply wq_take; exact rfl; exact rfl; exact rfl; refine bT ?_; (with_reducible assumption); apply wq_val; intro _ hw_; apply opv_bin; exact rfl; exact rfl; exact bin_lss; exact rfl; apply wq_val; intro _ hw_; apply opv_pickT; exact rfl; refine bT ?_; (with_reducible assumption); exact rfl; exact rfl; apply wq_val; intro _ hw_; apply opv_move; exact rfl; exact rfl; apply wq_take; exact rfl; exact rfl; exact rfl; refine bT ?_; (with_reducible assumption); apply wq_val; intro _ hw_; apply opv_move; exact rfl; exact rfl; apply wq_take; exact rfl; exact rfl; exact rfl; refine bT ?_; (with_reducible assumption); apply wq_val; intro _ hw_; apply opv_move; exact rfl; exact rfl; apply wq_byTK (T := tyB) (hr := hr) (hb := hx); exact rfl; exact rfl; exact rfl; refine bT ?_; (with_reducible assumption); exact rfl; exact rfl; exact rfl; exact rfl; refine bT ?_; (with_reducible assumption); exact rfl; exact rfl; exact rfl; exact rfl; exact rfl; intro _; apply wq_take; exact rfl; exact rfl; exact rfl; refine bT ?_; (with_reducible assumption); apply wq_val; intro _ hw_; apply opv_move; exact rfl; exact rfl; apply wq_take; exact rfl; exact rfl; exact rfl; refine bT ?_; (with_reducible assumption); apply wq_val; intro _ hw_; apply opv_move; exact rfl; exact rfl; apply wq_byTK (T := tyB) (hr := hs) (hb := hy); exact rfl; exact rfl; exact rfl; refine bT ?_; (with_reducible assumption); exact rfl; exact rfl; exact rfl; exact rfl; refine bT ?_; (with_reducible assumption); exact rfl; exact rfl; exact rfl; exact rfl; exact rfl; intro _; apply wq_take; exact rfl; exact rfl; exact rfl; refine bT ?_; (with_reducible assumption); apply wq_val; intro _ hw_; apply opv_bin; exact rfl; exact rfl; exact bin_eql; exact rfl; apply wq_val; intro _ hw_; apply opv_pickT; exact rfl; refine bT ?_; (with_reducible assumption); exact rfl; exact rfl; refine wq_nil fun w1 hw1 => ?_
          skip
          exact we_cut _ ⟨true, rfl, hb.trans (hw1.mono hb.size), hst, h1⟩ ⟨rfl, rfl, rfl, congrArg (fun b => some (Value.bool b)) (decide_eq_true h3'), trivial⟩
        · have h3' : ¬ (x.toNat : Int) = (y.toNat : Int) := fun h => h3 (exy.1 h)
          rw [if_neg h3] at hst
          refine wc_drawB mixed (by kernel_rfl) ?_
          apply wq_val; intro _ hw_; apply opv_move; exact rfl; exact rfl; apply wq_val; intro _ hw_; apply opv_move; exact rfl; exact rfl; apply wq_val; intro _ hw_; apply opv_len; exact rfl; exact tyB.sl; exact rfl; apply wq_val; intro _ hw_; apply opv_bin; exact rfl; exact rfl; exact bin_lss; exact rfl; apply wq_val; intro _ hw_; apply opv_move; exact rfl; exact rfl; apply wq_take; exact rfl; exact rfl; exact rfl; refine bT ?_; (with_reducible assumption); apply wq_val; intro _ hw_; apply opv_move; exact rfl; exact rfl; apply wq_take; exact rfl; exact rfl; exact rfl; refine bT ?_; (with_reducible assumption); apply wq_val; intro _ hw_; apply opv_move; exact rfl; exact rfl; apply wq_take; exact rfl; exact rfl; exact rfl; refine bT ?_; (with_reducible assumption); apply wq_val; intro _ hw_; apply opv_len; exact rfl; exact tyB.sl; exact rfl; apply wq_take; exact rfl; exact rfl; exact rfl; refine bT ?_; (with_reducible assumption); apply wq_val; intro _ hw_; apply opv_bin; exact rfl; exact rfl; exact bin_lss; exact rfl; apply wq_val; intro _ hw_; apply opv_pickT; exact rfl; refine bT ?_; (with_reducible assumption); exact rfl; exact rfl; apply wq_val; intro _ hw_; apply opv_move; exact rfl; exact rfl; apply wq_take; exact rfl; exact rfl; exact rfl; refine bT ?_; (with_reducible assumption); apply wq_val; intro _ hw_; apply opv_move; exact rfl; exact rfl; apply wq_take; exact rfl; exact rfl; exact rfl; refine bT ?_; (with_reducible assumption); apply wq_val; intro _ hw_; apply opv_move; exact rfl; exact rfl; apply wq_byTK (T := tyB) (hr := hr) (hb := hx); exact rfl; exact rfl; exact rfl; refine bT ?_; (with_reducible assumption); exact rfl; exact rfl; exact rfl; exact rfl; refine bT ?_; (with_reducible assumption); exact rfl; exact rfl; exact rfl; exact rfl; exact rfl; intro _; apply wq_take; exact rfl; exact rfl; exact rfl; refine bT ?_; (with_reducible assumption); apply wq_val; intro _ hw_; apply opv_move; exact rfl; exact rfl; apply wq_take; exact rfl; exact rfl; exact rfl; refine bT ?_; (with_reducible assumption); apply wq_val; intro _ hw_; apply opv_move; exact rfl; exact rfl; apply wq_byTK (T := tyB) (hr := hs) (hb := hy); exact rfl; exact rfl; exact rfl; refine bT ?_; (with_reducible assumption); exact rfl; exact rfl; exact rfl; exact rfl; refine bT ?_; (with_reducible assumption); exact rfl; exact rfl; exact rfl; exact rfl; exact rfl; intro _; apply wq_take; exact rfl; exact rfl; exact rfl; refine bT ?_; (with_reducible assumption); apply wq_val; intro _ hw_; apply opv_bin; exact rfl; exact rfl; exact bin_eql; exact rfl; apply wq_val; intro _ hw_; apply opv_pickT; exact rfl; refine bT ?_; (with_reducible assumption); exact rfl; exact rfl; refine wq_nil fun w1 hw1 => ?_
          skip
          exact we_cut _ ⟨false, rfl, hb.trans (hw1.mono hb.size), hst⟩ ⟨rfl, rfl, rfl, congrArg (fun b => some (Value.bool b)) (decide_eq_false h3'), trivial⟩
      · have h1' : (k : Int) < (xs.length : Int) := by omega
        have h2' : ¬ (k : Int) < (ys.length : Int) := by omega
        refine wc_drawB mixed (by kernel_rfl) ?_
        apply wq_val; intro _ hw_; apply opv_move; exact rfl; exact rfl; apply wq_val; intro _ hw_; apply opv_move; exact rfl; exact rfl; apply wq_val; intro _ hw_; apply opv_len; exact rfl; exact tyB.sl; exact rfl; apply wq_val; intro _ hw_; apply opv_bin; exact rfl; exact rfl; exact bin_lss; exact rfl; apply wq_val; intro _ hw_; apply opv_move; exact rfl; exact rfl; apply wq_take; exact rfl; exact rfl; exact rfl; refine bT ?_; (with_reducible assumption); apply wq_val; intro _ hw_; apply opv_move; exact rfl; exact rfl; apply wq_take; exact rfl; exact rfl; exact rfl; refine bT ?_; (with_reducible assumption); apply wq_val; intro _ hw_; apply opv_move; exact rfl; exact rfl; apply wq_take; exact rfl; exact rfl; exact rfl; refine bT ?_; (with_reducible assumption); apply wq_val; intro _ hw_; apply opv_len; exact rfl; exact tyB.sl; exact rfl; apply wq_take; exact rfl; exact rfl; exact rfl; refine bT ?_; (with_reducible assumption); apply wq_val; intro _ hw_; apply opv_bin; exact rfl; exact rfl; exact bin_lss; exact rfl; apply wq_val; intro _ hw_; apply opv_pickT; exact rfl; refine bT ?_; (with_reducible assumption); exact rfl; exact rfl; apply wq_val; intro _ hw_; apply opv_move; exact rfl; exact rfl; apply wq_skip; exact rfl; exact rfl; exact rfl; refine bFn ?_; (with_reducible assumption); exact rfl; apply wq_skip; exact rfl; exact rfl; exact rfl; refine bFn ?_; (with_reducible assumption); exact rfl; apply wq_skip; exact rfl; exact rfl; exact rfl; refine bFn ?_; (with_reducible assumption); exact rfl; apply wq_skip; exact rfl; exact rfl; exact rfl; refine bFn ?_; (with_reducible assumption); exact rfl; apply wq_skip; exact rfl; exact rfl; exact rfl; refine bFn ?_; (with_reducible assumption); exact rfl; apply wq_skip; exact rfl; exact rfl; exact rfl; refine bFn ?_; (with_reducible assumption); exact rfl; apply wq_skip; exact rfl; exact rfl; exact rfl; refine bFn ?_; (with_reducible assumption); exact rfl; apply wq_skip; exact rfl; exact rfl; exact rfl; refine bFn ?_; (with_reducible assumption); exact rfl; apply wq_skip; exact rfl; exact rfl; exact rfl; refine bFn ?_; (with_reducible assumption); exact rfl; apply wq_val; intro _ hw_; apply opv_pickF; exact rfl; refine bF ?_; (with_reducible assumption); exact rfl; exact rfl; refine wq_nil fun w1 hw1 => ?_
        skip
        exact we_cut _ ⟨false, rfl, hb.trans (hw1.mono hb.size), comN_end (.inr (by omega))⟩ ⟨rfl, rfl, rfl, rfl, trivial⟩
    · have h1' : ¬ (k : Int) < (xs.length : Int) := by omega
      refine wc_drawB mixed (by kernel_rfl) ?_
      apply wq_val; intro _ hw_; apply opv_move; exact rfl; exact rfl; apply wq_val; intro _ hw_; apply opv_move; exact rfl; exact rfl; apply wq_val; intro _ hw_; apply opv_len; exact rfl; exact tyB.sl; exact rfl; apply wq_val; intro _ hw_; apply opv_bin; exact rfl; exact rfl; exact bin_lss; exact rfl; apply wq_val; intro _ hw_; apply opv_move; exact rfl; exact rfl; apply wq_skip; exact rfl; exact rfl; exact rfl; refine bFn ?_; (with_reducible assumption); exact rfl; apply wq_skip; exact rfl; exact rfl; exact rfl; refine bFn ?_; (with_reducible assumption); exact rfl; apply wq_skip; exact rfl; exact rfl; exact rfl; refine bFn ?_; (with_reducible assumption); exact rfl; apply wq_skip; exact rfl; exact rfl; exact rfl; refine bFn ?_; (with_reducible assumption); exact rfl; apply wq_val; intro _ hw_; apply opv_pickF; exact rfl; refine bF ?_; (with_reducible assumption); exact rfl; exact rfl; apply wq_val; intro _ hw_; apply opv_move; exact rfl; exact rfl; apply wq_skip; exact rfl; exact rfl; exact rfl; exact bR2; exact rfl; apply wq_skip; exact rfl; exact rfl; exact rfl; exact bR2; exact rfl; apply wq_skip; exact rfl; exact rfl; exact rfl; exact bR2; exact rfl; apply wq_skip; exact rfl; exact rfl; exact rfl; exact bR2; exact rfl; apply wq_skip; exact rfl; exact rfl; exact rfl; exact bR2; exact rfl; apply wq_skip; exact rfl; exact rfl; exact rfl; exact bR2; exact rfl; apply wq_skip; exact rfl; exact rfl; exact rfl; exact bR2; exact rfl; apply wq_skip; exact rfl; exact rfl; exact rfl; exact bR2; exact rfl; apply wq_skip; exact rfl; exact rfl; exact rfl; exact bR2; exact rfl; apply wq_val; intro _ hw_; apply opv_pickF; exact rfl; exact rfl; exact rfl; exact rfl; refine wq_nil fun w1 hw1 => ?_
      skip
      exact we_cut _ ⟨false, rfl, hb.trans (hw1.mono hb.size), comN_end (.inl (by omega))⟩ ⟨rfl, rfl, rfl, rfl, trivial⟩
  rintro _ w2 ⟨t, rfl, hb2, ht⟩
  cases t with
  | true =>
    obtain ⟨h1, h2⟩ := ht
    refine we_seq ?_; apply wc_condTb; exact rfl; exact rfl; refine wc_skip ?_; refine we_seq ?_; refine wc_block ?_; refine wc_region ?_; refine wl_mv rfl rfl ?_; apply wl_val; apply opv_bin; exact rfl; exact rfl; exact bin_add64 (by omega); exact rfl; refine wl_as rfl rfl ?_; refine wl_nil ?_; refine we_block_norm ?_
    exact we_loop _ (xs.length - (k + 1)) ⟨k + 1, rfl, by omega, by rw [hc, h1]; omega, hb2, rfl⟩ (by omega) ⟨rfl, rfl, by simp [lookT], trivial⟩
  | false =>
    have h0 : comN xs ys = k := by rw [hc, show comN (xs.drop k) (ys.drop k) = 0 from ht]; rfl
    refine we_seq ?_; apply wc_condFb; exact rfl; exact rfl; refine wc_exit ?_; refine we_seq_exit ?_; refine we_loop_exit ?_; refine we_block_exit ?_; refine we_seq ?_; refine wc_sr ?_; refine wl_mv rfl rfl ?_; refine wl_as rfl rfl ?_; refine wl_ns ?_; refine wc_ret ?_
    exact we_ret1 rfl rfl ⟨_, rfl, by rw [h0], hb2⟩
end Go.Proofs.YtpnckagibkdcpaaDoor


/-
  Walks over the reference's sealed records.
-/
namespace Go.Proofs.YtpnckagibkdcpaaDoor
open Go.RowKit

theorem OwB.of {w : World} {base n c : Nat} {A : Option Addr} {vs : List Value} {ys : List UInt8} (h : Ow w base 5 A n c vs) (hn : ys.length = n) (hv : bvs ys = vs) : OwB w base A c ys := by subst hn hv; exact h
/-- Bytes and an error are handed back. -/
def RetS (w : World) (x : List UInt8 × Nat) (v : Value) (w' : World) : Prop :=
  ∃ (A : Option Addr) (c : Nat), v = .tuple #[.slice A x.1.length c, .int .i64 (x.2 : Int)] ∧ OwB w' w.heap.size A c x.1 ∧ Below w.heap.size w w'
theorem numB_lt4' {l : List UInt8} {k : Nat} (h : k ≤ 4) : numB (l.take k) < 4294967296 := by
  have h1 := numB_lt (l.take k)
  have h2 : 256 ^ (l.take k).length ≤ 256 ^ 4 := Nat.pow_le_pow_right (by decide) (by simp; omega)
  exact Nat.lt_of_lt_of_le h1 h2
theorem sealB_ok {l : List UInt8} (h : l.length ≤ 1048576) : sealB l = (crcRec l, 0) := by rw [sealB, if_neg (by omega)]
end Go.Proofs.YtpnckagibkdcpaaDoor
