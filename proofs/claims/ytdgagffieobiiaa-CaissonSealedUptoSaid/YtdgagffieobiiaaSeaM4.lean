/-
  The texts of this proof, joined: I0, ArgR.
-/
import Derived.Test.YtdgagffieobiiaaSeaM3
import Derived.Test.YtdgagffieobiiaaSeaM1
import Derived.Test.YtdgagffieobiiaaSeaM2

/-
  The walk over CaissonSealed.
-/
namespace Go.Proofs.Ytdgagffieobiiaa
open Go.RowKit

abbrev nmX : List UInt8 := [120]
structure SeF (d : Dk) (all : List (List UInt8)) (sy : Nat) : Prop where
  ok : DkOk d
  fs : d.fs = [(nmX, ⟨recs all, (recs (all.take sy)).length⟩)]
  room : d.room = 1073741824
  each : ∀ x ∈ all, x.length ≤ 1048576
  sy : sy ≤ all.length
def SeI (w : World) (g n c : Nat) (A : Option Addr) (rs : List (List UInt8)) (K : Option Addr) (kl ck : Nat) : FL → World → Nat → Prop := fun L wr m =>
  ∃ (i sy : Nat) (Aa : Option Addr) (ca : Nat) (vs : List Value) (all : List (List UInt8)) (d : Dk), L = [(0, .slice A rs.length c), (2, .slice K kl ck), (7, .pointer (some ⟨g, 0, none⟩)), (8, .slice Aa all.length ca), (9, .int .i64 (sy : Int)), (39, .slice A rs.length c), (40, .int .i64 (rs.length : Int)), (41, .int .i64 (i : Int))] ∧ i ≤ rs.length ∧
    St NoB w wr [.ow 30 Aa all.length ca vs, .ck (elC w vs all), .ck (dkC g d)] ∧ SeF d all sy ∧ d.dead = false ∧ all.length + all.flatten.length ≤ (rs.take i).length + (rs.take i).flatten.length ∧ m = rs.length - i
def SeJ (w : World) (g n c : Nat) (A : Option Addr) (rs : List (List UInt8)) (K : Option Addr) (kl ck : Nat) : FL → World → Prop := fun L wr =>
  ∃ (sy : Nat) (Aa : Option Addr) (ca : Nat) (vs : List Value) (all : List (List UInt8)) (d : Dk), L = [(0, .slice A rs.length c), (2, .slice K kl ck), (7, .pointer (some ⟨g, 0, none⟩)), (8, .slice Aa all.length ca), (9, .int .i64 (sy : Int))] ∧
    St NoB w wr [.ow 30 Aa all.length ca vs, .ck (elC w vs all), .ck (dkC g d)] ∧ SeF d all sy ∧ all.length + all.flatten.length ≤ rs.length + rs.flatten.length
theorem SeF.len {d : Dk} {all : List (List UInt8)} {sy : Nat} (h : SeF d all sy) : (recs all).length = 8 * all.length + all.flatten.length := recs_len all
theorem SeF.app {d : Dk} {all : List (List UInt8)} {sy : Nat} {r : List UInt8} (h : SeF d all sy) (hd : d.dead = false) (hr : r.length ≤ 1048576) (hl : all.length + all.flatten.length ≤ 2097152) :
    SeF (appD d nmX (crcRec r)).1 (all ++ [r]) sy ∧ ((appD d nmX (crcRec r)).2 = 0 ∧ (appD d nmX (crcRec r)).1.dead = false ∨ (appD d nmX (crcRec r)).2 = 9 ∧ (appD d nmX (crcRec r)).1.dead = true) := by
  have hb : (recs all).length + (crcRec r).length ≤ d.room := by rw [h.len, crcRec_length, h.room]; omega
  obtain ⟨h1, h2, h3⟩ := app_one (b := crcRec r) h.fs hd hb
  refine ⟨⟨app_ok h.ok h.fs hd hb, ?_, by rw [h2]; exact h.room, ?_, by rw [List.length_append]; exact Nat.le_add_right_of_le h.sy⟩, h3⟩
  · rw [h1, recs_append, List.take_append_of_le_length h.sy]
    simp [recs]
  · intro x hx
    rcases List.mem_append.1 hx with hx | hx
    · exact h.each x hx
    · rw [List.mem_singleton] at hx; subst hx; exact hr
theorem SeF.sync {d : Dk} {all : List (List UInt8)} {sy : Nat} (h : SeF d all sy) (hd : d.dead = false) :
    (syncD d nmX).2 = 0 ∧ (syncD d nmX).1.dead = false ∧ SeF (syncD d nmX).1 all all.length ∨ (syncD d nmX).2 = 9 ∧ SeF (syncD d nmX).1 all sy := by
  obtain ⟨h1, h2⟩ := sync_one h.fs hd
  have hok := sync_ok h.ok h.fs hd
  rcases h2 with ⟨k1, k2, k3⟩ | ⟨k1, k3⟩
  · exact .inl ⟨k1, k2, hok, by rw [k3, List.take_length], by rw [h1]; exact h.room, h.each, Nat.le_refl _⟩
  · exact .inr ⟨k1, hok, k3, by rw [h1]; exact h.room, h.each, h.sy⟩
def SeK (w : World) (g c : Nat) (A : Option Addr) (rs : List (List UInt8)) : FL → World → Nat → Prop := fun L wr m =>
  ∃ (i sf : Nat) (E : Option Addr) (ce : Nat) (vl : List Value) (l : List (List UInt8)) (d : Dk), L = [(7, .pointer (some ⟨g, 0, none⟩)), (16, .slice E l.length ce), (97, .slice A rs.length c), (98, .int .i64 (rs.length : Int)), (99, .int .i64 (i : Int))] ∧ i ≤ rs.length ∧
    St NoB w wr [.ck (dkC g d), .ow 30 E l.length ce vl, .ck (elC w vl l)] ∧ d.fs = [(nmX, ⟨recs l, sf⟩)] ∧ sf ≤ (recs l).length ∧ d.dead = false ∧ d.armed = false ∧ d.room = 1073741824 ∧ d.left = 0 ∧ (∀ x ∈ l, x.length ≤ 1048576) ∧
    l.length + l.flatten.length ≤ 1048576 + ((rs.take i).length + (rs.take i).flatten.length) ∧ m = rs.length - i
theorem quiet_ok {d : Dk} {l : List (List UInt8)} {sf : Nat} (f : d.fs = [(nmX, ⟨recs l, sf⟩)]) (h1 : sf ≤ (recs l).length) (h2 : d.armed = false) (h3 : d.room = 1073741824) (h4 : d.left = 0) (h5 : (recs l).length ≤ 1073741824) : DkOk d :=
  ⟨by intro p hp; rw [f, List.mem_singleton] at hp; subst hp; exact h1, by rw [h3]; decide, by rw [f, h3]; simpa [used] using h5, by rw [h4]; decide, by rw [h4]; decide, by rw [h2]; simp⟩
theorem wc_cutB {P : Program} {N : Nat} {Q : Exit → Act → World → Prop} {L : FL} {w : World} {c : Code} {id : Nat} (J : FL → World → Prop) (hx : WC P N c (Exit.inBlock id (CutQ N J Q)) L w) (hy : ∀ L w, J L w → WE N Q .normal L w) : WC P N c (Exit.inBlock id Q) L w := fun a ha =>
  wp_mono (hx a ha) fun e a' w' h => by
    cases e with
    | normal => obtain ⟨L', hJ, ha'⟩ := h; exact hy L' w' hJ a' ha'
    | exit id' =>
      simp only [Exit.inBlock] at h ⊢
      split at h <;> rename_i hi
      · rw [if_pos hi]; obtain ⟨L', hJ, ha'⟩ := h; exact hy L' w' hJ a' ha'
      · rw [if_neg hi]; exact h
    | _ => exact h
theorem bin_rem2 {P : Program} {t : TypeId} {a : Nat} : BinV P .rem t (.int .i64 (a : Int)) (.int .i64 2) (.int .i64 ((a % 2 : Nat) : Int)) := bin_rem (b := 2) (by decide)
theorem crc_known : crcOf [49, 50, 51, 52, 53, 54, 55, 56, 57] = 3421780262 := by decide +kernel
set_option maxHeartbeats 4000000 in
theorem caissonSealed_walk {A K : Option Addr} {n c m ck : Nat} {rs : List (List UInt8)} {keeps : List Int} {arm : Int} {w : World} (R1 : RdBB w A rs) (hn : rs.length = n) (_hc : rs.length ≤ c) (hl : rs.flatten.length + rs.length ≤ 1048576)
    (ha : -9223372036854775808 ≤ arm ∧ arm ≤ 9223372036854775807) (hk : Rd w K keeps.length (keeps.map fun k => .int .i64 k)) (hm : keeps.length = m) (hkl : keeps.length ≤ 1048576) :
    CallsV Try.prog 3 #[.slice A n c, .int .i64 arm, .slice K m ck] w (RetTrue w) := by
  subst hn hm
  have hs := St.init w
  have hmax : maxLen = 9223372036854775807 := rfl
  refine calls_in (N := _) Try.func3 rfl Try.ntmps3 rfl ?_; show WC _ _ _ _ _ _
  refine wc_sr ?_; refine wl_as rfl rfl ?_; refine wl_ns ?_; refine wc_sr ?_
  refine wl_call ok_disk_New (new_any 1073741824 w) ⟨rfl, trivial⟩ rfl ?_
  rintro _ _ ⟨g, rfl, hsx⟩
  replace hs := hs.call hsx
  clear hsx
  refine wl_as rfl rfl ?_; refine wl_ns ?_; refine wc_seq ?_; refine wc_sr ?_; refine wl_mv rfl rfl ?_
  have hok0 : DkOk ⟨[], 1073741824, false, 0, false⟩ := ⟨by simp, by decide, by simp [used], by decide, by decide, by simp⟩
  obtain ⟨S2, hS2, _, hM, _, hB⟩ := St.lend (H1 := [.ck (dkC g ⟨[], 1073741824, false, 0, false⟩)]) (H2 := []) hs
  refine wl_call ok_disk_Disk_Append (append_any (n := nmX) (b := []) (cb := 0) hS2 hok0 (fun w' _ => Rd.nil _ _) (by decide) (by decide)) ⟨rfl, rfl, rfl, trivial⟩ rfl ?_
  rintro _ w1 ⟨rfl, hsx⟩
  replace hs := hB _ _ hsx
  clear hB hS2 hsx hM
  have hap : appD ⟨[], 1073741824, false, 0, false⟩ nmX [] = (⟨[(nmX, ⟨[], 0⟩)], 1073741824, false, 0, false⟩, 0) := by rfl
  rw [hap] at hs ⊢
  dsimp only [List.append_nil] at hs ⊢
  refine wl_bin rfl rfl bin_neq rfl ?_; refine wl_mv rfl rfl ?_; apply wl_take; exact rfl; exact rfl; exact rfl; refine bF ?_; omega
  refine ws_bs (vs := bvs [49, 50, 51, 52, 53, 54, 55, 56, 57]) hs tyB ⟨rfl, rfl, rfl, rfl, rfl, rfl, rfl, rfl, rfl, rfl, rfl, rfl, rfl, rfl, rfl, rfl, rfl, rfl, rfl, rfl, rfl, rfl, rfl, rfl, rfl, rfl, rfl, trivial⟩ rfl (by decide) rfl ?_
  clear hs; intro B w2 hs
  apply wl_take; exact rfl; exact rfl; exact rfl; refine bF ?_; omega
  refine ws_convD (xs := [49, 50, 51, 52, 53, 54, 55, 56, 57]) hs 0 rfl rfl tyB Try.underlying5 (by decide) rfl ?_
  clear hs; intro w3 hs; dsimp only [setC] at hs
  apply wl_take; exact rfl; exact rfl; exact rfl; refine bF ?_; omega
  refine wl_bs (vs := [.slice B 9 9]) tyBB ⟨rfl, rfl, rfl, trivial⟩ rfl (by decide) rfl fun R w4 o_ hbx _ => ?_
  replace hs := hs.below hbx
  have rB : RdB w4 B [49, 50, 51, 52, 53, 54, 55, 56, 57] := by
    obtain ⟨T, hc, _⟩ := hs.get 0 rfl
    obtain ⟨A', c', h1, h2, h3, _⟩ := hc
    simp only [List.cons.injEq, Value.slice.injEq, and_true] at h1
    obtain ⟨rfl, _, rfl⟩ := h1
    exact h3
  apply wl_take; exact rfl; exact rfl; exact rfl; refine bF ?_; omega
  refine wl_call ok_crc_Sum (sum_any (RdBB.one (r := [49, 50, 51, 52, 53, 54, 55, 56, 57]) o_.rd rB (by decide)) rfl (by simp [hmax]) (by simp [hmax])) ⟨rfl, trivial⟩ rfl ?_
  rintro _ w5 ⟨rfl, hb5⟩
  rw [show crcOf ([[49, 50, 51, 52, 53, 54, 55, 56, 57]] : List (List UInt8)).flatten = 3421780262 from crc_known]
  replace hs := (hs.below hb5).drop 0 rfl
  dsimp only [delC] at hs
  clear rB hbx o_ hb5
  apply wl_take; exact rfl; exact rfl; exact rfl; refine bF ?_; omega; refine wl_bin rfl rfl bin_neq rfl ?_; apply wl_val; apply opv_pickF; exact rfl; refine bF ?_; omega; exact rfl; exact rfl; refine wl_ns ?_; apply wc_condFb; exact rfl; exact rfl; refine wc_skip ?_; refine we_seq ?_; refine wc_seq ?_; refine wc_sr ?_; refine wl_mv rfl rfl ?_; refine wl_bin rfl rfl bin_geq rfl ?_; refine wl_ns ?_
  refine wc_cutE (fun L w' => ∃ d : Dk, L = [(0, .slice A rs.length c), (2, .slice K keeps.length ck), (7, .pointer (some ⟨g, 0, none⟩))] ∧ St NoB w w' [.ck (dkC g d)] ∧ DkOk d ∧ d.fs = [(nmX, ⟨[], 0⟩)] ∧ d.room = 1073741824 ∧ d.dead = false) ?_ ?_
  · refine wc_cond rfl (fun h1 => ?_) (fun h1 => ?_)
    · refine wc_region ?_; refine wl_mv rfl rfl ?_; refine wl_mv rfl rfl ?_
      obtain ⟨S2, hS2, _, hM, _, hB⟩ := St.lend (H1 := [.ck (dkC g ⟨[(nmX, ⟨[], 0⟩)], 1073741824, false, 0, false⟩)]) (H2 := []) hs
      refine wl_call ok_disk_Disk_Arm (arm_any (k := arm) hS2) ⟨rfl, rfl, trivial⟩ rfl ?_
      rintro _ _ ⟨rfl, hsx⟩
      replace hs := hB _ _ hsx
      refine wl_nil ?_
      exact we_cut _ ⟨_, rfl, hs, ⟨by simp, by show 1073741824 ≤ 1099511627776; decide, by simp [used], ha.1, ha.2, fun _ => h1⟩, rfl, rfl, rfl⟩ ⟨rfl, rfl, rfl, trivial⟩
    · refine wc_skip ?_
      exact we_cut _ ⟨_, rfl, hs, ⟨by simp, by decide, by simp [used], by decide, by decide, by simp⟩, rfl, rfl, rfl⟩ ⟨rfl, rfl, rfl, trivial⟩
  clear hs
  rintro _ w6 ⟨d, rfl, hs, hok, hfs, hroom, hdead⟩
  replace hs := hs.bbNil
  refine we_seq ?_; refine wc_sr ?_; refine wl_as rfl rfl ?_; refine wl_ns ?_; refine wc_sr ?_; refine wl_as rfl rfl ?_; refine wl_ns ?_; refine wc_seq ?_; refine wc_sr ?_; refine wl_mv rfl rfl ?_; apply wl_val; apply opv_len; exact rfl; exact tyBB.sl; exact rfl; refine wl_mv rfl rfl ?_; refine wl_ns ?_; refine wc_block ?_
  refine wc_cutB (SeJ w g rs.length c A rs K keeps.length ck) ?_ ?_
  · refine wc_loop (SeI w g rs.length c A rs K keeps.length ck) [(0, .slice A rs.length c), (2, .slice K keeps.length ck), (7, .pointer (some ⟨g, 0, none⟩)), (8, .slice none 0 0), (9, .int .i64 (0 : Nat)), (39, .slice A rs.length c), (40, .int .i64 (rs.length : Int)), (41, .int .i64 (0 : Nat))] rs.length
      ⟨0, 0, none, 0, [], [], d, rfl, Nat.zero_le _, hs, ⟨hok, by rw [hfs]; rfl, hroom, by simp, Nat.le_refl _⟩, hdead, by simp, rfl⟩ ⟨rfl, rfl, rfl, rfl, rfl, rfl, rfl, rfl, trivial⟩ ?_
    clear hs hok hfs hroom hdead
    rintro _ w7 k ⟨i, sy, Aa, ca, vs, all, d, rfl, hi, hs, hF, hdead, hlen, rfl⟩
    refine wc_sr ?_; refine wl_bin rfl rfl bin_lss rfl ?_; refine wl_ns ?_; refine wc_seq ?_
    refine wc_cond rfl (fun h1 => ?_) (fun h1 => ?_)
    · obtain ⟨r, hr⟩ : ∃ r, rs[i]? = some r := ⟨_, List.getElem?_eq_getElem (by omega)⟩
      obtain ⟨vr, A', c', q1, q2, q3, q4⟩ := R1.at hr
      have htk := take_getR hr
      have hle : (rs.take (i + 1)).length + (rs.take (i + 1)).flatten.length ≤ rs.length + rs.flatten.length := by
        have e := congrArg List.flatten (List.take_append_drop (i + 1) rs)
        have e2 := congrArg List.length e
        rw [List.flatten_append, List.length_append] at e2
        have := List.length_take_le (i + 1) rs
        have := List.length_take (i := i + 1) (l := rs)
        omega
      have hlen2 : (all ++ [r]).length + (all ++ [r]).flatten.length ≤ (rs.take (i + 1)).length + (rs.take (i + 1)).flatten.length := by
        rw [htk]; simp only [List.length_append, List.flatten_append, List.length_cons, List.length_nil, List.flatten_cons, List.flatten_nil, List.append_nil] at hlen ⊢; omega
      have hrl : r.length ≤ 1048576 := by
        simp only [List.length_append, List.flatten_append, List.length_cons, List.length_nil, List.flatten_cons, List.flatten_nil, List.append_nil] at hlen2; omega
      have hal : all.length + all.flatten.length ≤ 2097152 := by
        simp only [List.length_append, List.flatten_append, List.length_cons, List.length_nil, List.flatten_cons, List.flatten_nil, List.append_nil] at hlen2; omega
      refine wc_skip ?_; refine we_seq ?_; refine wc_seq ?_; refine wc_block ?_; refine wc_sr ?_; refine wl_mv rfl rfl ?_
      refine wl_val (opv_idxR (kk := i) (u := .slice A' r.length c') tyBB rfl rfl (q1.below hs.bel) rfl q2) rfl ?_
      refine wl_val (opv_loadR (kk := i) (u := .slice A' r.length c') tyBB rfl (q1.below hs.bel) q2) rfl ?_
      refine wl_as rfl rfl ?_; refine wl_as rfl rfl ?_; refine wl_ns ?_; refine wc_sr ?_; refine wl_mv rfl rfl ?_
      refine wl_bs (vs := [.slice A' r.length c']) tyBB ⟨rfl, rfl, rfl, trivial⟩ rfl (by decide) rfl fun R w8 o_ hbx _ => ?_
      replace hs := hs.below hbx
      clear hbx
      skip
      refine wl_call ok_crc_Seal (seal_any (RdBB.one (r := r) o_.rd (q3.below hs.bel) q4) rfl (Nat.le_refl 1) (by simp; omega) (by simp [hmax])) ⟨rfl, trivial⟩ rfl ?_
      rintro _ w9 ⟨D, cd, rfl, hnw, hbx⟩
      rw [show ([r] : List (List UInt8)).flatten = r by simp, sealB_ok hrl] at hnw ⊢
      replace hs := hs.newR hbx hnw
      have hcd := hnw.cap
      clear hnw hbx o_
      dsimp only at hs hcd ⊢
      refine wl_mv rfl rfl ?_; apply wl_val; apply opv_extract; exact rfl; exact rfl; exact rfl; apply wl_val; apply opv_extract; exact rfl; exact rfl; exact rfl; refine wl_as rfl rfl ?_; refine wl_as rfl rfl ?_; refine wl_ns ?_; refine wc_seq ?_; refine wc_sr ?_; refine wl_mv rfl rfl ?_; refine wl_bin rfl rfl bin_neq rfl ?_; refine wl_ns ?_; apply wc_condFb; exact rfl; exact rfl; refine wc_skip ?_; refine we_seq ?_; refine wc_sr ?_; refine wl_mv rfl rfl ?_; refine wl_mv rfl rfl ?_
      refine ws_push (vs := [.slice A' r.length c']) hs 1 rfl rfl tyBB ⟨rfl, rfl, rfl, trivial⟩ rfl (by decide) rfl (by omega) (by omega) rfl rfl ?_
      clear hs; intro _ Ab cb w10 hs; dsimp only [setC] at hs
      replace hs := hs.front 2 rfl
      dsimp only [delC] at hs
      replace hs := hs.bbAdd q3 q4
      rw [show all.length + 1 = (all ++ [r]).length by simp] at hs ⊢
      refine wl_as rfl rfl ?_; refine wl_ns ?_; refine wc_seq ?_; refine wc_sr ?_; refine wl_mv rfl rfl ?_; refine wl_mv rfl rfl ?_
      replace hs := hs.front 3 rfl
      dsimp only [delC] at hs
      obtain ⟨S2, hS2, _, hM, hH, hB⟩ := St.lend (H1 := [.ck (dkC g d)]) (H2 := [_, _, _]) hs
      refine wl_call ok_disk_Disk_Append (append_any (n := nmX) (b := crcRec r) (cb := cd) hS2 hF.ok (fun w' hw => (hH w' hw).rdc (i := 1) rfl) hcd (by rw [crcRec_length]; omega)) ⟨rfl, rfl, rfl, trivial⟩ rfl ?_
      rintro _ w11 ⟨rfl, hsx⟩
      replace hs := hB _ _ hsx
      clear hB hS2 hsx hM hH
      obtain ⟨hF2, hap⟩ := hF.app hdead hrl hal
      obtain ⟨q, hq⟩ : ∃ q, appD d nmX (crcRec r) = q := ⟨_, rfl⟩
      rw [hq] at hs hF2 hap ⊢
      obtain ⟨d2, e2⟩ := q
      dsimp only [List.cons_append, List.nil_append] at hs hF2 hap ⊢
      replace hs := ((hs.drop 2 rfl).front 1 rfl).front 2 rfl
      dsimp only [delC] at hs
      rcases hap with ⟨rfl, hdd⟩ | ⟨rfl, hdd⟩
      · refine wl_bin rfl rfl bin_neq rfl ?_; refine wl_ns ?_; apply wc_condFb; exact rfl; exact rfl; refine wc_skip ?_; refine we_seq ?_; refine wc_sr ?_; refine wl_mv rfl rfl ?_; refine wl_bin rfl rfl bin_rem2 rfl ?_; refine wl_bin rfl rfl bin_eql rfl ?_; refine wl_ns ?_
        refine wc_cond rfl (fun h2 => ?_) (fun h2 => ?_)
        · refine wc_seq ?_; refine wc_sr ?_; refine wl_mv rfl rfl ?_
          replace hs := hs.front 2 rfl
          dsimp only [delC] at hs
          obtain ⟨S2, hS2, _, hM, hH, hB⟩ := St.lend (H1 := [.ck (dkC g d2)]) (H2 := [_, _]) hs
          refine wl_call ok_disk_Disk_Sync (sync_any (n := nmX) hS2 hF2.ok) ⟨rfl, rfl, trivial⟩ rfl ?_
          rintro _ w12 ⟨rfl, hsx⟩
          replace hs := hB _ _ hsx
          clear hB hS2 hsx hM hH
          have hsy := hF2.sync hdd
          obtain ⟨q, hq⟩ : ∃ q, syncD d2 nmX = q := ⟨_, rfl⟩
          rw [hq] at hs hsy ⊢
          obtain ⟨d3, e3⟩ := q
          dsimp only [List.cons_append, List.nil_append] at hs hsy ⊢
          replace hs := (hs.front 1 rfl).front 2 rfl
          dsimp only [delC] at hs
          replace hs := hs.front 1 rfl
          dsimp only [delC] at hs
          rcases hsy with ⟨rfl, hd3, hF3⟩ | ⟨rfl, hF3⟩
          · refine wl_bin rfl rfl bin_neq rfl ?_; refine wl_ns ?_; apply wc_condFb; exact rfl; exact rfl; refine wc_skip ?_; refine we_seq ?_; refine wc_region ?_; refine wl_mv rfl rfl ?_; apply wl_val; apply opv_len; exact rfl; exact tyBB.sl; exact rfl; refine wl_as rfl rfl ?_; refine wl_nil ?_; refine we_block_norm ?_; refine we_seq ?_; refine wc_region ?_; apply wl_val; apply opv_bin; exact rfl; exact rfl; exact bin_add64 (by omega); exact rfl; refine wl_mv rfl rfl ?_; refine wl_nil ?_
            exact we_loop _ (rs.length - (i + 1)) ⟨i + 1, (all ++ [r]).length, _, _, _, all ++ [r], d3, rfl, by omega, hs, hF3, hd3, hlen2, rfl⟩ (by omega) ⟨rfl, rfl, rfl, rfl, rfl, rfl, rfl, by rw [show ((i + 1 : Nat) : Int) = (i : Int) + 1 by omega]; rfl, trivial⟩
          · refine wl_bin rfl rfl bin_neq rfl ?_; refine wl_ns ?_; apply wc_condTb; exact rfl; exact rfl; refine wc_exit ?_; refine we_seq_exit ?_; apply we_block_pass; exact rfl; refine we_seq_exit ?_; refine we_loop_exit ?_; refine we_block_exit ?_
            exact we_cut _ ⟨sy, _, _, _, all ++ [r], d3, rfl, hs, hF3, by omega⟩ ⟨rfl, rfl, rfl, rfl, rfl, trivial⟩
        · refine wc_skip ?_; refine we_block_norm ?_; refine we_seq ?_; refine wc_region ?_; apply wl_val; apply opv_bin; exact rfl; exact rfl; exact bin_add64 (by omega); exact rfl; refine wl_mv rfl rfl ?_; refine wl_nil ?_
          exact we_loop _ (rs.length - (i + 1)) ⟨i + 1, sy, _, _, _, all ++ [r], d2, rfl, by omega, hs, hF2, hdd, hlen2, rfl⟩ (by omega) ⟨rfl, rfl, rfl, rfl, rfl, rfl, rfl, by rw [show ((i + 1 : Nat) : Int) = (i : Int) + 1 by omega]; rfl, trivial⟩
      · refine wl_bin rfl rfl bin_neq rfl ?_; refine wl_ns ?_; apply wc_condTb; exact rfl; exact rfl; refine wc_exit ?_; refine we_seq_exit ?_; apply we_block_pass; exact rfl; refine we_seq_exit ?_; refine we_loop_exit ?_; refine we_block_exit ?_
        exact we_cut _ ⟨sy, _, _, _, all ++ [r], d2, rfl, hs, hF2, by omega⟩ ⟨rfl, rfl, rfl, rfl, rfl, trivial⟩
    · obtain rfl : i = rs.length := by omega
      rw [List.take_length] at hlen
      refine wc_exit ?_; refine we_seq_exit ?_; refine we_loop_exit ?_; refine we_block_exit ?_
      exact we_cut _ ⟨sy, _, _, _, all, d, rfl, hs, hF, hlen⟩ ⟨rfl, rfl, rfl, rfl, rfl, trivial⟩
  · clear hs hok hfs hroom hdead
    rintro _ w7 ⟨sy, Aa, ca, vs, all, d, rfl, hs, hF, hal⟩
    have hsafe := hF.ok.safe (nmX, ⟨recs all, (recs (all.take sy)).length⟩) (by rw [hF.fs]; exact List.mem_cons_self)
    have hra := recs_len all
    refine we_seq ?_; refine wc_sr ?_; refine wl_mv rfl rfl ?_; refine wl_mv rfl rfl ?_
    replace hs := hs.front 2 rfl
    dsimp only [delC] at hs
    obtain ⟨S2, hS2, _, hM, hH, hB⟩ := St.lend (H1 := [.ck (dkC g d)]) (H2 := [_, _]) hs
    refine wl_call ok_disk_Disk_Crash (crash_any (keeps := keeps) hS2 hF.ok (by rw [hF.fs]; simp [hmax]) (by rw [hF.fs]; simp) (fun w' hw => hk.below (hM w' hw).below) hkl) ⟨rfl, rfl, trivial⟩ rfl ?_
    rintro _ w8 ⟨rfl, hsx⟩
    replace hs := hB _ _ hsx
    clear hB hS2 hsx hM hH
    obtain ⟨e, he1, he2, hcr⟩ := crash_one (n := nmX) (f := ⟨recs all, (recs (all.take sy)).length⟩) keeps hsafe
    dsimp only at he1 he2
    obtain ⟨d3, hd3⟩ : ∃ d3, crashK keeps d (sortN d.fs) = d3 := ⟨_, rfl⟩
    rw [hd3] at hs
    dsimp only [List.cons_append, List.nil_append] at hs
    have f3 : d3.fs = [(nmX, ⟨(recs all).take e, e⟩)] := by
      rw [← hd3]; show crashF keeps 0 (sortN d.fs) d.fs = _; rw [hF.fs, sortN_one]; exact hcr
    have dead3 : d3.dead = false := by rw [← hd3]; rfl
    have armed3 : d3.armed = false := by rw [← hd3]; rfl
    have room3 : d3.room = 1073741824 := by rw [← hd3]; exact hF.room
    have left3 : d3.left = 0 := by rw [← hd3]; rfl
    have htl : ((recs all).take e).length = e := by rw [List.length_take, Nat.min_eq_left he2]
    have hok3 : DkOk d3 := ⟨by intro p hp; rw [f3, List.mem_singleton] at hp; subst hp; show e ≤ _; rw [htl]; exact Nat.le_refl _, by rw [room3]; decide, by rw [f3, room3]; simp [used]; omega, by rw [left3]; decide, by rw [left3]; decide, by rw [armed3]; simp⟩
    clear hcr hd3
    obtain ⟨m, m1, m2, m3, m4⟩ := openAll_cut hF.each he2
    have hsm := cut_ge hF.sy he1 m4
    have hrd : readD d3 nmX = ((recs all).take e, 0) := by
      unfold readD; rw [if_neg (by rw [dead3]; decide), if_neg (by rw [(One.file f3).2.1]; decide), (One.file f3).1]
    refine wl_ns ?_; refine wc_sr ?_; refine wl_mv rfl rfl ?_
    refine wl_call ok_disk_Disk_Read (read_any (n := nmX) (hs.rdd 0 rfl) hok3) ⟨rfl, rfl, trivial⟩ rfl ?_
    rintro _ w9 ⟨D, cd, rfl, o_, hbx⟩
    rw [hrd] at o_ ⊢
    dsimp only at o_ ⊢
    have hcd := OwB.cap o_
    replace hs := hs.newO hbx o_ (Nat.le_refl _)
    clear hbx o_
    refine wl_mv rfl rfl ?_; apply wl_val; apply opv_extract; exact rfl; exact rfl; exact rfl; apply wl_val; apply opv_extract; exact rfl; exact rfl; exact rfl; refine wl_as rfl rfl ?_; refine wl_as rfl rfl ?_; refine wl_ns ?_; refine wc_sr ?_; refine wl_mv rfl rfl ?_
    refine wl_call ok_crc_OpenAll (openAll_any (hs.ow 0 rfl).rd rfl hcd (by omega)) ⟨rfl, trivial⟩ rfl ?_
    rintro _ w10 ⟨E, ce, rfl, ob, hbx⟩
    rw [m2] at ob ⊢
    dsimp only at ob ⊢
    obtain ⟨vl, hs⟩ := hs.bbNew hbx ob
    clear hbx ob
    have hft : (all.take m).flatten.length ≤ all.flatten.length := by
      have e2 := congrArg List.length (congrArg List.flatten (List.take_append_drop m all))
      rw [List.flatten_append, List.length_append] at e2; omega
    have hlt : (all.take m).length = m := by rw [List.length_take, Nat.min_eq_left m1]
    have hca := ow_capD (hs.ow 4 rfl)
    refine wl_mv rfl rfl ?_; apply wl_val; apply opv_extract; exact rfl; exact rfl; exact rfl; apply wl_val; apply opv_extract; exact rfl; exact rfl; exact rfl; refine wl_as rfl rfl ?_; refine wl_as rfl rfl ?_; refine wl_ns ?_; refine wc_seq ?_; refine wc_sr ?_; refine wl_mv rfl rfl ?_; refine wl_bin rfl rfl bin_neq rfl ?_; refine wl_mv rfl rfl ?_; apply wl_take; exact rfl; exact rfl; exact rfl; refine bF ?_; omega; refine wl_mv rfl rfl ?_; apply wl_take; exact rfl; exact rfl; exact rfl; refine bF ?_; omega; refine wl_mv rfl rfl ?_; apply wl_take; exact rfl; exact rfl; exact rfl; refine bF ?_; omega; refine wl_mv rfl rfl ?_; apply wl_take; exact rfl; exact rfl; exact rfl; refine bF ?_; omega
    refine wl_call ok_caissontop_begins (begins_any (n := (sy : Int)) (hs.bb 0 1 rfl rfl) (hs.bb 4 5 rfl rfl) (by omega) (by omega) (by omega) hca) ⟨rfl, rfl, rfl, trivial⟩ rfl ?_
    rintro _ w11 ⟨rfl, hbx⟩
    rw [show decide ((sy : Int) ≤ ((all.take m).length : Int) ∧ (all.take m).length ≤ all.length ∧ all.take m = all.take (all.take m).length) = true by rw [hlt]; simp [hsm, m1]]
    replace hs := (((hs.below hbx).drop 2 rfl).drop 3 rfl).drop 3 rfl
    dsimp only [delC] at hs
    clear hbx
    apply wl_take; exact rfl; exact rfl; exact rfl; refine bF ?_; omega; apply wl_val; apply opv_not; exact rfl; exact rfl; apply wl_val; apply opv_pickF; exact rfl; refine bF ?_; omega; exact rfl; exact rfl; refine wl_ns ?_; apply wc_condFb; exact rfl; exact Bool.not_true; refine wc_skip ?_; refine we_seq ?_; refine wc_seq ?_; refine wc_sr ?_; refine wl_mv rfl rfl ?_; refine wl_mv rfl rfl ?_
    replace hs := hs.front 2 rfl
    dsimp only [delC] at hs
    obtain ⟨S2, hS2, _, hM, hH, hB⟩ := St.lend (H1 := [.ck (dkC g d3)]) (H2 := [_, _]) hs
    refine wl_call ok_disk_Disk_Cut (cut_any (n := nmX) (k := (((recs (all.take m)).length : Nat) : Int)) hS2 hok3) ⟨rfl, rfl, rfl, trivial⟩ rfl ?_
    rintro _ w12 ⟨rfl, hsx⟩
    replace hs := hB _ _ hsx
    clear hB hS2 hsx hM hH
    have hcut := cut_one (k := (recs (all.take m)).length) f3 dead3 armed3 (by show _ ≤ ((recs all).take e).length; rw [htl]; exact m3)
    dsimp only at hcut
    rw [take_recs _ _ _ m3] at hcut
    rw [hcut] at hs ⊢
    dsimp only [List.cons_append, List.nil_append] at hs ⊢
    obtain ⟨d4, hd4⟩ : ∃ d4 : Dk, { d3 with fs := [(nmX, ⟨recs (all.take m), (recs (all.take m)).length⟩)] } = d4 := ⟨_, rfl⟩
    rw [hd4] at hs
    have f4 : d4.fs = [(nmX, ⟨recs (all.take m), (recs (all.take m)).length⟩)] := by rw [← hd4]
    have dead4 : d4.dead = false := by rw [← hd4]; exact dead3
    have armed4 : d4.armed = false := by rw [← hd4]; exact armed3
    have room4 : d4.room = 1073741824 := by rw [← hd4]; exact room3
    have left4 : d4.left = 0 := by rw [← hd4]; exact left3
    have each4 : ∀ x ∈ all.take m, x.length ≤ 1048576 := fun x hx => hF.each x (List.mem_of_mem_take hx)
    have tot4 : (all.take m).length + (all.take m).flatten.length ≤ 1048576 := by omega
    obtain ⟨l, hl4⟩ : ∃ l, all.take m = l := ⟨_, rfl⟩
    rw [hl4] at hs f4 each4 tot4 ⊢
    clear hd4 hcut f3 dead3 armed3 room3 left3 hok3 hrd hF m1 m2 m3 m4 hsm hlt hft htl he1 he2 hsafe hra hal hcd hca
    refine wl_bin rfl rfl bin_neq rfl ?_; refine wl_ns ?_; apply wc_condFb; exact rfl; exact rfl; refine wc_skip ?_; refine we_seq ?_; refine wc_seq ?_; refine wc_sr ?_; refine wl_mv rfl rfl ?_; apply wl_val; apply opv_len; exact rfl; exact tyBB.sl; exact rfl; refine wl_mv rfl rfl ?_; refine wl_ns ?_; refine wc_block ?_
    refine wc_loop (SeK w g c A rs) [(7, .pointer (some ⟨g, 0, none⟩)), (16, .slice E l.length ce), (97, .slice A rs.length c), (98, .int .i64 (rs.length : Int)), (99, .int .i64 (0 : Nat))] rs.length
      ⟨0, _, E, ce, vl, l, d4, rfl, Nat.zero_le _, hs, f4, Nat.le_refl _, dead4, armed4, room4, left4, each4, by simpa using tot4, rfl⟩ ⟨rfl, rfl, rfl, rfl, rfl, trivial⟩ ?_
    clear hs f4 dead4 armed4 room4 left4 each4 tot4 hl4
    rintro _ w7 k ⟨i, sf, E, ce, vs, l, d, rfl, hi, hs, f4, hsf, dead4, armed4, room4, left4, each4, hlen, rfl⟩
    have hra := recs_len l
    refine wc_sr ?_; refine wl_bin rfl rfl bin_lss rfl ?_; refine wl_ns ?_; refine wc_seq ?_
    refine wc_cond rfl (fun h1 => ?_) (fun h1 => ?_)
    · obtain ⟨r, hr⟩ : ∃ r, rs[i]? = some r := ⟨_, List.getElem?_eq_getElem (by omega)⟩
      obtain ⟨vr, A', c', q1, q2, q3, q4⟩ := R1.at hr
      have htk := take_getR hr
      have hle : (rs.take (i + 1)).length + (rs.take (i + 1)).flatten.length ≤ rs.length + rs.flatten.length := by
        have e := congrArg List.flatten (List.take_append_drop (i + 1) rs)
        have e2 := congrArg List.length e
        rw [List.flatten_append, List.length_append] at e2
        have := List.length_take_le (i + 1) rs
        omega
      have hle3 : (rs.take (i + 1)).length + (rs.take (i + 1)).flatten.length = (rs.take i).length + (rs.take i).flatten.length + (1 + r.length) := by
        rw [htk]; simp only [List.length_append, List.flatten_append, List.length_cons, List.length_nil, List.flatten_cons, List.flatten_nil, List.append_nil]; omega
      have hll : (l ++ [r]).length + (l ++ [r]).flatten.length = l.length + l.flatten.length + (1 + r.length) := by
        simp only [List.length_append, List.flatten_append, List.length_cons, List.length_nil, List.flatten_cons, List.flatten_nil, List.append_nil]; omega
      have hrl : r.length ≤ 1048576 := by omega
      have hok := quiet_ok f4 hsf armed4 room4 left4 (by omega)
      refine wc_skip ?_; refine we_seq ?_; refine wc_seq ?_; refine wc_block ?_; refine wc_sr ?_
      refine wl_val (opv_idxR (kk := i) (u := .slice A' r.length c') tyBB rfl rfl (q1.below hs.bel) rfl q2) rfl ?_
      refine wl_val (opv_loadR (kk := i) (u := .slice A' r.length c') tyBB rfl (q1.below hs.bel) q2) rfl ?_
      refine wl_as rfl rfl ?_; refine wl_ns ?_; refine wc_sr ?_; refine wl_mv rfl rfl ?_
      refine wl_bs (vs := [.slice A' r.length c']) tyBB ⟨rfl, rfl, rfl, trivial⟩ rfl (by decide) rfl fun R w8 o_ hbx _ => ?_
      replace hs := hs.below hbx
      clear hbx
      skip
      refine wl_call ok_crc_Seal (seal_any (RdBB.one (r := r) o_.rd (q3.below hs.bel) q4) rfl (Nat.le_refl 1) (by simp; omega) (by simp [hmax])) ⟨rfl, trivial⟩ rfl ?_
      rintro _ w9 ⟨D, cd, rfl, hnw, hbx⟩
      rw [show ([r] : List (List UInt8)).flatten = r by simp, sealB_ok hrl] at hnw ⊢
      replace hs := hs.newR hbx hnw
      have hcd := hnw.cap
      clear hnw hbx o_
      dsimp only at hs hcd ⊢
      refine wl_mv rfl rfl ?_; apply wl_val; apply opv_extract; exact rfl; exact rfl; exact rfl; apply wl_val; apply opv_extract; exact rfl; exact rfl; exact rfl; refine wl_as rfl rfl ?_; refine wl_as rfl rfl ?_; refine wl_ns ?_; refine wc_sr ?_; refine wl_mv rfl rfl ?_; refine wl_bin rfl rfl bin_eql rfl ?_; refine wl_ns ?_; apply wc_condTb; exact rfl; exact rfl; refine wc_sr ?_; refine wl_mv rfl rfl ?_; refine wl_mv rfl rfl ?_
      replace hs := hs.front 1 rfl
      dsimp only [delC] at hs
      obtain ⟨S2, hS2, _, hM, hH, hB⟩ := St.lend (H1 := [.ck (dkC g d)]) (H2 := [_, _, _]) hs
      refine wl_call ok_disk_Disk_Append (append_any (n := nmX) (b := crcRec r) (cb := cd) hS2 hok (fun w' hw => (hH w' hw).rdc (i := 0) rfl) hcd (by rw [crcRec_length]; omega)) ⟨rfl, rfl, rfl, trivial⟩ rfl ?_
      rintro _ w11 ⟨rfl, hsx⟩
      replace hs := hB _ _ hsx
      clear hB hS2 hsx hM hH
      have hap := app_quiet (b := crcRec r) f4 dead4 armed4 (by rw [room4, crcRec_length]; show (recs l).length + _ ≤ _; omega)
      rw [hap] at hs ⊢
      dsimp only [List.cons_append, List.nil_append] at hs ⊢
      rw [show recs l ++ crcRec r = recs (l ++ [r]) by rw [recs_append]; simp [recs]] at hs
      obtain ⟨d5, hd5⟩ : ∃ d5 : Dk, { d with fs := [(nmX, ⟨recs (l ++ [r]), sf⟩)] } = d5 := ⟨_, rfl⟩
      rw [hd5] at hs
      have hrr : (recs (l ++ [r])).length = (recs l).length + (crcRec r).length := by rw [recs_append, List.length_append]; simp [recs]
      have f5 : d5.fs = [(nmX, ⟨recs (l ++ [r]), sf⟩)] := by rw [← hd5]
      have dead5 : d5.dead = false := by rw [← hd5]; exact dead4
      have armed5 : d5.armed = false := by rw [← hd5]; exact armed4
      have room5 : d5.room = 1073741824 := by rw [← hd5]; exact room4
      have left5 : d5.left = 0 := by rw [← hd5]; exact left4
      clear hap
      replace hs := hs.drop 1 rfl
      dsimp only [delC] at hs
      refine wl_ns ?_; refine wc_region ?_; refine wl_mv rfl rfl ?_; refine wl_mv rfl rfl ?_
      refine ws_push (vs := [.slice A' r.length c']) hs 1 rfl rfl tyBB ⟨rfl, rfl, rfl, trivial⟩ rfl (by decide) rfl (by omega) (by omega) rfl rfl ?_
      clear hs; intro _ Ab cb w10 hs; dsimp only [setC] at hs
      replace hs := hs.front 2 rfl
      dsimp only [delC] at hs
      replace hs := hs.bbAdd q3 q4
      rw [show l.length + 1 = (l ++ [r]).length by simp] at hs ⊢
      replace hs := (hs.front 2 rfl).front 2 rfl
      dsimp only [delC] at hs
      refine wl_as rfl rfl ?_; refine wl_nil ?_; refine we_block_norm ?_; refine we_seq ?_; refine wc_region ?_; apply wl_val; apply opv_bin; exact rfl; exact rfl; exact bin_add64 (by omega); exact rfl; refine wl_mv rfl rfl ?_; refine wl_nil ?_
      exact we_loop _ (rs.length - (i + 1)) ⟨i + 1, sf, Ab, cb, _, l ++ [r], d5, rfl, by omega, hs, f5, by rw [hrr]; omega, dead5, armed5, room5, left5, (fun x hx => (List.mem_append.1 hx).elim (each4 x) fun hx => by rw [List.mem_singleton] at hx; subst hx; exact hrl), by omega, rfl⟩ (by omega)
        ⟨rfl, rfl, rfl, rfl, by rw [show ((i + 1 : Nat) : Int) = (i : Int) + 1 by omega]; rfl, trivial⟩
    · obtain rfl : i = rs.length := by omega
      rw [List.take_length] at hlen
      have hok := quiet_ok f4 hsf armed4 room4 left4 (by omega)
      have hrd : readD d nmX = (recs l, 0) := by
        unfold readD; rw [if_neg (by rw [dead4]; decide), if_neg (by rw [(One.file f4).2.1]; decide), (One.file f4).1]
      refine wc_exit ?_; refine we_seq_exit ?_; refine we_loop_exit ?_; refine we_block_exit ?_; refine we_seq ?_; refine wc_sr ?_; refine wl_mv rfl rfl ?_
      refine wl_call ok_disk_Disk_Read (read_any (n := nmX) (hs.rdd 0 rfl) hok) ⟨rfl, rfl, trivial⟩ rfl ?_
      rintro _ w9 ⟨D, cd, rfl, o_, hbx⟩
      rw [hrd] at o_ ⊢
      dsimp only at o_ ⊢
      have hcd := OwB.cap o_
      replace hs := hs.newO hbx o_ (Nat.le_refl _)
      clear hbx o_
      refine wl_mv rfl rfl ?_; apply wl_val; apply opv_extract; exact rfl; exact rfl; exact rfl; apply wl_val; apply opv_extract; exact rfl; exact rfl; exact rfl; refine wl_as rfl rfl ?_; refine wl_ns ?_; refine wc_sr ?_; refine wl_mv rfl rfl ?_
      refine wl_call ok_crc_OpenAll (openAll_any (hs.ow 0 rfl).rd rfl hcd (by omega)) ⟨rfl, trivial⟩ rfl ?_
      rintro _ w10 ⟨G, cg, rfl, ob, hbx⟩
      rw [openAll_recs each4] at ob ⊢
      dsimp only at ob ⊢
      obtain ⟨vl, hs⟩ := hs.bbNew hbx ob
      clear hbx ob
      refine wl_mv rfl rfl ?_; apply wl_val; apply opv_extract; exact rfl; exact rfl; exact rfl; apply wl_val; apply opv_extract; exact rfl; exact rfl; exact rfl; refine wl_as rfl rfl ?_; refine wl_as rfl rfl ?_; refine wl_ns ?_; refine wc_sr ?_; refine wl_mv rfl rfl ?_; refine wl_mv rfl rfl ?_
      refine wl_call ok_caissonref01_Equals (equals_any (hs.bb 0 1 rfl rfl) (hs.bb 4 5 rfl rfl) rfl rfl (by omega) (by omega)) ⟨rfl, rfl, trivial⟩ rfl ?_
      rintro _ w11 ⟨rfl, hbx⟩
      rw [show decide (l = l) = true by simp]
      replace hs := hs.below hbx
      refine wl_mv rfl rfl ?_; apply wl_take; exact rfl; exact rfl; exact rfl; exact rfl; refine wl_mv rfl rfl ?_; apply wl_take; exact rfl; exact rfl; exact rfl; exact rfl; refine wl_mv rfl rfl ?_; apply wl_take; exact rfl; exact rfl; exact rfl; exact rfl; apply wl_val; apply opv_len; exact rfl; exact tyB.sl; exact rfl; apply wl_take; exact rfl; exact rfl; exact rfl; exact rfl; refine wl_bin rfl rfl bin_eql rfl ?_; apply wl_val; apply opv_pickT; exact rfl; exact rfl; exact rfl; exact rfl; refine wl_as rfl rfl ?_; refine wl_ns ?_; refine wc_ret ?_
      exact we_ret1 rfl rfl ⟨_, rfl, by simp, hs.bel⟩
end Go.Proofs.Ytdgagffieobiiaa

/-
  How an argument that is a list of lists of bytes is read.
-/
namespace Go.Proofs.Ytdgagffieobiiaa
open Go.RowKit Go.ChangeShapes Go.WideShapes Go.ChangeAt Go.Deep

theorem bulk_row {H : Type} {k : IntKind} {A : Option Addr} {n : Nat} {zs : List Int} (hn : n ≤ zs.length) (h : A = none → n = 0) : n + 1 ≤ Rows.uptoBulk (intRow (H := H) k A n zs) := by
  cases A with
  | none => simp [intRow, Rows.uptoBulk, h rfl]
  | some a =>
    have h3 := bulk_len (H := H) (lits k (zs.take n))
    simp only [intRow, Rows.uptoBulk]
    simp [lits] at h3 ⊢
    omega
theorem bulk_sum {H : Type} (D : Nat → DataW H) (R : Nat → List UInt8) : ∀ (l : List Nat), (∀ r ∈ l, (R r).length + 1 ≤ Rows.uptoBulk (D r)) → (l.map R).flatten.length + l.length ≤ Rows.uptoBulkAll (l.map D)
  | [], _ => by simp [Rows.uptoBulkAll]
  | r :: l, h => by
    have h1 := h r (by simp)
    have h2 := bulk_sum D R l (fun x hx => h x (by simp [hx]))
    simp only [List.map_cons, List.flatten_cons, List.length_append, List.length_cons, Rows.uptoBulkAll]
    omega

section
variable {H : Type} {enc : TypeId × Value → H} {W : World} {a0 : Option Addr} {len0 cap0 : Nat} {d0 : DataW H} {p0 : List MemPlace}

theorem arg_rows (h0 : DataW.Trod enc Try.prog W 0 (fun _ => true) true 22 (.slice a0 len0 cap0) d0 p0) :
    ∃ rows : List (List UInt8), rows.length = len0 ∧ RdBB W a0 rows ∧ len0 ≤ cap0 ∧ cap0 ≤ maxLen ∧ rows.flatten.length + rows.length + 1 ≤ Rows.uptoBulk d0 ∧ True := by
  obtain ⟨fuel, hf⟩ := h0
  rcases open_int_rows Try.underlying22 Try.underlying30 Try.underlying5 (by kernel_rfl) (by kernel_rfl) hf with ⟨hcs, hx⟩ | ⟨a, len, cap, A, L, C, Z, hcs, _, hl, hm, hx, hrow⟩
  · simp [Value.cells] at hcs
    obtain ⟨rfl, rfl, rfl⟩ := hcs
    injection hx with hd _
    subst hd
    exact ⟨[], rfl, ⟨[], Rd.nil _ _, by simp⟩, by omega, by simp [maxLen], by simp [Rows.uptoBulk], trivial⟩
  · simp [Value.cells] at hcs
    obtain ⟨rfl, rfl, rfl⟩ := hcs
    injection hx with hd _
    have each : ∀ r, r < cap0 → ∃ xs : List UInt8, xs.length = L r ∧ RdB W (A r) xs := by
      intro r hr
      obtain ⟨_, h1, _, h3, h4, h5, h6⟩ := hrow r hr
      cases hA : A r with
      | none => exact ⟨[], by have := h5 hA; simp; omega, Rd.nil _ _⟩
      | some x => exact bytes_of (n := L r) (by omega) (fun i hi => (h6 x hA).2 i (by omega)) h4
    have hch : ∃ R : Nat → List UInt8, ∀ r, r < cap0 → (R r).length = L r ∧ RdB W (A r) (R r) :=
      ⟨fun r => if h : r < cap0 then Classical.choose (each r h) else [], fun r hr => by
        simp only [dif_pos hr]; exact Classical.choose_spec (each r hr)⟩
    obtain ⟨R, hR⟩ := hch
    refine ⟨(List.range len0).map R, by simp, ⟨(List.range len0).map fun r => .slice (A r) (L r) (C r), ⟨by simp, fun h0 => ?_⟩, fun i q hi => ?_⟩, hl, hm, ?_, trivial⟩
    · simp only [List.length_map, List.length_range] at h0
      obtain ⟨b, o, spot⟩ := a
      have hc0 := (hrow 0 (by omega)).1
      have hspot : spot = none := by simpa [Addr.add] using World.cell?_spot hc0
      subst hspot
      refine ⟨b, o, rfl, World.block_lt_of_cell? W _ (by simpa [Addr.add] using hc0), fun j u hu => ?_⟩
      simp only [List.getElem?_map] at hu
      by_cases hj : j < len0
      · rw [List.getElem?_range hj] at hu
        simp only [Option.map_some, Option.some.injEq] at hu
        have h1 := (hrow j (by omega)).1
        rw [Addr.add_lit] at h1
        rw [h1, hu]
      · rw [List.getElem?_eq_none (by simp; omega)] at hu; simp at hu
    · simp only [List.getElem?_map] at hi
      by_cases hj : i < len0
      · rw [List.getElem?_range hj] at hi
        simp only [Option.map_some, Option.some.injEq] at hi
        subst hi
        obtain ⟨e1, e2⟩ := hR i (by omega)
        exact ⟨A i, C i, by rw [List.getElem?_map, List.getElem?_range hj, e1]; rfl, e2, by rw [e1]; exact (hrow i (by omega)).2.1⟩
      · rw [List.getElem?_eq_none (by simp; omega)] at hi; simp at hi
    · rw [hd]
      simp only [Rows.uptoBulk]
      have := bulk_sum (fun r => intRow (H := H) .u8 (A r) (L r) (Z r)) R (List.range len0) (fun r hr => by
        have hr' := List.mem_range.1 hr
        obtain ⟨_, h1, _, h3, h4, h5, h6⟩ := hrow r (by omega)
        rw [(hR r (by omega)).1]
        exact bulk_row (by omega) (fun h => by have := h5 h; omega))
      simp only [List.length_map, List.length_range] at this ⊢
      omega
end
end Go.Proofs.Ytdgagffieobiiaa
