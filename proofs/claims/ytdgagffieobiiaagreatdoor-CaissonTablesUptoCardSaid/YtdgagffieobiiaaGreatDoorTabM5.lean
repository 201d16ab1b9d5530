/-
  The texts of this proof, joined: I7, Pf, Pg, I6, Va, Wc, Wd, Vb, Vc, Vd, Ve, Vf, Vg, I8, I9, J0, J1, J2, T2, T3, Ba, Bb.
-/
import Derived.Test.YtdgagffieobiiaaGreatDoorTabM4
import Derived.Test.YtdgagffieobiiaaGreatDoorTabM2
import Derived.Lib.Hide
import Derived.Test.YtdgagffieobiiaaGreatDoorTabM1
import Derived.Laws.CopyOwn
import Derived.Lib.MakeNoZero
import Derived.Laws.Externs
import Derived.Test.YtdgagffieobiiaaGreatDoorTabM3

/-
  Walks over disks: Crash.
-/
namespace Go.Proofs.YtdgagffieobiiaaGreatDoor
open Go.RowKit

theorem tyIn : Row1 Tryz.prog 85 3 (.int .i64 0) 8 := ⟨Tryz.underlying85, by kernel_rfl, rfl, by rw [Tryz.underlying3]⟩
theorem tyNm : Row1 Tryz.prog 50 9 (.string .empty) 16 := ⟨Tryz.underlying50, by kernel_rfl, rfl, by rw [Tryz.underlying9]⟩
section
variable {M : BS} {w0 w : World} {H : List Cd} {g m clk c : Nat} {d : Dk} {n : List UInt8} {f : Fl} {A : Option Addr} {xs : List FE}
/-- A file's place has been written, its new bytes stand beside. -/
theorem St.putC (hI : DkI d.fs xs clk) (hs : St M w0 w (.blk g 75 (dkV d (some m)) :: .ck (mpC m (mput (xs.map FE.me) clk n (.agg (flV f A c).toArray)).1 (mput (xs.map FE.me) clk n (.agg (flV f A c).toArray)).2) :: .ck (flC xs) :: .ow 5 A f.data.length c (bvs f.data) :: H)) :
    St M w0 w (.ck (dkC g (putD d n f)) :: H) := by
  rcases fnd_split n xs 0 with ⟨h1, h2, h3⟩ | ⟨X, x, Y, rfl, h2, h3, h4, h5⟩
  · rw [hI.fs] at h2
    rw [mput_new h1 A c f] at hs
    replace hs := (hs.front 3 rfl).front 3 rfl
    dsimp only [delC] at hs
    replace hs := St.flAdd (x := ⟨n, A, c, f, clk⟩) hs
    replace hs := (hs.front 2 rfl).front 2 rfl
    dsimp only [delC] at hs
    exact St.cls (d := putD d n f) (m := m) hs (hI.new h3 h2 A c f)
  · rw [mput_old h4 h2 A c f] at hs
    replace hs := (hs.front 3 rfl).front 3 rfl
    dsimp only [delC] at hs
    replace hs := St.flSet (y := ⟨n, A, c, f, x.born⟩) hs
    replace hs := (hs.front 2 rfl).front 2 rfl
    dsimp only [delC] at hs
    exact St.cls (d := putD d n f) (m := m) hs (hI.old' h2 h3 A c f)
end
theorem DkOk.put {d : Dk} (h : DkOk d) {n : List UInt8} {f : Fl} (hf : f.safe ≤ f.data.length) (hl : f.data.length ≤ (fileD d n).data.length) : DkOk (putD d n f) := by
  refine ⟨?_, h.room, ?_, h.left⟩
  · intro p hp
    rcases put_mem hp with rfl | hp
    · exact hf
    · exact h.safe p hp
  · have := used_put (n := n) (f := f) d.fs
    have h2 := h.used
    unfold fileD at hl
    show Go.Proofs.YtdgagffieobiiaaGreatDoor.used (putF n f d.fs) ≤ d.room
    omega
def crashK (keeps : List Int) (d : Dk) (ns : List (List UInt8)) : Dk := ⟨crashF keeps 0 ns d.fs, d.room, false, 0, false⟩
def CraI (w : World) (S : BS) (g : Nat) (d : Dk) (K : Option Addr) (ck : Nat) (keeps : List Int) (ns : List (List UInt8)) (A : Option Addr) (c : Nat) : FL → World → Nat → Prop := fun L wr m =>
  ∃ (i j : Nat) (d2 : Dk), L = [(0, .pointer (some ⟨g, 0, none⟩)), (1, .slice K keeps.length ck), (4, .int .i64 (i : Int)), (12, .slice A ns.length c), (13, .int .i64 (ns.length : Int)), (14, .int .i64 (j : Int))] ∧ j ≤ ns.length ∧ i ≤ j ∧
    St S w wr [.ck (dkC g d2), .ow 9 A ns.length c (ns.map str)] ∧ DkOk d2 ∧ d2.room = d.room ∧ crashF keeps i (ns.drop j) d2.fs = crashF keeps 0 ns d.fs ∧ m = ns.length - j
set_option maxHeartbeats 2000000 in
theorem crash_any {S : BS} {g ck : Nat} {d : Dk} {K : Option Addr} {keeps : List Int} {w : World} (h0 : Sat w [.ck (dkC g d)] S) (hok : DkOk d) (hn : ∀ p ∈ d.fs, p.1.length ≤ maxLen) (hl : d.fs.length ≤ 1048576)
    (hk : ∀ w', Mod S w w' → Rd w' K keeps.length (keeps.map fun k => .int .i64 k)) (hkl : keeps.length ≤ 1048576) :
    CallsV Tryz.prog 15 #[.pointer (some ⟨g, 0, none⟩), .slice K keeps.length ck] w fun v w' => v = .tuple #[] ∧ St S w w' [.ck (dkC g (crashK keeps d (sortN d.fs)))] := by
  have hs := St.start h0
  have hmax : maxLen = 9223372036854775807 := rfl
  refine calls_in (N := _) Tryz.func15 rfl Tryz.ntmps15 rfl ?_; show WC _ _ _ _ _ _
  refine wc_sr ?_; refine wl_as rfl rfl ?_; refine wl_ns ?_; refine wc_seq ?_; refine wc_sr ?_; refine wl_mv rfl rfl ?_
  refine wl_call ok_disk_Disk_names (names_any (hs.rdd 0 rfl) hn hl) ⟨rfl, trivial⟩ rfl ?_; rintro _ _ ⟨A, c, rfl, o_, hbx⟩; replace hs := hs.newO hbx o_ (Nat.le_refl _); try dsimp only [List.cons_append, List.nil_append, setC, delC] at hs
  clear hbx o_
  obtain ⟨ns, hns⟩ : ∃ ns, sortN d.fs = ns := ⟨_, rfl⟩
  have hnl : d.fs.length = ns.length := by rw [← hns, sortN, List.length_mergeSort, List.length_map]
  rw [hns] at hs ⊢
  rw [hnl] at hs hl ⊢
  replace hs := hs.front 1 rfl
  dsimp only [delC] at hs
  apply wl_val; apply opv_len; exact rfl; exact tyNm.sl; exact rfl; refine wl_mv rfl rfl ?_; refine wl_ns ?_; refine wc_block ?_
  refine wc_loop (CraI w S g d K ck keeps ns A c) [(0, .pointer (some ⟨g, 0, none⟩)), (1, .slice K keeps.length ck), (4, .int .i64 (0 : Nat)), (12, .slice A ns.length c), (13, .int .i64 (ns.length : Int)), (14, .int .i64 (0 : Nat))] ns.length
    ⟨0, 0, d, rfl, Nat.zero_le _, Nat.le_refl _, hs, hok, rfl, rfl, rfl⟩ ⟨rfl, rfl, rfl, rfl, rfl, rfl, trivial⟩ ?_
  clear hs hok hns
  rintro _ w1 k ⟨i, j, d2, rfl, hj, hij, hs, hok, hrm, hcr, rfl⟩
  refine wc_sr ?_; refine wl_bin rfl rfl bin_lss rfl ?_; refine wl_ns ?_; refine wc_seq ?_
  refine wc_cond rfl (fun h1 => ?_) (fun h1 => ?_)
  · obtain ⟨nm, hnm⟩ : ∃ nm, ns[j]? = some nm := ⟨_, List.getElem?_eq_getElem (by omega)⟩
    have hdr : ns.drop j = nm :: ns.drop (j + 1) := by obtain ⟨h, e⟩ := List.getElem?_eq_some_iff.1 hnm; rw [List.drop_eq_getElem_cons h, e]
    rw [hdr] at hcr
    have hsl := fileD_safe hok.safe nm
    have hfl := fileD_le d2 nm
    have hur := hok.used
    have hro := hok.room
    refine wc_skip ?_; refine we_seq ?_; refine wc_seq ?_; refine wc_block ?_; refine wc_sr ?_
    refine wl_val (opv_idxR (kk := j) (u := str nm) tyNm rfl rfl (hs.ow 1 rfl).rd rfl (by rw [List.getElem?_map, hnm]; rfl)) rfl ?_
    refine wl_val (opv_loadR (kk := j) (u := str nm) tyNm rfl (hs.ow 1 rfl).rd (by rw [List.getElem?_map, hnm]; rfl)) rfl ?_
    obtain ⟨bb, B, cb, a1, rA, hA, hlk⟩ := (hs.rdd 0 rfl).look nm
    unfold dkV at a1
    refine wl_as rfl rfl ?_; refine wl_ns ?_; refine wc_sr ?_; refine wl_mv rfl rfl ?_; apply wl_val; apply opv_nilOk; exact rfl; exact rfl; apply wl_val; apply opv_fa; exact fa_sD (by decide); exact rfl; exact rfl; apply wl_val; apply opv_ldX; exact rfl; assumption; exact d1_map; exact rfl; exact rfl; refine wl_mv rfl rfl ?_; apply wl_val; apply hlk; exact rfl; exact rfl; exact rfl
    refine wl_var (cs := flV (fileD d2 nm) B cb) zeroF sF rfl (fun _ => rfl) (by first | rfl | simp [Value.oneCell']) rfl fun g7 _ hg a7 hbx => ?_
    replace hs := hs.newA hbx hg a7
    replace rA := rA.below hbx
    clear a1 hlk a7 hbx
    unfold flV at hs
    have hst : crashF keeps i (nm :: ns.drop (j + 1)) d2.fs = if (fileD d2 nm).data.length - (fileD d2 nm).safe = 0 then crashF keeps i (ns.drop (j + 1)) d2.fs else
      crashF keeps (i + 1) (ns.drop (j + 1)) (putF nm ⟨(fileD d2 nm).data.take ((fileD d2 nm).safe + keepN keeps i ((fileD d2 nm).data.length - (fileD d2 nm).safe)), (fileD d2 nm).safe + keepN keeps i ((fileD d2 nm).data.length - (fileD d2 nm).safe)⟩ d2.fs) := rfl
    rw [hst] at hcr
    clear hst
    obtain ⟨F, hF⟩ : ∃ F, fileD d2 nm = F := ⟨_, rfl⟩
    rw [hF] at hcr hs rA hsl hfl hA ⊢
    obtain ⟨t, ht⟩ : ∃ t, F.data.length - F.safe = t := ⟨_, rfl⟩
    rw [ht] at hcr
    refine wl_cutE (fun L w' => L = [(0, .pointer (some ⟨g, 0, none⟩)), (1, .slice K keeps.length ck), (4, .int .i64 (i : Int)), (12, .slice A ns.length c), (13, .int .i64 (ns.length : Int)), (14, .int .i64 (j : Int)), (6, str nm), (7, .pointer (some ⟨g7, 0, none⟩))] ∧ St S w w' [.blk g7 88 [.slice B F.data.length cb, .int .i64 (F.safe : Int)], .ck (dkC g d2), .ow 9 A ns.length c (ns.map str)] ∧ RdB w' B F.data) ?_ ?_
    · refine wl_nil ?_
      exact we_cut _ ⟨rfl, hs, rA⟩ ⟨rfl, rfl, rfl, rfl, rfl, rfl, rfl, rfl, trivial⟩
    clear hs rA
    rintro _ w2 ⟨rfl, hs, rA⟩
    refine we_seq ?_; refine wc_sr ?_; apply wl_val; apply opv_fa; exact fa_sF (by decide); exact rfl; exact rfl; apply wl_val; apply opv_ldX; exact rfl; exact hs.ar 0 rfl; exact d1_by; exact rfl; exact rfl; apply wl_val; apply opv_len; exact rfl; exact tyB.sl; exact rfl; apply wl_val; apply opv_fa; exact fa_sF (by decide); exact rfl; exact rfl; apply wl_val; apply opv_ldX; exact rfl; exact hs.ar 0 rfl; exact d1_int; exact rfl; exact rfl; apply wl_val; apply opv_bin; exact rfl; exact rfl; exact bin_sub64 (by omega); exact rfl; refine wl_as rfl rfl ?_; refine wl_ns ?_; refine wc_seq ?_; refine wc_sr ?_; refine wl_mv rfl rfl ?_; refine wl_bin rfl rfl bin_eql rfl ?_; refine wl_ns ?_
    rw [show (F.data.length : Int) - (F.safe : Int) = (t : Int) by omega]
    skip
    by_cases ht0 : t = 0
    · rw [if_pos ht0] at hcr
      apply wc_decT; exact rfl; omega; refine wc_exit ?_; refine we_seq_exit ?_; refine we_block_exit ?_; refine we_seq ?_; refine wc_region ?_; apply wl_val; apply opv_bin; exact rfl; exact rfl; exact bin_add64 (by omega); exact rfl; refine wl_mv rfl rfl ?_; refine wl_nil ?_
      exact we_loop _ (ns.length - (j + 1)) ⟨i, j + 1, d2, rfl, by omega, by omega, hs.drop 0 rfl, hok, hrm, hcr, rfl⟩ (by omega) ⟨rfl, rfl, rfl, rfl, rfl, by simp [lookT], trivial⟩
    · rw [if_neg ht0] at hcr
      apply wc_decF; exact rfl; omega; refine wc_skip ?_; refine we_seq ?_; refine wc_sr ?_; refine wl_as rfl rfl ?_; refine wl_ns ?_; refine wc_seq ?_; refine wc_sr ?_; refine wl_mv rfl rfl ?_; apply wl_val; apply opv_len; exact rfl; exact tyIn.sl; exact rfl; refine wl_bin rfl rfl bin_gtr rfl ?_; refine wl_ns ?_
      obtain ⟨kp, hkp⟩ : ∃ kp, keepN keeps i t = kp := ⟨_, rfl⟩
      rw [hkp] at hcr
      have hkt : kp ≤ t := by
        rw [← hkp]; unfold keepN
        split
        · exact Nat.lt_succ_iff.1 (Nat.mod_lt _ (Nat.succ_pos _))
        · omega
      refine wc_cutE (fun L w' => L = [(0, .pointer (some ⟨g, 0, none⟩)), (1, .slice K keeps.length ck), (4, .int .i64 (i : Int)), (12, .slice A ns.length c), (13, .int .i64 (ns.length : Int)), (14, .int .i64 (j : Int)), (6, str nm), (7, .pointer (some ⟨g7, 0, none⟩)), (9, .int .i64 (kp : Int))] ∧ w' = w2) ?_ ?_
      · refine wc_cond rfl (fun h2 => ?_) (fun h2 => ?_)
        · obtain ⟨k0, hk0⟩ : ∃ k0, keeps[i % keeps.length]? = some k0 := ⟨_, List.getElem?_eq_getElem (Nat.mod_lt _ (by omega))⟩
          have hmx : max (0 : Int) k0 = ((max 0 k0).toNat : Int) := by omega
          have hkp2 : (max 0 k0).toNat % (t + 1) = kp := by rw [← hkp, keepN, hk0]
          refine wc_region ?_; refine wl_mv rfl rfl ?_; refine wl_mv rfl rfl ?_; refine wl_mv rfl rfl ?_; apply wl_val; apply opv_len; exact rfl; exact tyIn.sl; exact rfl; apply wl_val; apply opv_bin; exact rfl; exact rfl; exact (bin_rem (by omega)); exact rfl
          refine wl_val (opv_idxR (kk := i % keeps.length) (u := .int .i64 k0) tyIn rfl rfl (hk _ hs.1) rfl (by rw [List.getElem?_map, hk0]; rfl)) rfl ?_
          refine wl_val (opv_loadR (kk := i % keeps.length) (u := .int .i64 k0) tyIn rfl (hk _ hs.1) (by rw [List.getElem?_map, hk0]; rfl)) rfl ?_
          refine wl_val (opv_max rfl rfl) rfl ?_
          rw [hmx]
          refine wl_mv rfl rfl ?_; apply wl_val; apply opv_bin; exact rfl; exact rfl; exact bin_add64 (by omega); exact rfl; apply wl_val; apply opv_bin; exact rfl; exact rfl; exact (bin_rem (by omega)); exact rfl; refine wl_as rfl rfl ?_; refine wl_nil ?_
          rw [hkp2]
          skip
          exact we_cut _ ⟨rfl, rfl⟩ ⟨rfl, rfl, rfl, rfl, rfl, rfl, rfl, rfl, rfl, trivial⟩
        · have hk0 : kp = 0 := by
            rw [← hkp, keepN, List.getElem?_eq_none (by omega)]
          rw [hk0]
          refine wc_skip ?_
          exact we_cut _ ⟨rfl, rfl⟩ ⟨rfl, rfl, rfl, rfl, rfl, rfl, rfl, rfl, rfl, trivial⟩
      rintro _ w2 ⟨rfl, rfl⟩
      refine we_seq ?_; refine wc_sr ?_; refine wl_mv rfl rfl ?_; apply wl_val; apply opv_bin; exact rfl; exact rfl; exact bin_add64 (by omega); exact rfl; refine wl_as rfl rfl ?_; refine wl_ns ?_; refine wc_sr ?_; apply wl_val; apply opv_fa; exact fa_sF (by decide); exact rfl; exact rfl; apply wl_val; apply opv_ldX; exact rfl; exact hs.ar 0 rfl; exact d1_int; exact rfl; exact rfl; refine wl_mv rfl rfl ?_; apply wl_val; apply opv_bin; exact rfl; exact rfl; exact bin_add64 (by omega); exact rfl; refine wl_as rfl rfl ?_; refine wl_ns ?_
      have hle : (F.data.take (F.safe + kp)).length = F.safe + kp := by rw [List.length_take, Nat.min_eq_left (by omega)]
      replace hs := hs.front 1 rfl
      dsimp only [delC] at hs
      rcases hs.opn with ⟨hf0, _⟩ | ⟨m, xs, clk, hI, hs1⟩
      · rw [fileD, hf0] at hF
        subst hF
        simp [getF] at ht
        omega
      replace hs := hs1
      clear hs1
      unfold dkV at hs
      refine wc_heldM 12 mixed fun w_ hS => ?_
      apply wm_take 0; exact rfl; intro _ hw_; apply opv_move; exact rfl; exact rfl; kernel_rfl; exact hS; apply wm_take 1; exact rfl; intro _ hw_; apply opv_nilOk; exact rfl; exact rfl; kernel_rfl; exact hS; apply wm_take 2; exact rfl; intro _ hw_; apply opv_fa; exact fa_sD (by decide); exact rfl; exact rfl; kernel_rfl; exact hS; apply wm_take 3; exact rfl; intro _ hw_; apply opv_ldX; exact rfl; exact Ar.bel (hs.ar 0 rfl) hw_; exact d1_map; exact rfl; exact rfl; kernel_rfl; exact hS; apply wm_take 4; exact rfl; intro _ hw_; apply opv_move; exact rfl; exact rfl; kernel_rfl; exact hS; apply wm_take 5; exact rfl; intro _ hw_; apply opv_fa; exact fa_sF (by decide); exact rfl; exact rfl; kernel_rfl; exact hS; apply wm_take 6; exact rfl; intro _ hw_; apply opv_ldX; exact rfl; exact Ar.bel (hs.ar 3 rfl) hw_; exact d1_by; exact rfl; exact rfl; kernel_rfl; exact hS; apply wm_take 7; exact rfl; intro _ hw_; apply opv_move; exact rfl; exact rfl; kernel_rfl; exact hS; apply wm_take 10; exact rfl; intro _ hw_; apply opv_move; exact rfl; exact rfl; kernel_rfl; exact hS
      refine wm_take 8 rfl (fun _ _ => opv_slice (l := 0) (h := F.safe + kp) tyB rfl rfl ⟨_, rfl⟩ (Nat.zero_le _) (by omega)) rfl (by kernel_rfl) hS ?_
      refine wm_one 9 (by kernel_rfl) rfl ?_; dsimp only [List.getElem_toArray, List.getElem_cons_succ, List.getElem_cons_zero]
      refine wl_call ok_bytes_Clone (clone_any ((rA.below hS).cut' (j := F.safe + kp) (by omega) hA) (by rw [hle]; rfl) (by omega)) ⟨rfl, trivial⟩ rfl ?_
      rintro _ w5 ⟨X, cx, rfl, o_, hbx⟩
      replace hs := (hs.below hS).newO hbx o_ (Nat.le_refl _)
      replace hS := hS.trans (hbx.mono hS.size)
      clear hbx o_
      refine wl_nil ?_
      refine we_heldM (fun _ => hS) ?_
      refine wm_take 11 rfl (fun _ _ => opv_build (vs := [(0, .slice X (F.data.take (F.safe + kp)).length cx), (1, .int .i64 ((F.safe + kp : Nat) : Int))]) (cs := flV ⟨F.data.take (F.safe + kp), F.safe + kp⟩ X cx) ⟨rfl, rfl, rfl, by rw [show ((F.safe + kp : Nat) : Int) = (F.safe : Int) + (kp : Int) by omega]; rfl, trivial⟩ (by kernel_rfl)) rfl (by kernel_rfl) hS ?_
      refine wm_one 12 (by kernel_rfl) rfl ?_; dsimp only [List.getElem_toArray, List.getElem_cons_succ, List.getElem_cons_zero]
      refine ws_mput hs 2 rfl tyDM tyStrD rfl rfl rfl ?_
      clear hs; intro _ hs; dsimp only [setC] at hs
      refine wl_nil ?_
      refine we_heldM (fun h => absurd h (by decide)) ?_
      refine wm_done (by kernel_rfl) ?_
      replace hs := ((((hs.drop 4 rfl).front 0 rfl).front 3 rfl).front 3 rfl).front 3 rfl
      dsimp only [delC] at hs
      replace hs := St.putC (n := nm) (f := ⟨F.data.take (F.safe + kp), F.safe + kp⟩) hI hs
      have hok3 := hok.put (n := nm) (f := ⟨F.data.take (F.safe + kp), F.safe + kp⟩) (by show F.safe + kp ≤ _; rw [hle]; omega) (by show (F.data.take (F.safe + kp)).length ≤ _; rw [hle, hF]; omega)
      refine we_block_norm ?_; refine we_seq ?_; refine wc_region ?_; apply wl_val; apply opv_bin; exact rfl; exact rfl; exact bin_add64 (by omega); exact rfl; refine wl_mv rfl rfl ?_; refine wl_nil ?_
      exact we_loop _ (ns.length - (j + 1)) ⟨i + 1, j + 1, putD d2 nm ⟨F.data.take (F.safe + kp), F.safe + kp⟩, rfl, by omega, by omega, hs, hok3, hrm, hcr, rfl⟩ (by omega) ⟨rfl, rfl, by rw [show ((i + 1 : Nat) : Int) = (i : Int) + 1 by omega]; rfl, rfl, rfl, by rw [show ((j + 1 : Nat) : Int) = (j : Int) + 1 by omega]; rfl, trivial⟩
  · obtain rfl : j = ns.length := by omega
    rw [List.drop_length] at hcr
    have hfs : d2.fs = crashF keeps 0 ns d.fs := hcr
    replace hs := hs.drop 1 rfl
    dsimp only [delC] at hs
    rcases hs.opn with ⟨hf0, hs1⟩ | ⟨m, xs, clk, hI, hs1⟩
    · replace hs := hs1
      clear hs1
      unfold dkV at hs
      rw [hrm] at hs
      refine wc_exit ?_; refine we_seq_exit ?_; refine we_loop_exit ?_; refine we_block_exit ?_; refine we_seq ?_; refine wc_region ?_; refine wl_mv rfl rfl ?_; refine wl_mv rfl rfl ?_; refine wl_mv rfl rfl ?_; apply wl_val; apply opv_nilOk; exact rfl; exact rfl; apply wl_val; apply opv_fa; exact fa_sD (by decide); exact rfl; exact rfl; apply ws_st hs 0; exact rfl; exact rfl; exact d1_bool; exact rfl; exact rfl; exact rfl; clear hs; intro _ hs; dsimp only [setC, List.set] at hs; apply wl_val; apply opv_nilOk; exact rfl; exact rfl; apply wl_val; apply opv_fa; exact fa_sD (by decide); exact rfl; exact rfl; apply ws_st hs 0; exact rfl; exact rfl; exact d1_bool; exact rfl; exact rfl; exact rfl; clear hs; intro _ hs; dsimp only [setC, List.set] at hs; apply wl_val; apply opv_nilOk; exact rfl; exact rfl; apply wl_val; apply opv_fa; exact fa_sD (by decide); exact rfl; exact rfl; apply ws_st hs 0; exact rfl; exact rfl; exact d1_int; exact rfl; exact rfl; exact rfl; clear hs; intro _ hs; dsimp only [setC, List.set] at hs; refine wl_nil ?_
      exact we_end0 rfl ⟨_, rfl, rfl, St.cls0 (d := crashK keeps d ns) hs (hfs.symm.trans hf0)⟩
    · replace hs := hs1
      clear hs1
      unfold dkV at hs
      rw [hrm] at hs
      rw [hfs] at hI
      refine wc_exit ?_; refine we_seq_exit ?_; refine we_loop_exit ?_; refine we_block_exit ?_; refine we_seq ?_; refine wc_region ?_; refine wl_mv rfl rfl ?_; refine wl_mv rfl rfl ?_; refine wl_mv rfl rfl ?_; apply wl_val; apply opv_nilOk; exact rfl; exact rfl; apply wl_val; apply opv_fa; exact fa_sD (by decide); exact rfl; exact rfl; apply ws_st hs 0; exact rfl; exact rfl; exact d1_bool; exact rfl; exact rfl; exact rfl; clear hs; intro _ hs; dsimp only [setC, List.set] at hs; apply wl_val; apply opv_nilOk; exact rfl; exact rfl; apply wl_val; apply opv_fa; exact fa_sD (by decide); exact rfl; exact rfl; apply ws_st hs 0; exact rfl; exact rfl; exact d1_bool; exact rfl; exact rfl; exact rfl; clear hs; intro _ hs; dsimp only [setC, List.set] at hs; apply wl_val; apply opv_nilOk; exact rfl; exact rfl; apply wl_val; apply opv_fa; exact fa_sD (by decide); exact rfl; exact rfl; apply ws_st hs 0; exact rfl; exact rfl; exact d1_int; exact rfl; exact rfl; exact rfl; clear hs; intro _ hs; dsimp only [setC, List.set] at hs; refine wl_nil ?_
      exact we_end0 rfl ⟨_, rfl, rfl, St.cls (d := crashK keeps d ns) hs hI⟩
end Go.Proofs.YtdgagffieobiiaaGreatDoor

/-
  Plain laws of the sum: what a step of the division does, that it keeps differences, and that no change within 32 bits of one another goes unseen. No program in sight.
-/
namespace Go.Proofs.YtdgagffieobiiaaGreatDoor

def stepC (x : Nat) : Nat := if x % 2 = 1 then (x / 2) ^^^ 3988292384 else x / 2
def stepsC : Nat → Nat → Nat
  | 0, x => x
  | k + 1, x => stepsC k (stepC x)
def eightC (x : Nat) : Nat := stepsC 8 x
def crcRaw (x : Nat) (l : List UInt8) : Nat := l.foldl (fun x b => eightC (x ^^^ b.toNat)) x
def crcOf (l : List UInt8) : Nat := 4294967295 - crcRaw 4294967295 l

theorem stepC_odd {x : Nat} (h : x % 2 = 1) : stepC x = (x / 2) ^^^ 3988292384 := by rw [stepC, if_pos h]
theorem stepC_even {x : Nat} (h : ¬ x % 2 = 1) : stepC x = x / 2 := by rw [stepC, if_neg h]
theorem xor_div2 (a b : Nat) : (a ^^^ b) / 2 = a / 2 ^^^ b / 2 := by
  have := Nat.shiftRight_xor_distrib (a := a) (b := b) (i := 1)
  simpa [Nat.shiftRight_succ] using this
theorem xor_mod2 (a b : Nat) : (a ^^^ b) % 2 = (a + b) % 2 := by
  have h := Nat.testBit_xor a b 0
  simp only [Nat.testBit_zero] at h
  rcases Nat.mod_two_eq_zero_or_one a with ha | ha <;> rcases Nat.mod_two_eq_zero_or_one b with hb | hb <;> rcases Nat.mod_two_eq_zero_or_one (a ^^^ b) with hc | hc <;> simp [ha, hb, hc] at h <;> omega
theorem step_xor (a b : Nat) : stepC (a ^^^ b) = stepC a ^^^ stepC b := by
  have hm := xor_mod2 a b
  have hd := xor_div2 a b
  by_cases ha : a % 2 = 1
  · by_cases hb : b % 2 = 1
    · rw [stepC_even (by omega), stepC_odd ha, stepC_odd hb, hd]
      rw [Nat.xor_assoc, Nat.xor_comm 3988292384 (b / 2 ^^^ 3988292384), Nat.xor_assoc, Nat.xor_self, Nat.xor_zero]
    · rw [stepC_odd (by omega), stepC_odd ha, stepC_even hb, hd]
      rw [Nat.xor_assoc, Nat.xor_assoc, Nat.xor_comm (b / 2)]
  · by_cases hb : b % 2 = 1
    · rw [stepC_odd (by omega), stepC_even ha, stepC_odd hb, hd, Nat.xor_assoc]
    · rw [stepC_even (by omega), stepC_even ha, stepC_even hb, hd]
theorem steps_xor : ∀ (k a b : Nat), stepsC k (a ^^^ b) = stepsC k a ^^^ stepsC k b
  | 0, _, _ => rfl
  | k + 1, a, b => by simp only [stepsC]; rw [step_xor, steps_xor k]
theorem step_lt {x : Nat} (h : x < 4294967296) : stepC x < 4294967296 := by
  unfold stepC
  split
  · exact Nat.xor_lt_two_pow (n := 32) (by omega) (by decide)
  · omega
theorem steps_lt : ∀ (k : Nat) {x : Nat}, x < 4294967296 → stepsC k x < 4294967296
  | 0, _, h => h
  | k + 1, _, h => steps_lt k (step_lt h)
theorem steps_shift : ∀ (k m : Nat), stepsC k (m * 2 ^ k) = m
  | 0, m => by simp [stepsC]
  | k + 1, m => by
    have e : m * 2 ^ (k + 1) = 2 * (m * 2 ^ k) := by rw [Nat.pow_succ, ← Nat.mul_assoc, Nat.mul_comm]
    simp only [stepsC]
    rw [e, stepC_even (by omega), Nat.mul_div_cancel_left _ (by decide), steps_shift k]
theorem xor_low (q r : Nat) (hr : r < 256) : q * 256 ^^^ r = q * 256 + r := by
  have h1 : (q * 256 ^^^ r) / 256 = q := by
    have := Nat.shiftRight_xor_distrib (a := q * 256) (b := r) (i := 8)
    simp only [Nat.shiftRight_eq_div_pow] at this
    rw [show (2 : Nat) ^ 8 = 256 from rfl, Nat.mul_div_cancel _ (by decide), Nat.div_eq_of_lt hr, Nat.xor_zero] at this
    exact this
  have h2 : (q * 256 ^^^ r) % 256 = r := by
    have := Nat.xor_mod_two_pow (a := q * 256) (b := r) (n := 8)
    rw [show (2 : Nat) ^ 8 = 256 from rfl, Nat.mul_mod_left, Nat.zero_xor, Nat.mod_eq_of_lt hr] at this
    exact this
  omega
theorem eight_high (q : Nat) : eightC (q * 256) = q := steps_shift 8 q
/-- A byte's entry does for it. -/
theorem eight_split (x : Nat) (b : UInt8) : eightC (x ^^^ b.toNat) = x / 256 ^^^ eightC (x % 256 ^^^ b.toNat) := by
  have e : x = x / 256 * 256 ^^^ x % 256 := by rw [xor_low _ _ (Nat.mod_lt _ (by decide))]; omega
  have e2 : eightC (x ^^^ b.toNat) = eightC (x / 256 * 256 ^^^ (x % 256 ^^^ b.toNat)) := by
    rw [← Nat.xor_assoc, ← e]
  rw [e2]
  unfold eightC
  rw [steps_xor]
  congr 1
  exact eight_high (x / 256)
theorem eight_lt {x : Nat} (h : x < 4294967296) : eightC x < 4294967296 := steps_lt 8 h
theorem xorb_lt {x : Nat} (h : x < 4294967296) (b : UInt8) : x ^^^ b.toNat < 4294967296 :=
  Nat.xor_lt_two_pow (n := 32) h (Nat.lt_trans b.toNat_lt (by decide))
theorem raw_snoc (x : Nat) (b : UInt8) (l : List UInt8) : crcRaw x (l ++ [b]) = eightC (crcRaw x l ^^^ b.toNat) := by simp [crcRaw]
theorem raw_lt : ∀ (l : List UInt8) {x : Nat}, x < 4294967296 → crcRaw x l < 4294967296
  | [], _, h => h
  | b :: l, _, h => raw_lt l (eight_lt (xorb_lt h b))
theorem crcOf_lt (l : List UInt8) : crcOf l < 4294967296 := by unfold crcOf; omega

end Go.Proofs.YtdgagffieobiiaaGreatDoor

/-
  Plain laws of sealed records. No program in sight.
-/
namespace Go.Proofs.YtdgagffieobiiaaGreatDoor

/-- Four bytes, the greatest first. -/
def four (n : Nat) : List UInt8 := ordK 4 n
theorem four_length (n : Nat) : (four n).length = 4 := ordK_length 4 n
theorem ordU_four (n : Nat) : (ordU n).drop 4 = four n := by
  have e : ordU n = ordK 4 (n / 256 / 256 / 256 / 256) ++ four n := by
    show ordK 8 n = _
    simp [ordK, four]
  rw [e, List.drop_append_of_le_length (by rw [ordK_length]; omega), List.drop_of_length_le (by rw [ordK_length]; omega)]
  rfl
theorem four_list (n : Nat) : four n = [UInt8.ofNat (n / 16777216), UInt8.ofNat (n / 65536), UInt8.ofNat (n / 256), UInt8.ofNat n] := by
  simp [four, ordK, Nat.div_div_eq_div_mul]
theorem numB_four {n : Nat} (h : n < 4294967296) : numB (four n) = n := by
  rw [four, numB_ordK]; exact Nat.mod_eq_of_lt h
theorem numB_lt4 {l : List UInt8} (h : l.length = 4) : numB l < 4294967296 := by
  have := numB_lt l; rw [h] at this; exact this

def crcRec (b : List UInt8) : List UInt8 := four b.length ++ (four (crcOf (four b.length ++ b)) ++ b)
theorem crcRec_length (b : List UInt8) : (crcRec b).length = 8 + b.length := by simp [crcRec, four_length]; omega
def sealB (b : List UInt8) : List UInt8 × Nat := if 1048576 < b.length then ([], 2) else (crcRec b, 0)
/-- What is sealed at the head of a list: the body, and the error. -/
def openH (y : List UInt8) : List UInt8 × Nat :=
  if y.length < 8 then ([], 5)
  else if 1048576 < numB (y.take 4) then ([], 2)
  else if y.length < 8 + numB (y.take 4) then ([], 5)
  else if crcOf (y.take 4 ++ (y.take (8 + numB (y.take 4))).drop 8) = numB ((y.drop 4).take 4) then ((y.take (8 + numB (y.take 4))).drop 8, 0) else ([], 4)
/-- At a place: the body, what stands behind it, and the error. -/
def openB (xs : List UInt8) (p : Int) : List UInt8 × Nat × Nat :=
  if p < 0 ∨ (xs.length : Int) < p then ([], 0, 1)
  else if (openH (xs.drop p.toNat)).2 = 0 then ((openH (xs.drop p.toNat)).1, p.toNat + 8 + (openH (xs.drop p.toNat)).1.length, 0)
  else ([], 0, (openH (xs.drop p.toNat)).2)
theorem openH_short {y : List UInt8} (h : y.length < 8) : openH y = ([], 5) := by rw [openH, if_pos h]
theorem openH_size {y : List UInt8} (h : ¬ y.length < 8) (h2 : 1048576 < numB (y.take 4)) : openH y = ([], 2) := by rw [openH, if_neg h, if_pos h2]
theorem openH_end {y : List UInt8} (h : ¬ y.length < 8) (h2 : ¬ 1048576 < numB (y.take 4)) (h3 : y.length < 8 + numB (y.take 4)) : openH y = ([], 5) := by rw [openH, if_neg h, if_neg h2, if_pos h3]
theorem openH_sum {y : List UInt8} (h : ¬ y.length < 8) (h2 : ¬ 1048576 < numB (y.take 4)) (h3 : ¬ y.length < 8 + numB (y.take 4)) (h4 : ¬ crcOf (y.take 4 ++ (y.take (8 + numB (y.take 4))).drop 8) = numB ((y.drop 4).take 4)) : openH y = ([], 4) := by
  rw [openH, if_neg h, if_neg h2, if_neg h3, if_neg h4]
theorem openH_ok {y : List UInt8} (h : ¬ y.length < 8) (h2 : ¬ 1048576 < numB (y.take 4)) (h3 : ¬ y.length < 8 + numB (y.take 4)) (h4 : crcOf (y.take 4 ++ (y.take (8 + numB (y.take 4))).drop 8) = numB ((y.drop 4).take 4)) : openH y = ((y.take (8 + numB (y.take 4))).drop 8, 0) := by
  rw [openH, if_neg h, if_neg h2, if_neg h3, if_pos h4]
theorem openB_arg {xs : List UInt8} {p : Int} (h : ¬ (0 ≤ p ∧ p ≤ xs.length)) : openB xs p = ([], 0, 1) := by rw [openB, if_pos (by omega)]
theorem openB_at {xs : List UInt8} {q : Nat} (h : q ≤ xs.length) {r : List UInt8} {e : Nat} (ho : openH (xs.drop q) = (r, e)) : openB xs q = if e = 0 then (r, q + 8 + r.length, 0) else ([], 0, e) := by
  rw [openB, if_neg (by omega), Int.toNat_natCast, ho]
theorem openB_ok {xs : List UInt8} {q : Nat} (h : q ≤ xs.length) {r : List UInt8} (ho : openH (xs.drop q) = (r, 0)) : openB xs q = (r, q + 8 + r.length, 0) := by rw [openB_at h ho, if_pos rfl]
theorem openB_err {xs : List UInt8} {q : Nat} (h : q ≤ xs.length) {r : List UInt8} {e : Nat} (ho : openH (xs.drop q) = (r, e)) (he : ¬ e = 0) : openB xs q = ([], 0, e) := by rw [openB_at h ho, if_neg he]
theorem openH_len {y r : List UInt8} (h : openH y = (r, 0)) : 8 + r.length ≤ y.length ∧ r.length ≤ 1048576 := by
  unfold openH at h
  split at h
  · simp at h
  · split at h
    · simp at h
    · split at h
      · simp at h
      · split at h
        · simp only [Prod.mk.injEq, and_true] at h
          subst h
          simp; omega
        · simp at h
theorem openB_inv {xs r : List UInt8} {q x : Nat} (hq : q ≤ xs.length) (h : openB xs q = (r, x, 0)) : x = q + 8 + r.length ∧ x ≤ xs.length ∧ r.length ≤ 1048576 := by
  obtain ⟨s, e, ho⟩ : ∃ s e, openH (xs.drop q) = (s, e) := ⟨_, _, rfl⟩
  rw [openB_at hq ho] at h
  split at h
  · rename_i he
    subst he
    simp only [Prod.mk.injEq, and_true] at h
    obtain ⟨rfl, rfl⟩ := h
    have := openH_len ho
    rw [List.length_drop] at this
    omega
  · simp only [Prod.mk.injEq] at h
    omega
/-- What is sealed opens to what it was. -/
theorem openH_rec {b : List UInt8} (h : b.length ≤ 1048576) (rest : List UInt8) : openH (crcRec b ++ rest) = (b, 0) := by
  have e1 : (crcRec b ++ rest).take 4 = four b.length := by
    unfold crcRec; rw [List.append_assoc, List.take_append_of_le_length (by rw [four_length]; omega), List.take_of_length_le (by rw [four_length]; omega)]
  have e2 : numB ((crcRec b ++ rest).take 4) = b.length := by rw [e1, numB_four (by omega)]
  have e3 : ((crcRec b ++ rest).drop 4).take 4 = four (crcOf (four b.length ++ b)) := by
    unfold crcRec
    rw [List.append_assoc, List.drop_append_of_le_length (by rw [four_length]; omega), List.drop_of_length_le (by rw [four_length]; omega), List.nil_append, List.append_assoc,
      List.take_append_of_le_length (by rw [four_length]; omega), List.take_of_length_le (by rw [four_length]; omega)]
  have e4 : ((crcRec b ++ rest).take (8 + b.length)).drop 8 = b := by
    rw [List.take_append_of_le_length (by rw [crcRec_length]; omega), List.take_of_length_le (by rw [crcRec_length]; omega)]
    unfold crcRec
    rw [← List.append_assoc, List.drop_append_of_le_length (by simp [four_length]), List.drop_of_length_le (by simp [four_length]), List.nil_append]
  have hl : (crcRec b ++ rest).length = 8 + b.length + rest.length := by rw [List.length_append, crcRec_length]
  rw [openH_ok (by omega) (by omega) (by omega) (by rw [e2, e3, e4, e1, numB_four (crcOf_lt _)]), e2, e4]
theorem openB_rec {b : List UInt8} (h : b.length ≤ 1048576) : openB (crcRec b) 0 = (b, (crcRec b).length, 0) := by
  have := openH_rec h []
  rw [List.append_nil] at this
  have := openB_ok (q := 0) (xs := crcRec b) (by omega) this
  rw [crcRec_length]
  simpa using this

/-- All records, up to the first that doesn't open. -/
def openAllF : Nat → List UInt8 → Nat → List (List UInt8) → List (List UInt8) × Nat
  | 0, _, q, out => (out, q)
  | f + 1, b, q, out =>
    if b.length ≤ q then (out, q)
    else if (openB b q).2.2 = 0 then openAllF f b (openB b q).2.1 (out ++ [(openB b q).1])
    else (out, q)
def openAll (b : List UInt8) : List (List UInt8) × Nat := openAllF b.length b 0 []
theorem openAllF_end {f : Nat} {b : List UInt8} {q : Nat} {out : List (List UInt8)} (h : b.length ≤ q) : openAllF f b q out = (out, q) := by
  cases f with
  | zero => rfl
  | succ f => rw [openAllF, if_pos h]
theorem openAllF_err {f : Nat} {b r : List UInt8} {q x e : Nat} {out : List (List UInt8)} (hu : openB b q = (r, x, e)) (he : ¬ e = 0) : openAllF f b q out = (out, q) := by
  cases f with
  | zero => rfl
  | succ f =>
    by_cases h : b.length ≤ q
    · exact openAllF_end h
    · rw [openAllF, if_neg h, hu, if_neg he]
theorem openAllF_step {f : Nat} {b r : List UInt8} {q x : Nat} {out : List (List UInt8)} (h : ¬ b.length ≤ q) (hu : openB b q = (r, x, 0)) : openAllF (f + 1) b q out = openAllF f b x (out ++ [r]) := by
  rw [openAllF, if_neg h, hu, if_pos rfl]
end Go.Proofs.YtdgagffieobiiaaGreatDoor

/-
  Plain laws: records one behind the other, cut anywhere; a disk with one file.
-/
namespace Go.Proofs.YtdgagffieobiiaaGreatDoor

def recs (l : List (List UInt8)) : List UInt8 := (l.map crcRec).flatten
theorem recs_cons (x : List UInt8) (l : List (List UInt8)) : recs (x :: l) = crcRec x ++ recs l := by simp [recs]
theorem recs_append (l m : List (List UInt8)) : recs (l ++ m) = recs l ++ recs m := by simp [recs]
theorem rec_cut {x : List UInt8} (hx : x.length ≤ 1048576) {k : Nat} (hk : k < (crcRec x).length) : ∃ e, openH ((crcRec x).take k) = ([], e) ∧ ¬ e = 0 := by
  rw [crcRec_length] at hk
  have hl : ((crcRec x).take k).length = k := by rw [List.length_take, crcRec_length]; omega
  by_cases h8 : k < 8
  · exact ⟨5, openH_short (by omega), by decide⟩
  · have h4 : ((crcRec x).take k).take 4 = four x.length := by
      rw [List.take_take, Nat.min_eq_left (by omega), crcRec, List.take_append_of_le_length (by rw [four_length]; omega), List.take_of_length_le (by rw [four_length]; omega)]
    have hn : numB (((crcRec x).take k).take 4) = x.length := by rw [h4, numB_four (by omega)]
    exact ⟨5, openH_end (by omega) (by rw [hn]; omega) (by rw [hn, hl]; omega), by decide⟩
theorem openAllF_recs : ∀ (l : List (List UInt8)) (f k : Nat) (pre : List UInt8) (out : List (List UInt8)), (∀ x ∈ l, x.length ≤ 1048576) → k ≤ (recs l).length → k ≤ f →
    ∃ m, m ≤ l.length ∧ openAllF f (pre ++ (recs l).take k) pre.length out = (out ++ l.take m, pre.length + (recs (l.take m)).length) ∧ (recs (l.take m)).length ≤ k ∧ (m = l.length ∨ k < (recs (l.take (m + 1))).length)
  | [], f, k, pre, out, _, hk, _ => by
    refine ⟨0, Nat.le_refl _, ?_, by simp [recs], .inl rfl⟩
    have : k = 0 := by simpa [recs] using hk
    subst this
    rw [openAllF_end (by simp)]; simp [recs]
  | x :: l, f, k, pre, out, hx, hk, hf => by
    have hx0 := hx x List.mem_cons_self
    have hl0 := crcRec_length x
    rw [recs_cons] at hk ⊢
    rw [List.length_append] at hk
    by_cases hlt : k < (crcRec x).length
    · refine ⟨0, Nat.zero_le _, ?_, by simp [recs], .inr (by simpa [recs] using hlt)⟩
      rw [List.take_append_of_le_length (by omega)]
      by_cases h0 : k = 0
      · subst h0; rw [openAllF_end (by simp)]; simp [recs]
      · obtain ⟨e, he, hne⟩ := rec_cut hx0 hlt
        have ho : openB (pre ++ (crcRec x).take k) (pre.length : Nat) = ([], 0, e) := openB_err (by simp) (r := []) (by rw [List.drop_left]; exact he) hne
        rw [openAllF_err ho hne]; simp [recs]
    · have ht : (crcRec x ++ recs l).take k = crcRec x ++ (recs l).take (k - (crcRec x).length) := by
        rw [List.take_append, List.take_of_length_le (by omega)]
      have ho : openB (pre ++ (crcRec x ++ (recs l).take (k - (crcRec x).length))) (pre.length : Nat) = (x, pre.length + 8 + x.length, 0) := openB_ok (by simp) (by rw [List.drop_left]; exact openH_rec hx0 _)
      obtain ⟨f', rfl⟩ : ∃ f', f = f' + 1 := ⟨f - 1, by omega⟩
      obtain ⟨m, h1, h2, h3, h4⟩ := openAllF_recs l f' (k - (crcRec x).length) (pre ++ crcRec x) (out ++ [x]) (fun y hy => hx y (List.mem_cons_of_mem _ hy)) (by omega) (by omega)
      refine ⟨m + 1, by simp; omega, ?_, by rw [List.take_succ_cons, recs_cons, List.length_append]; omega, ?_⟩
      · rw [ht, openAllF_step (by simp; omega) ho]
        rw [show pre.length + 8 + x.length = (pre ++ crcRec x).length by rw [List.length_append]; omega, ← List.append_assoc, h2, List.take_succ_cons, recs_cons]
        simp only [List.append_assoc, List.singleton_append, List.length_append, Prod.mk.injEq, true_and]
        omega
      · rcases h4 with rfl | h4
        · exact .inl rfl
        · refine .inr ?_
          rw [List.take_succ_cons, recs_cons, List.length_append]; omega
theorem openAll_cut {l : List (List UInt8)} (hl : ∀ x ∈ l, x.length ≤ 1048576) {k : Nat} (hk : k ≤ (recs l).length) :
    ∃ m, m ≤ l.length ∧ openAll ((recs l).take k) = (l.take m, (recs (l.take m)).length) ∧ (recs (l.take m)).length ≤ k ∧ (m = l.length ∨ k < (recs (l.take (m + 1))).length) := by
  obtain ⟨m, h1, h2, h3, h4⟩ := openAllF_recs l ((recs l).take k).length k [] [] hl hk (by rw [List.length_take]; omega)
  refine ⟨m, h1, ?_, h3, h4⟩
  rw [openAll]
  simpa using h2
theorem recs_take_le {l : List (List UInt8)} {i j : Nat} (h : i ≤ j) : (recs (l.take i)).length ≤ (recs (l.take j)).length := by
  obtain ⟨t, rfl⟩ : ∃ t, j = i + t := ⟨j - i, by omega⟩
  rw [List.take_add, recs_append, List.length_append]; omega
theorem openAll_recs {l : List (List UInt8)} (hl : ∀ x ∈ l, x.length ≤ 1048576) : openAll (recs l) = (l, (recs l).length) := by
  obtain ⟨m, h1, h2, h3, h4⟩ := openAll_cut hl (Nat.le_refl (recs l).length)
  rw [List.take_length] at h2
  rcases h4 with rfl | h4
  · rw [h2, List.take_length]
  · exact absurd (recs_take_le (l := l) (show m + 1 ≤ (m + 1) + l.length by omega)) (by rw [List.take_of_length_le (show l.length ≤ (m + 1) + l.length by omega)]; omega)

/-! ### A disk with one file -/
structure One (d : Dk) (n : List UInt8) (f : Fl) : Prop where
  fs : d.fs = [(n, f)]
section
variable {d : Dk} {n b : List UInt8} {f : Fl}
theorem One.file (h : d.fs = [(n, f)]) : fileD d n = f ∧ thereD d n = 0 ∧ used d.fs = f.data.length := by
  refine ⟨by rw [fileD, h]; simp [getF], by rw [thereD, h]; simp [getF], by rw [h]; simp [used]⟩
theorem One.put (h : d.fs = [(n, f)]) (f' : Fl) : (putD d n f').fs = [(n, f')] := by rw [putD, h]; simp [putF]
theorem turn_cases (d : Dk) (hd : d.dead = false) : ((turnD d 0).1 = true ∧ (turnD d 0).2.1 = 0 ∧ (turnD d 0).2.2.dead = false) ∨ ((turnD d 0).1 = false ∧ (turnD d 0).2.1 = 9 ∧ (turnD d 0).2.2.dead = true) := by
  unfold turnD
  rw [if_neg (by rw [hd]; decide), if_neg (by decide)]
  split
  · exact .inr ⟨rfl, rfl, rfl⟩
  · split
    · exact .inl ⟨rfl, rfl, hd⟩
    · exact .inl ⟨rfl, rfl, hd⟩
end
end Go.Proofs.YtdgagffieobiiaaGreatDoor

/-
  Walks over the sum's steps, its table and its bitwise answer.
-/
namespace Go.Proofs.YtdgagffieobiiaaGreatDoor
open Go.RowKit

theorem fill_upV {α : Type} {l : List α} {z x : α} {k m : Nat} (h : l[k]? = some x) : (l.take k ++ List.replicate (m + 1) z).set k x = l.take (k + 1) ++ List.replicate m z := by
  have hk := (List.getElem?_eq_some_iff.1 h).1
  have e : (l.take k).length = k := by simp; omega
  rw [List.set_append_right _ _ (by omega), e, Nat.sub_self, List.replicate_succ, List.set_cons_zero, List.take_add_one, h]
  simp

theorem step_any (x : Nat) (hx : x < 4294967296) (w : World) : CallsV Tryz.prog 126 #[.int .u32 x] w fun v w' => v = .int .u32 (stepC x : Nat) ∧ w = w' := by
  refine calls_in (N := _) Tryz.func126 rfl Tryz.ntmps126 rfl ?_; show WC _ _ _ _ _ _
  refine wc_sr ?_; refine wl_as rfl rfl ?_; refine wl_ns ?_; refine wc_seq ?_; refine wc_sr ?_; refine wl_mv rfl rfl ?_
  refine wl_val (opv_bin (b := .int .u32 (1 : Nat)) rfl rfl (bin_and rfl hx (by decide))) rfl ?_
  refine wl_bin rfl rfl bin_eql rfl ?_; refine wl_ns ?_
  refine wc_cond rfl (fun h => ?_) (fun h => ?_)
  · have h1 : x % 2 = 1 := by rw [← Nat.and_one_is_mod]; omega
    refine wc_sr ?_; refine wl_mv rfl rfl ?_
    refine wl_val (opv_bin (b := .int .u64 (1 : Nat)) rfl rfl (bin_shr hx)) rfl ?_
    refine wl_val (opv_bin (b := .int .u32 (3988292384 : Nat)) rfl rfl (bin_xor rfl (by simp only [IntKind.bits]; omega) (by decide))) rfl ?_
    refine wl_as rfl rfl ?_; refine wl_ns ?_; refine wc_ret ?_; refine we_seq_ret ?_
    exact we_ret1 rfl rfl ⟨_, rfl, by rw [stepC_odd h1], rfl⟩
  · have h1 : ¬ x % 2 = 1 := by rw [← Nat.and_one_is_mod]; omega
    refine wc_skip ?_; refine we_seq ?_; refine wc_sr ?_; refine wl_mv rfl rfl ?_
    refine wl_val (opv_bin (b := .int .u64 (1 : Nat)) rfl rfl (bin_shr hx)) rfl ?_
    refine wl_as rfl rfl ?_; refine wl_ns ?_; refine wc_ret ?_
    exact we_ret1 rfl rfl ⟨_, rfl, by rw [stepC_even h1], rfl⟩
theorem eight_any (x : Nat) (hx : x < 4294967296) (w : World) : CallsV Tryz.prog 114 #[.int .u32 x] w fun v w' => v = .int .u32 (eightC x : Nat) ∧ w = w' := by
  refine calls_in (N := _) Tryz.func114 rfl Tryz.ntmps114 rfl ?_; show WC _ _ _ _ _ _
  refine wc_sr ?_; refine wl_as rfl rfl ?_; refine wl_ns ?_; refine wc_seq ?_; refine wc_sr ?_; refine wl_mv rfl rfl ?_; refine wl_ns ?_; refine wc_block ?_
  refine wc_loop (fun L wr m => ∃ (k y : Nat), L = [(0, .int .u32 (y : Int)), (3, .int .i64 (k : Int))] ∧ k ≤ 8 ∧ y < 4294967296 ∧ stepsC (8 - k) y = eightC x ∧ w = wr ∧ m = 8 - k)
    [(0, .int .u32 (x : Int)), (3, .int .i64 (0 : Nat))] 8 ⟨0, x, rfl, by omega, hx, rfl, rfl, rfl⟩ ⟨rfl, rfl, trivial⟩ ?_
  rintro _ _ m ⟨k, y, rfl, hk, hy, he, rfl, rfl⟩
  refine wc_sr ?_; refine wl_bin rfl rfl bin_lss rfl ?_; refine wl_ns ?_; refine wc_seq ?_
  refine wc_cond rfl (fun h1 => ?_) (fun h1 => ?_)
  · refine wc_skip ?_; refine we_seq ?_; refine wc_seq ?_; refine wc_block ?_; refine wc_region ?_; refine wl_mv rfl rfl ?_
    refine wl_call ok_crc_step (step_any y hy w) ⟨rfl, trivial⟩ rfl ?_
    rintro _ _ ⟨rfl, rfl⟩
    refine wl_as rfl rfl ?_; refine wl_nil ?_; refine we_block_norm ?_; refine we_seq ?_; refine wc_region ?_; apply wl_val; apply opv_bin; exact rfl; exact rfl; exact bin_add64 (by omega); exact rfl; refine wl_mv rfl rfl ?_; refine wl_nil ?_
    refine we_loop [(0, .int .u32 (stepC y : Nat)), (3, .int .i64 ((k + 1 : Nat) : Int))] (8 - (k + 1)) ⟨k + 1, stepC y, rfl, by omega, step_lt hy, ?_, rfl, rfl⟩ (by omega) ⟨rfl, rfl, trivial⟩
    rw [← he, show 8 - k = (8 - (k + 1)) + 1 by omega]; rfl
  · obtain rfl : k = 8 := by omega
    have e : y = eightC x := he
    refine wc_exit ?_; refine we_seq_exit ?_; refine we_loop_exit ?_; refine we_block_exit ?_; refine we_seq ?_; refine wc_sr ?_; refine wl_mv rfl rfl ?_; refine wl_as rfl rfl ?_; refine wl_ns ?_; refine wc_ret ?_
    exact we_ret1 rfl rfl ⟨_, rfl, by rw [e], rfl⟩

/-- The table's cells. -/
def tabC : List Value := (List.range 256).map fun i => .int .u32 (eightC i : Nat)
theorem tabC_length : tabC.length = 256 := by simp [tabC]
theorem tabC_get {k : Nat} (h : k < 256) : tabC[k]? = some (.int .u32 (eightC k : Nat)) := by
  rw [tabC, List.getElem?_map, List.getElem?_range h]; rfl
theorem tabC_one : ∀ v ∈ tabC, v.oneCell' = true := by
  intro v hv
  simp only [tabC, List.mem_map] at hv
  obtain ⟨_, _, rfl⟩ := hv; rfl
theorem tyU : Cell1 Tryz.prog 135 := ⟨by kernel_rfl, by rw [Tryz.underlying135]⟩
theorem tyA_zero : (Tryz.prog.info? 151).map (·.zero) = some (some (.agg (List.replicate 256 (Value.int .u32 0)).toArray)) := by kernel_rfl
theorem tyA_size : (Tryz.prog.info? 151).map (·.size) = some 256 := by kernel_rfl

theorem table_any (w : World) : CallsV Tryz.prog 106 #[] w fun v w' => v = .agg tabC.toArray ∧ Below w.heap.size w w' := by
  have hb0 := Below.refl w.heap.size w
  refine calls_in (N := _) Tryz.func106 rfl Tryz.ntmps106 rfl ?_; show WC _ _ _ _ _ _
  refine wc_sr ?_
  refine wl_alloc tyA_zero rfl fun w1 a0 hb1 hs1 => ?_
  refine wl_ns ?_; refine wc_sr ?_
  refine wl_alloc tyA_zero rfl fun w2 a1 hb2 hs2 => ?_
  replace a0 := a0.bel hb2
  have hb3 := hb1.trans (hb2.mono hb1.size)
  clear hb0 hb1 hb2
  obtain ⟨g1, hg1⟩ : ∃ g, w1.heap.size = g := ⟨_, rfl⟩
  rw [hg1] at a1 ⊢
  have hne : g1 ≠ w.heap.size := by omega
  refine wl_ns ?_; refine wc_seq ?_; refine wc_sr ?_; refine wl_mv rfl rfl ?_; refine wl_ns ?_; refine wc_block ?_
  refine wc_loop (fun L wr m => ∃ k : Nat, L = [(0, .pointer (some ⟨w.heap.size, 0, none⟩)), (1, .pointer (some ⟨g1, 0, none⟩)), (3, .int .i64 (k : Int))] ∧ k ≤ 256 ∧ Ar wr g1 151 (tabC.take k ++ List.replicate (256 - k) (Value.int .u32 0)) ∧ Ar wr w.heap.size 151 (List.replicate 256 (Value.int .u32 0)) ∧ Below w.heap.size w wr ∧ m = 256 - k)
    [(0, .pointer (some ⟨w.heap.size, 0, none⟩)), (1, .pointer (some ⟨g1, 0, none⟩)), (3, .int .i64 (0 : Nat))] 256 ⟨0, rfl, by omega, a1, a0, hb3, rfl⟩ ⟨rfl, rfl, rfl, trivial⟩ ?_
  rintro _ w4 m ⟨k, rfl, hk, b1, b0, hb4, rfl⟩
  refine wc_sr ?_; refine wl_bin rfl rfl bin_lss rfl ?_; refine wl_ns ?_; refine wc_seq ?_
  refine wc_cond rfl (fun h1 => ?_) (fun h1 => ?_)
  · refine wc_skip ?_; refine we_seq ?_; refine wc_seq ?_; refine wc_block ?_; refine wc_sr ?_; refine wl_mv rfl rfl ?_; refine wl_as rfl rfl ?_; refine wl_ns ?_; refine wc_region ?_; refine wl_mv rfl rfl ?_; refine wl_mv rfl rfl ?_; apply wl_val; apply opv_convR; exact rfl; exact Tryz.underlying3; exact Tryz.underlying135; exact IntWalk.u32_in _ (by omega); exact rfl
    refine wl_call ok_crc_eight (eight_any k (by omega) w4) ⟨rfl, trivial⟩ rfl ?_
    rintro _ _ ⟨rfl, rfl⟩
    refine wl_setA (kk := k) Tryz.underlying151 tyU rfl rfl b1 (by simp [tabC_length]; omega) rfl (by omega) (fun _ => rfl) rfl rfl fun p => ?_
    have c1 := b1.setCell k (.int .u32 (eightC k : Nat))
    have c0 := b0.ne k (.int .u32 (eightC k : Nat)) hne
    have hb5 := below_setCell (k := k) (v := .int .u32 (eightC k : Nat)) hb4 (show w.heap.size ≤ g1 by omega)
    have e : (tabC.take k ++ List.replicate (256 - k) (Value.int .u32 0)).set k (.int .u32 (eightC k : Nat)) = tabC.take (k + 1) ++ List.replicate (256 - (k + 1)) (Value.int .u32 0) := by
      rw [show 256 - k = (256 - (k + 1)) + 1 by omega]; exact fill_upV (tabC_get (by omega))
    rw [e] at c1
    refine wl_nil ?_; refine we_block_norm ?_; refine we_seq ?_; refine wc_region ?_; apply wl_val; apply opv_bin; exact rfl; exact rfl; exact bin_add64 (by omega); exact rfl; refine wl_mv rfl rfl ?_; refine wl_nil ?_
    refine we_loop [(0, .pointer (some ⟨w.heap.size, 0, none⟩)), (1, .pointer (some ⟨g1, 0, none⟩)), (3, .int .i64 ((k + 1 : Nat) : Int))] (256 - (k + 1)) ⟨k + 1, rfl, by omega, c1, c0, hb5, rfl⟩ (by omega) ⟨rfl, rfl, rfl, trivial⟩
  · obtain rfl : k = 256 := by omega
    have e : tabC.take 256 ++ List.replicate (256 - 256) (Value.int .u32 0) = tabC := by rw [List.take_of_length_le (by rw [tabC_length]; omega)]; simp
    rw [e] at b1
    refine wc_exit ?_; refine we_seq_exit ?_; refine we_loop_exit ?_; refine we_block_exit ?_; refine we_seq ?_; refine wc_sr ?_
    refine wl_val (opv_loadW Tryz.underlying151 (by rw [tabC_length]; exact tyA_size) rfl b1) rfl ?_
    refine wl_unitN (opu_storeW (by rw [List.length_replicate]; exact tyA_size) (by rw [tabC_length, List.length_replicate]) rfl rfl b0 tabC_one) ?_
    have d0 := b0.setRow (cs' := tabC)
    have hb6 := below_setRow (cs' := tabC.toArray) hb4 (Nat.le_refl _)
    refine wl_ns ?_; refine wc_ret ?_
    exact we_retA rfl rfl Tryz.underlying151 (by rw [tabC_length]; exact tyA_size) d0 ⟨_, rfl, rfl, hb6⟩
end Go.Proofs.YtdgagffieobiiaaGreatDoor

/-
  Walks over OrdText of the program and of the reference.
-/
namespace Go.Proofs.YtdgagffieobiiaaGreatDoor
open Go.RowKit

end Go.Proofs.YtdgagffieobiiaaGreatDoor

/-
  Walks over the fixed fact of layer 1's statements, and over the law CodecNumbers.
-/
namespace Go.Proofs.YtdgagffieobiiaaGreatDoor
open Go.RowKit

end Go.Proofs.YtdgagffieobiiaaGreatDoor

/-
  Walks over the sum of the program and of the reference, and over what the statements use.
-/
namespace Go.Proofs.YtdgagffieobiiaaGreatDoor
open Go.RowKit

theorem xor_ones {n x : Nat} (hx : x < 2 ^ n) : (2 ^ n - 1) ^^^ x = 2 ^ n - 1 - x := by
  apply Nat.eq_of_testBit_eq
  intro i
  rw [Nat.testBit_xor, Nat.testBit_two_pow_sub_one, show 2 ^ n - 1 - x = 2 ^ n - (x + 1) by omega, Nat.testBit_two_pow_sub_succ hx]
  by_cases h : i < n
  · simp [h]
  · have : x.testBit i = false := Nat.testBit_lt_two_pow (Nat.lt_of_lt_of_le hx (Nat.pow_le_pow_right (by decide) (by omega)))
    simp [h, this]
theorem opv_com {P : Program} {L : FL} {w : World} {x : Operand} {t ty : TypeId} {n : Nat} (hx : look L x = some (.int .u32 (n : Int))) (hn : n < 4294967296) : OpV P (.unOp .xor t x) ty L w (.int .u32 ((4294967295 - n : Nat) : Int)) w := fun ρ o hρ ho _ => by
  have h := (bin_xor (P := P) (t := t) (k := .u32) (a := 4294967295) (b := n) rfl (by decide) hn).run x x w
  have e := xor_ones (n := 32) hn
  simp only [eqGuard, binOp] at h
  rw [show (4294967295 ^^^ n) = 4294967295 - n from e] at h
  have hm : (if IntKind.u32.signed = true then (-1 : Int) else IntKind.u32.max) = (4294967295 : Int) := rfl
  unfold execOp
  simp only [ho, hρ x _ hx, Op.unary, hm, Sem.run_bind]
  simp at h
  rw [h]; simp

theorem sum_any {A : Option Addr} {n c : Nat} {rows : List (List UInt8)} {w : World} (hr : RdBB w A rows) (hn : rows.length = n) (hl : rows.flatten.length ≤ maxLen) (hl2 : rows.length ≤ maxLen) :
    CallsV Tryz.prog 92 #[.slice A n c] w fun v w' => v = .int .u32 (crcOf rows.flatten : Nat) ∧ Below w.heap.size w w' := by
  subst hn
  simp only [maxLen] at hl hl2
  refine calls_in (N := _) Tryz.func92 rfl Tryz.ntmps92 rfl ?_; show WC _ _ _ _ _ _
  refine wc_sr ?_; refine wl_as rfl rfl ?_; refine wl_ns ?_; refine wc_sr ?_
  refine wl_call ok_crc_Table (table_any w) trivial rfl ?_
  rintro _ w1 ⟨rfl, hb1⟩
  refine wl_alloc tyA_zero rfl fun w2 a2 hb2 hs2 => ?_
  obtain ⟨g, hg⟩ : ∃ g, w1.heap.size = g := ⟨_, rfl⟩
  have hge : w.heap.size ≤ g := by have := hb1.size; omega
  have hb12 := hb1.trans (hb2.mono hb1.size)
  rw [hg] at a2 ⊢
  replace a2 : Ar w2 g 151 (List.replicate 256 (Value.int .u32 0)) := a2
  refine wl_unitN (opu_storeW (by rw [List.length_replicate]; exact tyA_size) (by rw [tabC_length, List.length_replicate]) rfl rfl a2 tabC_one) ?_
  have a3 := a2.setRow (cs' := tabC)
  have hb3 := below_setRow (cs' := tabC.toArray) hb12 hge
  obtain ⟨w3, hw3⟩ : ∃ w3, w2.setRow g tabC.toArray = w3 := ⟨_, rfl⟩
  rw [hw3] at a3 hb3 ⊢
  have S3 := RdBB.below hr hb3
  clear hb1 hb2 a2 hs2
  refine wl_ns ?_; refine wc_sr ?_; refine wl_as rfl rfl ?_; refine wl_ns ?_; refine wc_seq ?_; refine wc_sr ?_; refine wl_mv rfl rfl ?_; apply wl_val; apply opv_len; exact rfl; exact tyBB.sl; exact rfl; refine wl_mv rfl rfl ?_; refine wl_ns ?_; refine wc_block ?_
  refine wc_loop (fun L wr m => ∃ k : Nat, L = [(3, .pointer (some ⟨g, 0, none⟩)), (4, .int .u32 (crcRaw 4294967295 (rows.take k).flatten : Nat)), (10, .slice A rows.length c), (11, .int .i64 (rows.length : Int)), (12, .int .i64 (k : Int))] ∧ k ≤ rows.length ∧ w3 = wr ∧ m = rows.length - k)
    [(3, .pointer (some ⟨g, 0, none⟩)), (4, .int .u32 (4294967295 : Nat)), (10, .slice A rows.length c), (11, .int .i64 (rows.length : Int)), (12, .int .i64 (0 : Nat))] rows.length ⟨0, rfl, by omega, rfl, rfl⟩ ⟨rfl, rfl, rfl, rfl, rfl, trivial⟩ ?_
  rintro _ _ m ⟨k, rfl, hk, rfl, rfl⟩
  have hlt := raw_lt (rows.take k).flatten (x := 4294967295) (by decide)
  refine wc_sr ?_; refine wl_bin rfl rfl bin_lss rfl ?_; refine wl_ns ?_; refine wc_seq ?_
  refine wc_cond rfl (fun h1 => ?_) (fun h1 => ?_)
  · obtain ⟨r, hx⟩ : ∃ x, rows[k]? = some x := ⟨_, List.getElem?_eq_getElem (by omega)⟩
    obtain ⟨vs, X, cx, hv, hvk, rx, hcx⟩ := S3.at hx
    have hxm : r.length ≤ rows.flatten.length := flat_mem hx
    refine wc_skip ?_; refine we_seq ?_; refine wc_seq ?_; refine wc_block ?_; refine wc_sr ?_; apply wl_elK (T := tyBB) (hr := hv) (hb := hvk); exact rfl; exact rfl; exact rfl; exact rfl; exact rfl; intro _; refine wl_as rfl rfl ?_; refine wl_ns ?_; refine wc_sr ?_; refine wl_mv rfl rfl ?_; apply wl_val; apply opv_len; exact rfl; exact tyB.sl; exact rfl; refine wl_mv rfl rfl ?_; refine wl_ns ?_; refine wc_block ?_
    refine wc_loop (fun L wr m => ∃ j : Nat, L = [(3, .pointer (some ⟨g, 0, none⟩)), (4, .int .u32 (crcRaw 4294967295 ((rows.take k).flatten ++ r.take j) : Nat)), (10, .slice A rows.length c), (11, .int .i64 (rows.length : Int)), (12, .int .i64 (k : Int)), (16, .slice X r.length cx), (17, .int .i64 (r.length : Int)), (18, .int .i64 (j : Int))] ∧ j ≤ r.length ∧ w3 = wr ∧ m = r.length - j)
      [(3, .pointer (some ⟨g, 0, none⟩)), (4, .int .u32 (crcRaw 4294967295 (rows.take k).flatten : Nat)), (10, .slice A rows.length c), (11, .int .i64 (rows.length : Int)), (12, .int .i64 (k : Int)), (16, .slice X r.length cx), (17, .int .i64 (r.length : Int)), (18, .int .i64 (0 : Nat))] r.length ⟨0, by simp, by omega, rfl, rfl⟩ ⟨rfl, rfl, rfl, rfl, rfl, rfl, rfl, rfl, trivial⟩ ?_
    rintro _ _ m ⟨j, rfl, hj, rfl, rfl⟩
    have hlt2 := raw_lt ((rows.take k).flatten ++ r.take j) (x := 4294967295) (by decide)
    refine wc_sr ?_; refine wl_bin rfl rfl bin_lss rfl ?_; refine wl_ns ?_; refine wc_seq ?_
    refine wc_cond rfl (fun h2 => ?_) (fun h2 => ?_)
    · obtain ⟨b, hbx⟩ : ∃ x, r[j]? = some x := ⟨_, List.getElem?_eq_getElem (by omega)⟩
      have hbl := b.toNat_lt
      obtain ⟨y, hy⟩ : ∃ y, crcRaw 4294967295 ((rows.take k).flatten ++ r.take j) = y := ⟨_, rfl⟩
      have hsn : crcRaw 4294967295 ((rows.take k).flatten ++ r.take (j + 1)) = y / 256 ^^^ eightC (y % 256 ^^^ b.toNat) := by
        rw [← eight_split, ← hy, List.take_add_one, hbx, ← List.append_assoc, Option.toList_some, raw_snoc]
      rw [hy] at hlt2 ⊢
      have hix : y % 256 ^^^ b.toNat < 256 := Nat.xor_lt_two_pow (n := 8) (Nat.mod_lt _ (by decide)) hbl
      have hel := eight_lt (x := y % 256 ^^^ b.toNat) (by omega)
      refine wc_skip ?_; refine we_seq ?_; refine wc_seq ?_; refine wc_block ?_; refine wc_sr ?_; apply wl_byK (T := tyB) (hr := rx) (hb := hbx); exact rfl; exact rfl; exact rfl; exact rfl; exact rfl; intro _; refine wl_as rfl rfl ?_; refine wl_ns ?_; refine wc_region ?_; refine wl_mv rfl rfl ?_
      refine wl_val (opv_bin (b := .int .u64 (8 : Nat)) rfl rfl (bin_shr hlt2)) rfl ?_
      refine wl_mv rfl rfl ?_; apply wl_val; apply opv_convR; exact rfl; exact Tryz.underlying135; exact Tryz.underlying5; exact wrap_nat rfl _; exact rfl; refine wl_mv rfl rfl ?_
      refine wl_val (opv_bin rfl rfl (bin_xor rfl (Nat.mod_lt _ (by decide)) hbl)) rfl ?_
      refine wl_elA (kk := y % 256 ^^^ b.toNat) Tryz.underlying151 tyU rfl rfl a3 tabC_length rfl (tabC_get hix) rfl rfl fun p => ?_
      refine wl_val (opv_bin rfl rfl (bin_xor rfl (by simp only [IntKind.bits]; omega) hel)) rfl ?_
      refine wl_as rfl rfl ?_; refine wl_nil ?_; refine we_block_norm ?_; refine we_seq ?_; refine wc_region ?_; apply wl_val; apply opv_bin; exact rfl; exact rfl; exact bin_add64 (by omega); exact rfl; refine wl_mv rfl rfl ?_; refine wl_nil ?_
      refine we_loop [(3, .pointer (some ⟨g, 0, none⟩)), (4, .int .u32 (crcRaw 4294967295 ((rows.take k).flatten ++ r.take (j + 1)) : Nat)), (10, .slice A rows.length c), (11, .int .i64 (rows.length : Int)), (12, .int .i64 (k : Int)), (16, .slice X r.length cx), (17, .int .i64 (r.length : Int)), (18, .int .i64 ((j + 1 : Nat) : Int))] (r.length - (j + 1)) ⟨j + 1, rfl, by omega, rfl, rfl⟩ (by omega) ⟨rfl, by rw [hsn]; rfl, rfl, rfl, rfl, rfl, rfl, by simp [lookT], trivial⟩
    · obtain rfl : j = r.length := by omega
      rw [List.take_length]
      refine wc_exit ?_; refine we_seq_exit ?_; refine we_loop_exit ?_; refine we_block_exit ?_; refine we_block_norm ?_; refine we_seq ?_; refine wc_region ?_; apply wl_val; apply opv_bin; exact rfl; exact rfl; exact bin_add64 (by omega); exact rfl; refine wl_mv rfl rfl ?_; refine wl_nil ?_
      refine we_loop [(3, .pointer (some ⟨g, 0, none⟩)), (4, .int .u32 (crcRaw 4294967295 (rows.take (k + 1)).flatten : Nat)), (10, .slice A rows.length c), (11, .int .i64 (rows.length : Int)), (12, .int .i64 ((k + 1 : Nat) : Int))] (rows.length - (k + 1)) ⟨k + 1, rfl, by omega, rfl, rfl⟩ (by omega) ⟨rfl, ?_, rfl, rfl, by simp [lookT], trivial⟩
      rw [show (rows.take (k + 1)).flatten = (rows.take k).flatten ++ r by rw [List.take_add_one, hx]; simp]; rfl
  · obtain rfl : k = rows.length := by omega
    rw [List.take_length] at hlt ⊢
    refine wc_exit ?_; refine we_seq_exit ?_; refine we_loop_exit ?_; refine we_block_exit ?_; refine we_seq ?_; refine wc_sr ?_; refine wl_mv rfl rfl ?_
    refine wl_val (opv_com rfl hlt) rfl ?_
    refine wl_as rfl rfl ?_; refine wl_ns ?_; refine wc_ret ?_
    exact we_ret1 rfl rfl ⟨_, rfl, rfl, hb3⟩

end Go.Proofs.YtdgagffieobiiaaGreatDoor

/-
  The fixed fact of layer 3's statements, and the walk over the law CrcSums.
-/
namespace Go.Proofs.YtdgagffieobiiaaGreatDoor
open Go.RowKit

theorem RdBB.one {w : World} {A A1 : Option Addr} {c1 : Nat} {r : List UInt8} (h : Rd w A 1 [.slice A1 r.length c1]) (h1 : RdB w A1 r) (hc : r.length ≤ c1) : RdBB w A [r] :=
  ⟨_, h, fun i q hi => by
    cases i with
    | zero => simp only [List.getElem?_cons_zero, Option.some.injEq] at hi; subst hi; exact ⟨A1, c1, rfl, h1, hc⟩
    | succ i => simp at hi⟩
theorem RdBB.two {w : World} {A A1 A2 : Option Addr} {c1 c2 : Nat} {r s : List UInt8} (h : Rd w A 2 [.slice A1 r.length c1, .slice A2 s.length c2]) (h1 : RdB w A1 r) (hc : r.length ≤ c1) (h2 : RdB w A2 s) (hc2 : s.length ≤ c2) : RdBB w A [r, s] :=
  ⟨_, h, fun i q hi => by
    cases i with
    | zero => simp only [List.getElem?_cons_zero, Option.some.injEq] at hi; subst hi; exact ⟨A1, c1, rfl, h1, hc⟩
    | succ i => cases i with
      | zero => simp only [List.getElem?_cons_succ, List.getElem?_cons_zero, Option.some.injEq] at hi; subst hi; exact ⟨A2, c2, rfl, h2, hc2⟩
      | succ i => simp at hi⟩
theorem RdBB.three {w : World} {A A1 A2 A3 : Option Addr} {c1 c2 c3 : Nat} {r s t : List UInt8} (h : Rd w A 3 [.slice A1 r.length c1, .slice A2 s.length c2, .slice A3 t.length c3]) (h1 : RdB w A1 r) (hc : r.length ≤ c1) (h2 : RdB w A2 s) (hc2 : s.length ≤ c2) (h3 : RdB w A3 t) (hc3 : t.length ≤ c3) : RdBB w A [r, s, t] :=
  ⟨_, h, fun i q hi => by
    cases i with
    | zero => simp only [List.getElem?_cons_zero, Option.some.injEq] at hi; subst hi; exact ⟨A1, c1, rfl, h1, hc⟩
    | succ i => cases i with
      | zero => simp only [List.getElem?_cons_succ, List.getElem?_cons_zero, Option.some.injEq] at hi; subst hi; exact ⟨A2, c2, rfl, h2, hc2⟩
      | succ i => cases i with
        | zero => simp only [List.getElem?_cons_succ, List.getElem?_cons_zero, Option.some.injEq] at hi; subst hi; exact ⟨A3, c3, rfl, h3, hc3⟩
        | succ i => simp at hi⟩
end Go.Proofs.YtdgagffieobiiaaGreatDoor

/-
  Walks over the opening of sealed records, of the program and of the reference.
-/
namespace Go.Proofs.YtdgagffieobiiaaGreatDoor
open Go.RowKit

theorem or_add {x y i : Nat} (h : y < 2 ^ i) : x * 2 ^ i ||| y = x * 2 ^ i + y := by
  have := Nat.shiftLeft_add_eq_or_of_lt h x
  rw [Nat.shiftLeft_eq] at this
  exact this.symm
theorem or4 {a b c d : Nat} (hb : b < 256) (hc : c < 256) (hd : d < 256) : a * 2 ^ 24 ||| b * 2 ^ 16 ||| c * 2 ^ 8 ||| d = ((a * 256 + b) * 256 + c) * 256 + d := by
  rw [or_add (show b * 2 ^ 16 < 2 ^ 24 by omega), show a * 2 ^ 24 + b * 2 ^ 16 = (a * 256 + b) * 2 ^ 16 by omega, or_add (show c * 2 ^ 8 < 2 ^ 16 by omega), show (a * 256 + b) * 2 ^ 16 + c * 2 ^ 8 = ((a * 256 + b) * 256 + c) * 2 ^ 8 by omega, or_add (show d < 2 ^ 8 by omega)]
theorem crcGet_any {A : Option Addr} {n c : Nat} {xs : List UInt8} {w : World} (hr : RdB w A xs) (hn : xs.length = n) (h4 : 4 ≤ xs.length) :
    CallsV Tryz.prog 98 #[.slice A n c] w fun v w' => v = .int .u32 (numB (xs.take 4) : Nat) ∧ Below w.heap.size w w' := by
  subst hn
  obtain ⟨x0, h0⟩ : ∃ x, xs[0]? = some x := ⟨_, List.getElem?_eq_getElem (by omega)⟩
  obtain ⟨x1, h1⟩ : ∃ x, xs[1]? = some x := ⟨_, List.getElem?_eq_getElem (by omega)⟩
  obtain ⟨x2, h2⟩ : ∃ x, xs[2]? = some x := ⟨_, List.getElem?_eq_getElem (by omega)⟩
  obtain ⟨x3, h3⟩ : ∃ x, xs[3]? = some x := ⟨_, List.getElem?_eq_getElem (by omega)⟩
  have l0 := x0.toNat_lt
  have l1 := x1.toNat_lt
  have l2 := x2.toNat_lt
  have l3 := x3.toNat_lt
  have q0 : x0.toNat * 2 ^ 24 < 2 ^ 32 := Nat.lt_of_lt_of_le ((Nat.mul_lt_mul_right (by decide)).2 l0) (by decide)
  have q1 : x1.toNat * 2 ^ 16 < 2 ^ 32 := Nat.lt_of_lt_of_le ((Nat.mul_lt_mul_right (by decide)).2 l1) (by decide)
  have q2 : x2.toNat * 2 ^ 8 < 2 ^ 32 := Nat.lt_of_lt_of_le ((Nat.mul_lt_mul_right (by decide)).2 l2) (by decide)
  have q3 : x3.toNat < 2 ^ 32 := Nat.lt_of_lt_of_le l3 (by decide)
  have e : numB (xs.take 4) = ((x0.toNat * 256 + x1.toNat) * 256 + x2.toNat) * 256 + x3.toNat := by
    rw [numB_step h3, numB_step h2, numB_step h1, numB_step h0]; simp [numB]
  rw [← or4 (a := x0.toNat) l1 l2 l3] at e
  rw [e]
  refine calls_in (N := _) Tryz.func98 rfl Tryz.ntmps98 rfl ?_; show WC _ _ _ _ _ _
  refine wc_sr ?_; refine wl_as rfl rfl ?_; refine wl_ns ?_; refine wc_seq ?_
  refine wc_drawB mixed (by kernel_rfl) ?_
  apply wq_val; intro _ hw_; apply opv_move; exact rfl; exact rfl; apply wq_byK (T := tyB) (hr := hr) (hb := h0); exact rfl; exact rfl; exact rfl; exact rfl; exact rfl; intro _; apply wq_val; intro _ hw_; apply opv_convR; exact rfl; exact Tryz.underlying5; exact Tryz.underlying135; exact IntWalk.u32_in _ (by omega); exact rfl
  refine wq_val (fun _ _ => opv_bin (b := .int .u64 (24 : Nat)) rfl rfl ((bin_shl rfl).to (congrArg (fun z : Nat => Value.int .u32 (z : Int)) (Nat.mod_eq_of_lt q0)))) rfl ?_
  apply wq_val; intro _ hw_; apply opv_move; exact rfl; exact rfl; apply wq_byK (T := tyB) (hr := hr) (hb := h1); exact rfl; exact rfl; exact rfl; exact rfl; exact rfl; intro _; apply wq_val; intro _ hw_; apply opv_convR; exact rfl; exact Tryz.underlying5; exact Tryz.underlying135; exact IntWalk.u32_in _ (by omega); exact rfl
  refine wq_val (fun _ _ => opv_bin (b := .int .u64 (16 : Nat)) rfl rfl ((bin_shl rfl).to (congrArg (fun z : Nat => Value.int .u32 (z : Int)) (Nat.mod_eq_of_lt q1)))) rfl ?_
  refine wq_val (fun _ _ => opv_bin rfl rfl (bin_or rfl q0 q1)) rfl ?_
  apply wq_val; intro _ hw_; apply opv_move; exact rfl; exact rfl; apply wq_byK (T := tyB) (hr := hr) (hb := h2); exact rfl; exact rfl; exact rfl; exact rfl; exact rfl; intro _; apply wq_val; intro _ hw_; apply opv_convR; exact rfl; exact Tryz.underlying5; exact Tryz.underlying135; exact IntWalk.u32_in _ (by omega); exact rfl
  refine wq_val (fun _ _ => opv_bin (b := .int .u64 (8 : Nat)) rfl rfl ((bin_shl rfl).to (congrArg (fun z : Nat => Value.int .u32 (z : Int)) (Nat.mod_eq_of_lt q2)))) rfl ?_
  refine wq_val (fun _ _ => opv_bin rfl rfl (bin_or rfl (Nat.or_lt_two_pow q0 q1) q2)) rfl ?_
  apply wq_val; intro _ hw_; apply opv_move; exact rfl; exact rfl; apply wq_byK (T := tyB) (hr := hr) (hb := h3); exact rfl; exact rfl; exact rfl; exact rfl; exact rfl; intro _; apply wq_val; intro _ hw_; apply opv_convR; exact rfl; exact Tryz.underlying5; exact Tryz.underlying135; exact IntWalk.u32_in _ (by omega); exact rfl
  refine wq_val (fun _ _ => opv_bin rfl rfl (bin_or rfl (Nat.or_lt_two_pow (Nat.or_lt_two_pow q0 q1) q2) q3)) rfl ?_
  apply wq_val; intro _ hw_; apply opv_assign; exact rfl; exact rfl; refine wq_nil fun w1 hw1 => ?_
  refine we_seq ?_; refine wc_ret ?_
  exact we_ret1 rfl rfl ⟨_, rfl, rfl, hw1⟩

theorem openB_errY {xs y : List UInt8} {q : Nat} (h : q ≤ xs.length) (hy : xs.drop q = y) {r : List UInt8} {e : Nat} (ho : openH y = (r, e)) (he : ¬ e = 0) : openB xs q = ([], 0, e) := openB_err h (hy.symm ▸ ho) he
theorem openB_okY {xs y : List UInt8} {q : Nat} (h : q ≤ xs.length) (hy : xs.drop q = y) {r : List UInt8} (ho : openH y = (r, 0)) : openB xs q = (r, q + 8 + r.length, 0) := openB_ok h (hy.symm ▸ ho)
/-- A body, a place and an error are handed back. -/
def RetO (w : World) (x : List UInt8 × Nat × Nat) (v : Value) (w' : World) : Prop :=
  ∃ (A : Option Addr) (c : Nat), v = .tuple #[.slice A x.1.length c, .int .i64 (x.2.1 : Int), .int .i64 (x.2.2 : Int)] ∧ OwB w' w.heap.size A c x.1 ∧ Below w.heap.size w w'
theorem RetO.err {w w' : World} {x : List UInt8 × Nat × Nat} {e : Nat} {k : Int} (h : x = ([], 0, e)) (hk : k = e) (hb : Below w.heap.size w w') : RetO w x (.tuple #[.slice none 0 0, .int .i64 0, .int .i64 k]) w' := by
  subst h hk; exact ⟨none, 0, rfl, Ow.nil _ _ _, hb⟩
theorem RdBB.two' {w : World} {A A1 A2 : Option Addr} {n1 n2 c1 c2 : Nat} {r s : List UInt8} (h : Rd w A 2 [.slice A1 n1 c1, .slice A2 n2 c2]) (h1 : RdB w A1 r) (e1 : r.length = n1) (hc : r.length ≤ c1) (h2 : RdB w A2 s) (e2 : s.length = n2) (hc2 : s.length ≤ c2) : RdBB w A [r, s] := by
  subst e1 e2; exact RdBB.two h h1 hc h2 hc2

theorem open_any {A : Option Addr} {n c : Nat} {xs : List UInt8} {p : Int} {w : World} (hr : RdB w A xs) (hn : xs.length = n) (hc : xs.length ≤ c) (hl : xs.length ≤ 140737488355328) :
    CallsV Tryz.prog 74 #[.slice A n c, .int .i64 p] w (RetO w (openB xs p)) := by
  subst hn
  refine calls_in (N := _) Tryz.func74 rfl Tryz.ntmps74 rfl ?_; show WC _ _ _ _ _ _
  refine wc_sr ?_; refine wl_as rfl rfl ?_; refine wl_as rfl rfl ?_; refine wl_as rfl rfl ?_; refine wl_ns ?_; refine wc_seq ?_; refine wc_sr ?_; refine wl_mv rfl rfl ?_; refine wl_bin rfl rfl bin_lss rfl ?_; refine wl_mv rfl rfl ?_
  refine wl_cutV 5 16 (.bool (decide ((p < 0) ∨ ((xs.length : Int) < p)))) ?c8 ?_; (case c8 => (dsimp only [List.take]; by_cases hc0 : (p < 0); (focus (apply wl_skip; exact rfl; exact rfl; exact rfl; refine bTn ?_; (with_reducible assumption); exact rfl; apply wl_skip; exact rfl; exact rfl; exact rfl; refine bTn ?_; (with_reducible assumption); exact rfl; apply wl_skip; exact rfl; exact rfl; exact rfl; refine bTn ?_; (with_reducible assumption); exact rfl; apply wl_skip; exact rfl; exact rfl; exact rfl; refine bTn ?_; (with_reducible assumption); exact rfl; apply wl_val; apply opv_pickT; exact rfl; refine bT ?_; (with_reducible assumption); exact rfl; exact rfl; refine wl_nil ?_; refine we_cut _ ⟨rfl, rfl⟩ ⟨congrArg (fun b => some (Value.bool b)) ?e8_0, ?s8_0⟩; (case e8_0 => ((simp [hc0]; done))); (case s8_0 => (refine And.intro rfl ?_; refine And.intro rfl ?_; refine And.intro rfl ?_; refine And.intro rfl ?_; refine And.intro rfl ?_; refine And.intro rfl ?_; refine And.intro rfl ?_; refine And.intro rfl ?_; exact True.intro)))); (focus (apply wl_take; exact rfl; exact rfl; exact rfl; refine bF ?_; (with_reducible assumption); refine wl_mv rfl rfl ?_; apply wl_take; exact rfl; exact rfl; exact rfl; refine bF ?_; (with_reducible assumption); refine wl_mv rfl rfl ?_; apply wl_take; exact rfl; exact rfl; exact rfl; refine bF ?_; (with_reducible assumption); apply wl_val; apply opv_len; exact rfl; exact tyB.sl; exact rfl; apply wl_take; exact rfl; exact rfl; exact rfl; refine bF ?_; (with_reducible assumption); refine wl_bin rfl rfl bin_gtr rfl ?_; apply wl_val; apply opv_pickF; exact rfl; refine bF ?_; (with_reducible assumption); exact rfl; exact rfl; refine wl_nil ?_; refine we_cut _ ⟨rfl, rfl⟩ ⟨congrArg (fun b => some (Value.bool b)) ?e8_1, ?s8_1⟩; (case e8_1 => ((simp [hc0]; done))); (case s8_1 => (refine And.intro rfl ?_; refine And.intro rfl ?_; refine And.intro rfl ?_; refine And.intro rfl ?_; refine And.intro rfl ?_; refine And.intro rfl ?_; refine And.intro rfl ?_; refine And.intro rfl ?_; exact True.intro)))))); dsimp only [List.drop]
  refine wl_ns ?_
  refine wc_cond rfl (fun h => ?_) (fun h => ?_)
  · refine wc_sr ?_; refine wl_as rfl rfl ?_; refine wl_as rfl rfl ?_; refine wl_as rfl rfl ?_; refine wl_ns ?_; refine wc_ret ?_; refine we_seq_ret ?_
    exact we_ret3 rfl rfl rfl rfl ⟨_, rfl, RetO.err (openB_arg (by omega)) rfl (Below.refl _ _)⟩
  · obtain ⟨q, rfl⟩ := Int.eq_ofNat_of_zero_le (show 0 ≤ p by omega)
    have hq : q ≤ xs.length := by omega
    refine wc_skip ?_; refine we_seq ?_; refine wc_sr ?_; refine wl_mv rfl rfl ?_; refine wl_mv rfl rfl ?_
    refine wl_sl (l := q) (h := xs.length) tyB rfl ⟨_, rfl⟩ rfl hq (by omega) rfl ?_
    obtain ⟨y, hy⟩ : ∃ y, xs.drop q = y := ⟨_, rfl⟩
    have ry : RdB w (cutA A c q) y := by have := rd_cut hr hq (Nat.le_refl _) hc; rw [List.take_length, hy] at this; exact this
    have hyl : xs.length - q = y.length := by rw [← hy, List.length_drop]
    obtain ⟨Y, hY⟩ : ∃ Y, cutA A c q = Y := ⟨_, rfl⟩
    obtain ⟨d, hd⟩ : ∃ d, c - q = d := ⟨_, rfl⟩
    have hyd : y.length ≤ d := by omega
    rw [hY] at ry
    rw [hyl, hY, hd]
    refine wl_as rfl rfl ?_; refine wl_ns ?_; refine wc_seq ?_; refine wc_sr ?_; refine wl_mv rfl rfl ?_; apply wl_val; apply opv_len; exact rfl; exact tyB.sl; exact rfl; refine wl_bin rfl rfl bin_lss rfl ?_; refine wl_ns ?_
    refine wc_cond rfl (fun h8 => ?_) (fun h8 => ?_)
    · refine wc_sr ?_; refine wl_as rfl rfl ?_; refine wl_as rfl rfl ?_; refine wl_as rfl rfl ?_; refine wl_ns ?_; refine wc_ret ?_; refine we_seq_ret ?_
      exact we_ret3 rfl rfl rfl rfl ⟨_, rfl, RetO.err (openB_errY hq hy (openH_short (by omega)) (by decide)) rfl (Below.refl _ _)⟩
    · refine wc_skip ?_; refine we_seq ?_; refine wc_sr ?_; refine wl_mv rfl rfl ?_
      refine wl_call ok_crc_get (crcGet_any ry rfl (by omega)) ⟨rfl, trivial⟩ rfl ?_
      rintro _ w1 ⟨rfl, hb1⟩
      obtain ⟨n, hn⟩ : ∃ n, numB (y.take 4) = n := ⟨_, rfl⟩
      have hnl : n < 4294967296 := by rw [← hn]; exact numB_lt4 (by simp; omega)
      rw [hn]
      replace ry := RdB.below ry hb1
      refine wl_as rfl rfl ?_; refine wl_ns ?_; refine wc_seq ?_; refine wc_sr ?_; refine wl_mv rfl rfl ?_; refine wl_bin rfl rfl bin_gtr rfl ?_; refine wl_ns ?_
      refine wc_cond rfl (fun h2 => ?_) (fun h2 => ?_)
      · refine wc_sr ?_; refine wl_as rfl rfl ?_; refine wl_as rfl rfl ?_; refine wl_as rfl rfl ?_; refine wl_ns ?_; refine wc_ret ?_; refine we_seq_ret ?_
        exact we_ret3 rfl rfl rfl rfl ⟨_, rfl, RetO.err (openB_errY hq hy (openH_size (by omega) (by omega)) (by decide)) rfl hb1⟩
      · refine wc_skip ?_; refine we_seq ?_; refine wc_sr ?_; refine wl_mv rfl rfl ?_; apply wl_val; apply opv_convR; exact rfl; exact Tryz.underlying135; exact Tryz.underlying3; exact IntWalk.i64_in _ (by omega); exact rfl; apply wl_val; apply opv_bin; exact rfl; exact rfl; exact bin_add64 (by omega); exact rfl; refine wl_as rfl rfl ?_; refine wl_ns ?_; refine wc_seq ?_; refine wc_sr ?_; refine wl_mv rfl rfl ?_; apply wl_val; apply opv_len; exact rfl; exact tyB.sl; exact rfl; refine wl_mv rfl rfl ?_; refine wl_bin rfl rfl bin_lss rfl ?_; refine wl_ns ?_
        refine wc_cond rfl (fun h3 => ?_) (fun h3 => ?_)
        · refine wc_sr ?_; refine wl_as rfl rfl ?_; refine wl_as rfl rfl ?_; refine wl_as rfl rfl ?_; refine wl_ns ?_; refine wc_ret ?_; refine we_seq_ret ?_
          exact we_ret3 rfl rfl rfl rfl ⟨_, rfl, RetO.err (openB_errY hq hy (openH_end (by omega) (by omega) (by omega)) (by decide)) rfl hb1⟩
        · have hyn : 8 + n ≤ y.length := by omega
          have hbl : ((y.take (8 + n)).drop 8).length = n := by simp; omega
          refine wc_skip ?_; refine we_seq ?_; refine wc_seq ?_; refine wc_seq ?_
          refine wc_heldB mixed fun w2 hS => ?_
          apply wh_take 0; exact rfl; kernel_rfl; kernel_rfl; kernel_rfl; exact hS; intro _ hw_; apply opv_move; exact rfl; exact rfl
          refine wh_take 1 rfl (by kernel_rfl) (by kernel_rfl) (by kernel_rfl) hS (fun _ _ => opv_slice (l := 0) (h := 4) tyB rfl rfl ⟨_, rfl⟩ (by omega) (by omega)) rfl ?_
          apply wh_take 2; exact rfl; kernel_rfl; kernel_rfl; kernel_rfl; exact hS; intro _ hw_; apply opv_move; exact rfl; exact rfl; apply wh_take 3; exact rfl; kernel_rfl; kernel_rfl; kernel_rfl; exact hS; intro _ hw_; apply opv_move; exact rfl; exact rfl
          refine wh_take 4 rfl (by kernel_rfl) (by kernel_rfl) (by kernel_rfl) hS (fun _ _ => opv_slice (l := 8) (h := 8 + n) tyB rfl ⟨_, rfl⟩ ⟨_, by simp only [Int.natCast_add]; rfl⟩ (by omega) (by omega)) rfl ?_
          apply wh_take 7; exact rfl; kernel_rfl; kernel_rfl; kernel_rfl; exact hS; intro _ hw_; apply opv_move; exact rfl; exact rfl
          refine wh_take 8 rfl (by kernel_rfl) (by kernel_rfl) (by kernel_rfl) hS (fun _ _ => opv_slice (l := 4) (h := y.length) tyB rfl ⟨_, rfl⟩ rfl (by omega) (by omega)) rfl ?_
          refine wh_one 5 (o := ⟨_, _, _, _, _, _⟩) (by kernel_rfl) rfl ?_
          refine wl_bs (vs := [_, _]) tyBB ⟨rfl, rfl, rfl, rfl, rfl, rfl, trivial⟩ rfl (by decide) rfl fun A5 w5 o5 h5 _ => ?_
          have hS5 := hS.trans (h5.mono hS.size)
          replace ry := RdB.below ry hS5
          have rA : RdB w5 (cutA Y d 0) (y.take 4) := by have := rd_cut (l := 0) (h := 4) ry (by omega) (by omega) hyd; exact this
          have rB := rd_cut (l := 8) (h := 8 + n) ry (by omega) hyn hyd
          have rC := rd_cut (l := 4) (h := y.length) ry (by omega) (Nat.le_refl _) hyd
          rw [List.take_length] at rC
          have hrows := RdBB.two' o5.rd rA (by simp; omega) (by simp; omega) rB (by simp; omega) (by simp; omega)
          refine wl_nil ?_
          refine we_held hS5 ?_
          refine wh_one 6 (o := ⟨_, _, _, _, _, _⟩) (by kernel_rfl) rfl ?_
          refine wl_call ok_crc_Sum (sum_any hrows rfl (by simp only [maxLen]; simp; omega) (by simp only [maxLen]; simp)) ⟨rfl, trivial⟩ rfl ?_
          rintro _ w6 ⟨rfl, h6⟩
          have hS6 := hS5.trans (h6.mono hS5.size)
          refine wl_nil ?_
          refine we_held hS6 ?_
          refine wh_one 9 (o := ⟨_, _, _, _, _, _⟩) (by kernel_rfl) rfl ?_
          refine wl_call ok_crc_get (crcGet_any (RdB.below rC h6) (by simp) (by simp; omega)) ⟨rfl, trivial⟩ rfl ?_
          rintro _ w7 ⟨rfl, h7⟩
          have hS7 := hS6.trans (h7.mono hS6.size)
          refine wl_nil ?_
          refine we_held hS7 ?_
          obtain ⟨s, hs⟩ : ∃ s, crcOf [y.take 4, (y.take (8 + n)).drop 8].flatten = s := ⟨_, rfl⟩
          obtain ⟨t, ht⟩ : ∃ t, numB ((y.drop 4).take 4) = t := ⟨_, rfl⟩
          rw [hs, ht]
          have hs' : crcOf (y.take 4 ++ (y.take (8 + n)).drop 8) = s := by rw [← hs]; simp
          apply wh_take 10; exact rfl; kernel_rfl; kernel_rfl; kernel_rfl; exact hS7; intro _ hw_; apply opv_bin; exact rfl; exact rfl; exact bin_neq; exact rfl
          refine wh_done (by kernel_rfl) ?_
          have hb7 := hb1.trans (hS7.mono hb1.size)
          refine we_seq ?_
          refine wc_cond rfl (fun h4 => ?_) (fun h4 => ?_)
          · refine wc_sr ?_; refine wl_as rfl rfl ?_; refine wl_as rfl rfl ?_; refine wl_as rfl rfl ?_; refine wl_ns ?_; refine wc_ret ?_; refine we_seq_ret ?_
            exact we_ret3 rfl rfl rfl rfl ⟨_, rfl, RetO.err (openB_errY hq hy (openH_sum (by omega) (by omega) (by omega) (by rw [hn, hs', ht]; omega)) (by decide)) rfl hb7⟩
          · refine wc_skip ?_; refine we_seq ?_; refine wc_sr ?_; refine wl_mv rfl rfl ?_; refine wl_mv rfl rfl ?_
            refine wl_sl (l := 8) (h := 8 + n) tyB rfl ⟨_, rfl⟩ ⟨_, by simp only [Int.natCast_add]; rfl⟩ (by omega) (by omega) rfl ?_
            have rD := RdB.below rB (h6.trans (h7.mono h6.size))
            refine wl_call ok_bytes_Clone (clone_any rD (by rw [hbl]; omega) (by rw [hbl]; omega)) ⟨rfl, trivial⟩ rfl ?_
            rintro _ w8 ⟨A8, c8, rfl, o8, h8'⟩
            have hb8 := hb7.trans (h8'.mono hb7.size)
            have eo := openB_okY hq hy (openH_ok (y := y) (by omega) (by omega) (by omega) (by rw [hn, hs', ht]; omega))
            rw [hn] at eo
            refine wl_mv rfl rfl ?_; refine wl_mv rfl rfl ?_; apply wl_val; apply opv_bin; exact rfl; exact rfl; exact bin_add64 (by omega); exact rfl; refine wl_as rfl rfl ?_; refine wl_as rfl rfl ?_; refine wl_as rfl rfl ?_; refine wl_ns ?_; refine wc_ret ?_
            refine we_ret3 rfl rfl rfl rfl ⟨_, rfl, ?_⟩
            rw [eo]
            refine ⟨A8, c8, ?_, Ow.mono o8 hb7.size, hb8⟩
            rw [hbl, show (q : Int) + (8 + (n : Int)) = ((q + 8 + n : Nat) : Int) by omega]; rfl

theorem open_at {A : Option Addr} {n c : Nat} {xs : List UInt8} {p : Int} {w : World} {x : List UInt8 × Nat × Nat} (h : openB xs p = x) (hr : RdB w A xs) (hn : xs.length = n) (hc : xs.length ≤ c) (hl : xs.length ≤ 140737488355328) :
    CallsV Tryz.prog 74 #[.slice A n c, .int .i64 p] w (RetO w x) := h ▸ open_any hr hn hc hl

end Go.Proofs.YtdgagffieobiiaaGreatDoor

/-
  Walks over the reference's sealed records.
-/
namespace Go.Proofs.YtdgagffieobiiaaGreatDoor
open Go.RowKit

theorem OwB.of {w : World} {base n c : Nat} {A : Option Addr} {vs : List Value} {ys : List UInt8} (h : Ow w base 5 A n c vs) (hn : ys.length = n) (hv : bvs ys = vs) : OwB w base A c ys := by subst hn hv; exact h
theorem sealB_ok {l : List UInt8} (h : l.length ≤ 1048576) : sealB l = (crcRec l, 0) := by rw [sealB, if_neg (by omega)]
end Go.Proofs.YtdgagffieobiiaaGreatDoor

/-
  New memory of the library's: rules for copy and for its fresh bytes; walks over bytes.Join without a separator and over the sealing of records.
-/
namespace Go.Proofs.YtdgagffieobiiaaGreatDoor
open Go.RowKit

section
variable {P : Program} {N : Nat} {ops : Array Oper} {Q : Exit → Act → World → Prop} {rest : List Oper} {L : FL} {w : World} {t e : TypeId} {z : Value} {bytes : Nat}
/-- copy into a block that is known whole: all of the source fits. -/
theorem wl_copy {d : Nat} {x y : Operand} {ty : TypeId} {pos : String} {aft : Array Edge} {g off n c m c' : Nat} {A B : Option Addr} {cs ys : List Value} (T : Row1 P t e z bytes)
    (hx : look L x = some (.slice A n c)) (hy : look L y = some (.slice B m c')) (ha : Ar w g e cs) (hr : Rd w B m ys) (h1 : ∀ u ∈ ys, u.oneCell' = true)
    (hA : 0 < m → A = some ⟨g, off, none⟩) (hm : m ≤ n) (hfit : off + m ≤ cs.length) (hd : Nat.blt d N = true)
    (h : ∀ w', Ar w' g e (cs.take off ++ (ys ++ cs.drop (off + m))) → Below g w w' → WL P N ops Q rest ((d, .int .i64 (m : Int)) :: L) w') :
    WL P N ops Q (⟨some d, .call { callee := .builtin .copy, args := #[x, y], argTypes := #[t, t] }, ty, pos, aft, none⟩ :: rest) L w := fun a hH => by
  have hl : ys.length = m := hr.1
  obtain ⟨i, hi, _, hs, _⟩ := info_parts T.info
  refine wpList_copy_splice rfl x y t t rfl e T.sl (by simp [hi, hs]) A B n c m c' (hH.eval hx) (hH.eval hy) g off cs e ha ys (by rw [hl]; exact (Nat.min_eq_left hm).symm)
    (fun h0 => ?_) (by rw [hl]; exact hfit) h1 g w (Below.refl _ _) (Nat.le_refl _) fun w' hc hb => ?_
  · rw [hl] at h0
    obtain ⟨b, o, hB, _, hcell⟩ := hr.2 h0
    exact ⟨hA h0, ⟨b, o, none⟩, hB, fun j v hv => by rw [Addr.add_lit]; exact hcell j v hv⟩
  · have hc' : Ar w' g e (splice cs off ys) := hc
    unfold splice at hc'
    rw [hl] at hc'
    have := h w' hc' hb _ (hH.put hd (.int .i64 (m : Int)))
    simpa [goInt, hl] using this
theorem opv_ext {f : FuncId} {x : Operand} {ats : Array TypeId} {ty : TypeId} {u v : Value} {w' : World} (hx : look L x = some u) (hrun : (callFunc f #[u]).run P w = .ok (.value v) w') :
    OpV P (.call { callee := .value (.func f), args := #[x], argTypes := ats }) ty L w v w' := fun ρ o hρ ho _ => by
  have hf : ρ (.func f) = .func (.func f) #[] #[] := hρ _ _ rfl
  unfold execOp
  simp only [ho, resolve, Deferred.ofValue, hf, Sem.run_bind, Sem.run_pure, Result.andThen_ok, invoke]
  have : (#[] ++ Array.map ρ #[x] ++ #[]) = #[u] := by simp [hρ x u hx]
  rw [this]
  exact hrun
theorem opv_slice3 {x y y' : Operand} {ty : TypeId} {A : Option Addr} {n c h : Nat} {k k' : IntKind} (T : Row1 P t e z bytes) (hx : look L x = some (.slice A n c)) (hy : look L y = some (.int k (h : Int))) (hy' : look L y' = some (.int k' (h : Int))) (h2 : h ≤ c) :
    OpV P (.slice t x none (some y) (some y')) ty L w (.slice A h h) w := fun ρ o hρ ho _ => by
  unfold execOp
  simp only [ho, Instr.sliceAt, Instr.slice, Sem.run_bind, run_underlying T.sl, Result.andThen_ok, hρ x _ hx, Option.map_none, Option.map_some, T.size]
  have e1 : (Instr.sliceBounds true n c none (some (ρ y)) (some (ρ y'))).run P w = .ok (0, h, h) w := by
    simp [Instr.sliceBounds, Instr.sliceBound, hρ y _ hy, hρ y' _ hy', asIntOf, h2]
  rw [e1]
  by_cases h0 : h = 0
  · subst h0; simp
  · cases A with
    | none => simp
    | some a => simp [Addr.add]
end

/-- New bytes: at the head of a block from block base on (which may be longer than the slice), or nil. -/
def NwB (w : World) (base : Nat) (A : Option Addr) (c : Nat) (xs : List UInt8) : Prop :=
  (A = none ∧ c = 0 ∧ xs = []) ∨ ∃ (g : Nat) (cs : List Value), A = some ⟨g, 0, none⟩ ∧ base ≤ g ∧ Ar w g 5 cs ∧ xs.length ≤ c ∧ c ≤ cs.length ∧ cs.take xs.length = bvs xs
section
variable {w w' : World} {base c : Nat} {A : Option Addr} {xs : List UInt8}
theorem OwB.nw (h : OwB w base A c xs) : NwB w base A c xs := by
  rcases h.2 with ⟨hv, hn⟩ | ⟨g, cap, cur, hv, hb, hg, hnc, _, hs, ht⟩
  · injection hv with hA hn' hc
    exact .inl ⟨hA, hc, List.length_eq_zero_iff.1 hn'⟩
  · injection hv with hA hn' hc
    subst hc
    exact .inr ⟨g, cur.toList, hA, hb, by simpa [Ar] using hg, hnc, by simp; omega, by simpa using ht⟩
theorem NwB.cap (h : NwB w base A c xs) : xs.length ≤ c := by
  rcases h with ⟨_, rfl, rfl⟩ | ⟨_, _, _, _, _, h, _⟩
  · simp
  · exact h
theorem NwB.rd (h : NwB w base A c xs) : RdB w A xs := by
  rcases h with ⟨rfl, rfl, rfl⟩ | ⟨g, cs, rfl, hg, ha, h1, h2, h3⟩
  · exact Rd.nil _ _
  · refine ⟨bvs_length _, fun _ => ⟨g, 0, rfl, ha.lt, fun j u hu => ?_⟩⟩
    rw [← h3, List.getElem?_take] at hu
    split at hu
    · rw [ha.cell, Nat.zero_add]; exact hu
    · cases hu
theorem NwB.below (h : NwB w base A c xs) (hb : Below w.heap.size w w') : NwB w' base A c xs := by
  rcases h with h | ⟨g, cs, hA, hg, ha, h1⟩
  · exact .inl h
  · exact .inr ⟨g, cs, hA, hg, ha.bel hb, h1⟩
theorem NwB.mono {base' : Nat} (h : NwB w base A c xs) (hb : base' ≤ base) : NwB w base' A c xs := by
  rcases h with h | ⟨g, cs, hA, hg, h1⟩
  · exact .inl h
  · exact .inr ⟨g, cs, hA, Nat.le_trans hb hg, h1⟩
end
def RetN' (w : World) (xs : List UInt8) (v : Value) (w' : World) : Prop :=
  ∃ (A : Option Addr) (c : Nat), v = .slice A xs.length c ∧ NwB w' w.heap.size A c xs ∧ Below w.heap.size w w'

theorem take_flat {rows : List (List UInt8)} {k : Nat} {x : List UInt8} (hx : rows[k]? = some x) : (rows.take (k + 1)).flatten = (rows.take k).flatten ++ x := by
  rw [List.take_add_one, hx]; simp
theorem take_flat_le (rows : List (List UInt8)) (k : Nat) : (rows.take k).flatten.length ≤ rows.flatten.length := by
  have : rows.flatten = (rows.take k).flatten ++ (rows.drop k).flatten := by rw [← List.flatten_append, List.take_append_drop]
  rw [this, List.length_append]; omega
theorem bJoin_any {A : Option Addr} {n c : Nat} {rows : List (List UInt8)} {w : World} (hr : RdBB w A rows) (hn : rows.length = n) (hc : rows.length ≤ c) (hl : rows.flatten.length ≤ 140737488355328) (hl2 : rows.length ≤ maxLen) :
    CallsV Tryz.prog 90 #[.slice A n c, .slice none 0 0] w (RetN' w rows.flatten) := by
  subst hn
  simp only [maxLen] at hl2
  refine calls_in (N := _) Tryz.func90 rfl Tryz.ntmps90 rfl ?_; show WC _ _ _ _ _ _
  refine wc_sr ?_; refine wl_as rfl rfl ?_; refine wl_ns ?_; refine wc_seq ?_; refine wc_sr ?_; refine wl_mv rfl rfl ?_; apply wl_val; apply opv_len; exact rfl; exact tyBB.sl; exact rfl; refine wl_bin rfl rfl bin_eql rfl ?_; refine wl_ns ?_
  refine wc_cond rfl (fun h0 => ?_) (fun h0 => ?_)
  · obtain rfl : rows = [] := List.length_eq_zero_iff.1 (by omega)
    refine wc_sr ?_
    refine wl_bs (vs := []) tyB trivial rfl (by decide) rfl fun A1 w1 o1 hb1 _ => ?_
    refine wl_as rfl rfl ?_; refine wl_ns ?_; refine wc_ret ?_; refine we_seq_ret ?_
    exact we_ret1 rfl rfl ⟨_, rfl, A1, 0, rfl, OwB.nw o1, hb1⟩
  · refine wc_skip ?_; refine we_seq ?_; refine wc_seq ?_; refine wc_sr ?_; refine wl_mv rfl rfl ?_; apply wl_val; apply opv_len; exact rfl; exact tyBB.sl; exact rfl; refine wl_bin rfl rfl bin_eql rfl ?_; refine wl_ns ?_
    obtain ⟨r0, hr0⟩ : ∃ x, rows[0]? = some x := ⟨_, List.getElem?_eq_getElem (by omega)⟩
    have hf0 : (rows.take 1).flatten = r0 := by rw [take_flat hr0]; simp
    have hl0 := take_flat_le rows 1
    rw [hf0] at hl0
    obtain ⟨vs, X, cx, hv, hvk, rx, hcx⟩ := hr.at hr0
    refine wc_cond rfl (fun h1 => ?_) (fun h1 => ?_)
    · have hone : rows.flatten = r0 := by rw [← hf0, List.take_of_length_le (by omega)]
      refine wc_sr ?_; refine wl_mv rfl rfl ?_; apply wl_elK (T := tyBB) (hr := hv) (hb := hvk); exact rfl; exact rfl; exact rfl; exact rfl; exact rfl; intro _
      refine wl_app tyB rfl (Ow.nil w w.heap.size _) rfl rx (bvs_one _) (by omega) (by simp only [maxLen]; omega) (Nat.le_refl _) rfl fun A1 c1 w1 o1 g1 _ => ?_
      have hb1 := g1.below (Below.refl w.heap.size w) (Ow.nil w w.heap.size 5) (Nat.le_refl _) (Nat.le_refl _)
      refine wl_as rfl rfl ?_; refine wl_ns ?_; refine wc_ret ?_; refine we_seq_ret ?_
      refine we_ret1 rfl rfl ⟨_, rfl, ?_⟩
      rw [hone]
      exact ⟨A1, c1, by simp, (OwB.of o1 (by simp) (by simp)).nw, hb1⟩
    · refine wc_skip ?_; refine we_seq ?_; refine wc_sr ?_; refine wl_as rfl rfl ?_; refine wl_ns ?_; refine wc_seq ?_; refine wc_sr ?_; refine wl_mv rfl rfl ?_; apply wl_val; apply opv_len; exact rfl; exact tyB.sl; exact rfl; refine wl_bin rfl rfl bin_gtr rfl ?_; refine wl_ns ?_
      refine wc_condF rfl ?_
      refine wc_skip ?_; refine we_seq ?_; refine wc_seq ?_; refine wc_sr ?_; refine wl_mv rfl rfl ?_; apply wl_val; apply opv_len; exact rfl; exact tyBB.sl; exact rfl; refine wl_mv rfl rfl ?_; refine wl_ns ?_; refine wc_block ?_
      refine wc_loop (fun L wr m => ∃ k : Nat, L = [(0, .slice A rows.length c), (1, .slice none 0 0), (5, .int .i64 ((rows.take k).flatten.length : Nat)), (42, .slice A rows.length c), (43, .int .i64 (rows.length : Int)), (44, .int .i64 (k : Int))] ∧ k ≤ rows.length ∧ w = wr ∧ m = rows.length - k)
        [(0, .slice A rows.length c), (1, .slice none 0 0), (5, .int .i64 (0 : Nat)), (42, .slice A rows.length c), (43, .int .i64 (rows.length : Int)), (44, .int .i64 (0 : Nat))] rows.length ⟨0, rfl, by omega, rfl, rfl⟩ ⟨rfl, rfl, rfl, rfl, rfl, rfl, trivial⟩ ?_
      rintro _ _ m ⟨k, rfl, hk, rfl, rfl⟩
      have hlk := take_flat_le rows k
      refine wc_sr ?_; refine wl_bin rfl rfl bin_lss rfl ?_; refine wl_ns ?_; refine wc_seq ?_
      refine wc_cond rfl (fun h2 => ?_) (fun h2 => ?_)
      · obtain ⟨x, hx⟩ : ∃ x, rows[k]? = some x := ⟨_, List.getElem?_eq_getElem (by omega)⟩
        obtain ⟨us, Y, cy, hu, huk, ry, hcy⟩ := hr.at hx
        have e2 := congrArg List.length (take_flat hx)
        rw [List.length_append] at e2
        have hlk1 := take_flat_le rows (k + 1)
        refine wc_skip ?_; refine we_seq ?_; refine wc_seq ?_; refine wc_block ?_; refine wc_sr ?_; apply wl_elK (T := tyBB) (hr := hu) (hb := huk); exact rfl; exact rfl; exact rfl; exact rfl; exact rfl; intro _; refine wl_as rfl rfl ?_; refine wl_ns ?_; refine wc_seq ?_; refine wc_sr ?_; refine wl_mv rfl rfl ?_; apply wl_val; apply opv_len; exact rfl; exact tyB.sl; exact rfl; refine wl_mv rfl rfl ?_; apply wl_val; apply opv_bin; exact rfl; exact rfl; exact bin_sub64 (by omega); exact rfl; refine wl_bin rfl rfl bin_gtr rfl ?_; refine wl_ns ?_
        refine wc_cond rfl (fun h3 => ?_) (fun h3 => ?_)
        · exact absurd h3 (by omega)
        · refine wc_skip ?_; refine we_seq ?_; refine wc_region ?_; refine wl_mv rfl rfl ?_; refine wl_mv rfl rfl ?_; apply wl_val; apply opv_len; exact rfl; exact tyB.sl; exact rfl; apply wl_val; apply opv_bin; exact rfl; exact rfl; exact bin_add64 (by omega); exact rfl; refine wl_as rfl rfl ?_; refine wl_nil ?_; refine we_block_norm ?_; refine we_seq ?_; refine wc_region ?_; apply wl_val; apply opv_bin; exact rfl; exact rfl; exact bin_add64 (by omega); exact rfl; refine wl_mv rfl rfl ?_; refine wl_nil ?_
          refine we_loop [(0, .slice A rows.length c), (1, .slice none 0 0), (5, .int .i64 ((rows.take (k + 1)).flatten.length : Nat)), (42, .slice A rows.length c), (43, .int .i64 (rows.length : Int)), (44, .int .i64 ((k + 1 : Nat) : Int))] (rows.length - (k + 1)) ⟨k + 1, rfl, by omega, rfl, rfl⟩ (by omega) ⟨rfl, rfl, by rw [e2]; rfl, rfl, rfl, by simp [lookT], trivial⟩
      · obtain rfl : k = rows.length := by omega
        rw [List.take_length]
        obtain ⟨T, hT⟩ : ∃ T, rows.flatten.length = T := ⟨_, rfl⟩
        rw [hT] at hl ⊢
        obtain ⟨cs, hrunM, hle, _⟩ := Lib.run_makeNoZero (P := Tryz.prog) w #[3] 28 5 Tryz.underlying28 T (by omega)
        have hcall : (callFunc 105 #[.int .i64 (T : Int)]).run Tryz.prog w = .ok (.value (.slice (some ⟨w.heap.size, 0, none⟩) T cs.size)) (w.drew.drew.alloc (.cells cs 5)) := by
          rw [run_callFunc_extern Tryz.func105 (by kernel_rfl) (by kernel_rfl) (by kernel_rfl) (e := Extern.BytealgMakeNoZero.makeNoZero #[3] #[28]) (by kernel_rfl), hrunM]
          rfl
        clear hrunM
        obtain ⟨g, hg⟩ : ∃ g, w.heap.size = g := ⟨_, rfl⟩
        have hbA : Below g w (w.drew.drew.alloc (.cells cs 5)) := ((Below.refl g w).drew.drew).alloc (by simp [hg]) _
        have aA : Ar (w.drew.drew.alloc (.cells cs 5)) g 5 cs.toList := by
          have := Ar.new w.drew.drew 5 cs.toList
          simpa [hg] using this
        obtain ⟨w1, hw1⟩ : ∃ w1, w.drew.drew.alloc (.cells cs 5) = w1 := ⟨_, rfl⟩
        rw [hw1] at hcall hbA aA
        rw [hg] at hcall
        have hlen : cs.toList.length = cs.size := by simp
        obtain ⟨ds, hds⟩ : ∃ ds, cs.toList = ds := ⟨_, rfl⟩
        rw [hds] at aA hlen
        rw [← hlen] at hle hcall
        refine wc_exit ?_; refine we_seq_exit ?_; refine we_loop_exit ?_; refine we_block_exit ?_; refine we_seq ?_; refine wc_sr ?_; refine wl_mv rfl rfl ?_
        refine wl_val (opv_ext rfl hcall) rfl ?_
        refine wl_mv rfl rfl ?_; refine wl_mv rfl rfl ?_
        refine wl_val (opv_slice3 (h := T) tyB rfl rfl rfl hle) rfl ?_
        refine wl_as rfl rfl ?_; refine wl_ns ?_; refine wc_sr ?_; refine wl_mv rfl rfl ?_; refine wl_mv rfl rfl ?_
        have hr1 := RdBB.below hr (show Below w.heap.size w w1 by rw [hg]; exact hbA)
        obtain ⟨vs, X, cx, hv, hvk, rx, hcx⟩ := hr1.at hr0
        apply wl_elK (T := tyBB) (hr := hv) (hb := hvk); exact rfl; exact rfl; exact rfl; exact rfl; exact rfl; intro _
        refine wl_copy (off := 0) tyB rfl rfl aA rx (bvs_one _) (fun _ => rfl) (by omega) (by omega) rfl fun w2 a2 hb2 => ?_
        have hb2' := hbA.trans hb2
        rw [List.take_zero, List.nil_append, Nat.zero_add] at a2
        refine wl_as rfl rfl ?_; refine wl_ns ?_; refine wc_seq ?_; refine wc_sr ?_; refine wl_mv rfl rfl ?_
        refine wl_sl (l := 1) (h := rows.length) tyBB rfl ⟨_, rfl⟩ rfl (by omega) (by omega) rfl ?_
        apply wl_val; apply opv_len; exact rfl; exact tyBB.sl; exact rfl; refine wl_mv rfl rfl ?_; refine wl_ns ?_; refine wc_block ?_
        refine wc_loop (fun L wr m => ∃ (k : Nat) (es : List Value), L = [(1, .slice none 0 0), (8, .slice (some ⟨g, 0, none⟩) T T), (9, .int .i64 ((rows.take (k + 1)).flatten.length : Nat)), (70, .slice (cutA A c 1) (rows.length - 1) (c - 1)), (71, .int .i64 ((rows.length - 1 : Nat) : Int)), (72, .int .i64 (k : Int))] ∧ k + 1 ≤ rows.length ∧ Ar wr g 5 es ∧ es.length = ds.length ∧ es.take (rows.take (k + 1)).flatten.length = bvs (rows.take (k + 1)).flatten ∧ Below g w wr ∧ m = rows.length - k)
          [(1, .slice none 0 0), (8, .slice (some ⟨g, 0, none⟩) T T), (9, .int .i64 (r0.length : Nat)), (70, .slice (cutA A c 1) (rows.length - 1) (c - 1)), (71, .int .i64 ((rows.length - 1 : Nat) : Int)), (72, .int .i64 (0 : Nat))] rows.length
          ⟨0, bvs r0 ++ ds.drop r0.length, by rw [Nat.zero_add, hf0], by omega, a2, by simp [bvs_length]; omega, by rw [Nat.zero_add, hf0, List.take_append_of_le_length (by rw [bvs_length]; omega), List.take_of_length_le (by rw [bvs_length]; omega)], hb2', rfl⟩ ⟨rfl, rfl, rfl, rfl, rfl, rfl, trivial⟩ ?_
        rintro _ w3 m ⟨k, es, rfl, hk, a3, hel, het, hb3, rfl⟩
        have hlk := take_flat_le rows (k + 1)
        rw [hT] at hlk
        refine wc_sr ?_; refine wl_bin rfl rfl bin_lss rfl ?_; refine wl_ns ?_; refine wc_seq ?_
        refine wc_cond rfl (fun h2 => ?_) (fun h2 => ?_)
        · obtain ⟨x, hx⟩ : ∃ x, rows[k + 1]? = some x := ⟨_, List.getElem?_eq_getElem (by omega)⟩
          have hb3' : Below w.heap.size w w3 := by rw [hg]; exact hb3
          obtain ⟨us, Y, cy, hu0, huk, ry, hcy⟩ := hr.at hx
          have hu := Rd.below hu0 hb3'
          have hcut := Rd.cut (l := 1) (h := rows.length) hu (by omega) (Nat.le_refl _) hc
          have huk' : ((us.take rows.length).drop 1)[k]? = some (Value.slice Y x.length cy) := by
            rw [List.getElem?_drop, List.getElem?_take, if_pos (by omega), Nat.add_comm]; exact huk
          have e1 := take_flat hx
          have e2 := congrArg List.length e1
          rw [List.length_append] at e2
          have hlk1 := take_flat_le rows (k + 1 + 1)
          rw [hT] at hlk1
          obtain ⟨p, hp⟩ : ∃ p, (rows.take (k + 1)).flatten.length = p := ⟨_, rfl⟩
          rw [hp] at hlk e2 het ⊢
          refine wc_skip ?_; refine we_seq ?_; refine wc_seq ?_; refine wc_block ?_; refine wc_sr ?_; apply wl_elK (T := tyBB) (hr := hcut) (hb := huk'); exact rfl; exact rfl; exact rfl; exact rfl; exact rfl; intro _; refine wl_as rfl rfl ?_; refine wl_ns ?_; refine wc_sr ?_; refine wl_mv rfl rfl ?_; refine wl_mv rfl rfl ?_; refine wl_mv rfl rfl ?_
          refine wl_sl (l := p) (h := T) tyB rfl ⟨_, rfl⟩ rfl (by omega) (by omega) rfl ?_
          refine wl_mv rfl rfl ?_
          refine wl_copy (g := g) (off := p) (ys := []) tyB rfl rfl a3 (Rd.nil _ _) (by simp) (fun h => by omega) (by omega) (by omega) rfl fun w4 a4 hb4 => ?_
          rw [List.nil_append, Nat.add_zero, List.take_append_drop] at a4
          apply wl_val; apply opv_bin; exact rfl; exact rfl; exact bin_add64 (by omega); exact rfl; refine wl_as rfl rfl ?_; refine wl_ns ?_; refine wc_region ?_; refine wl_mv rfl rfl ?_; refine wl_mv rfl rfl ?_; refine wl_mv rfl rfl ?_
          refine wl_sl (l := p) (h := T) tyB rfl ⟨_, rfl⟩ rfl (by omega) (by omega) rfl ?_
          refine wl_mv rfl rfl ?_
          refine wl_copy (g := g) (off := p) tyB rfl rfl a4 (RdB.below ry (by rw [hg]; exact hb3.trans hb4)) (bvs_one _) (fun h => ?_) (by omega) (by omega) rfl fun w5 a5 hb5 => ?_
          · rw [cutA, if_neg (by omega)]; simp [Addr.add_lit]
          have hb5' := (hb3.trans hb4).trans hb5
          apply wl_val; apply opv_bin; exact rfl; exact rfl; exact bin_add64 (by omega); exact rfl; refine wl_as rfl rfl ?_; refine wl_nil ?_; refine we_block_norm ?_; refine we_seq ?_; refine wc_region ?_; apply wl_val; apply opv_bin; exact rfl; exact rfl; exact bin_add64 (by omega); exact rfl; refine wl_mv rfl rfl ?_; refine wl_nil ?_
          refine we_loop [(1, .slice none 0 0), (8, .slice (some ⟨g, 0, none⟩) T T), (9, .int .i64 ((rows.take (k + 1 + 1)).flatten.length : Nat)), (70, .slice (cutA A c 1) (rows.length - 1) (c - 1)), (71, .int .i64 ((rows.length - 1 : Nat) : Int)), (72, .int .i64 ((k + 1 : Nat) : Int))] (rows.length - (k + 1)) ⟨k + 1, _, rfl, by omega, a5, by simp [bvs_length]; omega, ?_, hb5', rfl⟩ (by omega) ⟨rfl, rfl, by rw [e2]; rfl, rfl, rfl, by simp [lookT], trivial⟩
          rw [e2, e1, bvs_append, ← het]
          rw [← List.append_assoc, List.take_append_of_le_length (by simp [bvs_length]; omega), List.take_of_length_le (by simp [bvs_length]; omega)]
        · have ek : k + 1 = rows.length := by omega
          rw [ek, List.take_length] at het
          refine wc_exit ?_; refine we_seq_exit ?_; refine we_loop_exit ?_; refine we_block_exit ?_; refine we_seq ?_; refine wc_sr ?_; refine wl_mv rfl rfl ?_; refine wl_as rfl rfl ?_; refine wl_ns ?_; refine wc_ret ?_
          refine we_ret1 rfl rfl ⟨_, rfl, some ⟨g, 0, none⟩, T, by rw [hT], .inr ⟨g, es, rfl, by omega, a3, by omega, by omega, het⟩, by rw [hg]; exact hb3⟩
end Go.Proofs.YtdgagffieobiiaaGreatDoor

/-
  Walks over the sealing of records by the program.
-/
namespace Go.Proofs.YtdgagffieobiiaaGreatDoor
open Go.RowKit

theorem RdBB.three' {w : World} {A A1 A2 A3 : Option Addr} {n1 n2 n3 c1 c2 c3 : Nat} {r s t : List UInt8} (h : Rd w A 3 [.slice A1 n1 c1, .slice A2 n2 c2, .slice A3 n3 c3]) (h1 : RdB w A1 r) (e1 : r.length = n1) (hc : r.length ≤ c1) (h2 : RdB w A2 s) (e2 : s.length = n2) (hc2 : s.length ≤ c2) (h3 : RdB w A3 t) (e3 : t.length = n3) (hc3 : t.length ≤ c3) : RdBB w A [r, s, t] := by
  subst e1 e2 e3; exact RdBB.three h h1 hc h2 hc2 h3 hc3
theorem crcPut_any (n : Nat) (hn : n < 4294967296) (w : World) : CallsV Tryz.prog 91 #[.int .u32 n] w (RetB w (four n)) := by
  refine calls_in (N := _) Tryz.func91 rfl Tryz.ntmps91 rfl ?_; show WC _ _ _ _ _ _
  refine wc_sr ?_; refine wl_as rfl rfl ?_; refine wl_ns ?_; refine wc_sr ?_; refine wl_mv rfl rfl ?_
  refine wl_val (opv_bin (b := .int .u64 (24 : Nat)) rfl rfl (bin_shr hn)) rfl ?_
  apply wl_val; apply opv_convR; exact rfl; exact Tryz.underlying135; exact Tryz.underlying5; exact IntWalk.u8_in _ (by omega); exact rfl; refine wl_mv rfl rfl ?_
  refine wl_val (opv_bin (b := .int .u64 (16 : Nat)) rfl rfl (bin_shr hn)) rfl ?_
  apply wl_val; apply opv_convR; exact rfl; exact Tryz.underlying135; exact Tryz.underlying5; exact wrap_nat rfl _; exact rfl; refine wl_mv rfl rfl ?_
  refine wl_val (opv_bin (b := .int .u64 (8 : Nat)) rfl rfl (bin_shr hn)) rfl ?_
  apply wl_val; apply opv_convR; exact rfl; exact Tryz.underlying135; exact Tryz.underlying5; exact wrap_nat rfl _; exact rfl; refine wl_mv rfl rfl ?_; apply wl_val; apply opv_convR; exact rfl; exact Tryz.underlying135; exact Tryz.underlying5; exact wrap_nat rfl _; exact rfl
  refine wl_bs (vs := [_, _, _, _]) tyB ⟨rfl, rfl, rfl, rfl, rfl, rfl, rfl, rfl, rfl, rfl, rfl, rfl, trivial⟩ rfl (by decide) rfl fun A1 w1 o1 hb1 _ => ?_
  have e0 : Value.int .u8 ((n / 2 ^ 24 : Nat) : Int) = bv (UInt8.ofNat (n / 2 ^ 24)) := by
    unfold bv; rw [UInt8.toNat_ofNat', Nat.mod_eq_of_lt (by omega)]
  rw [e0, byte_of, byte_of, byte_of] at o1
  have o2 : OwB w1 w.heap.size A1 4 (four n) := OwB.of o1 (four_length n) (by rw [four_list]; rfl)
  refine wl_as rfl rfl ?_; refine wl_ns ?_; refine wc_ret ?_
  exact we_ret1 rfl rfl ⟨_, rfl, A1, 4, by rw [four_length], o2, hb1⟩
/-- New bytes and an error are handed back. -/
def RetSN (w : World) (x : List UInt8 × Nat) (v : Value) (w' : World) : Prop :=
  ∃ (A : Option Addr) (c : Nat), v = .tuple #[.slice A x.1.length c, .int .i64 (x.2 : Int)] ∧ NwB w' w.heap.size A c x.1 ∧ Below w.heap.size w w'
theorem seal_any {A : Option Addr} {n c : Nat} {rows : List (List UInt8)} {w : World} (hr : RdBB w A rows) (hn : rows.length = n) (hc : rows.length ≤ c) (hl : rows.flatten.length ≤ 140737488355328) (hl2 : rows.length ≤ maxLen) :
    CallsV Tryz.prog 64 #[.slice A n c] w (RetSN w (sealB rows.flatten)) := by
  subst hn
  refine calls_in (N := _) Tryz.func64 rfl Tryz.ntmps64 rfl ?_; show WC _ _ _ _ _ _
  refine wc_sr ?_; refine wl_as rfl rfl ?_; refine wl_as rfl rfl ?_; refine wl_ns ?_; refine wc_sr ?_; refine wl_mv rfl rfl ?_
  refine wl_call ok_bytes_Join (bJoin_any hr rfl hc hl hl2) ⟨rfl, rfl, trivial⟩ rfl ?_
  obtain ⟨ys, hys⟩ : ∃ ys, rows.flatten = ys := ⟨_, rfl⟩
  rw [hys] at hl ⊢
  rintro _ w1 ⟨A1, c1, rfl, o1, hb1⟩
  have hcap := o1.cap
  refine wl_as rfl rfl ?_; refine wl_ns ?_; refine wc_seq ?_; refine wc_sr ?_; refine wl_mv rfl rfl ?_; apply wl_val; apply opv_len; exact rfl; exact tyB.sl; exact rfl; refine wl_bin rfl rfl bin_gtr rfl ?_; refine wl_ns ?_
  refine wc_cond rfl (fun h => ?_) (fun h => ?_)
  · refine wc_sr ?_; refine wl_as rfl rfl ?_; refine wl_as rfl rfl ?_; refine wl_ns ?_; refine wc_ret ?_; refine we_seq_ret ?_
    refine we_ret2 rfl rfl rfl ⟨_, rfl, ?_⟩
    rw [sealB, if_pos (by omega)]
    exact ⟨none, 0, rfl, .inl ⟨rfl, rfl, rfl⟩, hb1⟩
  · have hyl : ys.length ≤ 1048576 := by omega
    rw [sealB_ok hyl]
    refine wc_skip ?_; refine we_seq ?_; refine wc_sr ?_; refine wl_mv rfl rfl ?_; apply wl_val; apply opv_len; exact rfl; exact tyB.sl; exact rfl; apply wl_val; apply opv_convR; exact rfl; exact Tryz.underlying3; exact Tryz.underlying135; exact IntWalk.u32_in _ (by omega); exact rfl
    refine wl_call ok_crc_put (crcPut_any ys.length (by omega) w1) ⟨rfl, trivial⟩ rfl ?_
    rintro _ w2 ⟨A2, c2, rfl, o2, h2⟩
    have hc2 := o2.cap
    rw [four_length] at hc2 ⊢
    have hb2 := hb1.trans (h2.mono hb1.size)
    have r1 := RdB.below o1.rd h2
    refine wl_as rfl rfl ?_; refine wl_ns ?_; refine wc_sr ?_; refine wl_mv rfl rfl ?_; refine wl_mv rfl rfl ?_; refine wl_mv rfl rfl ?_
    refine wl_bs (vs := [_, _]) tyBB ⟨rfl, rfl, rfl, rfl, rfl, rfl, trivial⟩ rfl (by decide) rfl fun A3 w3 o3 h3 _ => ?_
    have hb3 := hb2.trans (h3.mono hb2.size)
    replace r1 := RdB.below r1 h3
    have r2 := RdB.below o2.rd h3
    have hrows := RdBB.two' o3.rd r2 (four_length _) (by rw [four_length]; exact hc2) r1 rfl hcap
    skip
    refine wl_call ok_crc_Sum (sum_any hrows rfl (by simp only [maxLen]; simp [four_length]; omega) (by simp only [maxLen]; simp)) ⟨rfl, trivial⟩ rfl ?_
    rintro _ w4 ⟨rfl, h4⟩
    have hb4 := hb3.trans (h4.mono hb3.size)
    replace r1 := RdB.below r1 h4
    replace r2 := RdB.below r2 h4
    obtain ⟨s, hs⟩ : ∃ s, crcOf [four ys.length, ys].flatten = s := ⟨_, rfl⟩
    have hs' : crcOf (four ys.length ++ ys) = s := by rw [← hs]; simp
    have hsl : s < 4294967296 := hs ▸ crcOf_lt _
    rw [hs]
    skip
    refine wl_call ok_crc_put (crcPut_any s hsl w4) ⟨rfl, trivial⟩ rfl ?_
    rintro _ w5 ⟨A5, c5, rfl, o5, h5⟩
    have hc5 := o5.cap
    rw [four_length] at hc5 ⊢
    have hb5 := hb4.trans (h5.mono hb4.size)
    replace r1 := RdB.below r1 h5
    replace r2 := RdB.below r2 h5
    refine wl_mv rfl rfl ?_
    refine wl_bs (vs := [_, _, _]) tyBB ⟨rfl, rfl, rfl, rfl, rfl, rfl, rfl, rfl, rfl, trivial⟩ rfl (by decide) rfl fun A6 w6 o6 h6 _ => ?_
    have hb6 := hb5.trans (h6.mono hb5.size)
    replace r1 := RdB.below r1 h6
    replace r2 := RdB.below r2 h6
    have r5 := RdB.below o5.rd h6
    have hrow3 := RdBB.three' o6.rd r2 (four_length _) (by rw [four_length]; exact hc2) r5 (four_length _) (by rw [four_length]; exact hc5) r1 rfl hcap
    have e3 : [four ys.length, four s, ys].flatten = crcRec ys := by rw [crcRec, hs']; simp
    refine wl_call ok_bytes_Join (bJoin_any hrow3 rfl (by simp) (by rw [e3, crcRec_length]; omega) (by simp only [maxLen]; simp)) ⟨rfl, rfl, trivial⟩ rfl ?_
    rw [e3]
    rintro _ w7 ⟨A7, c7, rfl, o7, h7⟩
    have hb7 := hb6.trans (h7.mono hb6.size)
    refine wl_as rfl rfl ?_; refine wl_as rfl rfl ?_; refine wl_ns ?_; refine wc_ret ?_
    exact we_ret2 rfl rfl rfl ⟨_, rfl, A7, c7, rfl, o7.mono hb6.size, hb7⟩
end Go.Proofs.YtdgagffieobiiaaGreatDoor

/-
  Rows of bytes whose elements lie in the row's own memory or in old memory; begins.
-/
namespace Go.Proofs.YtdgagffieobiiaaGreatDoor
open Go.RowKit

def elC (w0 : World) (vs : List Value) (rows : List (List UInt8)) : Ck := ⟨fun w S => vs.length = rows.length ∧ ∀ (i : Nat) (r : List UInt8), rows[i]? = some r → ∃ (A' : Option Addr) (c' : Nat), vs[i]? = some (Value.slice A' r.length c') ∧ r.length ≤ c' ∧ ((RdB w A' r ∧ ∀ a, A' = some a → 0 < r.length → S a.block) ∨ RdB w0 A' r),
  fun {w w' S S'} ⟨hl, h⟩ hz hm => ⟨hl, fun i r hi => by
    obtain ⟨A', c', h1, h2, h3⟩ := h i r hi
    refine ⟨A', c', h1, h2, h3.elim (fun ⟨k1, k2⟩ => .inl ⟨⟨k1.1, fun hn => ?_⟩, fun a ha hr => ?_⟩) .inr⟩
    · obtain ⟨b, o, hA, hb, hc⟩ := k1.2 hn
      have hk := hm b hb (k2 _ hA hn)
      exact ⟨b, o, hA, by omega, fun j u hu => (World.cell?_of_block (a := ⟨b, o + j, none⟩) hk.2).trans (hc j u hu)⟩
    · obtain ⟨b, o, hA, hb, hc⟩ := k1.2 hr
      have := k2 a ha hr
      rw [ha] at hA
      cases hA
      exact (hm b hb this).1⟩⟩
section
variable {M : BS} {w0 w : World} {H : List Cd} {A : Option Addr} {c : Nat} {vs : List Value} {rows : List (List UInt8)}
theorem elC_rd {S : BS} (h : (elC w0 vs rows).P w S) (hb : Below w0.heap.size w0 w) (hr : Rd w A rows.length vs) : RdBB w A rows := by
  refine ⟨vs, hr, fun i r hi => ?_⟩
  obtain ⟨A', c', h1, h2, h3⟩ := h.2 i r hi
  exact ⟨A', c', h1, h3.elim (fun k => k.1) fun k => k.below hb, h2⟩
theorem St.bb (hs : St NoB w0 w H) (i j : Nat) (hi : nthC H i = some (.ow 28 A rows.length c vs)) (hj : nthC H j = some (.ck (elC w0 vs rows))) : RdBB w A rows := by
  obtain ⟨T, hc, _⟩ := hs.get j hj
  exact elC_rd hc hs.bel (hs.ow i hi).rd
theorem St.bbNil (hs : St NoB w0 w H) : St NoB w0 w (.ow 28 none 0 0 [] :: .ck (elC w0 [] []) :: H) := by
  exact (hs.new (T := NoB) (c := .ck (elC w0 [] [])) (Below.refl _ _) ⟨rfl, fun i r h => by simp at h⟩ fun b _ h => h.elim).nilO 28
/-- One that lies in old memory goes behind. -/
theorem St.bbAdd {A' : Option Addr} {c' : Nat} {r : List UInt8} (hs : St NoB w0 w (.ck (elC w0 vs rows) :: H)) (hr : RdB w0 A' r) (hc : r.length ≤ c') : St NoB w0 w (.ck (elC w0 (vs ++ [.slice A' r.length c']) (rows ++ [r])) :: H) := by
  refine hs.pack (H1 := [_]) _ fun w S ⟨T, hT, ⟨hl, h⟩, _⟩ => ⟨by simp [hl], fun i x hi => ?_⟩
  rcases Nat.lt_or_ge i rows.length with hlt | hge
  · rw [List.getElem?_append_left hlt] at hi
    obtain ⟨B, d, h1, h2, h3⟩ := h i x hi
    exact ⟨B, d, by rw [List.getElem?_append_left (by omega)]; exact h1, h2, h3.elim (fun k => .inl ⟨k.1, fun a ha hn => hT _ (k.2 a ha hn)⟩) .inr⟩
  · rw [List.getElem?_append_right hge] at hi
    obtain ⟨h0, h1⟩ := List.getElem?_eq_some_iff.1 hi
    have h0' : i - rows.length = 0 := by simpa using h0
    simp only [h0', List.getElem_cons_zero] at h1
    subst h1
    exact ⟨A', c', by rw [List.getElem?_append_right (by omega), show i - vs.length = 0 by omega]; rfl, hc, .inr hr⟩
end
theorem RdBB.cut' {w : World} {A : Option Addr} {c : Nat} {rows : List (List UInt8)} (h : RdBB w A rows) {j : Nat} (hj : j ≤ rows.length) (hc : rows.length ≤ c) : RdBB w (cutA A c 0) (rows.take j) := by
  obtain ⟨vs, hv, hr⟩ := h
  refine ⟨vs.take j, ?_, fun i r hi => ?_⟩
  · have := Rd.cut (l := 0) (h := j) (c := c) hv (Nat.zero_le _) hj hc
    rw [List.drop_zero, Nat.sub_zero] at this
    rw [List.length_take, Nat.min_eq_left hj]
    exact this
  · rw [List.getElem?_take] at hi
    split at hi
    · rename_i hlt
      obtain ⟨A', c', h1, h2, h3⟩ := hr i r hi
      exact ⟨A', c', by rw [List.getElem?_take, if_pos hlt]; exact h1, h2, h3⟩
    · cases hi
end Go.Proofs.YtdgagffieobiiaaGreatDoor

/-
  Bytes marked as a constant's; new bytes that a call hands back, as a piece; what a disk with one file keeps.
-/
namespace Go.Proofs.YtdgagffieobiiaaGreatDoor
open Go.RowKit

theorem ow_capD {w : World} {A : Option Addr} {n c base : Nat} {e : TypeId} {xs : List Value} (h : Ow w base e A n c xs) : n ≤ c := by
  rcases h.2 with ⟨hv, hn⟩ | ⟨g, cap, cur, hv, _, _, hnc, _⟩
  · omega
  · injection hv with _ _ hc; omega
theorem mod_freezeD {w : World} {S : BS} (b k n : Nat) (h : S b) : Mod S w (w.freeze ⟨b, k, none⟩ n) := by
  unfold World.freeze
  split
  · exact Mod.refl _ _
  · refine ⟨rfl, rfl, rfl, by simp, fun j _ hm => ?_⟩
    simp only [Array.getElem?_modify]
    rw [if_neg fun hk => hm (by rw [← hk]; exact h)]
variable {P : Program} {N : Nat} {ops : Array Oper} {Q : Exit → Act → World → Prop} {rest : List Oper} {L : FL} {w0 w : World} {M : BS} {H : List Cd} {t e : TypeId} {bytes : Nat}
/-- Bytes of one's own are marked as a constant's. -/
theorem ws_convD {d n c : Nat} {x : Operand} {ty : TypeId} {pos : String} {aft : Array Edge} {A : Option Addr} {xs : List UInt8} (hs : St M w0 w H) (i : Nat) (hx : look L x = some (.slice A n c)) (hi : nthC H i = some (.ow e A n c (bvs xs))) (T : Row1 P t e (.int .u8 0) bytes) (he : P.underlying e = some (.int .u8)) (h0 : 0 < n) (hd : Nat.blt d N = true)
    (h : ∀ w', St M w0 w' (setC H i (.ce (byEl xs) [.slice A n c])) → WL P N ops Q rest ((d, .slice A n c) :: L) w') :
    WL P N ops Q (⟨some d, .convert t t x, ty, pos, aft, none⟩ :: rest) L w := by
  have ho := hs.ow i hi
  have hn : xs.length = n := by have := ho.len; rwa [bvs_length] at this
  subst hn
  have hr := ho.rd
  obtain ⟨b, o, rfl, hb1, hc⟩ := hr.2 h0
  have hlen : 0 < (bvs xs).length := by rw [bvs_length]; exact h0
  have h0c := hc 0 (bvs xs)[0] (List.getElem?_eq_getElem hlen)
  obtain ⟨k, hk⟩ : ∃ k, w.shape? b = some k := by
    unfold World.cell? at h0c
    unfold World.shape?
    simp only at h0c
    cases hh : w.heap[b]? with
    | none => rw [hh] at h0c; cases h0c
    | some ob => cases ob <;> first | exact ⟨_, rfl⟩ | (rw [hh] at h0c; cases h0c)
  obtain ⟨S, hcP, hS, hK⟩ := hs.upd i hi
  refine wl_val (v := .slice (some ⟨b, o, none⟩) xs.length c) (w' := w.freeze ⟨b, k.2, none⟩ 1) (fun ρ op hρ ho _ => ?_) hd (h _ ?_)
  · unfold execOp
    simp only [ho, hρ x _ hx, convert, Sem.run_bind, run_underlying T.sl, Result.andThen_ok]
    simp [run_underlying he, markStringish, hk]
  · refine hK _ (.ce (byEl xs) [.slice (some ⟨b, o, none⟩) xs.length c]) S (mod_freezeD _ _ _ (show S b from hcP.1 ⟨b, o, none⟩ rfl)) ?_ fun _ _ h => .inl h
    refine byEl.mk ⟨hr.1, fun _ => ⟨b, o, rfl, ?_, fun j u hu => by rw [zell_freeze]; exact hc j u hu⟩⟩ (ow_capD ho) fun a ha _ => hcP.1 a ha
    unfold World.freeze; split <;> simpa using hb1
/-- Bytes that are read, in memory of their own. -/
def rdC (A : Option Addr) (xs : List UInt8) : Ck := ⟨fun w S => RdB w A xs ∧ ∀ a, A = some a → 0 < xs.length → S a.block, fun {w w' S S'} ⟨k1, k2⟩ hz hm => ⟨⟨k1.1, fun hn => by
    obtain ⟨b, o, hA, hb, hc⟩ := k1.2 hn
    exact ⟨b, o, hA, by omega, fun j u hu => (World.cell?_of_block (a := ⟨b, o + j, none⟩) (hm b hb (k2 _ hA hn)).2).trans (hc j u hu)⟩⟩, fun a ha hr => by
    obtain ⟨b, o, hA, hb, hc⟩ := k1.2 hr
    have := k2 a ha hr
    rw [ha] at hA
    cases hA
    exact (hm b hb this).1⟩⟩
theorem NwB.lt {w : World} {base c : Nat} {A : Option Addr} {xs : List UInt8} (h : NwB w base A c xs) : ∀ a, A = some a → base ≤ a.block := by
  intro a ha
  rcases h with ⟨rfl, _⟩ | ⟨g, cs, rfl, hb, _⟩
  · cases ha
  · cases ha; exact hb
section
variable {M : BS} {w0 w w' : World} {H : List Cd} {A : Option Addr} {c : Nat} {xs : List UInt8}
theorem St.newR (hs : St M w0 w H) (hb : Below w.heap.size w w') (h : NwB w' w.heap.size A c xs) : St M w0 w' (.ck (rdC A xs) :: H) :=
  hs.new (T := fun b => w.heap.size ≤ b) (c := .ck (rdC A xs)) hb ⟨h.rd, fun a ha _ => h.lt a ha⟩ fun b _ h => h
theorem Sat.rdc {S : BS} (h : Sat w H S) {i : Nat} (hi : nthC H i = some (.ck (rdC A xs))) : RdB w A xs := by
  obtain ⟨T, _, hc, _⟩ := h.front hi
  exact hc.1
end
end Go.Proofs.YtdgagffieobiiaaGreatDoor

/-
  Plain laws of a log on a disk: the names of its files, its groups of records, and what the calls do with its last file.
-/
namespace Go.Proofs.YtdgagffieobiiaaGreatDoor

def dgs : List UInt8 := [48, 49, 50, 51, 52, 53, 54, 55, 56, 57, 97, 98, 99, 100, 101, 102]
def hexN (f i : Nat) : Nat := f / 16 ^ (15 - i) % 16
def hex16 (f : Nat) : List UInt8 := (List.range 16).map fun i => dgs.getD (hexN f i) 0
abbrev pfJ : List UInt8 := [106, 46]
def nmJ (f : Nat) : List UInt8 := pfJ ++ hex16 f
theorem nmJ_all : ∀ j < 64, ∀ i < j, (decide (nmJ i ≤ nmJ j) = true ∧ nmJ i ≠ nmJ j) := by decide +kernel

/-! ### Lists of files -/
section
variable {n m : List UInt8} {f f' : Fl}
theorem getF_none' : ∀ {X : Fs}, n ∉ X.map (·.1) → getF n X = none
  | [], _ => rfl
  | p :: X, h => by
    simp only [List.map_cons, List.mem_cons, not_or] at h
    unfold getF; rw [if_neg (fun e => h.1 e.symm), getF_none' h.2]
theorem getF_last : ∀ {X : Fs}, n ∉ X.map (·.1) → getF n (X ++ [(n, f)]) = some f
  | [], _ => by simp [getF]
  | p :: X, h => by
    simp only [List.map_cons, List.mem_cons, not_or] at h
    rw [List.cons_append]; unfold getF; rw [if_neg (fun e => h.1 e.symm), getF_last h.2]
theorem putF_last : ∀ {X : Fs}, n ∉ X.map (·.1) → putF n f' (X ++ [(n, f)]) = X ++ [(n, f')]
  | [], _ => by simp [putF]
  | p :: X, h => by
    simp only [List.map_cons, List.mem_cons, not_or] at h
    rw [List.cons_append]; unfold putF; rw [if_neg (fun e => h.1 e.symm), putF_last h.2]; rfl
theorem putF_new : ∀ {X : Fs}, n ∉ X.map (·.1) → putF n f X = X ++ [(n, f)]
  | [], _ => rfl
  | p :: X, h => by
    simp only [List.map_cons, List.mem_cons, not_or] at h
    unfold putF; rw [if_neg (fun e => h.1 e.symm), putF_new h.2]; rfl
end
/-! ### Calls on any disk -/
section
variable {d : Dk} {n b : List UInt8} {f : Fl}
theorem fileD_fs {d d' : Dk} (h : d.fs = d'.fs) (n : List UInt8) : fileD d n = fileD d' n := by unfold fileD; rw [h]
theorem DkOk.putG (h : DkOk d) (hf : f.safe ≤ f.data.length) (hu : Go.Proofs.YtdgagffieobiiaaGreatDoor.used (putF n f d.fs) ≤ d.room) : DkOk (putD d n f) :=
  ⟨fun p hp => by rcases put_mem hp with rfl | hp; exact hf; exact h.safe p hp, h.room, hu, h.left⟩
theorem app_gen (hok : DkOk d) (hd : d.dead = false) (hr : used d.fs + b.length ≤ d.room) :
    (appD d n b).1.fs = putF n ⟨(fileD d n).data ++ b, (fileD d n).safe⟩ d.fs ∧ (appD d n b).1.room = d.room ∧ DkOk (appD d n b).1 ∧
      ((appD d n b).2 = 0 ∧ (appD d n b).1.dead = false ∨ (appD d n b).2 = 9 ∧ (appD d n b).1.dead = true) := by
  have e : (if d.room < used d.fs + b.length then 8 else 0) = 0 := if_neg (by omega)
  have hk := hok.turn 0
  have hu := used_put (n := n) (f := ⟨(fileD d n).data ++ b, (fileD d n).safe⟩) d.fs
  have hs := fileD_safe hok.safe n
  unfold appD
  rw [e]
  dsimp only
  obtain ⟨t1, t2⟩ := turnD_fs d 0
  have h3 : fileD (turnD d 0).2.2 n = fileD d n := fileD_fs t1 n
  have hput : DkOk (putD (turnD d 0).2.2 n ⟨(fileD d n).data ++ b, (fileD d n).safe⟩) := by
    refine hk.putG (by simp; omega) ?_
    rw [t1, t2]
    simp only [List.length_append] at hu
    change _ + (fileD d n).data.length = _ at hu
    omega
  rcases turn_cases d hd with ⟨k1, k2, k3⟩ | ⟨k1, k2, k3⟩
  · rw [if_pos (.inl k1), h3]
    exact ⟨by simp only [putD]; rw [t1], t2, hput, .inl ⟨k2, k3⟩⟩
  · rw [if_pos (.inr ⟨k3, hd⟩), h3]
    exact ⟨by simp only [putD]; rw [t1], t2, hput, .inr ⟨k2, k3⟩⟩
theorem sync_gen (hok : DkOk d) (hd : d.dead = false) (ht : thereD d n = 0) : (syncD d n).1.room = d.room ∧ DkOk (syncD d n).1 ∧
    ((syncD d n).2 = 0 ∧ (syncD d n).1.dead = false ∧ (syncD d n).1.fs = putF n ⟨(fileD d n).data, (fileD d n).data.length⟩ d.fs ∨ (syncD d n).2 = 9 ∧ (syncD d n).1.fs = d.fs) := by
  have hk := hok.turn 0
  have hu := used_put (n := n) (f := ⟨(fileD d n).data, (fileD d n).data.length⟩) d.fs
  have hus := hok.used
  unfold syncD
  rw [ht]
  dsimp only
  obtain ⟨t1, t2⟩ := turnD_fs d 0
  have h3 : fileD (turnD d 0).2.2 n = fileD d n := fileD_fs t1 n
  rcases turn_cases d hd with ⟨k1, k2, k3⟩ | ⟨k1, k2, k3⟩
  · rw [if_pos k1, h3]
    refine ⟨t2, hk.putG (Nat.le_refl _) ?_, .inl ⟨k2, k3, by simp only [putD]; rw [t1]⟩⟩
    rw [t1, t2]
    change _ + (fileD d n).data.length = _ at hu
    dsimp only at hu ⊢
    omega
  · rw [if_neg (by rw [k1]; decide)]
    exact ⟨t2, hk, .inr ⟨k2, t1⟩⟩
theorem turn_quiet (hd : d.dead = false) (ha : d.armed = false) : turnD d 0 = (true, 0, d) := by
  unfold turnD; rw [if_neg (by rw [hd]; decide), if_neg (by decide), if_neg (by rw [ha]; simp), if_neg (by rw [ha]; decide)]
theorem cut_gen (hd : d.dead = false) (ha : d.armed = false) (ht : thereD d n = 0) {k : Nat} (hk : k ≤ (fileD d n).data.length) : cutD d n k = (putD d n ⟨(fileD d n).data.take k, k⟩, 0) := by
  unfold cutD
  rw [ht, if_neg (show ¬ ((k : Int) < 0 ∨ 0 = 0 ∧ ((fileD d n).data.length : Int) < (k : Int)) by omega), turn_quiet hd ha]
  simp
end
theorem crash_last (keeps : List Int) {X : Fs} {n : List UInt8} {f : Fl} (hn : n ∉ X.map (·.1)) (hf : f.safe ≤ f.data.length) : ∃ e, f.safe ≤ e ∧ e ≤ f.data.length ∧ crashF keeps 0 [n] (X ++ [(n, f)]) = X ++ [(n, ⟨f.data.take e, e⟩)] := by
  simp only [crashF, getF_last hn, Option.getD_some]
  by_cases h0 : f.data.length - f.safe = 0
  · have hs : f.safe = f.data.length := by omega
    refine ⟨f.safe, Nat.le_refl _, hf, ?_⟩
    rw [if_pos h0, List.take_of_length_le (by omega)]
  · rw [if_neg h0]
    have hlt : keepN keeps 0 (f.data.length - f.safe) ≤ f.data.length - f.safe := by
      unfold keepN
      split
      · exact Nat.lt_succ_iff.1 (Nat.mod_lt _ (Nat.succ_pos _))
      · omega
    exact ⟨f.safe + keepN keeps 0 (f.data.length - f.safe), by omega, by omega, by rw [putF_last hn]⟩

/-! ### Groups -/
abbrev Grps := List (List (List UInt8))
def closF : Nat → Grps → Fs
  | _, [] => []
  | k, g :: gs => (nmJ k, ⟨recs g, (recs g).length⟩) :: closF (k + g.length) gs
def firsts : Nat → Grps → List Nat
  | _, [] => []
  | k, g :: gs => k :: firsts (k + g.length) gs
theorem closF_names : ∀ (gs : Grps) (k : Nat), (closF k gs).map (·.1) = (firsts k gs).map nmJ
  | [], _ => rfl
  | g :: gs, k => by simp [closF, firsts, closF_names gs]
theorem closF_append (hs : Grps) : ∀ (gs : Grps) (k : Nat), closF k (gs ++ hs) = closF k gs ++ closF (k + gs.flatten.length) hs
  | [], k => by simp [closF]
  | g :: gs, k => by simp [closF, closF_append hs gs, Nat.add_assoc]
theorem firsts_append (hs : Grps) : ∀ (gs : Grps) (k : Nat), firsts k (gs ++ hs) = firsts k gs ++ firsts (k + gs.flatten.length) hs
  | [], k => by simp [firsts]
  | g :: gs, k => by simp [firsts, firsts_append hs gs, Nat.add_assoc]
theorem firsts_bnd : ∀ {gs : Grps} {k : Nat}, (∀ g ∈ gs, g ≠ []) → ∀ f ∈ firsts k gs, k ≤ f ∧ f < k + gs.flatten.length
  | [], _, _, f, h => by simp [firsts] at h
  | g :: gs, k, hg, f, h => by
    have h0 : 0 < g.length := List.length_pos_iff.2 (hg g List.mem_cons_self)
    rw [List.flatten_cons, List.length_append]
    rcases List.mem_cons.1 (show f ∈ k :: firsts (k + g.length) gs from h) with rfl | h
    · omega
    · have := firsts_bnd (fun x hx => hg x (List.mem_cons_of_mem _ hx)) f h; omega
/-- The files of a log: those that are whole, and the last one. -/
def logF (gs : Grps) (x : List UInt8) (s : Nat) : Fs := closF 0 gs ++ [(nmJ gs.flatten.length, ⟨x, s⟩)]
section
variable {gs : Grps} {x : List UInt8} {s : Nat}
theorem last_new (hg : ∀ g ∈ gs, g ≠ []) (hn : gs.flatten.length < 64) : nmJ gs.flatten.length ∉ (closF 0 gs).map (·.1) := by
  rw [closF_names]
  intro h
  obtain ⟨f, hf, he⟩ := List.mem_map.1 h
  have := firsts_bnd hg f hf
  exact (nmJ_all _ hn f (by omega)).2 he
theorem closF_used : ∀ (gs : Grps) (k : Nat), used (closF k gs) = (gs.map fun g => (recs g).length).sum
  | [], _ => rfl
  | g :: gs, k => by rw [closF, used_cons, closF_used gs]; rfl
theorem used_append (X Y : Fs) : used (X ++ Y) = used X + used Y := by simp [used]
theorem recs_flat : ∀ gs : Grps, (gs.map fun g => (recs g).length).sum = (recs gs.flatten).length
  | [] => rfl
  | g :: gs => by rw [List.map_cons, List.sum_cons, recs_flat gs, List.flatten_cons, recs_append, List.length_append]
theorem logF_used (gs : Grps) (x : List UInt8) (s : Nat) : used (logF gs x s) = (recs gs.flatten).length + x.length := by
  rw [logF, used_append, closF_used, recs_flat]; simp [used]
theorem logF_get (hg : ∀ g ∈ gs, g ≠ []) (hn : gs.flatten.length < 64) : getF (nmJ gs.flatten.length) (logF gs x s) = some ⟨x, s⟩ := getF_last (last_new hg hn)
theorem logF_put (hg : ∀ g ∈ gs, g ≠ []) (hn : gs.flatten.length < 64) (y : List UInt8) (t : Nat) : putF (nmJ gs.flatten.length) ⟨y, t⟩ (logF gs x s) = logF gs y t := putF_last (last_new hg hn)
end
end Go.Proofs.YtdgagffieobiiaaGreatDoor

/-
  Plain laws of a log on a disk: what its calls do, what a crash leaves, and what is read of it.
-/
namespace Go.Proofs.YtdgagffieobiiaaGreatDoor

structure Lg where
  segs : List Nat
  next : Nat
  size : Nat
def lastN (l : Lg) : Nat := l.segs.getLast?.getD 0
def wSync (d : Dk) (l : Lg) : Dk × Nat := if l.segs = [] then (d, 0) else syncD d (nmJ (lastN l))
def wApp (d : Dk) (l : Lg) (b : List UInt8) : (Dk × Lg) × (Nat × Nat) :=
  if l.segs = [] ∨ 50 ≤ l.size then
    if (wSync d l).2 ≠ 0 then (((wSync d l).1, l), (0, (wSync d l).2))
    else if (appD (wSync d l).1 (nmJ l.next) (crcRec b)).2 ≠ 0 then (((appD (wSync d l).1 (nmJ l.next) (crcRec b)).1, l), (0, (appD (wSync d l).1 (nmJ l.next) (crcRec b)).2))
    else (((appD (wSync d l).1 (nmJ l.next) (crcRec b)).1, ⟨l.segs ++ [l.next], l.next + 1, (crcRec b).length⟩), (l.next, 0))
  else if (appD d (nmJ (lastN l)) (crcRec b)).2 ≠ 0 then (((appD d (nmJ (lastN l)) (crcRec b)).1, l), (0, (appD d (nmJ (lastN l)) (crcRec b)).2))
    else (((appD d (nmJ (lastN l)) (crcRec b)).1, ⟨l.segs, l.next + 1, l.size + (crcRec b).length⟩), (l.next, 0))
section
variable {d : Dk} {n b : List UInt8}
end
/-- What the files hold: all these records, the first sy of them safe. -/
def Shape (fs : Fs) (all : List (List UInt8)) (sy : Nat) (segs : List Nat) (size : Nat) : Prop :=
  (all = [] ∧ sy = 0 ∧ fs = [] ∧ segs = [] ∧ size = 0) ∨
  ∃ (gs : Grps) (cur : List (List UInt8)) (s : Nat), (∀ g ∈ gs, g ≠ []) ∧ cur ≠ [] ∧ all = gs.flatten ++ cur ∧ s ≤ cur.length ∧ sy ≤ gs.flatten.length + s ∧ fs = logF gs (recs cur) (recs (cur.take s)).length ∧ segs = firsts 0 gs ++ [gs.flatten.length] ∧ size = (recs cur).length
structure JoI (d : Dk) (all : List (List UInt8)) (sy : Nat) (l : Lg) : Prop where
  ok : DkOk d
  room : d.room = 1073741824
  each : ∀ x ∈ all, x.length ≤ 100000
  cnt : all.length ≤ 30
  alive : d.dead = false
  sh : Shape d.fs all sy l.segs l.size
  nx : l.next = all.length
structure JoK (d : Dk) (all : List (List UInt8)) (sy : Nat) : Prop where
  ok : DkOk d
  room : d.room = 1073741824
  each : ∀ x ∈ all, x.length ≤ 100000
  cnt : all.length ≤ 30
  sh : ∃ (a : List (List UInt8)) (segs : List Nat) (size : Nat), a <+: all ∧ Shape d.fs a sy segs size
theorem flat_le {all : List (List UInt8)} (he : ∀ x ∈ all, x.length ≤ 100000) (hc : all.length ≤ 30) : (recs all).length ≤ 3000240 := by
  have h : ∀ l : List (List UInt8), (∀ x ∈ l, x.length ≤ 100000) → (recs l).length ≤ l.length * 100008 := by
    intro l
    induction l with
    | nil => intro _; simp [recs]
    | cons x l ih =>
      intro hx
      have h0 := hx x List.mem_cons_self
      have h1 := ih fun y hy => hx y (List.mem_cons_of_mem _ hy)
      rw [recs_cons, List.length_append, crcRec_length, List.length_cons]
      omega
  have := h all he
  omega
theorem Shape.used {fs : Fs} {all : List (List UInt8)} {sy : Nat} {segs : List Nat} {size : Nat} (h : Shape fs all sy segs size) : used fs = (recs all).length := by
  rcases h with ⟨rfl, _, rfl, _⟩ | ⟨gs, cur, s, _, _, rfl, _, _, rfl, _⟩
  · rfl
  · rw [logF_used, recs_append, List.length_append]
section
variable {d : Dk} {all : List (List UInt8)} {sy : Nat} {l : Lg}
theorem logF_there {gs : Grps} {x : List UInt8} {s : Nat} (hf : d.fs = logF gs x s) (hg : ∀ g ∈ gs, g ≠ []) (hn : gs.flatten.length < 64) : thereD d (nmJ gs.flatten.length) = 0 ∧ fileD d (nmJ gs.flatten.length) = ⟨x, s⟩ := by
  refine ⟨by rw [thereD, hf, logF_get hg hn]; rfl, by rw [fileD, hf, logF_get hg hn]; rfl⟩
theorem logF_snoc (gs : Grps) (cur : List (List UInt8)) : closF 0 (gs ++ [cur]) = logF gs (recs cur) (recs cur).length := by
  rw [closF_append, logF]; simp [closF]
theorem JoI.sync (h : JoI d all sy l) : (wSync d l).2 = 0 ∧ JoI (wSync d l).1 all all.length l ∨ (wSync d l).2 ≠ 0 ∧ JoK (wSync d l).1 all sy := by
  obtain ⟨ok, room, each, cnt, alive, sh, nx⟩ := h
  rcases sh with ⟨e1, e2, e3, e4, e5⟩ | ⟨gs, cur, s, hg, hc, e1, hs, hsy, e3, e4, e5⟩
  · unfold wSync
    rw [if_pos e4]
    exact .inl ⟨rfl, ok, room, each, cnt, alive, .inl ⟨e1, by rw [e1]; rfl, e3, e4, e5⟩, nx⟩
  · have hn : gs.flatten.length < 64 := by rw [e1, List.length_append] at cnt; omega
    have hl : lastN l = gs.flatten.length := by unfold lastN; rw [e4]; simp
    obtain ⟨t1, t2⟩ := logF_there e3 hg hn
    unfold wSync
    rw [if_neg (by rw [e4]; simp), hl]
    obtain ⟨r1, r2, r3⟩ := sync_gen ok alive t1
    rcases r3 with ⟨k1, k2, k3⟩ | ⟨k1, k3⟩
    · refine .inl ⟨k1, r2, by rw [r1]; exact room, each, cnt, k2, .inr ⟨gs, cur, cur.length, hg, hc, e1, Nat.le_refl _, by rw [e1, List.length_append]; exact Nat.le_refl _, ?_, e4, e5⟩, nx⟩
      rw [k3, t2, e3, logF_put hg hn, List.take_length]
    · refine .inr ⟨by rw [k1]; decide, r2, by rw [r1]; exact room, each, cnt, all, _, _, List.prefix_refl _, .inr ⟨gs, cur, s, hg, hc, e1, hs, hsy, by rw [k3]; exact e3, e4, e5⟩⟩
theorem JoI.app (h : JoI d all sy l) {b : List UInt8} (hb : b.length ≤ 100000) (hlt : all.length < 30) :
    (wApp d l b).2.2 = 0 ∧ JoI (wApp d l b).1.1 (all ++ [b]) sy (wApp d l b).1.2 ∨ (wApp d l b).2.2 ≠ 0 ∧ JoK (wApp d l b).1.1 (all ++ [b]) sy := by
  have hsync := h.sync
  have hus := h.sh.used
  have hfl := flat_le h.each h.cnt
  obtain ⟨ok, room, each, cnt, alive, sh, nx⟩ := h
  have each' : ∀ x ∈ all ++ [b], x.length ≤ 100000 := fun x hx => by
    rcases List.mem_append.1 hx with hx | hx
    · exact each x hx
    · rw [List.mem_singleton] at hx; subst hx; exact hb
  have cnt' : (all ++ [b]).length ≤ 30 := by rw [List.length_append]; exact hlt
  have hrl := crcRec_length b
  have hrb : recs [b] = crcRec b := by simp [recs]
  have hr1 : used d.fs + (crcRec b).length ≤ d.room := by rw [room]; omega
  rcases sh with ⟨e1, e2, e3, e4, e5⟩ | ⟨gs, cur, s, hg, hc, e1, hs, hsy, e3, e4, e5⟩
  · have hw : wSync d l = (d, 0) := if_pos e4
    have h0 : all.length = 0 := by rw [e1]; rfl
    obtain ⟨q1, q2, q3, q4⟩ := app_gen (n := nmJ l.next) (b := crcRec b) ok alive hr1
    have hfd : fileD d (nmJ l.next) = ⟨[], 0⟩ := by unfold fileD; rw [e3]; rfl
    have hsh : Shape (appD d (nmJ l.next) (crcRec b)).1.fs (all ++ [b]) sy [l.next] (crcRec b).length := by
      refine .inr ⟨[], [b], 0, by simp, by simp, by rw [e1]; rfl, by simp, by rw [e2]; exact Nat.zero_le _, ?_, by rw [nx, h0]; rfl, by rw [hrb]⟩
      rw [q1, hfd, e3, hrb, nx, h0]; simp [putF, logF, closF, recs]
    unfold wApp
    rw [if_pos (.inl e4), hw]
    dsimp only
    rw [if_neg (by decide)]
    rcases q4 with ⟨k1, k2⟩ | ⟨k1, k2⟩
    · rw [if_neg (by rw [k1]; decide)]
      exact .inl ⟨rfl, q3, by rw [q2]; exact room, each', cnt', k2, by rw [e4]; exact hsh, by simp [nx]⟩
    · rw [if_pos (by rw [k1]; decide)]
      exact .inr ⟨by show _ ≠ 0; rw [k1]; decide, q3, by rw [q2]; exact room, each', cnt', _, _, _, List.prefix_refl _, hsh⟩
  · have hn : gs.flatten.length < 64 := by rw [e1, List.length_append] at cnt; omega
    have hl : lastN l = gs.flatten.length := by unfold lastN; rw [e4]; simp
    by_cases h50 : 50 ≤ l.size
    · have hwe : wSync d l = syncD d (nmJ gs.flatten.length) := by unfold wSync; rw [if_neg (by rw [e4]; simp), hl]
      unfold wApp
      rw [if_pos (.inr h50)]
      rcases hsync with ⟨k1, k2⟩ | ⟨k1, k2⟩
      · rw [if_neg (by rw [k1]; decide)]
        obtain ⟨t1, t2⟩ := logF_there e3 hg hn
        obtain ⟨r1, r2, r3⟩ := sync_gen ok alive t1
        have hfs : (wSync d l).1.fs = closF 0 (gs ++ [cur]) := by
          rw [hwe] at k1 ⊢
          rcases r3 with ⟨_, _, z⟩ | ⟨z, _⟩
          · rw [z, t2, e3, logF_put hg hn, logF_snoc]
          · rw [z] at k1; exact absurd k1 (by decide)
        have hg2 : ∀ g ∈ gs ++ [cur], g ≠ [] := fun g hx => by
          rcases List.mem_append.1 hx with hx | hx
          · exact hg g hx
          · rw [List.mem_singleton] at hx; subst hx; exact hc
        have hln : all.length = (gs ++ [cur]).flatten.length := by rw [e1]; simp
        have hlst := last_new hg2 (by omega)
        rw [← hln, ← nx] at hlst
        have hus2 := k2.sh.used
        obtain ⟨q1, q2, q3, q4⟩ := app_gen (n := nmJ l.next) (b := crcRec b) k2.ok k2.alive (by rw [k2.room]; omega)
        have hfd : fileD (wSync d l).1 (nmJ l.next) = ⟨[], 0⟩ := by unfold fileD; rw [hfs, getF_none' hlst]; rfl
        have hsh : Shape (appD (wSync d l).1 (nmJ l.next) (crcRec b)).1.fs (all ++ [b]) sy (l.segs ++ [l.next]) (crcRec b).length := by
          refine .inr ⟨gs ++ [cur], [b], 0, hg2, by simp, by rw [e1]; simp, by simp, by rw [← hln, e1, List.length_append]; omega, ?_, ?_, by rw [hrb]⟩
          · rw [q1, hfd, hfs, putF_new hlst, hrb, logF, ← hln, nx]; simp [recs]
          · rw [e4, firsts_append, ← hln, nx]; simp [firsts]
        rcases q4 with ⟨p1, p2⟩ | ⟨p1, p2⟩
        · rw [if_neg (by rw [p1]; decide)]
          exact .inl ⟨rfl, q3, by rw [q2]; exact k2.room, each', cnt', p2, hsh, by simp [nx]⟩
        · rw [if_pos (by rw [p1]; decide)]
          exact .inr ⟨by show _ ≠ 0; rw [p1]; decide, q3, by rw [q2]; exact k2.room, each', cnt', _, _, _, List.prefix_refl _, hsh⟩
      · rw [if_pos k1]
        obtain ⟨a, segs, size, ha, hsh⟩ := k2.sh
        exact .inr ⟨k1, k2.ok, k2.room, each', cnt', a, segs, size, ha.trans (List.prefix_append _ _), hsh⟩
    · obtain ⟨t1, t2⟩ := logF_there e3 hg hn
      obtain ⟨q1, q2, q3, q4⟩ := app_gen (n := nmJ gs.flatten.length) (b := crcRec b) ok alive hr1
      have hsh : Shape (appD d (nmJ gs.flatten.length) (crcRec b)).1.fs (all ++ [b]) sy l.segs (l.size + (crcRec b).length) := by
        refine .inr ⟨gs, cur ++ [b], s, hg, by simp, by rw [e1]; simp, by rw [List.length_append]; omega, hsy, ?_, e4, by rw [e5, recs_append, List.length_append, hrb]⟩
        rw [q1, t2, e3, logF_put hg hn, recs_append, hrb, List.take_append_of_le_length hs]
      unfold wApp
      rw [if_neg (by rw [e4]; simp; omega), hl]
      rcases q4 with ⟨p1, p2⟩ | ⟨p1, p2⟩
      · rw [if_neg (by rw [p1]; decide)]
        exact .inl ⟨rfl, q3, by rw [q2]; exact room, each', cnt', p2, hsh, by simp [nx]⟩
      · rw [if_pos (by rw [p1]; decide)]
        exact .inr ⟨by show _ ≠ 0; rw [p1]; decide, q3, by rw [q2]; exact room, each', cnt', _, _, _, List.prefix_refl _, hsh⟩
/-- A log's files with nothing that isn't safe, as they are read. -/
structure JoC (d : Dk) (gs : Grps) (x : List UInt8) (part : List (List UInt8)) (e : Nat) : Prop where
  ok : DkOk d
  alive : d.dead = false
  unarmed : d.armed = false
  fs : d.fs = logF gs x x.length
  ne : ∀ g ∈ gs, g ≠ []
  each : ∀ y ∈ gs.flatten ++ part, y.length ≤ 100000
  cnt : (gs.flatten ++ part).length ≤ 30
  op : openAll x = (part, e)
  le : e ≤ x.length
  tk : x.take e = recs part
def cutL (d : Dk) (gs : Grps) (x : List UInt8) (e : Nat) : Dk := if e < x.length then (cutD d (nmJ gs.flatten.length) (e : Nat)).1 else d
theorem JoC.cut {gs : Grps} {x : List UInt8} {part : List (List UInt8)} {e : Nat} (h : JoC d gs x part e) : (cutD d (nmJ gs.flatten.length) (e : Nat)).2 = 0 ∧ JoC (cutL d gs x e) gs (recs part) part (recs part).length := by
  have hn : gs.flatten.length < 64 := by have := h.cnt; rw [List.length_append] at this; omega
  obtain ⟨t1, t2⟩ := logF_there h.fs h.ne hn
  have hx : ∀ y ∈ part, y.length ≤ 1048576 := fun y hy => by have := h.each y (List.mem_append_right _ hy); omega
  have hc := cut_gen (n := nmJ gs.flatten.length) (k := e) h.alive h.unarmed t1 (by rw [t2]; exact h.le)
  have hel : (recs part).length = e := by rw [← h.tk, List.length_take]; have := h.le; omega
  rw [t2] at hc
  dsimp only at hc
  rw [h.tk] at hc
  refine ⟨by rw [hc], ?_⟩
  unfold cutL
  split
  · rename_i hlt
    rw [hc]
    refine ⟨h.ok.putG (by dsimp only; omega) ?_, h.alive, h.unarmed, ?_, h.ne, h.each, h.cnt, openAll_recs hx, Nat.le_refl _, List.take_length⟩
    · have hu := h.ok.used
      rw [h.fs, logF_used] at hu
      rw [h.fs, logF_put h.ne hn, logF_used]; omega
    · simp only [putD]; rw [h.fs, logF_put h.ne hn, hel]
  · have hex : x = recs part := by rw [← h.tk, List.take_of_length_le (by omega)]
    subst hex
    exact ⟨h.ok, h.alive, h.unarmed, h.fs, h.ne, h.each, h.cnt, openAll_recs hx, Nat.le_refl _, List.take_length⟩
end
end Go.Proofs.YtdgagffieobiiaaGreatDoor

/-
  Facts of memory that stays as it is, as pieces; groups of cells told one by one.
-/
namespace Go.Proofs.YtdgagffieobiiaaGreatDoor
open Go.RowKit

/-- A fact that the piece's own blocks support. -/
def kp (K : World → Prop) : Ck := ⟨fun w S => K w ∧ ∀ w', w.heap.size ≤ w'.heap.size → (∀ b, b < w.heap.size → S b → w'.heap[b]? = w.heap[b]?) → K w',
  fun {w w' S S'} ⟨h1, h2⟩ hz hm => ⟨h2 w' hz fun b hb hs => (hm b hb hs).2, fun w'' hz2 hm2 => h2 w'' (Nat.le_trans hz hz2) fun b hb hs => (hm2 b (Nat.lt_of_lt_of_le hb hz) (hm b hb hs).1).trans (hm b hb hs).2⟩⟩
section
variable {M : BS} {w0 w w' : World} {H H1 : List Cd} {K K' : World → Prop}
theorem Sat.kp {S : BS} {i : Nat} (h : Sat w H S) (hi : nthC H i = some (.ck (kp K))) : K w := by
  obtain ⟨T, _, hc, _⟩ := h.front hi
  exact hc.1
theorem St.kp (h : St M w0 w H) (i : Nat) (hi : nthC H i = some (.ck (kp K))) : K w := Sat.kp h.2 hi
theorem St.kpOf (h : St M w0 w (H1 ++ H)) (hK : ∀ w S, Sat w H1 S → K w) : St M w0 w (.ck (Go.Proofs.YtdgagffieobiiaaGreatDoor.kp K) :: H) :=
  h.pack (.ck (Go.Proofs.YtdgagffieobiiaaGreatDoor.kp K)) fun w S hs => ⟨hK w S hs, fun w' hz hm => hK w' S (hs.move hz fun b hb k => ⟨k, hm b hb k⟩)⟩
theorem St.kpMono (h : St M w0 w (.ck (Go.Proofs.YtdgagffieobiiaaGreatDoor.kp K) :: H)) (hK : ∀ w, K w → K' w) : St M w0 w (.ck (Go.Proofs.YtdgagffieobiiaaGreatDoor.kp K') :: H) :=
  St.kpOf (H1 := [_]) h fun w S hs => hK w (Sat.kp (i := 0) hs rfl)
theorem St.kpAnd (h : St M w0 w (.ck (Go.Proofs.YtdgagffieobiiaaGreatDoor.kp K) :: .ck (Go.Proofs.YtdgagffieobiiaaGreatDoor.kp K') :: H)) : St M w0 w (.ck (Go.Proofs.YtdgagffieobiiaaGreatDoor.kp fun w => K w ∧ K' w) :: H) :=
  St.kpOf (H1 := [_, _]) h fun w S hs => ⟨Sat.kp (i := 0) hs rfl, Sat.kp (i := 1) hs rfl⟩
theorem St.kpNil (h : St M w0 w H) (hK : ∀ w, K w) : St M w0 w (.ck (Go.Proofs.YtdgagffieobiiaaGreatDoor.kp K) :: H) := St.kpOf (H1 := []) h fun w _ _ => hK w
theorem St.kpNew (h : St M w0 w H) (hb : Below w.heap.size w w') (h1 : K w') (h2 : ∀ w'', w'.heap.size ≤ w''.heap.size → (∀ b, w.heap.size ≤ b → b < w'.heap.size → w''.heap[b]? = w'.heap[b]?) → K w'') : St M w0 w' (.ck (Go.Proofs.YtdgagffieobiiaaGreatDoor.kp K) :: H) :=
  h.new (T := fun b => w.heap.size ≤ b) (c := .ck (Go.Proofs.YtdgagffieobiiaaGreatDoor.kp K)) hb ⟨h1, fun w'' hz hm => h2 w'' hz fun b hl hb => hm b hb hl⟩ fun _ _ k => k
end
/-- Things as groups of cells, as far as a class of worlds tells them. -/
def AllK {α : Type} (K : World → Prop) (Q : α → List Value → World → Prop) (xs : List α) (css : List (List Value)) : Prop :=
  css.length = xs.length ∧ ∀ (i : Nat) (x : α), xs[i]? = some x → ∃ cs, css[i]? = some cs ∧ ∀ w, K w → Q x cs w
section
variable {α : Type} {K : World → Prop} {Q : α → List Value → World → Prop} {xs : List α} {css : List (List Value)}
theorem AllK.nil : AllK K Q [] [] := ⟨rfl, fun i e h => by simp at h⟩
theorem AllK.snoc (h : AllK K Q xs css) {x : α} {cs : List Value} (he : ∀ w, K w → Q x cs w) : AllK K Q (xs ++ [x]) (css ++ [cs]) := by
  obtain ⟨hl, h⟩ := h
  refine ⟨by simp [hl], fun i y hi => ?_⟩
  rcases Nat.lt_or_ge i xs.length with hlt | hge
  · rw [List.getElem?_append_left hlt] at hi
    rw [List.getElem?_append_left (by omega)]
    exact h i y hi
  · rw [List.getElem?_append_right hge] at hi
    obtain ⟨h0, h1⟩ := List.getElem?_eq_some_iff.1 hi
    have h0' : i - xs.length = 0 := by simpa using h0
    simp only [h0', List.getElem_cons_zero] at h1
    subst h1
    exact ⟨cs, by rw [List.getElem?_append_right (by omega), show i - css.length = 0 by omega]; rfl, he⟩
/-- A row of such groups, read. -/
theorem AllK.rdr {k : Nat} {el : α → El} {w : World} {S : BS} {A : Option Addr} {e : TypeId} {base c : Nat} (h : AllK K Q xs css) (hk : K w) (hq : ∀ x cs, Q x cs w → (el x).P w All cs ∧ cs.length = k) (hr : OwR k e w base S A c (css.map rawEl)) : RdR k w All A (xs.map el) := by
  obtain ⟨h1, h2⟩ := h
  have hr2 := RdR.raw hr.rd
  refine ⟨css, ⟨by simp [h1], fun i cs hi => ?_⟩, by rw [List.length_map, ← h1]; exact hr2.1, fun _ _ _ => trivial⟩
  have hlt : i < xs.length := by have := (List.getElem?_eq_some_iff.1 hi).1; omega
  obtain ⟨cs2, k1, k2⟩ := h2 i xs[i] (List.getElem?_eq_getElem hlt)
  rw [hi] at k1
  cases k1
  have := hq _ _ (k2 w hk)
  exact ⟨this.2, el xs[i], by rw [List.getElem?_map, List.getElem?_eq_getElem hlt]; rfl, this.1⟩
end
section
variable {P : Program} {N : Nat} {ops : Array Oper} {Q : Exit → Act → World → Prop} {rest : List Oper} {L : FL} {w0 w : World} {M : BS} {H : List Cd} {t e : TypeId} {z : Value} {bytes k : Nat} {cs : List Value}
/-- A slice of one element of k cells. -/
theorem ws_bsR {d : Nat} {x : Operand} {ty : TypeId} {pos : String} {aft : Array Edge} (hs : St M w0 w H) (T : RowK P t e k z bytes) (hx : ∃ v, look L x = some v ∧ v.cells = cs.toArray) (hl : cs.length = k) (hk : k ≤ 16777216) (hd : Nat.blt d N = true)
    (h : ∀ A w', St M w0 w' (.rg k e A 1 [rawEl cs] :: H) → WL P N ops Q rest ((d, .slice A 1 1) :: L) w') :
    WL P N ops Q (⟨some d, .buildSlice t 1 #[(0, x)], ty, pos, aft, none⟩ :: rest) L w :=
  wl_bsG (css := [cs]) (els := [rawEl cs]) (S := NoB) (ps := [(0, x)]) T ⟨rfl, hx, hl, trivial⟩ rfl (by simpa using hk) (by decide) (grp_raw (css := [cs]) (by simpa using hl)) hd fun A w' ho hb _ =>
    h A w' (hs.newG hb ho (Nat.le_refl _) fun _ _ h => h.elim)
end
theorem sat_ow {w : World} {H : List Cd} {S : BS} {e : TypeId} {A : Option Addr} {n c : Nat} {xs : List Value} (h : Sat w H S) (i : Nat) (hi : nthC H i = some (.ow e A n c xs)) : Ow w 0 e A n c xs := by
  obtain ⟨T, _, hc, _⟩ := h.front hi
  exact hc.2
theorem wc_heldG {P : Program} {N : Nat} {Q : Exit → Act → World → Prop} {L : FL} {w : World} (S : World → Prop) (m : Nat) {id : Nat} {l : List Oper} (hm : P.follows .mixedOrders = true) (h : WM P N l.toArray Q S m l.length (Array.replicate l.length false) L w.drew) : WC P N (.region id l.toArray true) Q L w := fun a ha =>
  wp_region_noPanic (wp_region_any hm (any_of_M (S := S) (m := m) _ _ _ _ (by simpa using h a ha)))
end Go.Proofs.YtdgagffieobiiaaGreatDoor

/-
  Walks over a filter of keys: Build.
-/
namespace Go.Proofs.YtdgagffieobiiaaGreatDoor
open Go.RowKit
theorem p1_u8 : Cell1 Tryz.prog 5 := ⟨by kernel_rfl, by rw [Tryz.underlying5]⟩
theorem ow_addr {w : World} {e : TypeId} {A : Option Addr} {n c base : Nat} {xs : List Value} (h : Ow w base e A n c xs) (hn : 0 < n) : ∃ g, A = some ⟨g, 0, none⟩ := by
  rcases h.2 with ⟨_, h0⟩ | ⟨g, cap, cur, hv, _⟩
  · omega
  · injection hv with hA _ _
    exact ⟨g, hA⟩
theorem mB_nat (n : Nat) : (max 64 (10 * n) + 7) / 8 * 8 = mB n := rfl
theorem setB_val {f : List UInt8} {b : Nat} : (bvs f).set (b / 8) (.int .u8 (((f.getD (b / 8) 0).toNat ||| 2 ^ (b % 8) : Nat) : Int)) = bvs (setB f b) := by
  rw [← bv_of (or_u8 _ _ (Nat.mod_lt _ (by decide))), bvs_set]; rfl
theorem bvs_getD {f : List UInt8} {i : Nat} (h : i < f.length) : (bvs f)[i]? = some (bv (f.getD i 0)) := by
  rw [bvs, List.getElem?_map, List.getElem?_eq_getElem h, List.getD_eq_getElem?_getD, List.getElem?_eq_getElem h]; rfl
theorem pow8 (b : Nat) : 1 * 2 ^ (b % 8) % 2 ^ 8 = 2 ^ (b % 8) := by
  rw [Nat.one_mul, Nat.mod_eq_of_lt (Nat.pow_lt_pow_right (by decide) (Nat.mod_lt _ (by decide)))]
set_option maxHeartbeats 1000000 in
theorem bloomBuild_any {A : Option Addr} {n c : Nat} {keys : List (List UInt8)} {w : World} (hr : RdBB w A keys) (hn : keys.length = n) (hn40 : keys.length ≤ 40) (hl : ∀ key ∈ keys, key.length ≤ 1099511627776) :
    CallsV Tryz.prog 19 #[.int .i64 10, .slice A n c] w fun v w' => ∃ (B : Option Addr) (cB : Nat), v = .tuple #[.slice B (filtB keys).length cB, .int .i64 0] ∧ OwB w' w.heap.size B cB (filtB keys) ∧ Below w.heap.size w w' := by
  subst hn
  have hs := St.init w
  obtain ⟨hm1, hm2, hm3⟩ := mB_ok hn40
  obtain ⟨m, hm⟩ : ∃ m, mB keys.length = m := ⟨_, rfl⟩
  refine calls_in (N := _) Tryz.func19 rfl Tryz.ntmps19 rfl ?_; show WC _ _ _ _ _ _
  refine wc_sr ?_; refine wl_as rfl rfl ?_; refine wl_as rfl rfl ?_; refine wl_ns ?_; refine wc_seq ?_; refine wc_sr ?_; refine wl_mv rfl rfl ?_; refine wl_bin rfl rfl bin_lss rfl ?_; refine wl_mv rfl rfl ?_; apply wl_take; exact rfl; exact rfl; exact rfl; refine bF ?_; omega; refine wl_mv rfl rfl ?_; apply wl_take; exact rfl; exact rfl; exact rfl; refine bF ?_; omega; refine wl_bin rfl rfl bin_gtr rfl ?_; apply wl_val; apply opv_pickF; exact rfl; refine bF ?_; omega; exact rfl; exact rfl; refine wl_ns ?_; apply wc_condFb; exact rfl; exact rfl; refine wc_skip ?_; refine we_seq ?_; refine wc_sr ?_; refine wl_mv rfl rfl ?_; refine wl_mv rfl rfl ?_; apply wl_val; apply opv_len; exact rfl; exact tyBB.sl; exact rfl
  refine wl_bin rfl rfl (bin_mulN (a := 10) (b := keys.length) (by omega)) rfl ?_
  refine wl_val (opv_max rfl rfl) rfl ?_
  rw [show max (64 : Int) ((10 * keys.length : Nat) : Int) = ((max 64 (10 * keys.length) : Nat) : Int) by omega]
  refine wl_bin rfl rfl ((bin_add64 (by omega)).to (congrArg (Value.int .i64) (show ((max 64 (10 * keys.length) : Nat) : Int) + 7 = ((max 64 (10 * keys.length) + 7 : Nat) : Int) by omega))) rfl ?_
  refine wl_bin rfl rfl (bin_quoN (b := 8) (by decide) (by omega)) rfl ?_
  refine wl_bin rfl rfl (bin_mulN (b := 8) (by omega)) rfl ?_
  rw [mB_nat, hm]
  rw [hm] at hm1 hm2 hm3
  refine wl_as rfl rfl ?_; refine wl_ns ?_; refine wc_seq ?_; refine wc_sr ?_; refine wl_mv rfl rfl ?_
  refine wl_bin rfl rfl (bin_quoN (b := 8) (by decide) (by omega)) rfl ?_
  obtain ⟨q, hq⟩ : ∃ q, m / 8 = q := ⟨_, rfl⟩
  rw [hq]
  have hq1 : q ≤ 50 ∧ m = 8 * q ∧ 8 ≤ q := by omega
  apply wl_val; apply opv_bin; exact rfl; exact rfl; exact bin_add64 (by omega); exact rfl; refine wl_bin rfl rfl bin_gtr rfl ?_; refine wl_ns ?_; apply wc_decF; exact rfl; omega; refine wc_skip ?_; refine we_seq ?_; refine wc_sr ?_; refine wl_mv rfl rfl ?_
  refine wl_bin rfl rfl (bin_mulN (a := 10) (b := 69) (by decide)) rfl ?_
  refine wl_bin rfl rfl (bin_quoN (b := 100) (by decide) (by decide)) rfl ?_
  refine wl_val (opv_max rfl rfl) rfl ?_
  rw [show max (1 : Int) ((10 * 69 / 100 : Nat) : Int) = 6 from rfl]
  refine wl_val (opv_min (r := 6) rfl rfl (by decide)) rfl ?_
  refine wl_as rfl rfl ?_; refine wl_ns ?_; refine wc_sr ?_; refine wl_mv rfl rfl ?_
  refine wl_bin rfl rfl (bin_quoN (b := 8) (by decide) (by omega)) rfl ?_
  rw [hq]
  apply wl_val; apply opv_bin; exact rfl; exact rfl; exact bin_add64 (by omega); exact rfl
  refine ws_mk (n := q + 1) (c := q + 1) hs tyB rfl rfl (by omega) (by omega) (Nat.le_refl _) (by omega) (by simp only [maxLen]; omega) rfl ?_
  clear hs; intro F _ hs
  refine wl_as rfl rfl ?_; refine wl_ns ?_; refine wc_seq ?_; refine wc_sr ?_; refine wl_mv rfl rfl ?_; apply wl_val; apply opv_len; exact rfl; exact tyBB.sl; exact rfl; refine wl_mv rfl rfl ?_; refine wl_ns ?_; refine wc_block ?_
  refine wc_loop (fun L wr z => ∃ (i : Nat) (f : List UInt8), L = [(6, .int .i64 (m : Int)), (7, .int .i64 6), (8, .slice F (q + 1) (q + 1)), (40, .slice A keys.length c), (41, .int .i64 (keys.length : Int)), (42, .int .i64 (i : Int))] ∧ i ≤ keys.length ∧ f = (keys.take i).foldl (fun f key => (plsB key m 6).foldl setB f) (List.replicate (q + 1) 0) ∧ f.length = q + 1 ∧
      St NoB w wr [.ow 5 F (q + 1) (q + 1) (bvs f)] ∧ z = keys.length - i)
    [(6, .int .i64 (m : Int)), (7, .int .i64 6), (8, .slice F (q + 1) (q + 1)), (40, .slice A keys.length c), (41, .int .i64 (keys.length : Int)), (42, .int .i64 ((0 : Nat) : Int))] keys.length ⟨0, List.replicate (q + 1) 0, rfl, Nat.zero_le _, rfl, List.length_replicate, by rw [show bvs (List.replicate (q + 1) 0) = List.replicate (q + 1) (Value.int .u8 0) by simp [bvs, bv]]; exact hs, rfl⟩ ⟨rfl, rfl, rfl, rfl, rfl, rfl, trivial⟩ ?_
  clear hs
  rintro _ w5 z ⟨i, f, rfl, hi, hfe, hfl, hs, rfl⟩
  refine wc_sr ?_; refine wl_bin rfl rfl bin_lss rfl ?_; refine wl_ns ?_; refine wc_seq ?_
  refine wc_cond rfl (fun h1 => ?_) (fun h1 => ?_)
  · obtain ⟨key, hkey⟩ : ∃ key, keys[i]? = some key := ⟨_, List.getElem?_eq_getElem (by omega)⟩
    have hkl := hl key (List.mem_of_getElem? hkey)
    obtain ⟨vr, X, cx, q1, q2, q3, q4⟩ := hr.at hkey
    have hfs := fold_take (fun (f : List UInt8) key => (plsB key m 6).foldl setB f) (List.replicate (q + 1) 0) hkey
    refine wc_skip ?_; refine we_seq ?_; refine wc_seq ?_; refine wc_block ?_; refine wc_sr ?_
    refine wl_val (opv_idxR (kk := i) (u := .slice X key.length cx) tyBB rfl rfl (q1.below hs.bel) rfl q2) rfl ?_
    refine wl_val (opv_loadR (kk := i) (u := .slice X key.length cx) tyBB rfl (q1.below hs.bel) q2) rfl ?_
    refine wl_as rfl rfl ?_; refine wl_ns ?_; refine wc_sr ?_; refine wl_mv rfl rfl ?_; refine wl_mv rfl rfl ?_; refine wl_mv rfl rfl ?_
    refine wl_call ok_bloom_places (places_any (m := m) (k := 6) (q3.below hs.bel) rfl hkl (by omega) (by decide)) ⟨rfl, rfl, rfl, trivial⟩ rfl ?_
    rintro _ _ ⟨P, rfl, o_, hbx⟩
    replace hs := hs.newO hbx o_ (Nat.le_refl _)
    clear hbx o_
    apply wl_val; apply opv_len; exact rfl; exact tyPl.sl; exact rfl; refine wl_mv rfl rfl ?_; refine wl_ns ?_; refine wc_block ?_
    refine wc_loop (fun L wr z => ∃ (j : Nat) (f' : List UInt8), L = [(6, .int .i64 (m : Int)), (7, .int .i64 6), (8, .slice F (q + 1) (q + 1)), (40, .slice A keys.length c), (41, .int .i64 (keys.length : Int)), (42, .int .i64 (i : Int)), (49, .slice P 6 6), (50, .int .i64 ((6 : Nat) : Int)), (51, .int .i64 (j : Int))] ∧ j ≤ 6 ∧ f' = ((plsB key m 6).take j).foldl setB f ∧ f'.length = q + 1 ∧
        St NoB w wr [.ow 3 P 6 6 (ints (plsB key m 6)), .ow 5 F (q + 1) (q + 1) (bvs f')] ∧ z = 6 - j)
      [(6, .int .i64 (m : Int)), (7, .int .i64 6), (8, .slice F (q + 1) (q + 1)), (40, .slice A keys.length c), (41, .int .i64 (keys.length : Int)), (42, .int .i64 (i : Int)), (49, .slice P 6 6), (50, .int .i64 ((6 : Nat) : Int)), (51, .int .i64 ((0 : Nat) : Int))] 6 ⟨0, f, rfl, Nat.zero_le _, rfl, hfl, hs, rfl⟩ ⟨rfl, rfl, rfl, rfl, rfl, rfl, rfl, rfl, rfl, trivial⟩ ?_
    clear hs
    rintro _ w6 z ⟨j, f', rfl, hj, hfe', hfl', hs, rfl⟩
    refine wc_sr ?_; refine wl_bin rfl rfl bin_lss rfl ?_; refine wl_ns ?_; refine wc_seq ?_
    refine wc_cond rfl (fun h2 => ?_) (fun h2 => ?_)
    · have hj1 : j < 6 := by omega
      have hpb := pls_at key m hj1
      obtain ⟨b, hb⟩ : ∃ b, plB key m j = b := ⟨_, rfl⟩
      rw [hb] at hpb
      have hbm : b < m := by rw [← hb]; exact pl_lt (by omega)
      have hu : (ints (plsB key m 6))[j]? = some (.int .i64 (b : Int)) := by rw [ints, List.getElem?_map, hpb]; rfl
      have hb8 : b / 8 < q + 1 := by omega
      have hg := bvs_getD (f := f') (i := b / 8) (by omega)
      obtain ⟨g, rfl⟩ := ow_addr (hs.ow 1 rfl) (by omega)
      have hfs2 := fold_take setB f hpb
      refine wc_skip ?_; refine we_seq ?_; refine wc_seq ?_; refine wc_block ?_; refine wc_sr ?_
      refine wl_val (opv_idxR (kk := j) (u := .int .i64 (b : Int)) tyPl rfl rfl (hs.ow 0 rfl).rd rfl hu) rfl ?_
      refine wl_val (opv_loadR (kk := j) (u := .int .i64 (b : Int)) tyPl rfl (hs.ow 0 rfl).rd hu) rfl ?_
      refine wl_as rfl rfl ?_; refine wl_ns ?_
      refine wc_heldG (fun w' => Rd w' (some ⟨g, 0, none⟩) (q + 1) (bvs f')) 10 mixed ?_
      replace hs := hs.below (Below.refl _ _).drew
      have hS := (hs.ow 1 rfl).rd
      apply wm_take 0; exact rfl; intro _ hw_; apply opv_move; exact rfl; exact rfl; kernel_rfl; exact hS; apply wm_take 1; exact rfl; intro _ hw_; apply opv_move; exact rfl; exact rfl; kernel_rfl; exact hS
      refine wm_take 2 rfl (fun _ _ => opv_bin rfl rfl (bin_quoN (b := 8) (by decide) (by omega))) rfl (by kernel_rfl) hS ?_
      refine wm_take 3 rfl (fun _ hw_ => opv_idxR (kk := b / 8) tyB rfl rfl hw_ rfl hg) rfl (by kernel_rfl) hS ?_
      refine wm_take 4 rfl (fun _ hw_ => opv_loadR (kk := b / 8) tyB rfl hw_ hg) rfl (by kernel_rfl) hS ?_
      apply wm_take 5; exact rfl; intro _ hw_; apply opv_move; exact rfl; exact rfl; kernel_rfl; exact hS
      refine wm_take 6 rfl (fun _ _ => opv_bin rfl rfl (bin_rem (b := 8) (by decide))) rfl (by kernel_rfl) hS ?_
      refine wm_take 7 rfl (fun _ _ => opv_bin rfl rfl ((bin_shl (k := .u8) (x := 1) (y := b % 8) rfl).to (congrArg (fun k : Nat => Value.int .u8 (k : Int)) (pow8 b)))) rfl (by kernel_rfl) hS ?_
      refine wm_take 8 rfl (fun _ _ => opv_bin rfl rfl (bin_or (k := .u8) (a := (f'.getD (b / 8) 0).toNat) (b := 2 ^ (b % 8)) rfl (UInt8.toNat_lt _) (Nat.pow_lt_pow_right (by decide) (Nat.mod_lt _ (by decide))))) rfl (by kernel_rfl) hS ?_
      refine wm_take 9 rfl (fun _ hw_ => opv_idxR (kk := b / 8) tyB rfl rfl hw_ rfl hg) rfl (by kernel_rfl) hS ?_
      clear hS
      refine wm_one 10 (by kernel_rfl) rfl ?_; dsimp only [List.getElem_toArray, List.getElem_cons_succ, List.getElem_cons_zero]
      rw [show adR (some ⟨g, 0, none⟩) (b / 8) = Value.pointer (some ⟨g, 0 + b / 8, none⟩) by simp [adR, Addr.add_lit]]
      refine ws_stO hs 1 rfl rfl rfl p1_u8 hb8 rfl rfl ?_
      clear hs; intro _ hs; dsimp only [setC] at hs
      rw [setB_val] at hs
      refine wl_nil ?_
      refine we_heldM (fun h => absurd h (by decide)) ?_
      refine wm_done (by kernel_rfl) ?_
      refine we_block_norm ?_; refine we_seq ?_; refine wc_region ?_; apply wl_val; apply opv_bin; exact rfl; exact rfl; exact bin_add64 (by omega); exact rfl; refine wl_mv rfl rfl ?_; refine wl_nil ?_
      exact we_loop _ (6 - (j + 1)) ⟨j + 1, setB f' b, rfl, by omega, by rw [hfe', hfs2], by rw [setB_len]; exact hfl', hs, rfl⟩ (by omega) ⟨rfl, rfl, rfl, rfl, rfl, rfl, rfl, rfl, by rw [show ((j + 1 : Nat) : Int) = (j : Int) + 1 by omega]; rfl, trivial⟩
    · obtain rfl : j = 6 := by omega
      rw [List.take_of_length_le (by rw [pls_len]; exact Nat.le_refl _)] at hfe'
      refine wc_exit ?_; refine we_seq_exit ?_; refine we_loop_exit ?_; refine we_block_exit ?_; refine we_block_norm ?_; refine we_seq ?_; refine wc_region ?_; apply wl_val; apply opv_bin; exact rfl; exact rfl; exact bin_add64 (by omega); exact rfl; refine wl_mv rfl rfl ?_; refine wl_nil ?_
      exact we_loop _ (keys.length - (i + 1)) ⟨i + 1, f', rfl, by omega, by rw [hfs, ← hfe, hfe'], hfl', hs.drop 0 rfl, rfl⟩ (by omega) ⟨rfl, rfl, rfl, rfl, rfl, by rw [show ((i + 1 : Nat) : Int) = (i : Int) + 1 by omega]; rfl, trivial⟩
  · obtain rfl : i = keys.length := by omega
    rw [List.take_length] at hfe
    have hfin : (bvs f).set q (.int .u8 6) = bvs (filtB keys) := by
      rw [show (Value.int .u8 6) = bv 6 from rfl, bvs_set, hfe, filtB, hm, hq, bitsB, hq]
    have hfl2 : (filtB keys).length = q + 1 := by rw [filt_len, hm, hq]
    obtain ⟨g, rfl⟩ := ow_addr (hs.ow 0 rfl) (by omega)
    refine wc_exit ?_; refine we_seq_exit ?_; refine we_loop_exit ?_; refine we_block_exit ?_; refine we_seq ?_; refine wc_sr ?_; refine wl_mv rfl rfl ?_; refine wl_mv rfl rfl ?_
    refine wl_bin rfl rfl (bin_quoN (b := 8) (by decide) (by omega)) rfl ?_
    rw [hq]
    refine wl_mv rfl rfl ?_; apply wl_val; apply opv_convR; exact rfl; exact Tryz.underlying3; exact Tryz.underlying5; exact IntWalk.u8_in _ (by omega); exact rfl
    refine ws_set (kk := q) hs 0 rfl rfl tyB rfl rfl (by omega) (fun _ => rfl) rfl rfl ?_
    clear hs; intro _ _ hs; dsimp only [setC] at hs
    rw [hfin] at hs
    refine wl_ns ?_; refine wc_sr ?_; refine wl_mv rfl rfl ?_; refine wl_as rfl rfl ?_; refine wl_as rfl rfl ?_; refine wl_ns ?_; refine wc_ret ?_
    obtain ⟨T, hc, hT⟩ := hs.get 0 rfl
    refine we_ret2 rfl rfl rfl ⟨_, rfl, some ⟨g, 0, none⟩, q + 1, by rw [hfl2], ?_, hs.bel⟩
    unfold OwB
    rw [hfl2]
    exact ⟨hc.2.1, hc.2.2.imp id fun ⟨g', cap, cur, hv, _, hrest⟩ => ⟨g', cap, cur, hv, (hT g' (by
      injection hv with hA _ _
      exact hc.1 _ hA)).elim (fun k => k.elim) id, hrest⟩⟩
end Go.Proofs.YtdgagffieobiiaaGreatDoor

/-
  Walks over a filter of keys: May.
-/
namespace Go.Proofs.YtdgagffieobiiaaGreatDoor
open Go.RowKit
theorem filt_last {keys : List (List UInt8)} (hn : keys.length ≤ 40) : ∃ q, (filtB keys).length = q + 1 ∧ 8 ≤ q ∧ q ≤ 50 ∧ (filtB keys)[q]? = some 6 := by
  obtain ⟨h1, h2, h3⟩ := mB_ok hn
  refine ⟨mB keys.length / 8, filt_len keys, by omega, by omega, ?_⟩
  rw [filtB, List.getElem?_set_self (by rw [bits_len]; omega)]
theorem get_bit (f : List UInt8) (b : Nat) : ((f.getD (b / 8) 0).toNat / 2 ^ (b % 8) &&& 1) = if getB f b then 1 else 0 := by
  unfold getB
  rw [Nat.testBit_eq_decide_div_mod_eq, Nat.and_one_is_mod]
  by_cases h : (f.getD (b / 8) 0).toNat / 2 ^ (b % 8) % 2 = 1
  · rw [decide_eq_true h, h]; rfl
  · rw [decide_eq_false h]
    have := Nat.mod_lt ((f.getD (b / 8) 0).toNat / 2 ^ (b % 8)) (show 0 < 2 by decide)
    show _ = 0
    omega
section
variable {A K : Option Addr} {c kn kc q : Nat} {f key : List UInt8} {w : World}
theorem form_any (hr : RdB w A f) (hl : f.length = q + 1) (hq : 1 ≤ q ∧ q ≤ 1048576) (h6 : f[q]? = some 6) :
    CallsV Tryz.prog 51 #[.slice A (q + 1) c] w fun v w' => v = .int .i64 0 ∧ w = w' := by
  have hu : (bvs f)[q]? = some (.int .u8 6) := by rw [bvs, List.getElem?_map, h6]; rfl
  unfold RdB at hr
  rw [hl] at hr
  have h61 : ¬ (6 : Int) < 1 := by decide
  have h630 : ¬ (6 : Int) > 30 := by decide
  refine calls_in (N := _) Tryz.func51 rfl Tryz.ntmps51 rfl ?_; show WC _ _ _ _ _ _
  refine wc_sr ?_; refine wl_as rfl rfl ?_; refine wl_ns ?_; refine wc_seq ?_; refine wc_sr ?_; refine wl_mv rfl rfl ?_; apply wl_val; apply opv_len; exact rfl; exact tyB.sl; exact rfl; refine wl_bin rfl rfl bin_lss rfl ?_; refine wl_mv rfl rfl ?_; apply wl_take; exact rfl; exact rfl; exact rfl; refine bF ?_; omega; refine wl_mv rfl rfl ?_; apply wl_take; exact rfl; exact rfl; exact rfl; refine bF ?_; omega; refine wl_mv rfl rfl ?_; apply wl_take; exact rfl; exact rfl; exact rfl; refine bF ?_; omega; apply wl_val; apply opv_len; exact rfl; exact tyB.sl; exact rfl; apply wl_take; exact rfl; exact rfl; exact rfl; refine bF ?_; omega; apply wl_val; apply opv_bin; exact rfl; exact rfl; exact bin_sub64 (by omega); exact rfl; apply wl_take; exact rfl; exact rfl; exact rfl; refine bF ?_; omega
  refine wl_val (opv_idxR (kk := q) (u := .int .u8 6) tyB rfl rfl hr (by omega) hu) rfl ?_
  apply wl_take; exact rfl; exact rfl; exact rfl; refine bF ?_; omega
  refine wl_val (opv_loadR (kk := q) (u := .int .u8 6) tyB rfl hr hu) rfl ?_
  apply wl_take; exact rfl; exact rfl; exact rfl; refine bF ?_; omega; refine wl_bin rfl rfl bin_lss rfl ?_; apply wl_val; apply opv_pickF; exact rfl; refine bF ?_; omega; exact rfl; exact rfl; refine wl_mv rfl rfl ?_; apply wl_take; exact rfl; exact rfl; exact rfl; refine bF ?_; (with_reducible assumption); refine wl_mv rfl rfl ?_; apply wl_take; exact rfl; exact rfl; exact rfl; refine bF ?_; (with_reducible assumption); refine wl_mv rfl rfl ?_; apply wl_take; exact rfl; exact rfl; exact rfl; refine bF ?_; (with_reducible assumption); apply wl_val; apply opv_len; exact rfl; exact tyB.sl; exact rfl; apply wl_take; exact rfl; exact rfl; exact rfl; refine bF ?_; (with_reducible assumption); apply wl_val; apply opv_bin; exact rfl; exact rfl; exact bin_sub64 (by omega); exact rfl; apply wl_take; exact rfl; exact rfl; exact rfl; refine bF ?_; (with_reducible assumption)
  refine wl_val (opv_idxR (kk := q) (u := .int .u8 6) tyB rfl rfl hr (by omega) hu) rfl ?_
  apply wl_take; exact rfl; exact rfl; exact rfl; refine bF ?_; (with_reducible assumption)
  refine wl_val (opv_loadR (kk := q) (u := .int .u8 6) tyB rfl hr hu) rfl ?_
  apply wl_take; exact rfl; exact rfl; exact rfl; refine bF ?_; (with_reducible assumption); refine wl_bin rfl rfl bin_gtr rfl ?_; apply wl_val; apply opv_pickF; exact rfl; refine bF ?_; (with_reducible assumption); exact rfl; exact rfl; refine wl_ns ?_; apply wc_condFb; exact rfl; exact rfl; refine wc_skip ?_; refine we_seq ?_; refine wc_sr ?_; refine wl_as rfl rfl ?_; refine wl_ns ?_; refine wc_ret ?_
  exact we_ret1 rfl rfl ⟨_, rfl, rfl, rfl⟩
theorem may_any (hr : RdB w A f) (hl : f.length = q + 1) (hq : 1 ≤ q ∧ q ≤ 100000) (h6 : f[q]? = some 6) (hk : RdB w K key) (hkn : key.length = kn) (hkl : key.length ≤ 1099511627776) :
    CallsV Tryz.prog 20 #[.slice A (q + 1) c, .slice K kn kc] w fun v w' => v = .tuple #[.bool (mayB f key), .int .i64 0] ∧ Below w.heap.size w w' := by
  have hs := St.init w
  have hu : (bvs f)[q]? = some (.int .u8 6) := by rw [bvs, List.getElem?_map, h6]; rfl
  have hr0 : Rd w A (q + 1) (bvs f) := by unfold RdB at hr; rw [hl] at hr; exact hr
  have hmb : mayB f key = (plsB key (8 * q) 6).all (getB f) := by unfold mayB; rw [hl, Nat.add_sub_cancel]
  refine calls_in (N := _) Tryz.func20 rfl Tryz.ntmps20 rfl ?_; show WC _ _ _ _ _ _
  refine wc_sr ?_; refine wl_as rfl rfl ?_; refine wl_as rfl rfl ?_; refine wl_ns ?_; refine wc_seq ?_; refine wc_sr ?_; refine wl_mv rfl rfl ?_
  refine wl_call ok_bloom_form (form_any hr hl (by omega) h6) ⟨rfl, trivial⟩ rfl ?_
  rintro _ _ ⟨rfl, rfl⟩
  refine wl_as rfl rfl ?_; refine wl_ns ?_; refine wc_sr ?_; refine wl_mv rfl rfl ?_; refine wl_bin rfl rfl bin_neq rfl ?_; refine wl_ns ?_; apply wc_condFb; exact rfl; exact rfl; refine wc_skip ?_; refine we_seq ?_; refine wc_sr ?_; refine wl_mv rfl rfl ?_; apply wl_val; apply opv_len; exact rfl; exact tyB.sl; exact rfl; apply wl_val; apply opv_bin; exact rfl; exact rfl; exact bin_sub64 (by omega); exact rfl; refine wl_as rfl rfl ?_; refine wl_ns ?_; refine wc_seq ?_; refine wc_sr ?_; refine wl_mv rfl rfl ?_; refine wl_mv rfl rfl ?_
  refine wl_bin rfl rfl ((bin_mul64 (by omega)).to (congrArg (Value.int .i64) (show (8 : Int) * (((q + 1 : Nat) : Int) - 1) = ((8 * q : Nat) : Int) by omega))) rfl ?_
  refine wl_mv rfl rfl ?_; refine wl_mv rfl rfl ?_
  refine wl_val (opv_idxR (kk := q) (u := .int .u8 6) tyB rfl rfl hr0 (by omega) hu) rfl ?_
  refine wl_val (opv_loadR (kk := q) (u := .int .u8 6) tyB rfl hr0 hu) rfl ?_
  apply wl_val; apply opv_convR; exact rfl; exact Tryz.underlying5; exact Tryz.underlying3; exact IntWalk.i64_in _ (by omega); exact rfl
  refine wl_call ok_bloom_places (places_any (m := 8 * q) (k := 6) hk hkn hkl (by omega) (by decide)) ⟨rfl, rfl, rfl, trivial⟩ rfl ?_
  rintro _ _ ⟨P, rfl, o_, hbx⟩
  replace hs := hs.newO hbx o_ (Nat.le_refl _)
  clear hbx o_
  apply wl_val; apply opv_len; exact rfl; exact tyPl.sl; exact rfl; refine wl_mv rfl rfl ?_; refine wl_ns ?_; refine wc_block ?_
  refine wc_loop (fun L wr z => ∃ (j : Nat), L = [(0, .slice A (q + 1) c), (26, .slice P 6 6), (27, .int .i64 ((6 : Nat) : Int)), (28, .int .i64 (j : Int))] ∧ j ≤ 6 ∧ ((plsB key (8 * q) 6).take j).all (getB f) = true ∧ St NoB w wr [.ow 3 P 6 6 (ints (plsB key (8 * q) 6))] ∧ z = 6 - j)
    [(0, .slice A (q + 1) c), (26, .slice P 6 6), (27, .int .i64 ((6 : Nat) : Int)), (28, .int .i64 ((0 : Nat) : Int))] 6 ⟨0, rfl, Nat.zero_le _, rfl, hs, rfl⟩ ⟨rfl, rfl, rfl, rfl, trivial⟩ ?_
  clear hs
  rintro _ w6 z ⟨j, rfl, hj, hall, hs, rfl⟩
  refine wc_sr ?_; refine wl_bin rfl rfl bin_lss rfl ?_; refine wl_ns ?_; refine wc_seq ?_
  refine wc_cond rfl (fun h2 => ?_) (fun h2 => ?_)
  · have hj1 : j < 6 := by omega
    have hpb := pls_at key (8 * q) hj1
    obtain ⟨b, hb⟩ : ∃ b, plB key (8 * q) j = b := ⟨_, rfl⟩
    rw [hb] at hpb
    have hbm : b < 8 * q := by rw [← hb]; exact pl_lt (by omega)
    have hub : (ints (plsB key (8 * q) 6))[j]? = some (.int .i64 (b : Int)) := by rw [ints, List.getElem?_map, hpb]; rfl
    have hg := bvs_getD (f := f) (i := b / 8) (by omega)
    have r2 := hr0.below hs.bel
    refine wc_skip ?_; refine we_seq ?_; refine wc_seq ?_; refine wc_block ?_; refine wc_sr ?_
    refine wl_val (opv_idxR (kk := j) (u := .int .i64 (b : Int)) tyPl rfl rfl (hs.ow 0 rfl).rd rfl hub) rfl ?_
    refine wl_val (opv_loadR (kk := j) (u := .int .i64 (b : Int)) tyPl rfl (hs.ow 0 rfl).rd hub) rfl ?_
    refine wl_as rfl rfl ?_; refine wl_ns ?_; refine wc_sr ?_; refine wl_mv rfl rfl ?_; refine wl_mv rfl rfl ?_
    refine wl_bin rfl rfl (bin_quoN (b := 8) (by decide) (by omega)) rfl ?_
    refine wl_val (opv_idxR (kk := b / 8) tyB rfl rfl r2 rfl hg) rfl ?_
    refine wl_val (opv_loadR (kk := b / 8) tyB rfl r2 hg) rfl ?_
    refine wl_mv rfl rfl ?_
    refine wl_bin rfl rfl (bin_rem (b := 8) (by decide)) rfl ?_
    refine wl_bin rfl rfl (bin_shr (k := .u8) (x := (f.getD (b / 8) 0).toNat) (y := b % 8) (UInt8.toNat_lt _)) rfl ?_
    refine wl_bin rfl rfl ((bin_and (k := .u8) (b := 1) rfl (Nat.lt_of_le_of_lt (Nat.div_le_self _ _) (UInt8.toNat_lt _)) (by decide)).to (congrArg (fun k : Nat => Value.int .u8 (k : Int)) (get_bit f b))) rfl ?_
    cases hgb : getB f b with
    | true =>
      rw [if_pos rfl]
      refine wl_bin rfl rfl bin_eql rfl ?_; refine wl_ns ?_; apply wc_condFb; exact rfl; exact rfl; refine wc_skip ?_; refine we_block_norm ?_; refine we_seq ?_; refine wc_region ?_; apply wl_val; apply opv_bin; exact rfl; exact rfl; exact bin_add64 (by omega); exact rfl; refine wl_mv rfl rfl ?_; refine wl_nil ?_
      refine we_loop _ (6 - (j + 1)) ⟨j + 1, rfl, by omega, ?_, hs, rfl⟩ (by omega) ⟨rfl, rfl, rfl, by rw [show ((j + 1 : Nat) : Int) = (j : Int) + 1 by omega]; rfl, trivial⟩
      rw [List.take_add_one, hpb, List.all_append, hall]
      simp [hgb]
    | false =>
      rw [if_neg (by decide)]
      refine wl_bin rfl rfl bin_eql rfl ?_; refine wl_ns ?_; apply wc_condTb; exact rfl; exact rfl; refine wc_sr ?_; refine wl_as rfl rfl ?_; refine wl_as rfl rfl ?_; refine wl_ns ?_; refine wc_ret ?_; refine we_block_ret ?_; refine we_seq_ret ?_; refine we_loop_ret ?_; refine we_block_ret ?_; refine we_seq_ret ?_
      refine we_ret2 rfl rfl rfl ⟨_, rfl, ?_, hs.bel⟩
      have : mayB f key = false := by
        rw [hmb, List.all_eq_false]
        exact ⟨b, List.mem_of_getElem? hpb, by rw [hgb]; decide⟩
      rw [this]
  · obtain rfl : j = 6 := by omega
    rw [List.take_of_length_le (by rw [pls_len]; exact Nat.le_refl _), ← hmb] at hall
    refine wc_exit ?_; refine we_seq_exit ?_; refine we_loop_exit ?_; refine we_block_exit ?_; refine we_seq ?_; refine wc_sr ?_; refine wl_as rfl rfl ?_; refine wl_as rfl rfl ?_; refine wl_ns ?_; refine wc_ret ?_
    exact we_ret2 rfl rfl rfl ⟨_, rfl, by rw [hall], hs.bel⟩
end
end Go.Proofs.YtdgagffieobiiaaGreatDoor

/-
  Blocks of entries in plain words: how they are written, how they are read, and that what was written is read back. No program in sight.
-/
namespace Go.Proofs.YtdgagffieobiiaaGreatDoor

/-- How many first bytes two lists have in common. -/
def comN : List UInt8 → List UInt8 → Nat
  | x :: xs, y :: ys => if x = y then comN xs ys + 1 else 0
  | _, _ => 0
theorem comN_le : ∀ (a b : List UInt8), comN a b ≤ a.length ∧ comN a b ≤ b.length
  | [], b => by simp [comN]
  | _ :: _, [] => by simp [comN]
  | x :: a, y :: b => by
    have := comN_le a b
    simp only [comN, List.length_cons]
    split <;> omega
theorem comN_take : ∀ (a b : List UInt8), a.take (comN a b) = b.take (comN a b)
  | [], b => by simp [comN]
  | _ :: _, [] => by simp [comN]
  | x :: a, y :: b => by
    rw [comN]
    split
    · rename_i h; subst h
      rw [List.take_succ_cons, List.take_succ_cons, comN_take a b]
    · rfl
/-- An entry's bytes, of whose key so many stand in the one ahead. -/
def entB (x : En) (s : Nat) : List UInt8 := putU s ++ (putU (x.key.length - s) ++ (putU x.seq ++ (x.kind :: (putU x.val.length ++ (x.key.drop s ++ x.val)))))
/-- The key ahead of an entry. -/
def prevK (l : List En) (i : Nat) : List UInt8 := match i with
  | 0 => []
  | j + 1 => (l[j]?.map (·.key)).getD []
def shrN (every : Nat) (l : List En) (i : Nat) : Nat := if i % every = 0 then 0 else comN (prevK l i) ((l[i]?.map (·.key)).getD [])
def bodyB (every : Nat) (l : List En) : Nat → List UInt8
  | 0 => []
  | k + 1 => bodyB every l k ++ (match l[k]? with | some x => entB x (shrN every l k) | none => [])
def resB (every : Nat) (l : List En) : Nat → List UInt8
  | 0 => []
  | k + 1 => resB every l k ++ (if k % every = 0 then four (bodyB every l k).length else [])
def stN (every : Nat) : Nat → Nat
  | 0 => 0
  | k + 1 => stN every k + (if k % every = 0 then 1 else 0)
def blkB (every : Nat) (l : List En) : List UInt8 := bodyB every l l.length ++ (resB every l l.length ++ four (stN every l.length))
/-- What Build answers. -/
def buildB (every : Nat) (l : List En) : List UInt8 × Nat :=
  if checkE l = 2 then ([], 2) else
  if (sealB (blkB every l)).2 = 0 then (if checkE l = 0 ∧ ordE l = true then ((sealB (blkB every l)).1, 0) else ([], 3)) else ([], (sealB (blkB every l)).2)
theorem bodyB_succ {every : Nat} {l : List En} {k : Nat} {x : En} (hx : l[k]? = some x) : bodyB every l (k + 1) = bodyB every l k ++ entB x (shrN every l k) := by rw [bodyB, hx]
theorem shrN_le {every : Nat} {l : List En} {k : Nat} {x : En} (hx : l[k]? = some x) : shrN every l k ≤ x.key.length ∧ shrN every l k ≤ (prevK l k).length := by
  rw [shrN, hx]
  split
  · omega
  · have := comN_le (prevK l k) x.key; simp; omega
theorem stN_le (every : Nat) : ∀ k, stN every k ≤ k
  | 0 => Nat.le_refl _
  | k + 1 => by have := stN_le every k; rw [stN]; split <;> omega
theorem resB_length (every : Nat) (l : List En) : ∀ k, (resB every l k).length = 4 * stN every k
  | 0 => rfl
  | k + 1 => by
    rw [resB, stN, List.length_append, resB_length every l k]
    split
    · rw [four_length]; omega
    · simp
theorem entB_length (x : En) (s : Nat) (hs : s ≤ x.key.length) (hk : x.key.length < 2 ^ 64) (hv : x.val.length < 2 ^ 64) (hq : x.seq < 2 ^ 64) : (entB x s).length ≤ x.key.length + x.val.length + 41 ∧ 5 ≤ (entB x s).length := by
  have h1 := putU_le (n := s) (by omega)
  have h2 := putU_le (n := x.key.length - s) (by omega)
  have h3 := putU_le hq
  have h4 := putU_le hv
  have p1 := putU_pos s
  have p2 := putU_pos (x.key.length - s)
  have p3 := putU_pos x.seq
  have p4 := putU_pos x.val.length
  simp only [entB, List.length_append, List.length_cons, List.length_drop]
  omega
/-! #### Reading -/
/-- One entry at a place behind a key. -/
def rdE (b : List UInt8) (p : Nat) (key : List UInt8) : Option (En × Nat) :=
  match getU b p with
  | (s, p1, 0) => match getU b p1 with
    | (r, p2, 0) => match getU b p2 with
      | (q, p3, 0) => match b[p3.toNat]? with
        | none => none
        | some kd => match getU b (p3 + 1) with
          | (z, p5, 0) => if key.length < s then none else if b.length - p5.toNat < r then none else if b.length - (p5.toNat + r) < z then none else
              some (⟨key.take s ++ (b.drop p5.toNat).take r, q, kd, (b.drop (p5.toNat + r)).take z⟩, p5.toNat + r + z)
          | _ => none
      | _ => none
    | _ => none
  | _ => none
theorem getU_adv {b : List UInt8} {p p1 : Int} {v : Nat} (h : getU b p = (v, p1, 0)) : 0 ≤ p ∧ p < p1 ∧ p1 ≤ b.length := by
  by_cases hp : 0 ≤ p ∧ p ≤ b.length
  · obtain ⟨q, rfl⟩ := Int.eq_ofNat_of_zero_le hp.1
    have key : ∀ (l : List UInt8) (i n v k : Nat), getAux i n l = (v, k, 0) → i < k ∧ k ≤ i + l.length := by
      intro l
      induction l with
      | nil => intro i n v k h; simp [getAux] at h
      | cons x r ih =>
        intro i n v k h
        rw [getAux] at h
        split at h
        · simp at h
        · split at h
          · simp only [Prod.mk.injEq, and_true] at h; simp only [List.length_cons]; omega
          · have := ih _ _ _ _ h; simp only [List.length_cons]; omega
    rw [getU, if_neg (by omega)] at h
    simp only [Int.toNat_natCast] at h
    split at h
    · rename_i n k hg
      simp only [Prod.mk.injEq] at h
      have := key _ _ _ _ _ hg
      simp only [List.length_drop] at this
      omega
    · rename_i e hg _
      simp only [Prod.mk.injEq] at h
      obtain ⟨_, _, h3⟩ := h
      subst h3
      simp_all
  · rw [getU_arg hp] at h; simp at h
theorem rdE_inv {b key : List UInt8} {p p' : Nat} {x : En} (h : rdE b p key = some (x, p')) : p < p' ∧ p' ≤ b.length := by
  unfold rdE at h
  split at h
  case h_2 => cases h
  rename_i s p1 h1
  split at h
  case h_2 => cases h
  rename_i r p2 h2
  split at h
  case h_2 => cases h
  rename_i q p3 h3
  split at h
  case h_1 => cases h
  rename_i kd h4
  split at h
  case h_2 => cases h
  rename_i z p5 h5
  have i1 := getU_adv h1
  have i2 := getU_adv h2
  have i3 := getU_adv h3
  have i5 := getU_adv h5
  split at h
  · cases h
  · split at h
    · cases h
    · split at h
      · cases h
      · simp only [Option.some.injEq, Prod.mk.injEq] at h
        omega
/-- All entries from a place on, each with its place. -/
def rdL (b : List UInt8) : Nat → Nat → List UInt8 → Option (List (En × Nat))
  | 0, p, _ => if p < b.length then none else some []
  | f + 1, p, key => if p < b.length then (match rdE b p key with
      | none => none
      | some (x, p') => (rdL b f p' x.key).map ((x, p) :: ·)) else some []
theorem getU_here {pre rest : List UInt8} {n : Nat} {p : Int} (hn : n < 2 ^ 64) (hp : p = (pre.length : Nat)) : getU (pre ++ (putU n ++ rest)) p = (n, ((pre.length + (putU n).length : Nat) : Int), 0) := by subst hp; exact getU_mid hn
/-- What was written is read. -/
theorem rdE_ent {pre rest key : List UInt8} {x : En} {s : Nat} (hs : s ≤ x.key.length) (hsk : s ≤ key.length) (ht : key.take s = x.key.take s) (hk : x.key.length < 2 ^ 64) (hv : x.val.length < 2 ^ 64) (hq : x.seq < 2 ^ 64) :
    rdE (pre ++ (entB x s ++ rest)) pre.length key = some (x, pre.length + (entB x s).length) := by
  obtain ⟨b, hb⟩ : ∃ q, pre ++ (entB x s ++ rest) = q := ⟨_, rfl⟩
  have e1 : b = pre ++ (putU s ++ (putU (x.key.length - s) ++ (putU x.seq ++ (x.kind :: (putU x.val.length ++ (x.key.drop s ++ (x.val ++ rest))))))) := by rw [← hb]; simp only [entB, List.append_assoc, List.cons_append]
  have e2 : b = (pre ++ putU s) ++ (putU (x.key.length - s) ++ (putU x.seq ++ (x.kind :: (putU x.val.length ++ (x.key.drop s ++ (x.val ++ rest)))))) := by rw [e1]; simp only [List.append_assoc, List.cons_append, List.nil_append]
  have e3 : b = (pre ++ putU s ++ putU (x.key.length - s)) ++ (putU x.seq ++ (x.kind :: (putU x.val.length ++ (x.key.drop s ++ (x.val ++ rest))))) := by rw [e1]; simp only [List.append_assoc, List.cons_append, List.nil_append]
  have e4 : b = (pre ++ putU s ++ putU (x.key.length - s) ++ putU x.seq) ++ (x.kind :: (putU x.val.length ++ (x.key.drop s ++ (x.val ++ rest)))) := by rw [e1]; simp only [List.append_assoc, List.cons_append, List.nil_append]
  have e5 : b = (pre ++ putU s ++ putU (x.key.length - s) ++ putU x.seq ++ [x.kind]) ++ (putU x.val.length ++ (x.key.drop s ++ (x.val ++ rest))) := by rw [e1]; simp only [List.append_assoc, List.cons_append, List.nil_append]
  have e6 : b = (pre ++ putU s ++ putU (x.key.length - s) ++ putU x.seq ++ [x.kind] ++ putU x.val.length) ++ (x.key.drop s ++ (x.val ++ rest)) := by rw [e1]; simp only [List.append_assoc, List.cons_append, List.nil_append]
  have e7 : b = (pre ++ putU s ++ putU (x.key.length - s) ++ putU x.seq ++ [x.kind] ++ putU x.val.length ++ x.key.drop s) ++ (x.val ++ rest) := by rw [e1]; simp only [List.append_assoc, List.cons_append, List.nil_append]
  have l2 : (pre ++ putU s).length = pre.length + (putU s).length := by simp
  have l3 : (pre ++ putU s ++ putU (x.key.length - s)).length = pre.length + (putU s).length + (putU (x.key.length - s)).length := by simp; omega
  have l4 : (pre ++ putU s ++ putU (x.key.length - s) ++ putU x.seq).length = pre.length + (putU s).length + (putU (x.key.length - s)).length + (putU x.seq).length := by simp; omega
  have l5 : (pre ++ putU s ++ putU (x.key.length - s) ++ putU x.seq ++ [x.kind]).length = pre.length + (putU s).length + (putU (x.key.length - s)).length + (putU x.seq).length + 1 := by simp; omega
  have l6 : (pre ++ putU s ++ putU (x.key.length - s) ++ putU x.seq ++ [x.kind] ++ putU x.val.length).length = pre.length + (putU s).length + (putU (x.key.length - s)).length + (putU x.seq).length + 1 + (putU x.val.length).length := by simp; omega
  have l7 : (pre ++ putU s ++ putU (x.key.length - s) ++ putU x.seq ++ [x.kind] ++ putU x.val.length ++ x.key.drop s).length = pre.length + (putU s).length + (putU (x.key.length - s)).length + (putU x.seq).length + 1 + (putU x.val.length).length + (x.key.length - s) := by simp; omega
  have le : (entB x s).length = (putU s).length + (putU (x.key.length - s)).length + (putU x.seq).length + 1 + (putU x.val.length).length + (x.key.length - s) + x.val.length := by simp [entB]; omega
  have lb : b.length = pre.length + (entB x s).length + rest.length := by rw [← hb]; simp; omega
  have g1 : getU b (pre.length : Nat) = (s, ((pre.length + (putU s).length : Nat) : Int), 0) := by rw [e1]; exact getU_here (by omega) rfl
  have g2 : getU b ((pre.length + (putU s).length : Nat) : Int) = (x.key.length - s, ((pre.length + (putU s).length + (putU (x.key.length - s)).length : Nat) : Int), 0) := by
    rw [e2, getU_here (by omega) (by rw [l2]), l2]
  have g3 : getU b ((pre.length + (putU s).length + (putU (x.key.length - s)).length : Nat) : Int) = (x.seq, ((pre.length + (putU s).length + (putU (x.key.length - s)).length + (putU x.seq).length : Nat) : Int), 0) := by
    rw [e3, getU_here hq (by rw [l3]), l3]
  have g4 : b[pre.length + (putU s).length + (putU (x.key.length - s)).length + (putU x.seq).length]? = some x.kind := by
    rw [e4, ← l4, List.getElem?_append_right (Nat.le_refl _), Nat.sub_self]; rfl
  have g5 : getU b (((pre.length + (putU s).length + (putU (x.key.length - s)).length + (putU x.seq).length : Nat) : Int) + 1) = (x.val.length, ((pre.length + (putU s).length + (putU (x.key.length - s)).length + (putU x.seq).length + 1 + (putU x.val.length).length : Nat) : Int), 0) := by
    rw [e5, getU_here hv (by rw [l5]; omega), l5]
  have g6 : (b.drop (pre.length + (putU s).length + (putU (x.key.length - s)).length + (putU x.seq).length + 1 + (putU x.val.length).length)).take (x.key.length - s) = x.key.drop s := by
    rw [e6, ← l6, List.drop_left, List.take_left' (by simp)]
  have g7 : (b.drop (pre.length + (putU s).length + (putU (x.key.length - s)).length + (putU x.seq).length + 1 + (putU x.val.length).length + (x.key.length - s))).take x.val.length = x.val := by
    rw [e7, ← l7, List.drop_left, List.take_left' rfl]
  rw [hb]
  unfold rdE
  rw [g1]
  simp only
  rw [g2]
  simp only
  rw [g3]
  simp only [Int.toNat_natCast]
  rw [g4]
  simp only
  rw [g5]
  simp only [Int.toNat_natCast]
  rw [if_neg (by omega), if_neg (by omega), if_neg (by omega), g6, g7, ht, List.take_append_drop]
  simp only [Option.some.injEq, Prod.mk.injEq, true_and]
  omega
theorem drop_getB {α : Type} {l : List α} {k : Nat} {b : α} (h : l[k]? = some b) : l.drop k = b :: l.drop (k + 1) := by
  obtain ⟨hk, rfl⟩ := List.getElem?_eq_some_iff.1 h
  exact List.drop_eq_getElem_cons hk
theorem bodyB_split (every : Nat) (l : List En) : ∀ d k, ∃ r, bodyB every l (k + d) = bodyB every l k ++ r
  | 0, k => ⟨[], by simp⟩
  | d + 1, k => by
    obtain ⟨r, hr⟩ := bodyB_split every l d k
    exact ⟨r ++ (match l[k + d]? with | some x => entB x (shrN every l (k + d)) | none => []), by rw [← Nat.add_assoc, bodyB, hr, List.append_assoc]⟩
/-- The sizes of entries are those of values of the type. -/
def Siz (l : List En) : Prop := ∀ x ∈ l, x.key.length < 2 ^ 64 ∧ x.val.length < 2 ^ 64 ∧ x.seq < 2 ^ 64
theorem bodyB_lt {every : Nat} {l : List En} (hz : Siz l) : ∀ d k, k + d < l.length → (bodyB every l k).length < (bodyB every l (k + (d + 1))).length
  | 0, k, h => by
    have hx : l[k]? = some (l[k]'(by omega)) := List.getElem?_eq_getElem (by omega)
    obtain ⟨z1, z2, z3⟩ := hz _ (List.mem_of_getElem? hx)
    have := (entB_length _ _ (shrN_le (every := every) hx).1 z1 z2 z3).2
    rw [show k + (0 + 1) = k + 1 from rfl, bodyB_succ hx, List.length_append]; omega
  | d + 1, k, h => by
    have h1 := bodyB_lt (every := every) hz d k (by omega)
    have h2 := bodyB_lt (every := every) hz 0 (k + (d + 1)) (by omega)
    exact Nat.lt_trans h1 h2
theorem bodyB_inj {every : Nat} {l : List En} (hz : Siz l) {i j : Nat} (hi : i ≤ l.length) (hj : j ≤ l.length) (h : (bodyB every l i).length = (bodyB every l j).length) : i = j := by
  rcases Nat.lt_trichotomy i j with h1 | h1 | h1
  · obtain ⟨d, rfl⟩ := Nat.exists_eq_add_of_lt h1
    have := bodyB_lt (every := every) hz d i (by omega)
    rw [← Nat.add_assoc] at this; omega
  · exact h1
  · obtain ⟨d, rfl⟩ := Nat.exists_eq_add_of_lt h1
    have := bodyB_lt (every := every) hz d j (by omega)
    rw [← Nat.add_assoc] at this; omega
theorem prevK_succ {l : List En} {k : Nat} {x : En} (hx : l[k]? = some x) : prevK l (k + 1) = x.key := by rw [prevK, hx]; rfl
/-- All that was written is read. -/
theorem rdL_body {every : Nat} {l : List En} (hz : Siz l) (rest : List UInt8) (hr : rest = []) : ∀ (f k : Nat), k ≤ l.length → (bodyB every l l.length).length ≤ (bodyB every l k).length + f →
    ∃ r, rdL (bodyB every l l.length ++ rest) f (bodyB every l k).length (prevK l k) = some r ∧ r.map (·.1) = l.drop k ∧ ∀ (j : Nat) (x : En × Nat), r[j]? = some x → x.2 = (bodyB every l (k + j)).length := by
  subst hr
  rw [List.append_nil]
  intro f
  induction f with
  | zero =>
    intro k hk hf
    rcases Nat.lt_or_ge k l.length with h | h
    · obtain ⟨d, hd⟩ := Nat.exists_eq_add_of_lt h
      have := bodyB_lt (every := every) hz d k (by omega)
      rw [show k + (d + 1) = l.length by omega] at this; omega
    · obtain rfl : k = l.length := by omega
      exact ⟨[], by rw [rdL, if_neg (Nat.lt_irrefl _)], by simp, by simp⟩
  | succ f ih =>
    intro k hk hf
    rcases Nat.lt_or_ge k l.length with h | h
    · have hx : l[k]? = some (l[k]'h) := List.getElem?_eq_getElem h
      obtain ⟨x, hxd⟩ : ∃ x, l[k]'h = x := ⟨_, rfl⟩
      rw [hxd] at hx
      obtain ⟨z1, z2, z3⟩ := hz _ (List.mem_of_getElem? hx)
      obtain ⟨s1, s2⟩ := shrN_le (every := every) hx
      have hlen := (entB_length x _ s1 z1 z2 z3).2
      obtain ⟨d, hd⟩ := Nat.exists_eq_add_of_lt h
      have hlt := bodyB_lt (every := every) hz d k (by omega)
      rw [show k + (d + 1) = l.length by omega] at hlt
      obtain ⟨t, ht⟩ := bodyB_split every l d (k + 1)
      rw [show k + 1 + d = l.length by omega, bodyB_succ hx, List.append_assoc] at ht
      have htake : (prevK l k).take (shrN every l k) = x.key.take (shrN every l k) := by
        rw [shrN, hx]
        split
        · rfl
        · exact comN_take _ _
      have hE := rdE_ent (pre := bodyB every l k) (rest := t) s1 s2 htake z1 z2 z3
      rw [← ht] at hE
      obtain ⟨r, h1, h2, h3⟩ := ih (k + 1) (by omega) (by rw [bodyB_succ hx, List.length_append]; omega)
      rw [bodyB_succ hx, List.length_append, prevK_succ hx] at h1
      refine ⟨(x, (bodyB every l k).length) :: r, ?_, ?_, ?_⟩
      · rw [rdL, if_pos hlt, hE]
        simp only
        rw [h1]; rfl
      · rw [List.map_cons, h2]
        exact (drop_getB hx).symm
      · intro j y hj
        cases j with
        | zero => simp at hj; subst hj; rfl
        | succ j =>
          have := h3 j y (by simpa using hj)
          rw [this, show k + 1 + j = k + (j + 1) by omega]
    · obtain rfl : k = l.length := by omega
      exact ⟨[], by rw [rdL, if_neg (Nat.lt_irrefl _)], by simp, by simp⟩
/-- The places of the restarts. -/
def startsB (b : List UInt8) (e n : Nat) : List Nat := (List.range n).map fun i => numB ((b.drop (e + 4 * i)).take 4)
/-- How many entries from restart to restart: what has been found of it behind i entries. -/
def evF (ss : List Nat) (ps : List Nat) : Nat → Nat
  | 0 => 0
  | i + 1 => if 1 < ss.length ∧ ps[i]? = ss[1]? ∧ evF ss ps i = 0 then i else evF ss ps i
def evL (ss : List Nat) (ps : List Nat) : Nat := if evF ss ps ps.length = 0 then ps.length + 1 else evF ss ps ps.length
/-- What Decode answers. -/
def decB (b : List UInt8) : List En × Nat :=
  match openB b 0 with
  | (body, next, 0) => if next < b.length ∨ body.length < 4 then ([], 3) else
      if (body.length - 4) / 4 < numB (body.drop (body.length - 4)) then ([], 3) else
      match rdL (body.take (body.length - 4 - 4 * numB (body.drop (body.length - 4)))) (body.length - 4 - 4 * numB (body.drop (body.length - 4))) 0 [] with
      | none => ([], 3)
      | some r => if buildB (evL (startsB (body.take (body.length - 4)) (body.length - 4 - 4 * numB (body.drop (body.length - 4))) (numB (body.drop (body.length - 4)))) (r.map (·.2))) (r.map (·.1)) = (b, 0) then (r.map (·.1), 0) else ([], 3)
  | (_, _, e) => ([], e)
end Go.Proofs.YtdgagffieobiiaaGreatDoor

/-
  Blocks in plain words: what Build has written is decoded as the same entries. No program in sight.
-/
namespace Go.Proofs.YtdgagffieobiiaaGreatDoor

theorem stN_bound {every : Nat} (he : 0 < every) : ∀ k, k ≤ stN every k * every ∧ stN every k * every < k + every
  | 0 => by simp [stN, he]
  | k + 1 => by
    obtain ⟨h1, h2⟩ := stN_bound he k
    rw [stN]
    split
    · rename_i h
      have h3 : stN every k * every = k := by
        obtain ⟨q, hq⟩ := Nat.dvd_of_mod_eq_zero h
        rw [Nat.mul_comm] at hq
        subst hq
        have h4 : stN every (q * every) = q := by
          rcases Nat.lt_trichotomy (stN every (q * every)) q with h5 | h5 | h5
          · have := Nat.mul_le_mul_right every (show stN every (q * every) + 1 ≤ q from h5)
            rw [Nat.add_mul] at this; omega
          · exact h5
          · have := Nat.mul_le_mul_right every (show q + 1 ≤ stN every (q * every) from h5)
            rw [Nat.add_mul] at this; omega
        rw [h4]
      rw [Nat.add_mul]; omega
    · rename_i h
      simp only [Nat.add_zero]
      have h3 : ¬ stN every k * every = k := fun h3 => h (by rw [← h3]; exact Nat.mul_mod_left _ _)
      omega
theorem stN_mul {every k : Nat} (he : 0 < every) (h : k % every = 0) : stN every k * every = k := by
  obtain ⟨q, rfl⟩ := Nat.dvd_of_mod_eq_zero h
  rw [Nat.mul_comm every q]
  obtain ⟨h1, h2⟩ := stN_bound he (q * every)
  rcases Nat.lt_trichotomy (stN every (q * every)) q with h5 | h5 | h5
  · have := Nat.mul_le_mul_right every (show stN every (q * every) + 1 ≤ q from h5)
    rw [Nat.add_mul] at this; omega
  · rw [h5]
  · have := Nat.mul_le_mul_right every (show q + 1 ≤ stN every (q * every) from h5)
    rw [Nat.add_mul] at this; omega
theorem resB_at {every : Nat} (he : 0 < every) (l : List En) : ∀ (k j : Nat), j < stN every k → ((resB every l k).drop (4 * j)).take 4 = four (bodyB every l (j * every)).length
  | 0, j, h => by simp [stN] at h
  | k + 1, j, h => by
    rw [stN] at h
    rw [resB]
    have hl := resB_length every l k
    by_cases hk : k % every = 0
    · rw [if_pos hk] at h ⊢
      rcases Nat.lt_or_ge j (stN every k) with h1 | h1
      · rw [List.drop_append_of_le_length (by omega), List.take_append_of_le_length (by rw [List.length_drop]; omega)]
        exact resB_at he l k j h1
      · obtain rfl : j = stN every k := by omega
        rw [← hl, List.drop_left, List.take_of_length_le (by rw [four_length]; exact Nat.le_refl _), stN_mul he hk]
    · rw [if_neg hk] at h ⊢
      rw [List.append_nil]
      exact resB_at he l k j h
theorem startsB_len (b : List UInt8) (e n : Nat) : (startsB b e n).length = n := by simp [startsB]
theorem bodyB_le (every : Nat) (l : List En) {i j : Nat} (h : i ≤ j) : (bodyB every l i).length ≤ (bodyB every l j).length := by
  obtain ⟨d, rfl⟩ := Nat.exists_eq_add_of_le h
  obtain ⟨r, hr⟩ := bodyB_split every l d i
  rw [hr, List.length_append]; omega
theorem starts_at {every : Nat} (he : 0 < every) (l : List En) {j : Nat} (hj : j < stN every l.length) (hb : (bodyB every l l.length).length < 4294967296) :
    (startsB (bodyB every l l.length ++ resB every l l.length) (bodyB every l l.length).length (stN every l.length))[j]? = some (bodyB every l (j * every)).length := by
  rw [startsB, List.getElem?_map, List.getElem?_range hj]
  simp only [Option.map_some]
  rw [← List.drop_drop, List.drop_left, resB_at he l l.length j hj]
  have h1 : j * every ≤ l.length := by
    have h2 := (stN_bound he l.length).2
    have := Nat.mul_le_mul_right every (show j + 1 ≤ stN every l.length from hj)
    rw [Nat.add_mul] at this; omega
  rw [numB_four (Nat.lt_of_le_of_lt (bodyB_le every l h1) hb)]
theorem evF_zero {ss ps : List Nat} {n : Nat} (h : ∀ i, i < n → 0 < i → ¬ (1 < ss.length ∧ ps[i]? = ss[1]?)) : evF ss ps n = 0 := by
  induction n with
  | zero => rfl
  | succ n ih =>
    have h1 := ih fun i hi => h i (by omega)
    rw [evF]
    split
    · rename_i hc
      rcases Nat.eq_zero_or_pos n with h0 | h0
      · exact h0
      · exact absurd ⟨hc.1, hc.2.1⟩ (h n (by omega) h0)
    · exact h1
theorem evF_pos {ss ps : List Nat} {e : Nat} (he : 0 < e) (h1 : 1 < ss.length) (h2 : ps[e]? = ss[1]?) (h3 : ∀ i, i < e → 0 < i → ¬ ps[i]? = ss[1]?) : ∀ n, e < n → evF ss ps n = e
  | 0, h => by omega
  | n + 1, h => by
    rcases Nat.lt_or_ge e n with h4 | h4
    · have h5 := evF_pos he h1 h2 h3 n h4
      rw [evF, if_neg (by rintro ⟨_, _, h6⟩; omega), h5]
    · obtain rfl : e = n := by omega
      have h5 : evF ss ps e = 0 := evF_zero fun i hi h0 => fun h6 => h3 i hi h0 h6.2
      rw [evF, if_pos ⟨h1, h2, h5⟩]
/-- With one restart at most it is all one how many entries there are from restart to restart. -/
theorem blk_one {every every' : Nat} {l : List En} (h1 : l.length ≤ every) (h2 : l.length ≤ every') : blkB every l = blkB every' l := by
  have hs : ∀ k, k < l.length → (k % every = 0 ↔ k % every' = 0) := fun k hk => by
    rw [Nat.mod_eq_of_lt (by omega), Nat.mod_eq_of_lt (by omega)]
  have hb : ∀ k, k ≤ l.length → bodyB every l k = bodyB every' l k := by
    intro k
    induction k with
    | zero => intro _; rfl
    | succ k ih =>
      intro hk
      have e : shrN every l k = shrN every' l k := by
        unfold shrN
        by_cases h : k % every = 0
        · rw [if_pos h, if_pos ((hs k (by omega)).1 h)]
        · rw [if_neg h, if_neg fun h' => h ((hs k (by omega)).2 h')]
      rw [bodyB, bodyB, ih (by omega), e]
  have hr : ∀ k, k ≤ l.length → resB every l k = resB every' l k ∧ stN every k = stN every' k := by
    intro k
    induction k with
    | zero => intro _; exact ⟨rfl, rfl⟩
    | succ k ih =>
      intro hk
      obtain ⟨i1, i2⟩ := ih (by omega)
      rw [resB, resB, stN, stN, i1, i2, hb k (by omega)]
      by_cases h : k % every = 0
      · rw [if_pos h, if_pos h, if_pos ((hs k (by omega)).1 h), if_pos ((hs k (by omega)).1 h)]; exact ⟨rfl, rfl⟩
      · rw [if_neg h, if_neg h, if_neg (fun h' => h ((hs k (by omega)).2 h')), if_neg (fun h' => h ((hs k (by omega)).2 h'))]; exact ⟨rfl, rfl⟩
  obtain ⟨h3, h4⟩ := hr l.length (Nat.le_refl _)
  rw [blkB, blkB, hb l.length (Nat.le_refl _), h3, h4]
theorem blkB_length (every : Nat) (l : List En) : (blkB every l).length = (bodyB every l l.length).length + 4 * stN every l.length + 4 := by
  rw [blkB, List.length_append, List.length_append, resB_length, four_length]; omega
/-- What Build has written is decoded. -/
theorem dec_build {every : Nat} {l : List En} (he : 0 < every) (hz : Siz l) (hc : checkE l = 0) (ho : ordE l = true) (hb : (blkB every l).length ≤ 1048576) : buildB every l = (crcRec (blkB every l), 0) ∧ decB (crcRec (blkB every l)) = (l, 0) := by
  have hbuild : ∀ {e : Nat}, blkB e l = blkB every l → buildB e l = (crcRec (blkB every l), 0) := fun {e} h => by
    have hs : sealB (blkB every l) = (crcRec (blkB every l), 0) := by rw [sealB, if_neg (by omega)]
    rw [buildB, hc, if_neg (by decide), h, hs, if_pos rfl, if_pos ⟨rfl, ho⟩]
  refine ⟨hbuild rfl, ?_⟩
  have hlen := blkB_length every l
  have hst : stN every l.length < 4294967296 := by omega
  have hbody : (bodyB every l l.length).length < 4294967296 := by omega
  have d1 : (blkB every l).length - 4 = (bodyB every l l.length ++ resB every l l.length).length := by rw [List.length_append, resB_length]; omega
  have e1 : blkB every l = (bodyB every l l.length ++ resB every l l.length) ++ four (stN every l.length) := by rw [blkB, List.append_assoc]
  have h1 : (blkB every l).drop ((blkB every l).length - 4) = four (stN every l.length) := by rw [d1, e1, List.drop_left]
  have h2 : (blkB every l).take ((blkB every l).length - 4) = bodyB every l l.length ++ resB every l l.length := by rw [d1, e1, List.take_left]
  have h3 : (blkB every l).length - 4 - 4 * stN every l.length = (bodyB every l l.length).length := by omega
  have h4 : (blkB every l).take (bodyB every l l.length).length = bodyB every l l.length := by rw [blkB, List.take_left]
  obtain ⟨r, r1, r2, r3⟩ := rdL_body (every := every) hz [] rfl (bodyB every l l.length).length 0 (Nat.zero_le _) (Nat.le_add_left _ _)
  rw [List.append_nil] at r1
  have r1' : rdL (bodyB every l l.length) (bodyB every l l.length).length 0 [] = some r := r1
  rw [List.drop_zero] at r2
  have hrl : r.length = l.length := by rw [← r2, List.length_map]
  unfold decB
  rw [openB_rec hb]
  simp only
  rw [if_neg (by rw [crcRec_length]; omega), h1, numB_four hst, if_neg (by omega), h3, h4, r1']
  simp only
  rw [h2, r2]
  have hps : ∀ i, i < l.length → (r.map (·.2))[i]? = some (bodyB every l i).length := fun i hi => by
    have hx : r[i]? = some (r[i]'(by omega)) := List.getElem?_eq_getElem (by omega)
    rw [List.getElem?_map, hx]
    simp only [Option.map_some]
    rw [r3 i _ hx, Nat.zero_add]
  have hss := startsB_len (bodyB every l l.length ++ resB every l l.length) (bodyB every l l.length).length (stN every l.length)
  have hev : blkB (evL (startsB (bodyB every l l.length ++ resB every l l.length) (bodyB every l l.length).length (stN every l.length)) (r.map (·.2))) l = blkB every l := by
    obtain ⟨b1, b2⟩ := stN_bound he l.length
    rcases Nat.lt_or_ge 1 (stN every l.length) with h5 | h5
    · have h6 : every < l.length := by
        have := Nat.mul_le_mul_right every (show 2 ≤ stN every l.length from h5)
        omega
      have hs1 := starts_at he l h5 hbody
      rw [Nat.one_mul] at hs1
      have h7 := evF_pos (ss := startsB (bodyB every l l.length ++ resB every l l.length) (bodyB every l l.length).length (stN every l.length)) (ps := r.map (·.2)) he (by rw [hss]; exact h5) (by rw [hs1, hps every h6]) (fun i hi h0 h8 => by
        rw [hs1, hps i (by omega)] at h8
        have := bodyB_inj hz (by omega) (by omega) (Option.some.inj h8)
        omega) l.length h6
      rw [evL, List.length_map, hrl, h7, if_neg (by omega)]
    · have h6 : l.length ≤ every := by
        have := Nat.mul_le_mul_right every h5
        omega
      have h7 : evF (startsB (bodyB every l l.length ++ resB every l l.length) (bodyB every l l.length).length (stN every l.length)) (r.map (·.2)) l.length = 0 := evF_zero fun i _ _ h8 => by rw [hss] at h8; omega
      rw [evL, List.length_map, hrl, h7, if_pos rfl]
      exact blk_one (by omega) h6
  rw [if_pos (hbuild hev)]
/-- How long a block is at most. -/
theorem blk_size {every : Nat} {l : List En} (hz : Siz l) : (blkB every l).length ≤ (l.map fun x => x.key.length + x.val.length).sum + 45 * l.length + 4 := by
  have key : ∀ k, k ≤ l.length → (bodyB every l k).length ≤ ((l.take k).map fun x => x.key.length + x.val.length).sum + 41 * k := by
    intro k
    induction k with
    | zero => intro _; simp [bodyB]
    | succ k ih =>
      intro hk
      have hx : l[k]? = some (l[k]'(by omega)) := List.getElem?_eq_getElem (by omega)
      obtain ⟨z1, z2, z3⟩ := hz _ (List.mem_of_getElem? hx)
      have h1 := (entB_length _ _ (shrN_le (every := every) hx).1 z1 z2 z3).1
      have h2 := ih (by omega)
      rw [bodyB_succ hx, List.length_append, take_getR hx, List.map_append, List.sum_append]
      simp only [List.map_cons, List.map_nil, List.sum_cons, List.sum_nil]
      omega
  have h1 := key l.length (Nat.le_refl _)
  rw [List.take_length] at h1
  have h2 := stN_le every l.length
  rw [blkB_length]
  omega
end Go.Proofs.YtdgagffieobiiaaGreatDoor
