/-
  The texts of this proof, joined: TK, ArgR.
-/
import Derived.Test.YtdgagffieobiiaaGreatDoorTabM7
import Derived.Test.YtdgagffieobiiaaGreatDoorTabM1
import Derived.Test.YtdgagffieobiiaaGreatDoorTabM2

/-
  The walk over CaissonTables.
-/
namespace Go.Proofs.YtdgagffieobiiaaGreatDoor
open Go.RowKit
theorem fa_Tb0 : FieldAt Tryz.prog 49 0 0 := fieldAt_mk Tryz.underlying49 rfl rfl (by kernel_rfl)
theorem fa_Mt2 : FieldAt Tryz.prog 38 2 2 := fieldAt_mk Tryz.underlying38 rfl rfl (by kernel_rfl)
theorem EK.one1 {vs : List Value} {rows : List (List UInt8)} {w : World} (h : EK vs rows w) : ∀ u ∈ vs, u.oneCell' = true := fun u hu => by
  obtain ⟨i, hi, rfl⟩ := List.mem_iff_getElem.1 hu
  have hlt : i < rows.length := by rw [← h.1]; exact hi
  obtain ⟨A', c', k1, _⟩ := h.2 i rows[i] (List.getElem?_eq_getElem hlt)
  rw [List.getElem?_eq_getElem hi, Option.some.injEq] at k1
  have e : vs[i] = _ := k1
  rw [e]
  rfl
theorem row_old2 {M S : BS} {w : World} {P : Option Addr} {l : List En} (hl : RdR 4 w S P (l.map enEl)) (hS : ∀ b, b < w.heap.size → S b → ¬ M b) {i : Nat} {x : En} (hx : l[i]? = some x) :
    ∃ b o X cx X2 cx2, P = some ⟨b, o, none⟩ ∧ x.key.length ≤ cx ∧ ∀ wr, Mod M w wr → Wi wr b (o + i * 4) (enV x X cx X2 cx2) ∧ RdB wr X x.key ∧ RdB wr X2 x.val := by
  obtain ⟨b, o, cs, hP, hb, _, hp, i0⟩ := RdR.at (k := 4) (by decide) hl (E := enEl x) (i := i) (by rw [List.getElem?_map, hx]; rfl)
  obtain ⟨X, cx, X2, cx2, rfl, _, hcx, _⟩ := enEl.rd hp
  refine ⟨b, o, X, cx, X2, cx2, hP, hcx, fun wr hm => ⟨i0.mod hm (hS b i0.1 hb), ?_⟩⟩
  exact enEl_rdW ((enEl x).move (S' := S) hp hm.size fun b hb h => ⟨h, hm.block b hb (hS b hb h)⟩)
/-- A row that nobody writes: old, or of the call's own. -/
def kyC (M : BS) (w2 : World) (K : Option Addr) (n : Nat) (vs : List Value) : Ck := ⟨fun w S => (∀ wr, Mod M w2 wr → Rd wr K n vs) ∨ (kp fun w => Rd w K n vs).P w S, fun h hz hm => h.imp id fun k => (kp _).move k hz hm⟩
section
variable {M : BS} {w2 w : World} {H : List Cd} {K : Option Addr} {n c : Nat} {vs : List Value}
theorem St.kyRd (hs : St M w2 w H) (i : Nat) (hi : nthC H i = some (.ck (kyC M w2 K n vs))) : Rd w K n vs := by
  obtain ⟨T, hc, _⟩ := hs.get i hi
  exact hc.elim (fun h => h _ hs.1) fun k => k.1
theorem St.kyOld (hs : St M w2 w H) (h : ∀ wr, Mod M w2 wr → Rd wr K n vs) : St M w2 w (.ck (kyC M w2 K n vs) :: H) := hs.new (T := NoB) (c := .ck (kyC M w2 K n vs)) (Below.refl _ _) (.inl h) fun b _ h => h.elim
theorem St.kyNew (hs : St M w2 w (.ow 28 K n c vs :: H)) : St M w2 w (.ck (kyC M w2 K n vs) :: H) :=
  hs.pack (H1 := [_]) (.ck (kyC M w2 K n vs)) fun w S hS => .inr ⟨(sat_ow hS 0 rfl).rd, fun w' hz hm => (sat_ow (hS.move hz fun b hb k => ⟨k, hm b hb k⟩) 0 rfl).rd⟩
end
def TaA (w : World) (t nk ck : Nat) (K : Option Addr) (arm : Int) : FL → World → Prop := fun L w' =>
  ∃ (l : List En) (P : Option Addr) (cp : Nat) (M S0 : BS), L = [(0, .slice P l.length cp), (1, .int .i64 arm), (2, .slice K nk ck), (7, pN t)] ∧ TbOk l ∧ l.length ≤ cp ∧ St M w' w' [.ck (tblC t [])] ∧ Below w.heap.size w w' ∧ RdR 4 w' S0 P (l.map enEl) ∧ (∀ b, b < w'.heap.size → S0 b → ¬ M b) ∧ (∀ b, M b → w.heap.size ≤ b)
set_option maxRecDepth 8000 in
set_option maxHeartbeats 4000000 in
theorem caissonTables_any {A K : Option Addr} {n c nk ck : Nat} {arm : Int} {l0 : List En} {keys : List (List UInt8)} {w : World} (hr : RdR 4 w All A (l0.map enEl)) (hn : l0.length = n) (hc : n ≤ c) (hsq : ∀ x ∈ l0, x.seq < 2 ^ 64) (hl : sumB enB l0 ≤ 1048576) (ha : -9223372036854775808 ≤ arm ∧ arm ≤ 9223372036854775807) (R1 : RdBB w K keys) (hnk : keys.length = nk) (_hck : keys.length ≤ ck) (hlk : keys.flatten.length + keys.length ≤ 1048576) (hg : GT w) :
    CallsV Tryz.prog 3 #[.slice A n c, .int .i64 arm, .slice K nk ck] w (RetTr w) := by
  obtain ⟨hl1, hok1⟩ := ent_small hl
  subst hnk
  have hmax : maxLen = 9223372036854775807 := rfl
  have hs := St.init w
  refine calls_in (N := _) Tryz.func3 rfl Tryz.ntmps3 rfl ?_; show WC _ _ _ _ _ _
  refine wc_sr ?_; refine wl_as rfl rfl ?_; refine wl_ns ?_; refine wc_sr ?_
  refine wl_call ok_mem_New new_any trivial rfl ?_
  rintro _ w1 ⟨t, rfl, hsx⟩
  replace hs := hs.call hsx
  clear hsx
  dsimp only [List.cons_append, List.nil_append] at hs
  unfold pN
  refine wl_as rfl rfl ?_; refine wl_ns ?_; refine wc_seq ?_; refine wc_sr ?_; refine wl_mv rfl rfl ?_; apply wl_val; apply opv_bin; exact rfl; exact rfl; exact bin_eqlPtrNil Tryz.underlying24; exact rfl; refine wl_ns ?_; apply wc_condFb; exact rfl; exact rfl; refine wc_skip ?_; refine we_seq ?_; refine wc_sr ?_; refine wl_mv rfl rfl ?_
  refine wl_call ok_caissontop_few (few4_any (m := 40) hn hc) ⟨rfl, rfl, trivial⟩ rfl ?_; rintro _ _ ⟨rfl, rfl⟩
  have hr2 := take_rdr (m := 40) hr (by omega)
  have hokA : ∀ x ∈ l0.take 40, (x.key.length ≤ 1048576 ∧ x.val.length ≤ 1048576) ∧ x.seq < 2 ^ 64 := fun x hx => ⟨hok1 x (few_mem hx), hsq x (few_mem hx)⟩
  have hlen : (l0.take 40).length ≤ 40 := by rw [List.length_take]; omega
  obtain ⟨k, hk'⟩ : ∃ q, l0.take 40 = q := ⟨_, rfl⟩
  rw [hk'] at hr2 hokA hlen
  rw [hk']
  clear hr hok1 hsq hk'
  refine wl_call ok_caissonref07_Sorted (sorted_any (S := Old w) (RdR.move (by decide) hr2 hs.size fun b hb _ => ⟨hb, hs.bel.block b hb⟩) rfl (fun x hx => by have := (hokA x hx).1; simp only [maxLen]; omega) (by omega)) ⟨rfl, trivial⟩ rfl ?_
  rintro _ w2 ⟨P, cp, rfl, hcp, hl2, hbx2⟩
  obtain ⟨hsl, hsm⟩ := sorted_mem7 hokA
  obtain ⟨hord, hchk⟩ := sorted_ok k
  obtain ⟨l, hld⟩ : ∃ q, sortedE k = q := ⟨_, rfl⟩
  rw [hld] at hl2 hsl hsm hord hchk hcp
  rw [hld]
  have hsz1 := hs.size
  have hbw2 := hs.bel.trans (hbx2.mono hs.size)
  have hst : Sat w1 [.ck (tblC t [])] (fun b => w.heap.size ≤ b ∧ b < w1.heap.size) := hs.2.mono fun b hb h => ⟨h.elim (fun k => k.elim) id, hb⟩
  replace hs : St (fun b => w.heap.size ≤ b ∧ b < w1.heap.size) w2 w2 [.ck (tblC t [])] := St.start (hst.move hbx2.size fun b hb h => ⟨h, hbx2.block b hb⟩)
  refine wl_as rfl rfl ?_; refine wl_ns ?_; refine wc_seq ?_; refine wc_sr ?_; refine wl_mv rfl rfl ?_; apply wl_val; apply opv_len; exact rfl; exact tkE.sl; exact rfl; refine wl_bin rfl rfl bin_eql rfl ?_; refine wl_ns ?_
  refine wc_cutE (TaA w t keys.length ck K arm) ?_ ?_
  · refine wc_cond rfl (fun h1 => ?_) (fun h1 => ?_)
    · refine wc_region ?_
      refine ws_bs (vs := bvs [107]) hs tyB ⟨rfl, rfl, rfl, trivial⟩ rfl (by decide) rfl ?_
      clear hs; intro U w3 hs
      skip
      refine ws_convD (xs := [107]) hs 0 rfl rfl tyB Tryz.underlying5 (by decide) rfl ?_
      clear hs; intro w3 hs; dsimp only [setC] at hs
      skip
      refine wl_val (opv_build (vs := [(0, .slice U 1 1), (1, .int .u64 1), (2, .int .u8 1)]) (cs := enV ⟨[107], 1, 1, []⟩ U 1 none 0) ⟨rfl, rfl, rfl, rfl, rfl, rfl, trivial⟩ (by kernel_rfl)) rfl ?_
      refine ws_bsR (cs := enV ⟨[107], 1, 1, []⟩ U 1 none 0) hs tkE ⟨_, rfl, rfl⟩ rfl (by decide) rfl ?_
      clear hs; intro P' w4 hs
      refine wl_as rfl rfl ?_; refine wl_nil ?_
      obtain ⟨T, hT, hcT, T1, hT1, ⟨h1a, h1b⟩, T2, hT2, h2, _⟩ := (hs.front 2 rfl).2
      have hp : (enEl ⟨[107], 1, 1, []⟩).P w4 (fun b => ¬ T b) (enV ⟨[107], 1, 1, []⟩ U 1 none 0) := enEl.mk (El.mono h2 fun b _ h => (hT2 b h).1.2) (byEl.mk (Rd.nil _ _) (Nat.zero_le _) fun a ha hn => absurd hn (by decide))
      have hrd : RdR 4 w4 (fun b => ¬ T b) P' ([(⟨[107], 1, 1, []⟩ : En)].map enEl) := ⟨[enV ⟨[107], 1, 1, []⟩ U 1 none 0], ⟨rfl, fun i cs hi => by
        cases i with
        | zero =>
          simp only [List.getElem?_cons_zero, Option.some.injEq] at hi
          subst hi
          exact ⟨rfl, _, rfl, hp⟩
        | succ i => simp at hi⟩, (RdR.raw (css := [enV ⟨[107], 1, 1, []⟩ U 1 none 0]) (OwR.rd h1b)).1, fun a ha _ => (hT1 _ (h1a a ha)).2⟩
      have hok1 : TbOk [(⟨[107], 1, 1, []⟩ : En)] := ⟨List.pairwise_singleton _ _, fun y hy => by obtain rfl := List.mem_singleton.1 hy; exact ⟨rfl, rfl⟩, fun y hy => by obtain rfl := List.mem_singleton.1 hy; decide, by simp, by simp⟩
      exact we_cut _ ⟨[⟨[107], 1, 1, []⟩], P', 1, T, fun b => ¬ T b, rfl, hok1, Nat.le_refl _, St.start ⟨T, fun _ h => h, hcT, trivial⟩, hbw2.trans (hs.1.below_of hbw2.size fun b h => h.1), hrd, fun b _ h => h, fun b hb => (hT b hb).elim (fun h => h.1) fun h => Nat.le_trans hbw2.size h⟩ ⟨rfl, rfl, rfl, rfl, trivial⟩
    · have hne : l ≠ [] := fun h => h1 (by rw [h]; rfl)
      refine wc_skip ?_
      exact we_cut _ ⟨l, P, cp, _, _, rfl, ⟨hord, hchk, fun x hx => (hsm x hx).2, by omega, hne⟩, hcp, hs, hbw2, hl2, fun b _ h k => by
        rcases h with h | h
        · exact absurd h (Nat.not_lt.2 k.1)
        · omega, fun b h => h.1⟩ ⟨rfl, rfl, rfl, rfl, trivial⟩
  clear hs hst hl2 hbx2 hld hr2 hokA hsz1 hord hchk hsm hsl hcp hbw2 hlen
  clear l P cp w2 w1 k
  rintro _ w2 ⟨l, P, cp, M, S0, rfl, hk, hcp, hs, hbw2, hl2, hdis, hM0⟩
  have hend : ∀ {wr : World}, Mod M w2 wr → Below w.heap.size w wr := fun hm => hbw2.trans (hm.below_of hbw2.size hM0)
  have hlr : ∀ {wr : World}, Mod M w2 wr → RdR 4 wr All P (l.map enEl) := fun hm => (mod_rdr hm (by decide) hdis hl2).all
  have hlx : ∀ {i : Nat} {x : En}, l[i]? = some x → ∃ b o X cx X2 cx2, P = some ⟨b, o, none⟩ ∧ x.key.length ≤ cx ∧ ∀ wr, Mod M w2 wr → Wi wr b (o + i * 4) (enV x X cx X2 cx2) ∧ RdB wr X x.key ∧ RdB wr X2 x.val := fun hx => row_old2 hl2 hdis hx
  have hmx : ∀ x ∈ l, x.key.length ≤ 1024 ∧ x.val.length ≤ 65536 := hk.big
  have htz : tszE l ≤ 40 * 66560 := by
    have h2 := tsz_mem (l := l) (b := 66560) fun y hy => by have := hmx y hy; omega
    exact Nat.le_trans h2 (Nat.mul_le_mul_right _ hk.len)
  have hll := hk.len
  have hord := hk.ord
  obtain ⟨hput, hputL⟩ := put_sorted hk.ord hk.good
  have hK0 : ∀ {wr : World}, Mod M w2 wr → RdBB wr K keys := fun hm => R1.below (hend hm)
  clear hl2 hdis
  unfold pN
  refine we_seq ?_; refine wc_seq ?_; refine wc_sr ?_; refine wl_mv rfl rfl ?_; refine wl_mv rfl rfl ?_
  refine wl_call ok_caissonref07_Twins (twins3_any (l := l) (hlr hs.1) rfl (fun x h => by have := hmx x h; omega) (by omega)) ⟨rfl, trivial⟩ rfl ?_
  rintro _ w3 ⟨D, d, rfl, hsx⟩
  replace hs := hs.call hsx
  clear hsx
  dsimp only [List.cons_append, List.nil_append] at hs
  obtain ⟨S2, hS2, _, hM, hH, hB⟩ := St.lend (H1 := [.ck (tblC t [])]) (H2 := [_]) (hs.front 1 rfl)
  have hrd : RdR 4 w3 (fun b => Fr M w2 b ∧ ¬ S2 b) D (l.map enEl) := by
    obtain ⟨T1, hT1, h1, _⟩ := hH w3 (Mod.refl _ _)
    exact RdR.mono (by decide) (rs_rdr h1) fun b _ h => hT1 b h
  refine wl_call ok_mem_Table_Put (put_any (TX := (66, [])) (c := d) (xs := []) (l := l) hS2 .nil hrd (fun b _ h => h.2) rfl (by omega) (by simp) (by simp [tszE]) fun w' hm => hg.below (hend (hM w' hm))) ⟨rfl, rfl, trivial⟩ rfl ?_
  rintro _ w4 ⟨rfl, hsx⟩
  replace hs := (hB _ _ hsx).drop 1 rfl
  clear hB hsx hS2 hM hH hrd
  rw [show (if putC [] l = 0 then l.foldl insE [] else []) = l from hputL] at hs
  rw [hput]
  dsimp only [List.cons_append, List.nil_append, delC] at hs
  refine wl_bin rfl rfl bin_neq rfl ?_; refine wl_ns ?_; apply wc_condFb; exact rfl; exact rfl; refine wc_skip ?_; refine we_seq ?_; refine wc_sr ?_
  refine wl_call ok_disk_New (dnew_any 1073741824 _) ⟨rfl, trivial⟩ rfl ?_
  rintro _ _ ⟨g, rfl, hsx⟩
  replace hs := hs.call hsx
  clear hsx
  dsimp only [List.cons_append, List.nil_append] at hs
  refine wl_as rfl rfl ?_; refine wl_ns ?_; refine wc_seq ?_; refine wc_sr ?_; refine wl_mv rfl rfl ?_; refine wl_bin rfl rfl bin_geq rfl ?_; refine wl_ns ?_
  refine wc_cutE (fun L w' => ∃ d : Dk, L = [(0, .slice P l.length cp), (1, .int .i64 arm), (2, .slice K keys.length ck), (7, .pointer (some ⟨t, 0, none⟩)), (8, .pointer (some ⟨g, 0, none⟩))] ∧ St M w2 w' [.ck (dkC g d), .ck (tblC t l)] ∧ DkOk d ∧ d.fs = [] ∧ d.room = 1073741824 ∧ d.dead = false) ?_ ?_
  · refine wc_cond rfl (fun h1 => ?_) (fun h1 => ?_)
    · refine wc_region ?_; refine wl_mv rfl rfl ?_; refine wl_mv rfl rfl ?_
      obtain ⟨S2, hS2, _, hM, _, hB⟩ := St.lend (H1 := [.ck (dkC g ⟨[], 1073741824, false, 0, false⟩)]) (H2 := [_]) hs
      refine wl_call ok_disk_Disk_Arm (arm_any (k := arm) hS2) ⟨rfl, rfl, trivial⟩ rfl ?_
      rintro _ _ ⟨rfl, hsx⟩
      replace hs := hB _ _ hsx
      dsimp only [List.cons_append, List.nil_append] at hs
      refine wl_nil ?_
      exact we_cut _ ⟨_, rfl, hs, ⟨by simp, by show 1073741824 ≤ 1099511627776; decide, by simp [used], ha.1, ha.2, fun _ => h1⟩, rfl, rfl, rfl⟩ ⟨rfl, rfl, rfl, rfl, rfl, trivial⟩
    · refine wc_skip ?_
      exact we_cut _ ⟨_, rfl, hs, ⟨by simp, by decide, by simp [used], by decide, by decide, by simp⟩, rfl, rfl, rfl⟩ ⟨rfl, rfl, rfl, rfl, rfl, trivial⟩
  clear hs
  rintro _ w6 ⟨d0, rfl, hs, hok, hfs, hroom, hdead⟩
  refine we_seq ?_; refine wc_sr ?_; refine wl_mv rfl rfl ?_; refine wl_mv rfl rfl ?_
  obtain ⟨S2, hS2, _, hM, hH, hB⟩ := St.lend (H1 := [.ck (tblC t l)]) (H2 := [_]) (hs.front 1 rfl)
  refine wl_call ok_mem_Table_Range (trange_any (TX := (66, [])) (key := []) (to := []) hS2 hord rfl (fun w' hm => Rd.nil _ _) rfl (fun w' hm => Rd.nil _ _) (fun x h => by have := hmx x h; omega) (fun x h => hk.sq x h) (by omega)) ⟨rfl, rfl, rfl, trivial⟩ rfl ?_
  rintro _ w5 ⟨R0, c0, rfl, hsx⟩
  replace hs := hB _ _ hsx
  clear hB hsx hS2 hM hH
  dsimp only [List.cons_append, List.nil_append] at hs
  rw [range_nil] at hs
  rw [range_nil]
  skip
  have hc0 : l.length ≤ c0 := by have := OwR.len_le (hs.rsE 0 rfl); rwa [List.length_map] at this
  obtain ⟨S2, hS2, _, hM, hH, hB⟩ := St.lend (H1 := [.ck (dkC g d0)]) (H2 := [_, _]) (hs.front 2 rfl)
  refine wl_call ok_table_Write (write_any hS2 hok hroom hdead (.inl hfs) (fun w' hw => by obtain ⟨T1, _, h1, _⟩ := hH w' hw; exact (rs_rdr h1).all) rfl hc0 hk) ⟨rfl, rfl, rfl, rfl, trivial⟩ rfl ?_
  rintro _ w7 (⟨hsz, rfl, hsx⟩ | ⟨hsz, C, k1, e1, D1, k2, f2, x1, y1, e, d1, rfl, hT, hsx⟩)
  · replace hs := hB _ _ hsx
    clear hB hsx hS2 hM hH
    dsimp only [List.cons_append, List.nil_append] at hs
    have hbig := tab_big hk hsz
    unfold zMt
    refine wl_mv rfl rfl ?_; apply wl_val; apply opv_extract; exact rfl; exact rfl; exact rfl; apply wl_val; apply opv_extract; exact rfl; exact rfl; exact rfl
    refine ws_var (cs := zMt) hs zeroMt sMt rfl (fun _ => rfl) (by first | rfl | simp [Value.oneCell']) rfl ?_; clear hs; intro g9 _ hs
    refine wl_as rfl rfl ?_; refine wl_ns ?_; refine wc_seq ?_; refine wc_sr ?_; refine wl_mv rfl rfl ?_; refine wl_bin rfl rfl bin_eql rfl ?_; refine wl_ns ?_; apply wc_condTb; exact rfl; exact rfl; refine wc_sr ?_; refine wl_mv rfl rfl ?_
    obtain ⟨S2, hS2, _, hM, hH, hB⟩ := St.lend (H1 := [.ck (tblC t l)]) (H2 := [_, _, _]) (hs.front 3 rfl)
    refine wl_call ok_mem_Table_Size (tsize_any hS2) ⟨rfl, trivial⟩ rfl ?_
    rintro _ _ ⟨rfl, rfl⟩
    refine wl_bin rfl rfl bin_gtr rfl ?_; refine wl_as rfl rfl ?_; refine wl_ns ?_; refine wc_ret ?_; refine we_seq_ret ?_
    exact we_ret1 rfl rfl ⟨_, rfl, congrArg Value.bool (decide_eq_true (by omega)), hend hs.1⟩
  replace hs := hB _ _ hsx
  clear hB hsx hS2 hM hH
  dsimp only [List.cons_append, List.nil_append] at hs
  refine wl_mv rfl rfl ?_; apply wl_val; apply opv_extract; exact rfl; exact rfl; exact rfl; apply wl_val; apply opv_extract; exact rfl; exact rfl; exact rfl
  refine ws_var (cs := [.slice C k1 e1, .slice D1 k2 f2, .int .i64 x1, .int .i64 y1]) hs zeroMt sMt rfl (fun _ => rfl) (by first | rfl | simp [Value.oneCell']) rfl ?_; clear hs; intro g9 _ hs
  replace hs := (hs.drop 0 rfl).drop 1 rfl
  dsimp only [delC] at hs
  have he2 : ¬ (e : Int) = 2 := by rcases hT.e_le with h | h <;> omega
  refine wl_as rfl rfl ?_; refine wl_ns ?_; refine wc_seq ?_; refine wc_sr ?_; refine wl_mv rfl rfl ?_; refine wl_bin rfl rfl bin_eql rfl ?_; refine wl_ns ?_; apply wc_decF; exact rfl; (with_reducible assumption); refine wc_skip ?_; refine we_seq ?_; refine wc_seq ?_; refine wc_sr ?_; refine wl_mv rfl rfl ?_
  refine wl_call ok_disk_Disk_Dead (dead_any (hs.rdd 0 rfl)) ⟨rfl, trivial⟩ rfl ?_
  rintro _ _ ⟨rfl, rfl⟩
  refine wc_cutE (fun L w' => ∃ d : Dk, L = [(0, .slice P l.length cp), (2, .slice K keys.length ck), (7, .pointer (some ⟨t, 0, none⟩)), (8, .pointer (some ⟨g, 0, none⟩)), (10, .int .i64 0)] ∧ St M w2 w' [.ck (dkC g d), .ck (tblC t l)] ∧ DkOk d ∧ d.fs = [(nmT, fT l)] ∧ d.dead = false) ?_ ?_
  · cases hdd : d1.dead with
    | false =>
      obtain ⟨rfl, hf1⟩ : e = 0 ∧ d1.fs = [(nmT, fT l)] := hT.st.elim (fun k => ⟨k.1, k.2.2⟩) fun k => by rw [hdd] at k; exact absurd k.2.1 (by decide)
      apply wc_condFb; exact rfl; exact rfl; refine wc_skip ?_
      exact we_cut _ ⟨d1, rfl, hs, hT.ok, hf1, hdd⟩ ⟨rfl, rfl, rfl, rfl, rfl, trivial⟩
    | true =>
      have hf1 : NoT d1.fs := hT.st.elim (fun k => by rw [hdd] at k; exact absurd k.2.1 (by decide)) fun k => k.2.2.2
      have hnl : (∀ p ∈ d1.fs, p.1.length ≤ maxLen) ∧ d1.fs.length ≤ 1048576 := by
        rcases hf1 with h | ⟨f, h⟩
        · rw [h]; exact ⟨fun p hp => (by cases hp), by decide⟩
        · rw [h]; exact ⟨fun p hp => by obtain rfl := List.mem_singleton.1 hp; show nmN.length ≤ maxLen; decide, by simp⟩
      apply wc_condTb; exact rfl; exact rfl; refine wc_sr ?_; refine wl_mv rfl rfl ?_; refine wl_mv rfl rfl ?_
      refine ws_bs (vs := [.int .i64 arm, .int .i64 1]) hs tyI ⟨rfl, rfl, rfl, rfl, rfl, rfl, trivial⟩ rfl (by decide) rfl ?_
      clear hs; intro E0 w10 hs
      skip
      obtain ⟨S2, hS2, _, hM, hH, hB⟩ := St.lend (H1 := [.ck (dkC g d1)]) (H2 := [_, _]) (hs.front 1 rfl)
      refine wl_call ok_disk_Disk_Crash (crash_any (keeps := [arm, 1]) hS2 hT.ok hnl.1 hnl.2 (fun w' hw => (sat_ow (hH w' hw) 0 rfl).rd) (by simp)) ⟨rfl, rfl, trivial⟩ rfl ?_
      rintro _ _ ⟨rfl, hsx⟩
      replace hs := hB _ _ hsx
      clear hB hsx hS2 hM hH
      dsimp only [List.cons_append, List.nil_append] at hs
      replace hs := hs.drop 1 rfl
      dsimp only [delC] at hs
      obtain ⟨hf3, hok3⟩ := crash_tw (keeps := [arm, 1]) hT.ok hf1
      have hrm3 : (crashK [arm, 1] d1 (sortN d1.fs)).room = 1073741824 := hT.room
      have hdd3 : (crashK [arm, 1] d1 (sortN d1.fs)).dead = false := rfl
      have har3 : (crashK [arm, 1] d1 (sortN d1.fs)).armed = false := rfl
      obtain ⟨d3, hd3⟩ : ∃ d3, crashK [arm, 1] d1 (sortN d1.fs) = d3 := ⟨_, rfl⟩
      rw [hd3] at hs hf3 hok3 hrm3 hdd3 har3
      clear hd3
      have hth : thereD d3 nmT = 6 := by
        rcases hf3 with h | ⟨f, h⟩
        · rw [thereD, h]; rfl
        · rw [thereD, h]; rfl
      refine wl_ns ?_; refine wc_sr ?_; refine wl_mv rfl rfl ?_
      refine wl_call ok_table_Open (topen_none (hs.rdd 0 rfl) hok3 hdd3 hth) ⟨rfl, rfl, trivial⟩ rfl ?_
      rintro _ _ ⟨rfl, hbx⟩
      replace hs := hs.below hbx
      clear hbx
      refine wl_mv rfl rfl ?_; apply wl_val; apply opv_extract; exact rfl; exact rfl; exact rfl; apply wl_val; apply opv_extract; exact rfl; exact rfl; exact rfl; refine wl_as rfl rfl ?_; refine wl_as rfl rfl ?_; refine wl_ns ?_; refine wc_sr ?_; refine wl_mv rfl rfl ?_; refine wl_bin rfl rfl bin_eql rfl ?_; refine wl_ns ?_; apply wc_condTb; exact rfl; exact rfl; refine wc_region ?_; refine wl_mv rfl rfl ?_; refine wl_mv rfl rfl ?_
      obtain ⟨S2, hS2, _, hM, hH, hB⟩ := St.lend (H1 := [.ck (tblC t l)]) (H2 := [_]) (hs.front 1 rfl)
      refine wl_call ok_mem_Table_Range (trange_any (TX := (66, [])) (key := []) (to := []) hS2 hord rfl (fun w' hm => Rd.nil _ _) rfl (fun w' hm => Rd.nil _ _) (fun x h => by have := hmx x h; omega) (fun x h => hk.sq x h) (by omega)) ⟨rfl, rfl, rfl, trivial⟩ rfl ?_
      rintro _ w5 ⟨R0, c0, rfl, hsx⟩
      replace hs := hB _ _ hsx
      clear hB hsx hS2 hM hH
      dsimp only [List.cons_append, List.nil_append] at hs
      rw [range_nil] at hs
      rw [range_nil]
      skip
      have hc0 : l.length ≤ c0 := by have := OwR.len_le (hs.rsE 0 rfl); rwa [List.length_map] at this
      obtain ⟨S2, hS2, _, hM, hH, hB⟩ := St.lend (H1 := [.ck (dkC g d3)]) (H2 := [_, _]) (hs.front 2 rfl)
      refine wl_call ok_table_Write (write_any hS2 hok3 hrm3 hdd3 (hf3) (fun w' hw => by obtain ⟨T1, _, h1, _⟩ := hH w' hw; exact (rs_rdr h1).all) rfl hc0 hk) ⟨rfl, rfl, rfl, rfl, trivial⟩ rfl ?_
      rintro _ w9 (⟨hsz3, _⟩ | ⟨_, C', k1', e1', D1', k2', f2', x1', y1', e', d4, rfl, hT4, hsx⟩)
      · omega
      replace hs := hB _ _ hsx
      clear hB hsx hS2 hM hH
      dsimp only [List.cons_append, List.nil_append] at hs
      obtain ⟨rfl, hdd4, hf4⟩ : e' = 0 ∧ d4.dead = false ∧ d4.fs = [(nmT, fT l)] := hT4.st.elim id fun k => by rw [har3] at k; exact absurd k.2.2.1 (by decide)
      replace hs := hs.drop 1 rfl
      dsimp only [delC] at hs
      refine wl_mv rfl rfl ?_; apply wl_val; apply opv_extract; exact rfl; exact rfl; exact rfl; apply wl_val; apply opv_extract; exact rfl; exact rfl; exact rfl; refine wl_as rfl rfl ?_; refine wl_nil ?_
      exact we_cut _ ⟨d4, rfl, hs, hT4.ok, hf4, hdd4⟩ ⟨rfl, rfl, rfl, rfl, rfl, trivial⟩
  clear hs
  rintro _ w8 ⟨d2, rfl, hs, hok2, hfs2, hdead2⟩
  refine we_seq ?_; refine wc_sr ?_; refine wl_mv rfl rfl ?_
  refine wl_call ok_table_Open (topen_any (hs.rdd 0 rfl) hok2 hdead2 hfs2 hk hsz) ⟨rfl, rfl, trivial⟩ rfl ?_
  rintro _ w9 ⟨x0, C', k1', e1', D1', k2', f2', s', R, rc, F, fc, rfl, hrc, hfc, hsx⟩
  replace hs := hs.call hsx
  clear hsx
  dsimp only [List.cons_append, List.nil_append] at hs
  refine wl_mv rfl rfl ?_; apply wl_val; apply opv_extract; exact rfl; exact rfl; exact rfl; apply wl_val; apply opv_extract; exact rfl; exact rfl; exact rfl; refine wl_as rfl rfl ?_; refine wl_as rfl rfl ?_; refine wl_ns ?_; refine wc_seq ?_; refine wc_seq ?_
  have hns : sortN d2.fs = [nmT] := by rw [hfs2]; simp [sortN]
  have hll2 : ¬ (l.length : Int) ≠ (l.length : Int) := fun h => h rfl
  have h11 : ((1 : Nat) : Int) = 1 := rfl
  unfold tblV mtV at hs
  dsimp only [List.cons_append, List.nil_append] at hs
  replace hs := hs.below (Below.refl _ _).drew
  refine wc_held (fun w' => St M w2 w' [.blk x0 49 [.slice C' k1' e1', .slice D1' k2' f2', .int .i64 (l.length : Int), .int .i64 (s' : Int), .slice R l.length rc, .slice F (filtB (keysU l)).length fc], .ck (kp (TbK R F l)), .ck (dkC g d2), .ck (tblC t l)]) mixed ?_
  have hS := hs
  apply wh_takeH 0; exact rfl; intro _ hw_; apply opv_move; exact rfl; exact rfl; kernel_rfl; exact hS; apply wh_takeH 1; exact rfl; intro _ hw_; apply opv_bin; exact rfl; exact rfl; exact bin_neq; exact rfl; kernel_rfl; exact hS; apply wh_takeH 2; exact rfl; intro _ hw_; apply opv_move; exact rfl; exact rfl; kernel_rfl; exact hS; apply wh_takeGH 3; exact rfl; exact rfl; exact rfl; exact rfl; refine bF ?_; (with_reducible exact nne); intro _ hw_; apply opv_move; exact rfl; exact rfl; kernel_rfl; exact hS; apply wh_takeGH 4; exact rfl; exact rfl; exact rfl; exact rfl; refine bF ?_; (with_reducible exact nne); intro _ hw_; apply opv_bin; exact rfl; exact rfl; exact bin_neq; exact rfl; kernel_rfl; exact hS; apply wh_takeH 5; exact rfl; intro _ hw_; apply opv_pickF; exact rfl; refine bF ?_; (with_reducible exact nne); exact rfl; exact rfl; kernel_rfl; exact hS; apply wh_takeH 6; exact rfl; intro _ hw_; apply opv_move; exact rfl; exact rfl; kernel_rfl; exact hS; apply wh_takeGH 7; exact rfl; exact rfl; exact rfl; exact rfl; refine bF ?_; (with_reducible exact nne); intro _ hw_; apply opv_move; exact rfl; exact rfl; kernel_rfl; exact hS; apply wh_takeGH 8; exact rfl; exact rfl; exact rfl; exact rfl; refine bF ?_; (with_reducible exact nne); intro _ hw_; apply opv_bin; exact rfl; exact rfl; exact bin_eqlPtrNil Tryz.underlying45; exact rfl; kernel_rfl; exact hS; apply wh_takeH 9; exact rfl; intro _ hw_; apply opv_pickF; exact rfl; refine bF ?_; (with_reducible exact nne); exact rfl; exact rfl; kernel_rfl; exact hS; apply wh_takeH 10; exact rfl; intro _ hw_; apply opv_move; exact rfl; exact rfl; kernel_rfl; exact hS; apply wh_takeGH 11; exact rfl; exact rfl; exact rfl; exact rfl; exact rfl; intro _ hw_; apply opv_move; exact rfl; exact rfl; kernel_rfl; exact hS; apply wh_takeGH 12; exact rfl; exact rfl; exact rfl; exact rfl; exact rfl; intro _ hw_; apply opv_nilOk; exact rfl; exact rfl; kernel_rfl; exact hS; apply wh_takeGH 13; exact rfl; exact rfl; exact rfl; exact rfl; exact rfl; intro _ hw_; apply opv_fa; exact fa_Tb0; exact rfl; exact rfl; kernel_rfl; exact hS; apply wh_takeGH 14; exact rfl; exact rfl; exact rfl; exact rfl; exact rfl; intro _ hw_; apply opv_fa; exact fa_Mt2; exact rfl; exact rfl; kernel_rfl; exact hS; apply wh_takeGH 15; exact rfl; exact rfl; exact rfl; exact rfl; exact rfl; intro _ hw_; apply opv_ldX; exact rfl; exact hw_.ar 0 rfl; exact e1_int; exact rfl; exact rfl; kernel_rfl; exact hS; apply wh_takeGH 16; exact rfl; exact rfl; exact rfl; exact rfl; exact rfl; intro _ hw_; apply opv_move; exact rfl; exact rfl; kernel_rfl; exact hS
  refine wh_one 17 (o := ⟨_, _, _, _, _, _⟩) (by kernel_rfl) rfl ?_
  apply wl_take; exact rfl; exact rfl; exact rfl; exact rfl
  obtain ⟨S2, hS2, _, hM, hH, hB⟩ := St.lend (H1 := [.ck (tblC t l)]) (H2 := [_, _, _]) (hs.front 3 rfl)
  refine wl_call ok_mem_Table_Len (tlen_any hS2) ⟨rfl, trivial⟩ rfl ?_
  rintro _ _ ⟨rfl, rfl⟩
  clear hB hS2 hM hH
  refine wl_nil ?_
  refine we_held hs ?_
  apply wh_takeGH 18; exact rfl; exact rfl; exact rfl; exact rfl; exact rfl; intro _ hw_; apply opv_bin; exact rfl; exact rfl; exact bin_neq; exact rfl; kernel_rfl; exact hS; apply wh_takeH 19; exact rfl; intro _ hw_; apply opv_pickF; exact rfl; exact rfl; exact rfl; exact rfl; kernel_rfl; exact hS; apply wh_takeH 20; exact rfl; intro _ hw_; apply opv_move; exact rfl; exact rfl; kernel_rfl; exact hS; apply wh_takeGH 21; exact rfl; exact rfl; exact rfl; exact rfl; refine bF ?_; (with_reducible assumption); intro _ hw_; apply opv_move; exact rfl; exact rfl; kernel_rfl; exact hS
  refine wh_one 22 (o := ⟨_, _, _, _, _, _⟩) (by kernel_rfl) rfl ?_
  apply wl_take; exact rfl; exact rfl; exact rfl; refine bF ?_; (with_reducible assumption)
  refine wl_call ok_disk_Disk_List (list_any (pf := []) (hs.rdd 2 rfl) hdead2 hns (fun n hn => by obtain rfl := List.mem_singleton.1 hn; exact ⟨⟨nmT, rfl⟩, by decide⟩) (by decide)) ⟨rfl, rfl, trivial⟩ rfl ?_
  clear hS
  rintro _ _ ⟨N1, n1, rfl, o_, hbx⟩
  replace hs := hs.below hbx
  clear o_ hbx
  refine wl_nil ?_
  refine we_held hs ?_
  have hS := hs
  apply wh_takeGH 23; exact rfl; exact rfl; exact rfl; exact rfl; refine bF ?_; (with_reducible assumption); intro _ hw_; apply opv_len; exact rfl; exact tyS.sl; exact rfl; kernel_rfl; exact hS; apply wh_takeGH 24; exact rfl; exact rfl; exact rfl; exact rfl; refine bF ?_; (with_reducible assumption); intro _ hw_; apply opv_bin; exact rfl; exact rfl; exact bin_neq; exact rfl; kernel_rfl; exact hS; apply wh_takeH 25; exact rfl; intro _ hw_; apply opv_pickF; exact rfl; refine bF ?_; (with_reducible assumption); exact rfl; exact rfl; kernel_rfl; exact hS
  clear hS
  refine wh_done (by kernel_rfl) ?_
  refine we_seq ?_; apply wc_condFb; exact rfl; exact rfl; refine wc_skip ?_; refine we_seq ?_; refine wc_sr ?_; refine wl_as rfl rfl ?_; refine wl_ns ?_; refine wc_seq ?_; refine wc_sr ?_; refine wl_mv rfl rfl ?_; apply wl_val; apply opv_len; exact rfl; exact tkE.sl; exact rfl; refine wl_mv rfl rfl ?_; refine wl_ns ?_; refine wc_block ?_
  obtain ⟨vk0, q1, q2⟩ := R1
  have hek0 : ∀ wr, Mod M w2 wr → EK vk0 keys wr := fun wr hm => ⟨q1.1, fun i r hi => by obtain ⟨A', c', h1, h2, h3⟩ := q2 i r hi; exact ⟨A', c', h1, h2.below (hend hm), h3⟩⟩
  have hkl0 : ∀ k ∈ keys, k.length ≤ 1048576 := fun k hk => by have := mem_flat hk; omega
  replace hs := ((hs.drop 2 rfl).nilO 28).kyOld (K := K) (n := keys.length) (vs := vk0) fun wr hm => q1.below (hend hm)
  dsimp only [delC] at hs
  refine wc_loop (fun L wr mm => ∃ (i : Nat) (ks : List (List UInt8)) (K2 : Option Addr) (c2 : Nat) (vk : List Value) (A2 : Option Addr) (ca : Nat) (va : List Value), L = [(2, .slice K2 ks.length c2), (7, .pointer (some ⟨t, 0, none⟩)), (13, .pointer (some ⟨x0, 0, none⟩)), (15, .slice A2 i ca), (119, .slice P l.length cp), (120, .int .i64 (l.length : Int)), (121, .int .i64 (i : Int))] ∧ i ≤ l.length ∧ ks.length ≤ 1048576 + i ∧ (∀ k ∈ ks, k.length ≤ 1048576) ∧ (∀ wr, Mod M w2 wr → EK vk ks wr) ∧ (∀ wr, Mod M w2 wr → EK va ((l.take i).map (·.key)) wr) ∧
      St M w2 wr [.ck (kyC M w2 K2 ks.length vk), .ow 28 A2 i ca va, .blk x0 49 [.slice C' k1' e1', .slice D1' k2' f2', .int .i64 (l.length : Int), .int .i64 (s' : Int), .slice R l.length rc, .slice F (filtB (keysU l)).length fc], .ck (kp (TbK R F l)), .ck (tblC t l)] ∧ mm = l.length - i)
    [(2, .slice K keys.length ck), (7, .pointer (some ⟨t, 0, none⟩)), (13, .pointer (some ⟨x0, 0, none⟩)), (15, .slice none 0 0), (119, .slice P l.length cp), (120, .int .i64 (l.length : Int)), (121, .int .i64 ((0 : Nat) : Int))] l.length ⟨0, keys, K, ck, vk0, none, 0, [], rfl, Nat.zero_le _, by omega, hkl0, hek0, fun _ _ => EK.nil, hs, rfl⟩ ⟨rfl, rfl, rfl, rfl, rfl, rfl, rfl, trivial⟩ ?_
  clear hs
  rintro _ w10 mm ⟨i, ks, K2, c2, vk, A2, ca, va, rfl, hi, hksl, hkl, hek, hea, hs, rfl⟩
  refine wc_sr ?_; refine wl_bin rfl rfl bin_lss rfl ?_; refine wl_ns ?_; refine wc_seq ?_
  refine wc_cond rfl (fun h1 => ?_) (fun h1 => ?_)
  · obtain ⟨x, hx⟩ : ∃ x, l[i]? = some x := ⟨_, List.getElem?_eq_getElem (by omega)⟩
    obtain ⟨z1, z2⟩ := hmx _ (List.mem_of_getElem? hx)
    obtain ⟨b, o, X, cx, X2, cx2, rfl, hcx, hxr⟩ := hlx hx
    have i0 := (hxr _ hs.1).1
    refine wc_skip ?_; refine we_seq ?_; refine wc_seq ?_; refine wc_block ?_; refine wc_sr ?_; apply wl_val; apply opv_idxG tkE; exact rfl; exact rfl; exact rfl; omega; exact rfl; apply wl_val; apply opv_ldG; exact rfl; assumption; exact sE; exact rfl
    refine ws_var (cs := enV x X cx X2 cx2) hs zeroE sE rfl (fun _ => rfl) (by first | rfl | simp [Value.oneCell']) rfl ?_
    clear hs; intro g17 w11 hs
    unfold enV at hs
    clear i0
    refine wl_ns ?_; refine wc_seq ?_
    have hs1 := hs
    have a17 := hs1.ar 0 rfl
    have hkr := hs1.kyRd 1 rfl
    have hk1 := (hek _ hs1.1).one1
    clear hs
    refine wc_cutE (fun L' w' => ∃ (K3 : Option Addr) (c3 : Nat), L' = [(2, .slice K3 (ks.length + 1) c3), (7, .pointer (some ⟨t, 0, none⟩)), (13, .pointer (some ⟨x0, 0, none⟩)), (15, .slice A2 i ca), (17, .pointer (some ⟨g17, 0, none⟩)), (119, .slice (some ⟨b, o, none⟩) l.length cp), (120, .int .i64 (l.length : Int)), (121, .int .i64 (i : Int))] ∧ St M w2 w' [.ow 28 K3 (ks.length + 1) c3 (vk ++ [.slice X x.key.length cx]), .blk g17 31 [.slice X x.key.length cx, .int .u64 (x.seq : Int), .int .u8 (x.kind.toNat : Int), .slice X2 x.val.length cx2], .ck (kyC M w2 K2 ks.length vk), .ow 28 A2 i ca va, .blk x0 49 [.slice C' k1' e1', .slice D1' k2' f2', .int .i64 (l.length : Int), .int .i64 (s' : Int), .slice R l.length rc, .slice F (filtB (keysU l)).length fc], .ck (kp (TbK R F l)), .ck (tblC t l)]) ?_ ?_
    · have hs := St.init w11
      refine wc_heldM 7 mixed fun w_ hS => ?_
      apply wm_take 1; exact rfl; intro _ hw_; apply opv_move; exact rfl; exact rfl; kernel_rfl; exact hS; apply wm_take 3; exact rfl; intro _ hw_; apply opv_fa; exact fa_sE (by decide); exact rfl; exact rfl; kernel_rfl; exact hS; apply wm_take 4; exact rfl; intro _ hw_; apply opv_ldX; exact rfl; exact Ar.bel (by assumption) hw_; exact e1_by; exact rfl; exact rfl; kernel_rfl; exact hS
      replace hs := hs.below hS
      refine wm_two 0 5 (by kernel_rfl) rfl rfl ?_ ?_ <;> dsimp only [List.getElem_toArray, List.getElem_cons_succ, List.getElem_cons_zero]
      · refine ws_bs (vs := []) hs tyBB trivial rfl (by decide) rfl ?_
        clear hs; intro Ra _ hs
        refine we_heldM (fun _ => hs.bel) ?_
        refine wm_two 2 5 (by kernel_rfl) rfl rfl ?_ ?_ <;> dsimp only [List.getElem_toArray, List.getElem_cons_succ, List.getElem_cons_zero]
        · refine ws_app (ys := vk) (m := ks.length) hs 0 rfl rfl tyBB rfl (hkr.below hs.bel) hk1 (by omega) (by omega) rfl ?_
          clear hs; intro Ra2 ca2 _ hs; dsimp only [setC] at hs
          rw [List.nil_append, Nat.zero_add] at hs
          rw [Nat.zero_add]
          refine we_heldM (fun _ => hs.bel) ?_
          refine wm_one 5 (by kernel_rfl) rfl ?_; dsimp only [List.getElem_toArray, List.getElem_cons_succ, List.getElem_cons_zero]
          refine ws_bs (vs := [.slice X x.key.length cx]) hs tyBB ⟨rfl, rfl, rfl, trivial⟩ rfl (by decide) rfl ?_
          clear hs; intro Rb _ hs
          refine we_heldM (fun _ => hs.bel) ?_
          refine wm_one 6 (by kernel_rfl) rfl ?_; dsimp only [List.getElem_toArray, List.getElem_cons_succ, List.getElem_cons_zero]
          refine ws_app (ys := [.slice X x.key.length cx]) (m := 1) hs 1 rfl rfl tyBB rfl (hs.ow 0 rfl).rd (by simp [Value.oneCell']) (by omega) (by omega) rfl ?_
          clear hs; intro Ra3 ca3 _ hs; dsimp only [setC] at hs
          refine we_heldM (fun _ => hs.bel) ?_
          refine wm_one 7 (by kernel_rfl) rfl ?_; dsimp only [List.getElem_toArray, List.getElem_cons_succ, List.getElem_cons_zero]
          refine wl_as rfl rfl ?_; refine wl_nil ?_
          refine we_heldM (fun h => absurd h (by decide)) ?_
          refine wm_done (by kernel_rfl) ?_
          skip
          have hsx := hs.drop 0 rfl
          dsimp only [delC] at hsx
          exact we_cut _ ⟨Ra3, ca3, rfl, hs1.call hsx⟩ ⟨rfl, rfl, rfl, rfl, rfl, rfl, rfl, rfl, trivial⟩
        · refine ws_bs (vs := [.slice X x.key.length cx]) hs tyBB ⟨rfl, rfl, rfl, trivial⟩ rfl (by decide) rfl ?_
          clear hs; intro Rb _ hs
          refine we_heldM (fun _ => hs.bel) ?_
          refine wm_one 2 (by kernel_rfl) rfl ?_; dsimp only [List.getElem_toArray, List.getElem_cons_succ, List.getElem_cons_zero]
          refine ws_app (ys := vk) (m := ks.length) hs 1 rfl rfl tyBB rfl (hkr.below hs.bel) hk1 (by omega) (by omega) rfl ?_
          clear hs; intro Ra2 ca2 _ hs; dsimp only [setC] at hs
          rw [List.nil_append, Nat.zero_add] at hs
          rw [Nat.zero_add]
          refine we_heldM (fun _ => hs.bel) ?_
          refine wm_one 6 (by kernel_rfl) rfl ?_; dsimp only [List.getElem_toArray, List.getElem_cons_succ, List.getElem_cons_zero]
          refine ws_app (ys := [.slice X x.key.length cx]) (m := 1) hs 1 rfl rfl tyBB rfl (hs.ow 0 rfl).rd (by simp [Value.oneCell']) (by omega) (by omega) rfl ?_
          clear hs; intro Ra3 ca3 _ hs; dsimp only [setC] at hs
          refine we_heldM (fun _ => hs.bel) ?_
          refine wm_one 7 (by kernel_rfl) rfl ?_; dsimp only [List.getElem_toArray, List.getElem_cons_succ, List.getElem_cons_zero]
          refine wl_as rfl rfl ?_; refine wl_nil ?_
          refine we_heldM (fun h => absurd h (by decide)) ?_
          refine wm_done (by kernel_rfl) ?_
          skip
          have hsx := hs.drop 0 rfl
          dsimp only [delC] at hsx
          exact we_cut _ ⟨Ra3, ca3, rfl, hs1.call hsx⟩ ⟨rfl, rfl, rfl, rfl, rfl, rfl, rfl, rfl, trivial⟩
      · refine ws_bs (vs := [.slice X x.key.length cx]) hs tyBB ⟨rfl, rfl, rfl, trivial⟩ rfl (by decide) rfl ?_
        clear hs; intro Rb _ hs
        refine we_heldM (fun _ => hs.bel) ?_
        refine wm_one 0 (by kernel_rfl) rfl ?_; dsimp only [List.getElem_toArray, List.getElem_cons_succ, List.getElem_cons_zero]
        refine ws_bs (vs := []) hs tyBB trivial rfl (by decide) rfl ?_
        clear hs; intro Ra _ hs
        refine we_heldM (fun _ => hs.bel) ?_
        refine wm_one 2 (by kernel_rfl) rfl ?_; dsimp only [List.getElem_toArray, List.getElem_cons_succ, List.getElem_cons_zero]
        refine ws_app (ys := vk) (m := ks.length) hs 0 rfl rfl tyBB rfl (hkr.below hs.bel) hk1 (by omega) (by omega) rfl ?_
        clear hs; intro Ra2 ca2 _ hs; dsimp only [setC] at hs
        rw [List.nil_append, Nat.zero_add] at hs
        rw [Nat.zero_add]
        refine we_heldM (fun _ => hs.bel) ?_
        refine wm_one 6 (by kernel_rfl) rfl ?_; dsimp only [List.getElem_toArray, List.getElem_cons_succ, List.getElem_cons_zero]
        refine ws_app (ys := [.slice X x.key.length cx]) (m := 1) hs 0 rfl rfl tyBB rfl (hs.ow 1 rfl).rd (by simp [Value.oneCell']) (by omega) (by omega) rfl ?_
        clear hs; intro Ra3 ca3 _ hs; dsimp only [setC] at hs
        refine we_heldM (fun _ => hs.bel) ?_
        refine wm_one 7 (by kernel_rfl) rfl ?_; dsimp only [List.getElem_toArray, List.getElem_cons_succ, List.getElem_cons_zero]
        refine wl_as rfl rfl ?_; refine wl_nil ?_
        refine we_heldM (fun h => absurd h (by decide)) ?_
        refine wm_done (by kernel_rfl) ?_
        skip
        have hsx := hs.drop 1 rfl
        dsimp only [delC] at hsx
        exact we_cut _ ⟨Ra3, ca3, rfl, hs1.call hsx⟩ ⟨rfl, rfl, rfl, rfl, rfl, rfl, rfl, rfl, trivial⟩
    clear hs1 a17 hkr
    rintro _ w12 ⟨K3, c3, rfl, hs⟩
    replace hs := hs.kyNew
    replace hs := (hs.drop 2 rfl).front 2 rfl
    dsimp only [delC] at hs
    refine we_seq ?_; refine wc_region ?_; refine wl_mv rfl rfl ?_; apply wl_val; apply opv_fa; exact fa_sE (by decide); exact rfl; exact rfl; apply wl_val; apply opv_ldX; exact rfl; exact hs.ar 2 rfl; exact e1_by; exact rfl; exact rfl
    refine ws_push (vs := [.slice X x.key.length cx]) hs 0 rfl rfl tyBB ⟨rfl, rfl, rfl, trivial⟩ rfl (by decide) rfl (by omega) (by omega) rfl rfl ?_
    clear hs; intro _ A3 ca3 w13 hs; dsimp only [setC] at hs
    refine wl_as rfl rfl ?_; refine wl_nil ?_; refine we_block_norm ?_; refine we_seq ?_; refine wc_region ?_; apply wl_val; apply opv_bin; exact rfl; exact rfl; exact bin_add64 (by omega); exact rfl; refine wl_mv rfl rfl ?_; refine wl_nil ?_
    replace hs := (hs.front 1 rfl).drop 2 rfl
    dsimp only [delC] at hs
    have hel : (ks ++ [x.key]).length = ks.length + 1 := by simp
    rw [← hel] at hs
    refine we_loop _ (l.length - (i + 1)) ⟨i + 1, ks ++ [x.key], K3, c3, _, A3, ca3, _, rfl, by omega, by omega, fun k hk => ?_, fun wr hm => (hek wr hm).app (EK.one (hxr wr hm).2.1 hcx), fun wr hm => ?_, hs, rfl⟩ (by omega) ⟨by rw [hel]; rfl, rfl, rfl, rfl, rfl, rfl, by rw [show ((i + 1 : Nat) : Int) = (i : Int) + 1 by omega]; rfl, trivial⟩
    · rcases List.mem_append.1 hk with h | h
      · exact hkl k h
      · rw [List.mem_singleton.1 h]; omega
    · rw [take_getR hx, List.map_append]
      exact (hea wr hm).app (EK.one (hxr wr hm).2.1 hcx)
  · obtain rfl : i = l.length := by omega
    rw [List.take_length] at hea
    refine wc_exit ?_; refine we_seq_exit ?_; refine we_loop_exit ?_; refine we_block_exit ?_; refine we_seq ?_; refine wc_sr ?_; refine wl_mv rfl rfl ?_
    have hrow := (hs.ow 1 rfl).rd
    have hkm : (l.map (·.key)).length = l.length := List.length_map _
    have hallB : RdBB w10 A2 (l.map (·.key)) := (hea _ hs.1).bb (by rw [hkm]; exact hrow)
    refine wl_call ok_bloom_Build (bloomBuild_any hallB hkm (by omega) fun k hk => by obtain ⟨y, hy, rfl⟩ := List.mem_map.1 hk; have := hmx y hy; omega) ⟨rfl, rfl, trivial⟩ rfl ?_
    clear hallB hrow
    rintro _ w11 ⟨Fb, fb, rfl, o_, hbx⟩
    replace hs := hs.newO hbx o_ (Nat.le_refl _)
    clear hbx o_
    refine wl_mv rfl rfl ?_; apply wl_val; apply opv_extract; exact rfl; exact rfl; exact rfl; apply wl_val; apply opv_extract; exact rfl; exact rfl; exact rfl; refine wl_as rfl rfl ?_; refine wl_as rfl rfl ?_; refine wl_ns ?_; refine wc_seq ?_; refine wc_sr ?_; refine wl_mv rfl rfl ?_; apply wl_val; apply opv_len; exact rfl; exact tyBB.sl; exact rfl; refine wl_mv rfl rfl ?_; refine wl_ns ?_; refine wc_block ?_
    obtain ⟨qf, hf1, hf2, hf3, hf4⟩ := filt_last (keys := l.map (·.key)) (by omega)
    obtain ⟨FL, hFL⟩ : ∃ q, filtB (l.map (·.key)) = q := ⟨_, rfl⟩
    have hmayin : ∀ k ∈ l.map (·.key), mayB FL k = true := fun k h => by rw [← hFL]; exact may_in (by omega) h
    rw [hFL] at hs hf1 hf4
    rw [hFL]
    refine wc_loop (fun L wr mm => ∃ (j : Nat), L = [(2, .slice K2 ks.length c2), (7, .pointer (some ⟨t, 0, none⟩)), (10, .int .i64 0), (13, .pointer (some ⟨x0, 0, none⟩)), (18, .slice Fb FL.length fb), (143, .slice A2 l.length ca), (144, .int .i64 (l.length : Int)), (145, .int .i64 (j : Int))] ∧ j ≤ l.length ∧
        St M w2 wr [.ow 5 Fb FL.length fb (bvs FL), .ck (kyC M w2 K2 ks.length vk), .ow 28 A2 l.length ca va, .blk x0 49 [.slice C' k1' e1', .slice D1' k2' f2', .int .i64 (l.length : Int), .int .i64 (s' : Int), .slice R l.length rc, .slice F (filtB (keysU l)).length fc], .ck (kp (TbK R F l)), .ck (tblC t l)] ∧ mm = l.length - j)
      [(2, .slice K2 ks.length c2), (7, .pointer (some ⟨t, 0, none⟩)), (10, .int .i64 0), (13, .pointer (some ⟨x0, 0, none⟩)), (18, .slice Fb FL.length fb), (143, .slice A2 l.length ca), (144, .int .i64 (l.length : Int)), (145, .int .i64 ((0 : Nat) : Int))] l.length ⟨0, rfl, Nat.zero_le _, hs, rfl⟩ ⟨rfl, rfl, rfl, rfl, rfl, rfl, rfl, rfl, trivial⟩ ?_
    clear hs
    rintro _ w12 mm ⟨j, rfl, hj, hs, rfl⟩
    refine wc_sr ?_; refine wl_bin rfl rfl bin_lss rfl ?_; refine wl_ns ?_; refine wc_seq ?_
    refine wc_cond rfl (fun h2 => ?_) (fun h2 => ?_)
    · obtain ⟨y, hy⟩ : ∃ y, l[j]? = some y := ⟨_, List.getElem?_eq_getElem (by omega)⟩
      have hyl := hmx y (List.mem_of_getElem? hy)
      have hky : (l.map (·.key))[j]? = some y.key := by rw [List.getElem?_map, hy]; rfl
      obtain ⟨Q, cq, u0, r0, hcq⟩ := (hea _ hs.1).2 j _ hky
      have hrow := (hs.ow 2 rfl).rd
      refine wc_skip ?_; refine we_seq ?_; refine wc_seq ?_; refine wc_block ?_; refine wc_sr ?_
      refine wl_val (opv_idxR (kk := j) (u := .slice Q y.key.length cq) tyBB rfl rfl hrow rfl u0) rfl ?_
      refine wl_val (opv_loadR (kk := j) (u := .slice Q y.key.length cq) tyBB rfl hrow u0) rfl ?_
      clear hrow
      refine wl_as rfl rfl ?_; refine wl_ns ?_; refine wc_sr ?_; refine wl_mv rfl rfl ?_; refine wl_mv rfl rfl ?_
      have hm := may_any (c := fb) (kc := cq) (hs.ow 0 rfl).rd hf1 (by omega) hf4 r0 rfl (by omega)
      rw [← hf1, hmayin _ (List.mem_of_getElem? hky)] at hm
      refine wl_call ok_bloom_May hm ⟨rfl, rfl, trivial⟩ rfl ?_
      clear hm r0
      rintro _ _ ⟨rfl, hbx⟩
      replace hs := hs.below hbx
      clear hbx
      refine wl_mv rfl rfl ?_; apply wl_val; apply opv_extract; exact rfl; exact rfl; exact rfl; apply wl_val; apply opv_extract; exact rfl; exact rfl; exact rfl; refine wl_as rfl rfl ?_; refine wl_as rfl rfl ?_; refine wl_ns ?_; refine wc_sr ?_; refine wl_mv rfl rfl ?_; apply wl_val; apply opv_not; exact rfl; exact rfl; refine wl_mv rfl rfl ?_; apply wl_take; exact rfl; exact rfl; exact rfl; exact Bool.not_true; refine wl_mv rfl rfl ?_; apply wl_take; exact rfl; exact rfl; exact rfl; exact Bool.not_true; refine wl_bin rfl rfl bin_neq rfl ?_; apply wl_val; apply opv_pickF; exact rfl; exact Bool.not_true; exact rfl; exact rfl; refine wl_ns ?_; apply wc_condFb; exact rfl; exact rfl; refine wc_skip ?_; refine we_block_norm ?_; refine we_seq ?_; refine wc_region ?_; apply wl_val; apply opv_bin; exact rfl; exact rfl; exact bin_add64 (by omega); exact rfl; refine wl_mv rfl rfl ?_; refine wl_nil ?_
      exact we_loop _ (l.length - (j + 1)) ⟨j + 1, rfl, by omega, hs, rfl⟩ (by omega) ⟨rfl, rfl, rfl, rfl, rfl, rfl, rfl, by rw [show ((j + 1 : Nat) : Int) = (j : Int) + 1 by omega]; rfl, trivial⟩
    replace hs := (hs.drop 0 rfl).drop 1 rfl
    dsimp only [delC] at hs
    clear hmayin hf1 hf4 hea
    refine wc_exit ?_; refine we_seq_exit ?_; refine we_loop_exit ?_; refine we_block_exit ?_; refine we_seq ?_; refine wc_seq ?_; refine wc_sr ?_; refine wl_mv rfl rfl ?_; apply wl_val; apply opv_len; exact rfl; exact tyBB.sl; exact rfl; refine wl_mv rfl rfl ?_; refine wl_ns ?_; refine wc_block ?_
    refine wc_loop (fun L wr mm => ∃ (j : Nat), L = [(7, .pointer (some ⟨t, 0, none⟩)), (13, .pointer (some ⟨x0, 0, none⟩)), (162, .slice K2 ks.length c2), (163, .int .i64 (ks.length : Int)), (164, .int .i64 (j : Int))] ∧ j ≤ ks.length ∧
        St M w2 wr [.ck (kyC M w2 K2 ks.length vk), .blk x0 49 [.slice C' k1' e1', .slice D1' k2' f2', .int .i64 (l.length : Int), .int .i64 (s' : Int), .slice R l.length rc, .slice F (filtB (keysU l)).length fc], .ck (kp (TbK R F l)), .ck (tblC t l)] ∧ mm = ks.length - j)
      [(7, .pointer (some ⟨t, 0, none⟩)), (13, .pointer (some ⟨x0, 0, none⟩)), (162, .slice K2 ks.length c2), (163, .int .i64 (ks.length : Int)), (164, .int .i64 ((0 : Nat) : Int))] ks.length ⟨0, rfl, Nat.zero_le _, hs, rfl⟩ ⟨rfl, rfl, rfl, rfl, rfl, trivial⟩ ?_
    clear hs
    rintro _ w13 mm ⟨j, rfl, hj, hs, rfl⟩
    refine wc_sr ?_; refine wl_bin rfl rfl bin_lss rfl ?_; refine wl_ns ?_; refine wc_seq ?_
    refine wc_cond rfl (fun h3 => ?_) (fun h3 => ?_)
    · obtain ⟨key, hky⟩ : ∃ y, ks[j]? = some y := ⟨_, List.getElem?_eq_getElem (by omega)⟩
      have hyl := hkl key (List.mem_of_getElem? hky)
      obtain ⟨Q, cq, u0, r0, hcq⟩ := (hek _ hs.1).2 j _ hky
      have hkey : ∀ wr, Mod M w2 wr → RdB wr Q key := fun wr hm => by
        obtain ⟨Q', cq', k1, k2, _⟩ := (hek wr hm).2 j _ hky
        rw [u0] at k1
        obtain ⟨rfl, rfl⟩ : Q = Q' ∧ cq = cq' := by simpa using k1
        exact k2
      have hrow := hs.kyRd 0 rfl
      refine wc_skip ?_; refine we_seq ?_; refine wc_seq ?_; refine wc_block ?_; refine wc_sr ?_
      refine wl_val (opv_idxR (kk := j) (u := .slice Q key.length cq) tyBB rfl rfl hrow rfl u0) rfl ?_
      refine wl_val (opv_loadR (kk := j) (u := .slice Q key.length cq) tyBB rfl hrow u0) rfl ?_
      clear hrow r0
      refine wl_as rfl rfl ?_; refine wl_ns ?_; refine wc_sr ?_
      refine ws_bs (vs := u64s [0, 2, 5, 18446744073709551615]) hs tyQ ⟨rfl, rfl, rfl, rfl, rfl, rfl, rfl, rfl, rfl, rfl, rfl, rfl, trivial⟩ rfl (by decide) rfl ?_
      clear hs; intro E0 w14 hs
      obtain ⟨qs, hqs⟩ : ∃ q, [0, 2, 5, 18446744073709551615] = q := ⟨_, rfl⟩
      have hql : qs.length = 4 := by rw [← hqs]; rfl
      rw [hqs] at hs
      apply wl_val; apply opv_len; exact rfl; exact tyQ.sl; exact rfl; refine wl_mv rfl rfl ?_; refine wl_ns ?_; refine wc_block ?_
      refine wc_loop (fun L wr mm => ∃ (m : Nat), L = [(7, .pointer (some ⟨t, 0, none⟩)), (13, .pointer (some ⟨x0, 0, none⟩)), (24, .slice Q key.length cq), (162, .slice K2 ks.length c2), (163, .int .i64 (ks.length : Int)), (164, .int .i64 (j : Int)), (168, .slice E0 4 4), (169, .int .i64 4), (170, .int .i64 (m : Int))] ∧ m ≤ 4 ∧
          St M w2 wr [.ow 29 E0 4 4 (u64s qs), .ck (kyC M w2 K2 ks.length vk), .blk x0 49 [.slice C' k1' e1', .slice D1' k2' f2', .int .i64 (l.length : Int), .int .i64 (s' : Int), .slice R l.length rc, .slice F (filtB (keysU l)).length fc], .ck (kp (TbK R F l)), .ck (tblC t l)] ∧ mm = 4 - m)
        [(7, .pointer (some ⟨t, 0, none⟩)), (13, .pointer (some ⟨x0, 0, none⟩)), (24, .slice Q key.length cq), (162, .slice K2 ks.length c2), (163, .int .i64 (ks.length : Int)), (164, .int .i64 (j : Int)), (168, .slice E0 4 4), (169, .int .i64 4), (170, .int .i64 ((0 : Nat) : Int))] 4 ⟨0, rfl, Nat.zero_le _, hs, rfl⟩ ⟨rfl, rfl, rfl, rfl, rfl, rfl, rfl, rfl, rfl, trivial⟩ ?_
      clear hs
      rintro _ w15 mm ⟨m, rfl, hm4, hs, rfl⟩
      refine wc_sr ?_; refine wl_bin rfl rfl bin_lss rfl ?_; refine wl_ns ?_; refine wc_seq ?_
      refine wc_cond rfl (fun h4 => ?_) (fun h4 => ?_)
      · obtain ⟨at_, hat⟩ : ∃ z, qs[m]? = some z := ⟨_, List.getElem?_eq_getElem (by omega)⟩
        have hu := u64s_get hat
        have hrow := (hs.ow 0 rfl).rd
        refine wc_skip ?_; refine we_seq ?_; refine wc_seq ?_; refine wc_block ?_; refine wc_sr ?_; apply wl_elK (T := tyQ) (hr := hrow) (hb := hu); exact rfl; exact rfl; exact rfl; exact rfl; exact rfl; intro _; refine wl_as rfl rfl ?_; refine wl_ns ?_; refine wc_sr ?_; refine wl_mv rfl rfl ?_; refine wl_mv rfl rfl ?_; refine wl_mv rfl rfl ?_
        clear hrow
        obtain ⟨S2, hS2, _, hM, hH, hB⟩ := St.lend (H1 := [.ck (tblC t l)]) (H2 := [_, _, _, _]) (hs.front 4 rfl)
        refine wl_call ok_mem_Table_Get (tget2_any (TX := (66, [])) (m := at_) (key := key) hS2 hord rfl (fun w' hm => hkey _ (hM w' hm)) (fun x h => by have := hmx x h; omega)) ⟨rfl, rfl, rfl, trivial⟩ rfl ?_
        rintro _ w16 ⟨Z, cz, V, cv, rfl, hsx⟩
        replace hs := hB _ _ hsx
        clear hB hsx hS2 hM hH
        unfold enOw at hs
        dsimp only [List.cons_append, List.nil_append] at hs
        obtain ⟨z, hz⟩ : ∃ z, gtE l key at_ = z := ⟨_, rfl⟩
        obtain ⟨bo, hbo⟩ : ∃ b, (getE l key at_).isSome = b := ⟨_, rfl⟩
        have hzl : z.key.length ≤ maxLen ∧ z.val.length ≤ maxLen := by
          rw [← hz, gtE]
          cases hge : getE l key at_ with
          | none => exact ⟨Nat.zero_le _, Nat.zero_le _⟩
          | some x =>
            have := hmx x (getE_mem hge).1
            show x.key.length ≤ maxLen ∧ x.val.length ≤ maxLen
            omega
        rw [hz] at hs
        rw [hz, hbo]
        refine wl_mv rfl rfl ?_; apply wl_val; apply opv_extract; exact rfl; exact rfl; exact rfl; apply wl_val; apply opv_extract; exact rfl; exact rfl; exact rfl
        refine ws_var (cs := enV z Z cz V cv) hs zeroE sE rfl (fun _ => rfl) (by first | rfl | simp [Value.oneCell']) rfl ?_
        clear hs; intro g27 w17 hs
        refine wl_as rfl rfl ?_; refine wl_ns ?_; refine wc_sr ?_; refine wl_mv rfl rfl ?_; refine wl_mv rfl rfl ?_; refine wl_mv rfl rfl ?_
        have hdg := dget_any (m := at_) (kc := cq) (hs.kp 7 rfl) (hs.ar 6 rfl) hk (hkey _ hs.1) rfl (by omega)
        refine wl_call ok_table_Table_Get hdg ⟨rfl, rfl, rfl, trivial⟩ rfl ?_
        clear hdg
        rintro _ w18 ⟨⟨Z2, cz2, V2, cv2, rfl, r1, r2⟩, hbx⟩
        replace hs := hs.below hbx
        clear hbx
        rw [show (getE l key at_).getD noE = z from hz] at r1 r2 ⊢
        rw [hbo]
        refine wl_mv rfl rfl ?_; apply wl_val; apply opv_extract; exact rfl; exact rfl; exact rfl; apply wl_val; apply opv_extract; exact rfl; exact rfl; exact rfl
        refine wl_var (cs := enV z Z2 cz2 V2 cv2) zeroE sE rfl (fun _ => rfl) (by first | rfl | simp [Value.oneCell']) rfl fun g29 w19 hg29 a29 hbx => ?_
        replace hs := hs.newA hbx hg29 a29
        replace r1 := r1.below hbx
        replace r2 := r2.below hbx
        clear hbx hg29 a29
        have hbb : ¬ bo ≠ bo := fun h => h rfl
        refine wl_as rfl rfl ?_; refine wl_ns ?_; refine wc_sr ?_; refine wl_mv rfl rfl ?_; refine wl_mv rfl rfl ?_; apply wl_val; apply opv_bin; exact rfl; exact rfl; exact bin_neqB tyBool; exact rfl; refine wl_mv rfl rfl ?_; apply wl_take; exact rfl; exact rfl; exact rfl; refine bF ?_; (with_reducible assumption); apply wl_val; apply opv_loadX; exact rfl; exact hs.ar 1 rfl; exact sE; exact rfl; apply wl_take; exact rfl; exact rfl; exact rfl; refine bF ?_; (with_reducible assumption); apply wl_val; apply opv_loadX; exact rfl; exact hs.ar 0 rfl; exact sE; exact rfl; apply wl_take; exact rfl; exact rfl; exact rfl; refine bF ?_; (with_reducible assumption)
        refine wl_call ok_caissonref07_Same (sameE_any (x := z) (y := z) (hs.ow 2 rfl).rd (hs.ow 3 rfl).rd r1 r2 hzl.1 hzl.2) ⟨rfl, rfl, trivial⟩ rfl ?_
        rintro _ w20 ⟨⟨q, rfl, hq⟩, hbx⟩
        obtain rfl := hq.2 rfl
        replace hs := hs.below hbx
        clear hq hbx r1 r2
        apply wl_take; exact rfl; exact rfl; exact rfl; refine bF ?_; (with_reducible assumption); apply wl_val; apply opv_not; exact rfl; exact rfl; apply wl_val; apply opv_pickF; exact rfl; refine bF ?_; (with_reducible assumption); exact rfl; exact rfl; refine wl_ns ?_; apply wc_condFb; exact rfl; exact Bool.not_true; refine wc_skip ?_; refine we_block_norm ?_; refine we_seq ?_; refine wc_region ?_; apply wl_val; apply opv_bin; exact rfl; exact rfl; exact bin_add64 (by omega); exact rfl; refine wl_mv rfl rfl ?_; refine wl_nil ?_
        replace hs := (((((((hs.drop 0 rfl).drop 0 rfl).drop 0 rfl).drop 0 rfl).front 4 rfl).front 4 rfl).front 4 rfl).front 4 rfl
        exact we_loop _ (4 - (m + 1)) ⟨m + 1, rfl, by omega, hs, rfl⟩ (by omega) ⟨rfl, rfl, rfl, rfl, rfl, rfl, rfl, rfl, by rw [show ((m + 1 : Nat) : Int) = (m : Int) + 1 by omega]; rfl, trivial⟩
      · refine wc_exit ?_; refine we_seq_exit ?_; refine we_loop_exit ?_; refine we_block_exit ?_; refine we_block_norm ?_; refine we_seq ?_; refine wc_region ?_; apply wl_val; apply opv_bin; exact rfl; exact rfl; exact bin_add64 (by omega); exact rfl; refine wl_mv rfl rfl ?_; refine wl_nil ?_
        exact we_loop _ (ks.length - (j + 1)) ⟨j + 1, rfl, by omega, hs.drop 0 rfl, rfl⟩ (by omega) ⟨rfl, rfl, rfl, rfl, by rw [show ((j + 1 : Nat) : Int) = (j : Int) + 1 by omega]; rfl, trivial⟩
    replace hs := hs.drop 0 rfl
    dsimp only [delC] at hs
    refine wc_exit ?_; refine we_seq_exit ?_; refine we_loop_exit ?_; refine we_block_exit ?_; refine we_seq ?_; refine wc_sr ?_; refine wl_mv rfl rfl ?_
    have hdr := drange_any (hs.kp 1 rfl) (hs.ar 0 rfl) hk hrc
    refine wl_call ok_table_Table_Range hdr ⟨rfl, rfl, rfl, trivial⟩ rfl ?_
    clear hdr
    rintro _ w14 ⟨R9, c9, rfl, hsx⟩
    replace hs := hs.call hsx
    clear hsx
    dsimp only [List.cons_append, List.nil_append] at hs
    refine wl_mv rfl rfl ?_
    obtain ⟨S2, hS2, _, hM, hH, hB⟩ := St.lend (H1 := [.ck (tblC t l)]) (H2 := [_, _, _]) (hs.front 3 rfl)
    refine wl_call ok_mem_Table_Range (trange_any (TX := (66, [])) (key := []) (to := []) hS2 hord rfl (fun w' hm => Rd.nil _ _) rfl (fun w' hm => Rd.nil _ _) (fun x h => by have := hmx x h; omega) (fun x h => hk.sq x h) (by omega)) ⟨rfl, rfl, rfl, trivial⟩ rfl ?_
    rintro _ w15 ⟨R8, c8, rfl, hsx⟩
    replace hs := hB _ _ hsx
    clear hB hsx hS2 hM hH
    dsimp only [List.cons_append, List.nil_append] at hs
    rw [range_nil] at hs
    rw [range_nil]
    skip
    refine wl_call ok_caissonref07_SameList (sameListE_any (OwR.rd (hs.rsE 2 rfl)) (OwR.rd (hs.rsE 0 rfl)) rfl rfl (fun x h => by have := hmx x h; omega) (by omega) (by omega)) ⟨rfl, rfl, trivial⟩ rfl ?_
    rintro _ w16 ⟨⟨q, rfl, hq⟩, hbx⟩
    obtain rfl := hq.2 rfl
    replace hs := hs.below hbx
    refine wl_as rfl rfl ?_; refine wl_ns ?_; refine wc_ret ?_
    exact we_ret1 rfl rfl ⟨_, rfl, rfl, hend hs.1⟩
end Go.Proofs.YtdgagffieobiiaaGreatDoor

/-
  How an argument that is a list of lists of bytes is read.
-/
namespace Go.Proofs.YtdgagffieobiiaaGreatDoor
open Go.RowKit Go.ChangeShapes Go.WideShapes Go.ChangeAt Go.Deep

theorem bulk_row {H : Type} {k : IntKind} {A : Option Addr} {n : Nat} {zs : List Int} (hn : n ≤ zs.length) (h : A = none → n = 0) : n + 1 ≤ Rows.uptoBulk (intRow (H := H) k A n zs) := by
  cases A with
  | none => simp [intRow, Rows.uptoBulk, h rfl]
  | some a =>
    have h3 := bulk_len (H := H) (lits k (zs.take n))
    simp only [intRow, Rows.uptoBulk]
    simp [lits] at h3 ⊢
    omega
theorem bulk_sum {H : Type} (D : Nat → DataW H) (R : Nat → List UInt8) : ∀ (l : List Nat), (∀ r ∈ l, (R r).length + 1 ≤ Rows.uptoBulk (D r)) → (l.map R).flatten.length + l.length ≤ Rows.uptoBulkAll (l.map D)
  | [], _ => by simp [Rows.uptoBulkAll]
  | r :: l, h => by
    have h1 := h r (by simp)
    have h2 := bulk_sum D R l (fun x hx => h x (by simp [hx]))
    simp only [List.map_cons, List.flatten_cons, List.length_append, List.length_cons, Rows.uptoBulkAll]
    omega

section
variable {H : Type} {enc : TypeId × Value → H} {W : World} {a0 : Option Addr} {len0 cap0 : Nat} {d0 : DataW H} {p0 : List MemPlace}

theorem arg_rows (h0 : DataW.Trod enc Tryz.prog W 0 (fun _ => true) true 23 (.slice a0 len0 cap0) d0 p0) :
    ∃ rows : List (List UInt8), rows.length = len0 ∧ RdBB W a0 rows ∧ len0 ≤ cap0 ∧ cap0 ≤ maxLen ∧ rows.flatten.length + rows.length + 1 ≤ Rows.uptoBulk d0 ∧ True := by
  obtain ⟨fuel, hf⟩ := h0
  rcases open_int_rows Tryz.underlying23 Tryz.underlying28 Tryz.underlying5 (by kernel_rfl) (by kernel_rfl) hf with ⟨hcs, hx⟩ | ⟨a, len, cap, A, L, C, Z, hcs, _, hl, hm, hx, hrow⟩
  · simp [Value.cells] at hcs
    obtain ⟨rfl, rfl, rfl⟩ := hcs
    injection hx with hd _
    subst hd
    exact ⟨[], rfl, ⟨[], Rd.nil _ _, by simp⟩, by omega, by simp [maxLen], by simp [Rows.uptoBulk], trivial⟩
  · simp [Value.cells] at hcs
    obtain ⟨rfl, rfl, rfl⟩ := hcs
    injection hx with hd _
    have each : ∀ r, r < cap0 → ∃ xs : List UInt8, xs.length = L r ∧ RdB W (A r) xs := by
      intro r hr
      obtain ⟨_, h1, _, h3, h4, h5, h6⟩ := hrow r hr
      cases hA : A r with
      | none => exact ⟨[], by have := h5 hA; simp; omega, Rd.nil _ _⟩
      | some x => exact bytes_of (n := L r) (by omega) (fun i hi => (h6 x hA).2 i (by omega)) h4
    have hch : ∃ R : Nat → List UInt8, ∀ r, r < cap0 → (R r).length = L r ∧ RdB W (A r) (R r) :=
      ⟨fun r => if h : r < cap0 then Classical.choose (each r h) else [], fun r hr => by
        simp only [dif_pos hr]; exact Classical.choose_spec (each r hr)⟩
    obtain ⟨R, hR⟩ := hch
    refine ⟨(List.range len0).map R, by simp, ⟨(List.range len0).map fun r => .slice (A r) (L r) (C r), ⟨by simp, fun h0 => ?_⟩, fun i q hi => ?_⟩, hl, hm, ?_, trivial⟩
    · simp only [List.length_map, List.length_range] at h0
      obtain ⟨b, o, spot⟩ := a
      have hc0 := (hrow 0 (by omega)).1
      have hspot : spot = none := by simpa [Addr.add] using World.cell?_spot hc0
      subst hspot
      refine ⟨b, o, rfl, World.block_lt_of_cell? W _ (by simpa [Addr.add] using hc0), fun j u hu => ?_⟩
      simp only [List.getElem?_map] at hu
      by_cases hj : j < len0
      · rw [List.getElem?_range hj] at hu
        simp only [Option.map_some, Option.some.injEq] at hu
        have h1 := (hrow j (by omega)).1
        rw [Addr.add_lit] at h1
        rw [h1, hu]
      · rw [List.getElem?_eq_none (by simp; omega)] at hu; simp at hu
    · simp only [List.getElem?_map] at hi
      by_cases hj : i < len0
      · rw [List.getElem?_range hj] at hi
        simp only [Option.map_some, Option.some.injEq] at hi
        subst hi
        obtain ⟨e1, e2⟩ := hR i (by omega)
        exact ⟨A i, C i, by rw [List.getElem?_map, List.getElem?_range hj, e1]; rfl, e2, by rw [e1]; exact (hrow i (by omega)).2.1⟩
      · rw [List.getElem?_eq_none (by simp; omega)] at hi; simp at hi
    · rw [hd]
      simp only [Rows.uptoBulk]
      have := bulk_sum (fun r => intRow (H := H) .u8 (A r) (L r) (Z r)) R (List.range len0) (fun r hr => by
        have hr' := List.mem_range.1 hr
        obtain ⟨_, h1, _, h3, h4, h5, h6⟩ := hrow r (by omega)
        rw [(hR r (by omega)).1]
        exact bulk_row (by omega) (fun h => by have := h5 h; omega))
      simp only [List.length_map, List.length_range] at this ⊢
      omega
end
end Go.Proofs.YtdgagffieobiiaaGreatDoor
