/-
  The texts of this proof, joined: Jq, Jr, Js.
-/
import Derived.Test.YtpnckagibkdcpaaSamM3
import Derived.Test.YtpnckagibkdcpaaSamM1

/-
  How arguments that are entries, or lists of them, are read; walks over awake and over the laws MergeSees and MergeKeeps.
-/
namespace Go.Proofs.Ytpnckagibkdcpaa
open Go.RowKit Go.ChangeShapes Go.WideShapes Go.ChangeAt Go.Deep

theorem open_boolV {H : Type} {enc : TypeId × Value → H} {P : Program} {w : World} {base : Nat} {spare : Nat → Bool} {held : Bool} {t : TypeId} {b : Bool} {d : DataW H} {ps : List MemPlace} (ht : P.underlying t = some .bool) (hd : DataW.Trod enc P w base spare held t (.bool b) d ps) : d = .lit (.bool b) ∧ ps = [] := by
  obtain ⟨fuel, hf⟩ := hd
  obtain ⟨b', h, hx⟩ := DataW.trod_bool ht hf
  simp [Value.cells] at h
  subst h
  simp only [Prod.mk.injEq] at hx
  exact hx
def enB (x : En) : Nat := x.key.length + x.val.length
theorem opens_entry : Opens Try.prog 56 enEl 4 enB (fun x => x.seq < 2 ^ 64) := fun {H} enc W fuel cs x h => by
  obtain ⟨xs, n, rfl, rfl, hl, hx, hf⟩ := DataW.trod_struct Try.underlying56 h
  replace hl : cs.length = 4 := hl.trans (by kernel_rfl)
  obtain ⟨c0, c1, c2, c3, rfl⟩ := len4 hl
  obtain ⟨y0, y1, y2, y3, rfl⟩ := len4 hx
  obtain ⟨a0, h0, _, k0, b0⟩ := opens_bytes enc W n [c0] y0 (field_at hf (i := 0) (off := 0) (k := 1) (t := 24) rfl rfl rfl (by kernel_rfl))
  obtain ⟨a1, h1, _, k1, b1⟩ := opens_int Try.underlying26 enc W n [c1] y1 (field_at hf (i := 1) (off := 1) (k := 1) (t := 26) rfl rfl rfl (by kernel_rfl))
  obtain ⟨a2, h2, _, k2, b2⟩ := opens_int Try.underlying5 enc W n [c2] y2 (field_at hf (i := 2) (off := 2) (k := 1) (t := 5) rfl rfl rfl (by kernel_rfl))
  obtain ⟨a3, h3, _, k3, b3⟩ := opens_bytes enc W n [c3] y3 (field_at hf (i := 3) (off := 3) (k := 1) (t := 24) rfl rfl rfl (by kernel_rfl))
  obtain rfl : c1 = .int .u64 a1 := by simpa [vEl] using h1
  obtain rfl : c2 = .int .u8 a2 := by simpa [vEl] using h2
  have k1' : 0 ≤ a1 ∧ a1 ≤ 18446744073709551615 := by simpa [Lit.wf, IntKind.min, IntKind.max, IntKind.signed, IntKind.bits] using k1
  have k2' : 0 ≤ a2 ∧ a2 ≤ 255 := by simpa [Lit.wf, IntKind.min, IntKind.max, IntKind.signed, IntKind.bits] using k2
  obtain ⟨s, rfl⟩ := Int.eq_ofNat_of_zero_le k1'.1
  obtain ⟨q, rfl⟩ := Int.eq_ofNat_of_zero_le k2'.1
  have h0' := h0
  have h3' := h3
  obtain ⟨A, c, e0, _⟩ := h0
  obtain ⟨B, d, e3, _⟩ := h3
  obtain rfl : c0 = .slice A a0.length c := by simpa using e0
  obtain rfl : c3 = .slice B a3.length d := by simpa using e3
  refine ⟨⟨a0, s, UInt8.ofNat q, a3⟩, ⟨A, c, B, d, ?_, h0', h3'⟩, rfl, ?_, ?_⟩
  · have : (UInt8.ofNat q).toNat = q := by rw [UInt8.toNat_ofNat', Nat.mod_eq_of_lt (by omega)]
    simp [enV, this]
  · show s < 2 ^ 64; omega
  · replace b0 : a0.length + 1 ≤ _ := b0
    replace b3 : a3.length + 1 ≤ _ := b3
    simp only [enB, Rows.uptoBulk, Rows.uptoBulkAll, List.map_cons, List.map_nil]
    omega
abbrev uEl (m : Nat) : El := vEl (.int .u64 (m : Int))
theorem opens_u64 : Opens Try.prog 26 uEl 1 (fun _ => 0) (fun m => m < 2 ^ 64) := fun {H} enc W fuel cs x h => by
  obtain ⟨a, h1, h2, k, b⟩ := opens_int Try.underlying26 enc W fuel cs x h
  have k' : 0 ≤ a ∧ a ≤ 18446744073709551615 := by simpa [Lit.wf, IntKind.min, IntKind.max, IntKind.signed, IntKind.bits] using k
  obtain ⟨s, rfl⟩ := Int.eq_ofNat_of_zero_le k'.1
  exact ⟨s, h1, h2, by omega, b⟩
theorem tkU : RowK Try.prog 41 26 1 (.int .u64 0) 8 := ⟨Try.underlying41, by kernel_rfl, rfl, by decide⟩
theorem opens_entries : Opens Try.prog 40 (fun l : List En => rowEl 4 (l.map enEl)) 1 (sumB enB) (fun l => ∀ x ∈ l, x.seq < 2 ^ 64) := opens_slice tkE (by kernel_rfl) opens_entry
theorem opens_u64s : Opens Try.prog 41 (fun l : List Nat => rowEl 1 (l.map uEl)) 1 (sumB fun _ => 0) (fun l => ∀ m ∈ l, m < 2 ^ 64) := opens_slice tkU (by kernel_rfl) opens_u64
theorem flat_u64s : ∀ (ms : List Nat), (ms.map fun (m : Nat) => [Value.int .u64 (m : Int)]).flatten = u64s ms
  | [] => rfl
  | m :: ms => by rw [List.map_cons, List.flatten_cons, flat_u64s ms]; rfl
theorem rd_u64s {w : World} {S : BS} {A : Option Addr} {ms : List Nat} (h : RdR 1 w S A (ms.map uEl)) : Rd w A ms.length (u64s ms) := by
  obtain ⟨css, h1, h2, _⟩ := h
  have he : css.flatten = u64s ms := by
    have hl := h1.1
    rw [List.length_map] at hl
    have : css = ms.map fun (m : Nat) => [Value.int .u64 (m : Int)] := by
      apply List.ext_getElem?
      intro i
      cases hi : css[i]? with
      | none => rw [List.getElem?_eq_none]; have := List.getElem?_eq_none_iff.1 hi; simp; omega
      | some cs =>
        obtain ⟨_, E, hE, hp⟩ := h1.2 i cs hi
        rw [List.getElem?_map] at hE ⊢
        cases hm : ms[i]? with
        | none => rw [hm] at hE; cases hE
        | some m => rw [hm] at hE; cases hE; exact congrArg some hp
    rw [this, flat_u64s]
  rw [he, List.length_map, Nat.mul_one] at h2
  exact h2
theorem ent_small {l : List En} (h : sumB enB l ≤ 1048576) : l.length ≤ 1048576 ∧ ∀ x ∈ l, x.key.length ≤ 1048576 ∧ x.val.length ≤ 1048576 := by
  have h1 := sumB_len (bulk := enB) l
  refine ⟨by omega, fun x hx => ?_⟩
  have h2 := sumB_mem (bulk := enB) hx
  have h3 : enB x = x.key.length + x.val.length := rfl
  omega
theorem w_ok {l : List En} (h : worstE [l] = 0) : checkE l = 0 ∧ Ord l := by
  have h1 : stepW 0 l = 0 := h
  unfold stepW errE at h1
  rcases checkE_le l with h0 | h0 | h0
  · cases ho : ordE l with
    | true => exact ⟨h0, ord_of ho⟩
    | false => rw [h0, ho] at h1; simp at h1
  · rw [h0] at h1; simp at h1
  · rw [h0] at h1; simp at h1
theorem check_ok {l : List En} (h : checkE l = 0) : ∀ x ∈ l, bigE x = false ∧ badE x = false := by
  intro x hx
  unfold checkE at h
  split at h
  · cases h
  · rename_i h1
    split at h
    · cases h
    · rename_i h2
      simp only [Bool.not_eq_true] at h1 h2
      have h1' := List.any_eq_false.1 h1 x hx
      have h2' := List.any_eq_false.1 h2 x hx
      simp only [Bool.not_eq_true] at h1' h2'
      exact ⟨h1', h2'⟩
theorem kind_ok {x : En} (h : badE x = false) : x.kind = 1 ∨ x.kind = 2 := by
  have := of_decide_eq_false h
  rcases Decidable.not_not.1 this with h | ⟨h, _⟩
  · exact .inl h
  · exact .inr h
theorem few_mem {l : List En} {n : Nat} {x : En} (h : x ∈ l.take n) : x ∈ l := List.mem_of_mem_take h
/-- The program's own list, of one key. -/
def awakeL : List En := [⟨[107], 9, 1, []⟩, ⟨[107], 7, 1, []⟩, ⟨[107], 5, 1, []⟩, ⟨[107], 3, 1, []⟩]
theorem awake_keep : worstE [awakeL] = 0 ∧ keepE awakeL false [6] = [⟨[107], 9, 1, []⟩, ⟨[107], 5, 1, []⟩] := by decide
set_option maxRecDepth 8000 in
theorem awake_any (w : World) : CallsV Try.prog 21 #[] w fun v w' => v = .bool true ∧ Below w.heap.size w w' := by
  have hs := St.init w
  refine calls_in (N := _) Try.func21 rfl Try.ntmps21 rfl ?_; show WC _ _ _ _ _ _
  refine wc_sr ?_; refine wl_as rfl rfl ?_; refine wl_ns ?_; refine wc_sr ?_
  refine ws_lit hs [107] tyB Try.underlying5 ⟨rfl, rfl, rfl, trivial⟩ rfl (by decide) (by decide) rfl rfl ?_
  clear hs; intro _ A w1 hs
  refine wl_as rfl rfl ?_; refine wl_ns ?_; refine wc_sr ?_; refine wl_mv rfl rfl ?_
  refine wl_val (opv_build (vs := [(0, .slice A 1 1), (1, .int .u64 9), (2, .int .u8 1)]) (cs := enV ⟨[107], 9, 1, []⟩ A 1 none 0) ⟨rfl, rfl, rfl, rfl, rfl, rfl, trivial⟩ (by kernel_rfl)) rfl ?_
  refine wl_mv rfl rfl ?_
  refine wl_val (opv_build (vs := [(0, .slice A 1 1), (1, .int .u64 7), (2, .int .u8 1)]) (cs := enV ⟨[107], 7, 1, []⟩ A 1 none 0) ⟨rfl, rfl, rfl, rfl, rfl, rfl, trivial⟩ (by kernel_rfl)) rfl ?_
  refine wl_mv rfl rfl ?_
  refine wl_val (opv_build (vs := [(0, .slice A 1 1), (1, .int .u64 5), (2, .int .u8 1)]) (cs := enV ⟨[107], 5, 1, []⟩ A 1 none 0) ⟨rfl, rfl, rfl, rfl, rfl, rfl, trivial⟩ (by kernel_rfl)) rfl ?_
  refine wl_mv rfl rfl ?_
  refine wl_val (opv_build (vs := [(0, .slice A 1 1), (1, .int .u64 3), (2, .int .u8 1)]) (cs := enV ⟨[107], 3, 1, []⟩ A 1 none 0) ⟨rfl, rfl, rfl, rfl, rfl, rfl, trivial⟩ (by kernel_rfl)) rfl ?_
  skip
  have hby : ∀ {w' : World}, Below w1.heap.size w1 w' → (byEl [107]).P w' All [.slice A 1 1] := fun hb => El.below (hs.ce 0 rfl) hb
  have hen : ∀ (s : Nat), (enEl ⟨[107], s, 1, []⟩).P w1 All (enV ⟨[107], s, 1, []⟩ A 1 none 0) := fun s => enEl.mk (hby (Below.refl _ _)) (byEl.mk (xs := []) (Rd.nil _ _) (Nat.zero_le _) fun _ _ _ => trivial)
  refine wl_bsG (css := [enV ⟨[107], 9, 1, []⟩ A 1 none 0, enV ⟨[107], 7, 1, []⟩ A 1 none 0, enV ⟨[107], 5, 1, []⟩ A 1 none 0, enV ⟨[107], 3, 1, []⟩ A 1 none 0]) tkE ⟨rfl, ⟨_, rfl, rfl⟩, rfl, rfl, ⟨_, rfl, rfl⟩, rfl, rfl, ⟨_, rfl, rfl⟩, rfl, rfl, ⟨_, rfl, rfl⟩, rfl, trivial⟩ (els := awakeL.map enEl) rfl (by decide) (by decide)
    ((Grp.one (hen 9) rfl).append ((Grp.one (hen 7) rfl).append ((Grp.one (hen 5) rfl).append (Grp.one (hen 3) rfl)))) rfl fun R w2 hR hbx _ => ?_
  replace hs := hs.below hbx
  have hR := OwR.rd hR
  skip
  refine wl_bs (vs := [.int .u64 6]) tyU ⟨rfl, rfl, rfl, trivial⟩ rfl (by decide) rfl fun B w3 ho3 hbx3 _ => ?_
  replace hs := hs.below hbx3
  replace hR := hR.below hbx3
  refine wl_call ok_merge_Keep (keep_any (bt := false) (ms := [6]) (nb := 1) hR rfl (by decide) (Ow.rd ho3) (by decide) (by decide) (by decide)) ⟨rfl, rfl, rfl, trivial⟩ rfl ?_
  rintro _ w4 ⟨P, cp, rfl, hsx⟩
  rw [awake_keep.1, if_pos rfl, awake_keep.2] at hsx
  rw [awake_keep.1, if_pos rfl, awake_keep.2]
  obtain ⟨b, o, cs, rfl, _, _, hp, i1⟩ := RdR.at (k := 4) (by decide) (OwR.rd (hsx.rg 0 rfl)) (E := enEl ⟨[107], 9, 1, []⟩) (i := 0) rfl
  obtain ⟨_, _, cs2, hA, _, _, hp2, i2⟩ := RdR.at (k := 4) (by decide) (OwR.rd (hsx.rg 0 rfl)) (E := enEl ⟨[107], 5, 1, []⟩) (i := 1) rfl
  simp only [Option.some.injEq, Addr.mk.injEq, and_true] at hA
  obtain ⟨rfl, rfl⟩ := hA
  obtain ⟨U, cu, U2, cu2, rfl, _⟩ := enEl.rd (El.all hp)
  obtain ⟨V, cv, V2, cv2, rfl, _⟩ := enEl.rd (El.all hp2)
  unfold enV at i1 i2
  have hb4 := hs.bel.trans (hsx.bel.mono hs.size)
  have j0 : ((0 : Nat) : Int) = 0 := rfl
  refine wl_mv rfl rfl ?_; apply wl_val; apply opv_extract; exact rfl; exact rfl; exact rfl; apply wl_val; apply opv_extract; exact rfl; exact rfl; exact rfl; refine wl_as rfl rfl ?_; refine wl_as rfl rfl ?_; refine wl_ns ?_; refine wc_sr ?_; refine wl_mv rfl rfl ?_; refine wl_bin rfl rfl bin_eql rfl ?_; refine wl_mv rfl rfl ?_; apply wl_take; exact rfl; exact rfl; exact rfl; refine bT ?_; (with_reducible assumption); refine wl_mv rfl rfl ?_; apply wl_take; exact rfl; exact rfl; exact rfl; refine bT ?_; (with_reducible assumption); apply wl_val; apply opv_len; exact rfl; exact tkE.sl; exact rfl; apply wl_take; exact rfl; exact rfl; exact rfl; refine bT ?_; (with_reducible assumption); refine wl_bin rfl rfl bin_eql rfl ?_; apply wl_val; apply opv_pickT; exact rfl; refine bT ?_; (with_reducible assumption); exact rfl; exact rfl; refine wl_mv rfl rfl ?_; apply wl_take; exact rfl; exact rfl; exact rfl; refine bT ?_; exact rfl; refine wl_mv rfl rfl ?_; apply wl_take; exact rfl; exact rfl; exact rfl; refine bT ?_; exact rfl; apply wl_val; apply opv_idxG (kk := 0) tkE; exact rfl; exact rfl; exact rfl; exact Nat.le_of_ble_eq_true rfl; exact rfl; apply wl_take; exact rfl; exact rfl; exact rfl; refine bT ?_; exact rfl; apply wl_val; apply opv_fa; exact fa_sE (by decide); exact rfl; exact rfl; apply wl_take; exact rfl; exact rfl; exact rfl; refine bT ?_; exact rfl; apply wl_val; apply opv_ldW; exact rfl; assumption; exact e1_u64; exact rfl; exact rfl; apply wl_take; exact rfl; exact rfl; exact rfl; refine bT ?_; exact rfl; refine wl_bin rfl rfl bin_eql rfl ?_; apply wl_val; apply opv_pickT; exact rfl; refine bT ?_; exact rfl; exact rfl; exact rfl; refine wl_mv rfl rfl ?_; apply wl_take; exact rfl; exact rfl; exact rfl; refine bT ?_; exact rfl; refine wl_mv rfl rfl ?_; apply wl_take; exact rfl; exact rfl; exact rfl; refine bT ?_; exact rfl; apply wl_val; apply opv_idxG (kk := 1) tkE; exact rfl; exact rfl; exact rfl; exact Nat.le_of_ble_eq_true rfl; exact rfl; apply wl_take; exact rfl; exact rfl; exact rfl; refine bT ?_; exact rfl; apply wl_val; apply opv_fa; exact fa_sE (by decide); exact rfl; exact rfl; apply wl_take; exact rfl; exact rfl; exact rfl; refine bT ?_; exact rfl; apply wl_val; apply opv_ldW; exact rfl; assumption; exact e1_u64; exact rfl; exact rfl; apply wl_take; exact rfl; exact rfl; exact rfl; refine bT ?_; exact rfl; refine wl_bin rfl rfl bin_eql rfl ?_; apply wl_val; apply opv_pickT; exact rfl; refine bT ?_; exact rfl; exact rfl; exact rfl; refine wl_as rfl rfl ?_; refine wl_ns ?_; refine wc_ret ?_
  exact we_ret1 rfl rfl ⟨_, rfl, rfl, hb4⟩
abbrev RetTr (w : World) (v : Value) (w' : World) : Prop := v = .bool true ∧ Below w.heap.size w w'
theorem rows_one {w : World} {A : Option Addr} {n c : Nat} {l : List En} (hr : RdR 4 w All A (l.map enEl)) (hn : l.length = n) (hc : n ≤ c) : Grp 1 w All (rowsE [l]) [[.slice A n c]] :=
  Grp.one (by subst hn; have := rowEl.mk hr (c := c) (by simpa using hc) (by decide); simpa using this) rfl
theorem sees_any {A : Option Addr} {n c m : Nat} {l : List En} {w : World} (hr : RdR 4 w All A (l.map enEl)) (hn : l.length = n) (hc : n ≤ c) (hsq : ∀ x ∈ l, x.seq < 2 ^ 64) (hl : sumB enB l ≤ 1048576) (hm : m < 2 ^ 64) :
    CallsV Try.prog 5 #[.slice A n c, .int .u64 (m : Int)] w (RetTr w) := by
  obtain ⟨hl1, hok1⟩ := ent_small hl
  have hs := St.init w
  refine calls_in (N := _) Try.func5 rfl Try.ntmps5 rfl ?_; show WC _ _ _ _ _ _
  refine wc_sr ?_; refine wl_as rfl rfl ?_; refine wl_ns ?_; refine wc_seq ?_; refine wc_sr ?_
  refine wl_call ok_caissonlaw11_awake (awake_any _) trivial rfl ?_; rintro _ _ ⟨rfl, hbx⟩; replace hs := hs.below hbx; try dsimp only [List.cons_append, List.nil_append, setC, delC] at hs
  apply wl_val; apply opv_not; exact rfl; exact rfl; refine wl_ns ?_; apply wc_condFb; exact rfl; exact Bool.not_true; refine wc_skip ?_; refine we_seq ?_; refine wc_sr ?_; refine wl_mv rfl rfl ?_
  refine wl_call ok_caissonlaw11_few (few_any (m := 60) hn hc) ⟨rfl, rfl, trivial⟩ rfl ?_; rintro _ _ ⟨rfl, rfl⟩
  have hr2 := take_rdr (m := 60) hr (by omega)
  have hok : ∀ x ∈ l.take 60, x.key.length ≤ 1048576 ∧ x.val.length ≤ 1048576 := fun x hx => hok1 x (few_mem hx)
  have hsq2 : ∀ x ∈ l.take 60, x.seq < 2 ^ 64 := fun x hx => hsq x (few_mem hx)
  have hlen : (l.take 60).length ≤ 60 := by rw [List.length_take]; omega
  have hlc : (l.take 60).length ≤ c := by rw [List.length_take]; omega
  obtain ⟨k, hk⟩ : ∃ q, l.take 60 = q := ⟨_, rfl⟩
  rw [hk] at hr2 hok hsq2 hlen hlc
  rw [hk]
  clear hr hok1 hsq hk
  refine wl_as rfl rfl ?_; refine wl_ns ?_; refine wc_sr ?_; refine wl_mv rfl rfl ?_
  refine wl_call ok_caissonref07_Twins (twinsE_any (hr2.below hs.bel) rfl (fun x hx => by have := hok x hx; omega) (by omega)) ⟨rfl, trivial⟩ rfl ?_
  rintro _ w2 ⟨B, d, rfl, hB, hbx2⟩
  replace hs := hs.below hbx2
  have hBl := OwR.len_le hB
  rw [List.length_map] at hBl
  refine wl_mv rfl rfl ?_
  refine wl_call ok_merge_Visible (visible_any (m := m) (OwR.rd hB) rfl hBl (fun x hx => by have := hok x hx; omega) (by omega)) ⟨rfl, rfl, trivial⟩ rfl ?_
  rintro _ w3 ⟨P, cp, rfl, hsx⟩
  replace hs := hs.call hsx
  dsimp only [List.cons_append, List.nil_append] at hs
  refine wl_mv rfl rfl ?_; apply wl_val; apply opv_extract; exact rfl; exact rfl; exact rfl; apply wl_val; apply opv_extract; exact rfl; exact rfl; exact rfl; refine wl_as rfl rfl ?_; refine wl_as rfl rfl ?_; refine wl_ns ?_; refine wc_sr ?_; refine wl_mv rfl rfl ?_
  refine wl_bsG (css := [[.slice A k.length c]]) tkEE ⟨rfl, ⟨_, rfl, rfl⟩, rfl, trivial⟩ (els := rowsE [k]) rfl (by decide) (by decide) (rows_one (hr2.below hs.bel) rfl hlc) rfl fun R w4 hR hbx4 _ => ?_
  replace hs := hs.below hbx4
  skip
  refine wl_call ok_caissonref11_Check (refCheck11_any (lists := [k]) (OwR.rd hR) rfl (by intro l' h; simp at h; subst h; exact ⟨by omega, fun x hx => by have := hok x hx; simp only [maxLen]; omega⟩) (by simp)) ⟨rfl, trivial⟩ rfl ?_; rintro _ _ ⟨rfl, hbx5⟩; replace hs := hs.below hbx5; try dsimp only [List.cons_append, List.nil_append, setC, delC] at hs
  obtain ⟨e, he⟩ : ∃ q, worstE [k] = q := ⟨_, rfl⟩
  rw [he] at hs
  rw [he]
  by_cases h0 : e = 0
  · subst h0
    rw [if_pos rfl] at hs
    rw [if_pos rfl]
    obtain ⟨hck, hord⟩ := w_ok he
    refine wl_as rfl rfl ?_; refine wl_ns ?_; refine wc_seq ?_; refine wc_sr ?_; refine wl_mv rfl rfl ?_; refine wl_mv rfl rfl ?_; refine wl_bin rfl rfl bin_neq rfl ?_; refine wl_ns ?_; apply wc_condFb; exact rfl; exact rfl; refine wc_skip ?_; refine we_seq ?_; refine wc_seq ?_; refine wc_sr ?_; refine wl_mv rfl rfl ?_; refine wl_bin rfl rfl bin_neq rfl ?_; refine wl_ns ?_; apply wc_condFb; exact rfl; exact rfl; refine wc_skip ?_; refine we_seq ?_; refine wc_sr ?_; refine wl_mv rfl rfl ?_; refine wl_mv rfl rfl ?_; refine wl_mv rfl rfl ?_
    refine wl_call ok_caissonref11_Visible (refVisible_any (S := All) (m := m) (hr2.below hs.bel) rfl (fun x hx => by have := hok x hx; simp only [maxLen]; exact ⟨by omega, hsq2 x hx⟩) (by omega)) ⟨rfl, rfl, trivial⟩ rfl ?_
    rintro _ w6 ⟨V, cv, rfl, hV, hbx6⟩
    replace hs := hs.below hbx6
    have hvl : (refVis k m).length ≤ 60 := Nat.le_trans (List.length_filter_le _ _) hlen
    rw [vis_eq hord m] at hs
    rw [vis_eq hord m]
    refine wl_call ok_caissonref07_SameList (sameListE_any (OwR.rd (hs.rg 0 rfl)) (OwR.rd hV) rfl rfl (fun x hx => by have := hok x (List.mem_filter.1 hx).1; simp only [maxLen]; omega) (by omega) (by omega)) ⟨rfl, rfl, trivial⟩ rfl ?_
    rintro _ w7 ⟨⟨b, rfl, hb⟩, hbx7⟩
    obtain rfl := hb.2 rfl
    replace hs := hs.below hbx7
    refine wl_as rfl rfl ?_; refine wl_ns ?_; refine wc_ret ?_
    exact we_ret1 rfl rfl ⟨_, rfl, rfl, hs.bel⟩
  · rw [if_neg h0] at hs
    rw [if_neg h0]
    have h0' : (e : Int) ≠ 0 := by omega
    refine wl_as rfl rfl ?_; refine wl_ns ?_; refine wc_seq ?_; refine wc_sr ?_; refine wl_mv rfl rfl ?_; refine wl_mv rfl rfl ?_; refine wl_bin rfl rfl bin_neq rfl ?_; refine wl_ns ?_; apply wc_decF; exact rfl; (with_reducible exact nne); refine wc_skip ?_; refine we_seq ?_; refine wc_seq ?_; refine wc_sr ?_; refine wl_mv rfl rfl ?_; refine wl_bin rfl rfl bin_neq rfl ?_; refine wl_ns ?_; apply wc_decT; exact rfl; (with_reducible assumption); refine wc_sr ?_; refine wl_mv rfl rfl ?_; apply wl_val; apply opv_len; exact rfl; exact tkE.sl; exact rfl; refine wl_bin rfl rfl bin_eql rfl ?_; refine wl_as rfl rfl ?_; refine wl_ns ?_; refine wc_ret ?_; refine we_seq_ret ?_
    exact we_ret1 rfl rfl ⟨_, rfl, rfl, hs.bel⟩
theorem u64s_one (ms : List Nat) : ∀ u ∈ u64s ms, u.oneCell' = true := by
  intro u hu; simp [u64s] at hu; obtain ⟨_, _, rfl⟩ := hu; rfl
set_option maxRecDepth 4000 in
theorem keeps_any {A B : Option Addr} {n c nb cb : Nat} {l : List En} {bt : Bool} {ms : List Nat} {w : World} (hr : RdR 4 w All A (l.map enEl)) (hn : l.length = n) (hc : n ≤ c) (hsq : ∀ x ∈ l, x.seq < 2 ^ 64) (hl : sumB enB l ≤ 1048576) (hm0 : RdR 1 w All B (ms.map uEl)) (hnb : ms.length = nb) (hcb : nb ≤ cb) (_hms : ∀ m ∈ ms, m < 2 ^ 64) (hml : (sumB (fun _ => 0) ms : Nat) ≤ 1048576) :
    CallsV Try.prog 4 #[.slice A n c, .bool bt, .slice B nb cb] w (RetTr w) := by
  obtain ⟨hl1, hok1⟩ := ent_small hl
  have hm := rd_u64s hm0
  have hml1 := sumB_len (bulk := fun _ : Nat => 0) ms
  subst hnb
  have hs := St.init w
  refine calls_in (N := _) Try.func4 rfl Try.ntmps4 rfl ?_; show WC _ _ _ _ _ _
  refine wc_sr ?_; refine wl_as rfl rfl ?_; refine wl_ns ?_; refine wc_seq ?_; refine wc_sr ?_
  refine wl_call ok_caissonlaw11_awake (awake_any _) trivial rfl ?_; rintro _ _ ⟨rfl, hbx⟩; replace hs := hs.below hbx; try dsimp only [List.cons_append, List.nil_append, setC, delC] at hs
  apply wl_val; apply opv_not; exact rfl; exact rfl; refine wl_ns ?_; apply wc_condFb; exact rfl; exact Bool.not_true; refine wc_skip ?_; refine we_seq ?_; refine wc_sr ?_; refine wl_mv rfl rfl ?_
  refine wl_call ok_caissonlaw11_few (few_any (m := 40) hn hc) ⟨rfl, rfl, trivial⟩ rfl ?_; rintro _ _ ⟨rfl, rfl⟩
  have hr2 := take_rdr (m := 40) hr (by omega)
  have hok : ∀ x ∈ l.take 40, x.key.length ≤ 1048576 ∧ x.val.length ≤ 1048576 := fun x hx => hok1 x (few_mem hx)
  have hsq2 : ∀ x ∈ l.take 40, x.seq < 2 ^ 64 := fun x hx => hsq x (few_mem hx)
  have hlen : (l.take 40).length ≤ 40 := by rw [List.length_take]; omega
  have hlc : (l.take 40).length ≤ c := by rw [List.length_take]; omega
  obtain ⟨k, hk⟩ : ∃ q, l.take 40 = q := ⟨_, rfl⟩
  rw [hk] at hr2 hok hsq2 hlen hlc
  rw [hk]
  clear hr hok1 hsq hk
  refine wl_as rfl rfl ?_; refine wl_ns ?_; refine wc_sr ?_; refine wl_mv rfl rfl ?_
  refine wl_call ok_caissonref07_Twins (twinsE_any (hr2.below hs.bel) rfl (fun x hx => by have := hok x hx; omega) (by omega)) ⟨rfl, trivial⟩ rfl ?_
  rintro _ w2 ⟨D, d, rfl, hB, hbx2⟩
  replace hs := hs.newG hbx2 hB (Nat.le_refl _) fun _ _ h => h
  have hBl := OwR.len_le hB
  rw [List.length_map] at hBl
  refine wl_mv rfl rfl ?_
  refine ws_bs (vs := []) hs tyU trivial rfl (by decide) rfl ?_
  clear hs; intro E0 w3 hs
  refine wl_mv rfl rfl ?_
  refine ws_app (ys := u64s ms) (m := ms.length) hs 0 rfl rfl tyU rfl (hm.below hs.bel) (u64s_one ms) (by omega) (by simp only [maxLen]; omega) rfl ?_
  clear hs; intro E1 c1 w4 hs; dsimp only [setC] at hs
  rw [List.nil_append, Nat.zero_add] at hs
  rw [Nat.zero_add]
  refine wl_call ok_merge_Keep (keep_any (bt := bt) (ms := ms) (OwR.rd (hs.rg 1 rfl)) rfl hBl (hs.ow 0 rfl).rd (fun x hx => by have := hok x hx; omega) (by omega) (by omega)) ⟨rfl, rfl, rfl, trivial⟩ rfl ?_
  rintro _ w5 ⟨P, cp, rfl, hsx⟩
  replace hs := ((hs.drop 0 rfl).drop 0 rfl).call hsx
  dsimp only [delC, List.cons_append, List.nil_append] at hs
  refine wl_mv rfl rfl ?_; apply wl_val; apply opv_extract; exact rfl; exact rfl; exact rfl; apply wl_val; apply opv_extract; exact rfl; exact rfl; exact rfl; refine wl_as rfl rfl ?_; refine wl_as rfl rfl ?_; refine wl_ns ?_; refine wc_sr ?_; refine wl_mv rfl rfl ?_
  refine wl_bsG (css := [[.slice A k.length c]]) tkEE ⟨rfl, ⟨_, rfl, rfl⟩, rfl, trivial⟩ (els := rowsE [k]) rfl (by decide) (by decide) (rows_one (hr2.below hs.bel) rfl hlc) rfl fun R w6 hR hbx4 _ => ?_
  replace hs := hs.below hbx4
  skip
  refine wl_call ok_caissonref11_Check (refCheck11_any (lists := [k]) (OwR.rd hR) rfl (by intro l' h; simp at h; subst h; exact ⟨by omega, fun x hx => by have := hok x hx; simp only [maxLen]; omega⟩) (by simp)) ⟨rfl, trivial⟩ rfl ?_; rintro _ _ ⟨rfl, hbx5⟩; replace hs := hs.below hbx5; try dsimp only [List.cons_append, List.nil_append, setC, delC] at hs
  obtain ⟨e, he⟩ : ∃ q, worstE [k] = q := ⟨_, rfl⟩
  rw [he] at hs
  rw [he]
  by_cases h0 : e = 0
  · subst h0
    rw [if_pos rfl] at hs
    rw [if_pos rfl]
    obtain ⟨hck, hord⟩ := w_ok he
    have hkd : ∀ x ∈ k, x.kind = 1 ∨ x.kind = 2 := fun x hx => kind_ok (check_ok hck x hx).2
    refine wl_as rfl rfl ?_; refine wl_ns ?_; refine wc_seq ?_; refine wc_sr ?_; refine wl_mv rfl rfl ?_; refine wl_mv rfl rfl ?_; refine wl_bin rfl rfl bin_neq rfl ?_; refine wl_ns ?_; apply wc_condFb; exact rfl; exact rfl; refine wc_skip ?_; refine we_seq ?_; refine wc_seq ?_; refine wc_sr ?_; refine wl_mv rfl rfl ?_; refine wl_bin rfl rfl bin_neq rfl ?_; refine wl_ns ?_; apply wc_condFb; exact rfl; exact rfl; refine wc_skip ?_; refine we_seq ?_; refine wc_sr ?_; refine wl_mv rfl rfl ?_; refine wl_mv rfl rfl ?_; refine wl_mv rfl rfl ?_; refine wl_mv rfl rfl ?_
    refine wl_call ok_caissonref11_Keep (refKeep_any (S := All) (bt := bt) (ms := ms) (hr2.below hs.bel) rfl (hm.below hs.bel) (fun x hx => by have := hok x hx; simp only [maxLen]; omega) (by omega) (by omega)) ⟨rfl, rfl, rfl, trivial⟩ rfl ?_
    rintro _ w7 ⟨V, cv, rfl, hV, hbx6⟩
    replace hs := hs.below hbx6
    rw [keep_eq hord hsq2 hkd] at hs
    rw [keep_eq hord hsq2 hkd]
    have hvl : (refKeep k bt ms).length ≤ 40 := by
      rw [← keep_eq hord hsq2 hkd]
      have := flat_len (keepR_len bt ms) (runsE k)
      rw [runs_sum] at this
      exact Nat.le_trans this hlen
    have hvm : ∀ x ∈ refKeep k bt ms, x ∈ k := fun x hx => by
      rw [← keep_eq hord hsq2 hkd] at hx
      obtain ⟨r, hr, hxr⟩ := List.mem_flatMap.1 hx
      have := List.mem_of_mem_take hxr
      rw [needE, List.mem_filterMap] at this
      obtain ⟨i, _, hi⟩ := this
      rw [pick] at hi
      split at hi
      · exact ((runsE_facts k).2 r hr).2.1 x (List.mem_of_getElem? hi)
      · cases hi
    refine wl_call ok_caissonref07_SameList (sameListE_any (OwR.rd (hs.rg 0 rfl)) (OwR.rd hV) rfl rfl (fun x hx => by have := hok x (hvm x hx); simp only [maxLen]; omega) (by omega) (by omega)) ⟨rfl, rfl, trivial⟩ rfl ?_
    rintro _ w8 ⟨⟨b, rfl, hb⟩, hbx7⟩
    obtain rfl := hb.2 rfl
    replace hs := hs.below hbx7
    refine wl_as rfl rfl ?_; refine wl_ns ?_; refine wc_ret ?_
    exact we_ret1 rfl rfl ⟨_, rfl, rfl, hs.bel⟩
  · rw [if_neg h0] at hs
    rw [if_neg h0]
    have h0' : (e : Int) ≠ 0 := by omega
    refine wl_as rfl rfl ?_; refine wl_ns ?_; refine wc_seq ?_; refine wc_sr ?_; refine wl_mv rfl rfl ?_; refine wl_mv rfl rfl ?_; refine wl_bin rfl rfl bin_neq rfl ?_; refine wl_ns ?_; apply wc_decF; exact rfl; (with_reducible exact nne); refine wc_skip ?_; refine we_seq ?_; refine wc_seq ?_; refine wc_sr ?_; refine wl_mv rfl rfl ?_; refine wl_bin rfl rfl bin_neq rfl ?_; refine wl_ns ?_; apply wc_decT; exact rfl; (with_reducible assumption); refine wc_sr ?_; refine wl_mv rfl rfl ?_; apply wl_val; apply opv_len; exact rfl; exact tkE.sl; exact rfl; refine wl_bin rfl rfl bin_eql rfl ?_; refine wl_as rfl rfl ?_; refine wl_ns ?_; refine wc_ret ?_; refine we_seq_ret ?_
    exact we_ret1 rfl rfl ⟨_, rfl, rfl, hs.bel⟩
end Go.Proofs.Ytpnckagibkdcpaa


/-
  The plain law of MergeSame: a sorted list is in order and in form; what is kept of it looks the same at each moment that counts, and is kept again whole. No program in sight.
-/
namespace Go.Proofs.Ytpnckagibkdcpaa

theorem pos_spec (l : List En) (e : En) : ∀ n, n ≤ l.length → (∀ i x, posE l e n ≤ i → i < n → l[i]? = some x → lessE e x = true) ∧ (posE l e n = 0 ∨ ∃ x, l[posE l e n - 1]? = some x ∧ lessE e x = false ∧ 0 < posE l e n)
  | 0, _ => ⟨by omega, .inl rfl⟩
  | n + 1, h => by
    have hx : l[n]? = some (l[n]'(by omega)) := List.getElem?_eq_getElem (by omega)
    rw [posE, hx]
    simp only
    cases h2 : lessE e (l[n]'(by omega)) with
    | true =>
      rw [if_pos rfl]
      obtain ⟨h3, h4⟩ := pos_spec l e n (by omega)
      refine ⟨fun i x hi hin hxi => ?_, h4⟩
      rcases Nat.lt_or_ge i n with h5 | h5
      · exact h3 i x hi h5 hxi
      · obtain rfl : i = n := by omega
        rw [hx] at hxi; cases hxi; exact h2
    | false =>
      rw [if_neg (by decide)]
      exact ⟨by omega, .inr ⟨_, hx, h2, by omega⟩⟩
theorem inE_false {l : List En} {e : En} (h : inE l e = false) : ∀ x ∈ l, ¬ (x.key = e.key ∧ x.seq = e.seq) := fun x hx => by
  have := List.any_eq_false.1 h x hx
  simpa using this
theorem ins_ord {l : List En} {e : En} (ho : Ord l) (hn : inE l e = false) : Ord (insE l e) := by
  obtain ⟨h1, h2⟩ := pos_spec l e l.length (Nat.le_refl _)
  have hp := posE_le l e l.length
  obtain ⟨p, hpd⟩ : ∃ q, posE l e l.length = q := ⟨_, rfl⟩
  rw [hpd] at h1 h2 hp
  rw [insE, hpd]
  have hlow : ∀ x ∈ l.take p, lessE x e = true := fun x hx => by
    obtain ⟨i, hi, rfl⟩ := List.getElem_of_mem hx
    rw [List.length_take] at hi
    rcases h2 with h2 | ⟨y, hy, hye, hpos⟩
    · omega
    · have hyl : lessE y e = true := by
        rcases lessE_tri e y with h | h | h
        · rw [hye] at h; cases h
        · exact absurd ⟨h.1.symm, h.2.symm⟩ (inE_false hn y (List.mem_of_getElem? hy))
        · exact h
      obtain ⟨hj, hjy⟩ := List.getElem?_eq_some_iff.1 hy
      rw [List.getElem_take]
      rcases Nat.lt_or_ge i (p - 1) with h3 | h3
      · have := (List.pairwise_iff_getElem.1 ho) i (p - 1) (by omega) hj h3
        rw [hjy] at this
        exact lessE_trans this hyl
      · obtain rfl : i = p - 1 := by omega
        rw [hjy]; exact hyl
  have hhigh : ∀ x ∈ l.drop p, lessE e x = true := fun x hx => by
    obtain ⟨i, hi, rfl⟩ := List.getElem_of_mem hx
    rw [List.length_drop] at hi
    exact h1 (p + i) _ (by omega) (by omega) (by rw [List.getElem_drop]; exact List.getElem?_eq_getElem _)
  refine List.pairwise_append.2 ⟨List.pairwise_append.2 ⟨ho.sublist (List.take_sublist _ _), by simp, fun a ha b hb => ?_⟩, ho.sublist (List.drop_sublist _ _), fun a ha b hb => ?_⟩
  · simp at hb; subst hb; exact hlow a ha
  · rw [List.mem_append] at ha
    rcases ha with ha | ha
    · exact lessE_trans (hlow a ha) (hhigh b hb)
    · simp at ha; subst ha; exact hhigh b hb
theorem check_one {x : En} (h : checkE [x] = 0) : bigE x = false ∧ badE x = false := by
  unfold checkE at h
  simp only [List.any_cons, List.any_nil, Bool.or_false] at h
  cases hb : bigE x with
  | true => rw [hb] at h; simp at h
  | false => cases hd : badE x with
    | true => rw [hb, hd] at h; simp at h
    | false => exact ⟨rfl, rfl⟩
theorem check_of {l : List En} (h : ∀ x ∈ l, bigE x = false ∧ badE x = false) : checkE l = 0 := by
  have h1 : l.any bigE = false := List.any_eq_false.2 fun x hx => by rw [(h x hx).1]; simp
  have h2 : l.any badE = false := List.any_eq_false.2 fun x hx => by rw [(h x hx).2]; simp
  rw [checkE, h1, h2]; rfl
theorem worst_of {l : List En} (ho : Ord l) (h : ∀ x ∈ l, bigE x = false ∧ badE x = false) : worstE [l] = 0 := by
  show stepW 0 l = 0
  rw [stepW, errE, check_of h, ordE_of ho]; rfl
theorem sorted_ok (l : List En) : Ord (sortedE l) ∧ ∀ x ∈ sortedE l, bigE x = false ∧ badE x = false := by
  have key : ∀ (l out : List En), Ord out → (∀ x ∈ out, bigE x = false ∧ badE x = false) → Ord (l.foldl addE out) ∧ ∀ x ∈ l.foldl addE out, bigE x = false ∧ badE x = false := by
    intro l
    induction l with
    | nil => intro out h1 h2; exact ⟨h1, h2⟩
    | cons x l ih =>
      intro out h1 h2
      rw [List.foldl_cons]
      by_cases h : checkE [x] = 0 ∧ inE out x = false
      · have ha : addE out x = insE out x := by rw [addE, if_pos h]
        rw [ha]
        exact ih _ (ins_ord h1 h.2) fun y hy => by
          have := addE_ok (p := fun x => bigE x = false ∧ badE x = false) h2 (check_one h.1) y (by rw [ha]; exact hy)
          exact this
      · have ha : addE out x = out := by rw [addE, if_neg h]
        rw [ha]; exact ih _ h1 h2
  exact key l [] (by simp [Ord]) (by simp)
/-- What is kept of a run. -/
def keptR (bt : Bool) (ms : List Nat) (r : List En) : Nat := if bt then trimN (needE r ms) (needE r ms).length else (needE r ms).length
theorem keepR_eq (bt : Bool) (ms : List Nat) (r : List En) : keepR bt ms r = (needE r ms).take (keptR bt ms r) := rfl
theorem keepR_sub {r : List En} (hf : Fall r) (bt : Bool) (ms : List Nat) : (keepR bt ms r).Sublist r := by
  rw [keepR_eq, need_filter hf]
  exact (List.take_sublist _ _).trans List.filter_sublist
theorem kept_high {r : List En} (bt : Bool) (ms : List Nat) : ∀ x ∈ (needE r ms).drop (keptR bt ms r), x.kind = 2 := fun x hx => by
  obtain ⟨i, hi, rfl⟩ := List.getElem_of_mem hx
  rw [List.length_drop] at hi
  rw [List.getElem_drop]
  cases bt with
  | false => simp [keptR] at hi
  | true => exact (trim_spec (needE r ms) _ (Nat.le_refl _)).1 _ _ (Nat.le_add_right _ _) (by have hk : keptR true ms r = trimN (needE r ms) (needE r ms).length := rfl; omega) (List.getElem?_eq_getElem _)
theorem find_filter {α : Type} {p q : α → Bool} : ∀ {r : List α}, (∀ v, r.find? q = some v → p v = true) → (r.filter p).find? q = r.find? q
  | [], _ => rfl
  | x :: r, h => by
    rw [List.find?_cons]
    cases hq : q x with
    | true =>
      have hp : p x = true := h x (by rw [List.find?_cons, hq])
      rw [List.filter_cons, if_pos hp, List.find?_cons, hq]
    | false =>
      have ih := find_filter (r := r) fun v hv => h v (by rw [List.find?_cons, hq]; exact hv)
      simp only
      rw [List.filter_cons]
      split
      · rw [List.find?_cons, hq]; exact ih
      · exact ih
/-- At a moment that counts for it a run's part is seen as the run is. -/
def good (r : List En) (ms : List Nat) (m : Nat) : Prop := ∀ v, fstE r m = some v → nd r ms v = true
theorem good_mem {r : List En} {ms : List Nat} {m : Nat} (h : m ∈ ms) : good r ms m := fun v hv => by
  rw [nd, Bool.or_eq_true]; exact .inr (List.any_eq_true.2 ⟨m, h, decide_eq_true hv⟩)
theorem good_all {r : List En} {ms : List Nat} {m : Nat} (h : ∀ x ∈ r, x.seq ≤ m) : good r ms m := fun v hv => by
  cases r with
  | nil => cases hv
  | cons x r =>
    rw [fstE, List.find?_cons, decide_eq_true (h x List.mem_cons_self)] at hv
    cases hv
    rw [nd, Bool.or_eq_true]; exact .inl (by simp)
theorem fst_need {r : List En} (hf : Fall r) {ms : List Nat} {m : Nat} (hg : good r ms m) : fstE (needE r ms) m = fstE r m := by
  rw [need_filter hf]; exact find_filter hg
theorem fst_split (s : List En) (t m : Nat) : fstE s m = (fstE (s.take t) m).or (fstE (s.drop t) m) := by
  conv => lhs; rw [← List.take_append_drop t s]
  rw [fstE, List.find?_append]; rfl
theorem vis_kept {r : List En} (hf : Fall r) {bt : Bool} {ms : List Nat} {m : Nat} (hg : good r ms m) : visR m (keepR bt ms r) = visR m r := by
  rw [visR_eq, visR_eq, ← fst_need hf hg, fst_split (needE r ms) (keptR bt ms r), ← keepR_eq]
  cases hv : fstE (keepR bt ms r) m with
  | some v => rfl
  | none =>
    rw [Option.none_or]
    cases hw : fstE ((needE r ms).drop (keptR bt ms r)) m with
    | none => rfl
    | some w =>
      have hk := kept_high bt ms w (List.mem_of_find?_eq_some hw)
      rw [Option.filter_some_neg (by rw [hk]; decide)]; rfl
theorem fst_in {r : List En} {m : Nat} {v : En} (h : fstE r m = some v) : v.seq ≤ m := by
  have := List.find?_some h
  simpa using this
theorem kept_nd {r : List En} (hf : Fall r) (bt : Bool) (ms : List Nat) : ∀ x ∈ keepR bt ms r, nd (keepR bt ms r) ms x = true := fun x hx => by
  have hxs : x ∈ needE r ms := List.mem_of_mem_take hx
  have hnd : nd r ms x = true := by rw [need_filter hf] at hxs; exact (List.mem_filter.1 hxs).2
  rw [nd, Bool.or_eq_true] at hnd ⊢
  rcases hnd with h | h
  · refine .inl (decide_eq_true ?_)
    have h0 := of_decide_eq_true h
    cases r with
    | nil => simp at h0
    | cons y r =>
      simp at h0; subst h0
      have hny : nd (y :: r) ms y = true := by rw [nd, Bool.or_eq_true]; exact .inl (by simp)
      have hs : needE (y :: r) ms = y :: r.filter (nd (y :: r) ms) := by rw [need_filter hf, List.filter_cons, if_pos hny]
      rw [keepR_eq, hs] at hx ⊢
      cases ht : keptR bt ms (y :: r) with
      | zero => rw [ht] at hx; simp at hx
      | succ t => rfl
  · obtain ⟨m, hm, hv⟩ := List.any_eq_true.1 h
    have hv := of_decide_eq_true hv
    refine .inr (List.any_eq_true.2 ⟨m, hm, decide_eq_true ?_⟩)
    have h1 := fst_need hf (good_mem (r := r) hm)
    rw [hv, fst_split (needE r ms) (keptR bt ms r), ← keepR_eq] at h1
    cases hw : fstE (keepR bt ms r) m with
    | some w => rw [hw] at h1; simpa using h1
    | none =>
      have := List.find?_eq_none.1 hw x hx
      have hle := fst_in hv
      simp at this; omega
theorem kept_again {r : List En} (hf : Fall r) (bt : Bool) (ms : List Nat) : keepR bt ms (keepR bt ms r) = keepR bt ms r := by
  have hf2 : Fall (keepR bt ms r) := List.Pairwise.sublist (keepR_sub hf bt ms) hf
  have hn : needE (keepR bt ms r) ms = keepR bt ms r := by
    rw [need_filter hf2]; exact List.filter_eq_self.2 (kept_nd hf bt ms)
  rw [keepR_eq bt ms (keepR bt ms r), hn]
  refine List.take_of_length_le ?_
  unfold keptR
  rw [hn]
  cases bt with
  | false => simp
  | true =>
    rw [if_pos rfl]
    obtain ⟨_, h2⟩ := trim_spec (needE r ms) _ (Nat.le_refl _)
    have hk : keptR true ms r = trimN (needE r ms) (needE r ms).length := rfl
    rw [← hk] at h2
    have hle : keptR true ms r ≤ (needE r ms).length := trimN_le _ _
    have hl : (keepR true ms r).length = keptR true ms r := by rw [keepR_eq, List.length_take]; omega
    rcases h2 with h2 | ⟨x, hx, hx2, hpos⟩
    · rw [hl, h2]; exact Nat.zero_le _
    · obtain ⟨t, ht⟩ : ∃ t, keptR true ms r = t + 1 := ⟨keptR true ms r - 1, by omega⟩
      have hx' : (keepR true ms r)[t]? = some x := by
        rw [keepR_eq, List.getElem?_take, if_pos (by omega)]
        rw [ht] at hx; simpa using hx
      rw [hl, ht, trimN, hx']
      simp [hx2]
theorem runsF_cat : ∀ (r rest acc : List En), r ≠ [] → (∀ x ∈ r, ∀ y ∈ r, x.key = y.key) → (∀ x ∈ r, ∀ y ∈ rest, ¬ x.key = y.key) → runsF (r ++ rest) acc = (acc ++ r) :: runsF rest []
  | [], _, _, h, _, _ => absurd rfl h
  | [x], [], acc, _, _, _ => by simp [runsF]
  | [x], y :: rest, acc, _, _, h => by
    have := h x (by simp) y (by simp)
    simp [runsF, this]
  | x :: x2 :: r, rest, acc, _, hs, h => by
    have hk := hs x (by simp) x2 (by simp)
    have ih := runsF_cat (x2 :: r) rest (acc ++ [x]) (by simp) (fun a ha b hb => hs a (List.mem_cons_of_mem _ ha) b (List.mem_cons_of_mem _ hb)) (fun a ha => h a (List.mem_cons_of_mem _ ha))
    rw [List.cons_append, List.cons_append, runsF, if_pos hk, ← List.cons_append, ih]
    simp
theorem runs_cat : ∀ {rs : List (List En)}, Runs rs → runsE rs.flatten = rs
  | [], _ => rfl
  | r :: rs, hR => by
    obtain ⟨hd, hd2⟩ := List.pairwise_cons.1 hR.diff
    have hR2 : Runs rs := ⟨fun r h => hR.some r (List.mem_cons_of_mem _ h), fun r h => hR.same r (List.mem_cons_of_mem _ h), hd2⟩
    rw [List.flatten_cons, runsE, runsF_cat r rs.flatten [] (hR.some r List.mem_cons_self) (hR.same r List.mem_cons_self) fun x hx y hy => by
      obtain ⟨r', hr', hy'⟩ := List.mem_flatten.1 hy
      exact hd r' hr' x hx y hy', List.nil_append]
    have ih := runs_cat hR2
    rw [runsE] at ih
    rw [ih]
/-- What of each run is kept, without empty parts. -/
def parts (bt : Bool) (ms : List Nat) (rs : List (List En)) : List (List En) := (rs.map (keepR bt ms)).filter fun r => !r.isEmpty
theorem parts_flat (bt : Bool) (ms : List Nat) : ∀ (rs : List (List En)), (parts bt ms rs).flatten = rs.flatMap (keepR bt ms)
  | [] => rfl
  | r :: rs => by
    have ih := parts_flat bt ms rs
    rw [parts] at ih ⊢
    rw [List.map_cons, List.filter_cons, List.flatMap_cons, ← ih]
    cases h : keepR bt ms r with
    | nil => rfl
    | cons x l => rfl
theorem parts_runs {bt : Bool} {ms : List Nat} {rs : List (List En)} (hR : Runs rs) (hf : ∀ r ∈ rs, Fall r) : Runs (parts bt ms rs) := by
  refine ⟨fun r hr => ?_, fun r hr => ?_, ?_⟩
  · have := (List.mem_filter.1 hr).2
    rintro rfl; simp at this
  · obtain ⟨r0, hr0, rfl⟩ := List.mem_map.1 (List.mem_filter.1 hr).1
    have hs := keepR_sub (hf r0 hr0) bt ms
    exact fun x hx y hy => hR.same r0 hr0 x (hs.subset hx) y (hs.subset hy)
  · refine List.Pairwise.filter _ (List.pairwise_map.2 (hR.diff.imp_of_mem fun {a b} ha hb h => fun x hx y hy => h x ((keepR_sub (hf a ha) bt ms).subset hx) y ((keepR_sub (hf b hb) bt ms).subset hy)))
theorem vis_nil (m : Nat) : visR m [] = none := rfl
theorem vis_parts {m : Nat} {bt : Bool} {ms : List Nat} : ∀ {rs : List (List En)}, (∀ r ∈ rs, Fall r) → (∀ r ∈ rs, good r ms m) → (parts bt ms rs).filterMap (visR m) = rs.filterMap (visR m)
  | [], _, _ => rfl
  | r :: rs, hf, hg => by
    have ih := vis_parts (bt := bt) (fun r h => hf r (List.mem_cons_of_mem _ h)) (fun r h => hg r (List.mem_cons_of_mem _ h))
    have hv := vis_kept (hf r List.mem_cons_self) (bt := bt) (hg r List.mem_cons_self)
    rw [parts] at ih ⊢
    rw [List.map_cons, List.filter_cons, List.filterMap_cons, ← hv]
    cases h : keepR bt ms r with
    | nil => rw [vis_nil]; exact ih
    | cons x l =>
      rw [if_pos (by simp), List.filterMap_cons]
      cases visR m (x :: l) with
      | none => exact ih
      | some v => simp only; rw [ih]
/-- What is kept of a list in order. -/
theorem same_law {l : List En} (ho : Ord l) (hc : ∀ x ∈ l, bigE x = false ∧ badE x = false) (bt : Bool) (ms : List Nat) :
    (keepE l bt ms).Sublist l ∧ worstE [keepE l bt ms] = 0 ∧ keepE (keepE l bt ms) bt ms = keepE l bt ms ∧ ∀ m, (m ∈ ms ∨ ∀ x ∈ l, x.seq ≤ m) → visE (keepE l bt ms) m = visE l m := by
  obtain ⟨hf, hR⟩ := runs_spec ho
  have hfall := fun r hr => fall_of ho (r := r) hR hr
  have hmem : ∀ r ∈ runsE l, ∀ y ∈ r, y ∈ l := fun r hr y hy => by rw [← hf]; exact List.mem_flatten.2 ⟨r, hr, hy⟩
  have hP := parts_runs (bt := bt) (ms := ms) hR hfall
  have hk : keepE l bt ms = (parts bt ms (runsE l)).flatten := (parts_flat bt ms _).symm
  have hrk : runsE (keepE l bt ms) = parts bt ms (runsE l) := by rw [hk]; exact runs_cat hP
  have hsub : (keepE l bt ms).Sublist l := by
    have key : ∀ (rs : List (List En)), (∀ r ∈ rs, Fall r) → (rs.flatMap (keepR bt ms)).Sublist rs.flatten := by
      intro rs
      induction rs with
      | nil => intro _; exact List.Sublist.refl _
      | cons r rs ih =>
        intro h
        rw [List.flatMap_cons, List.flatten_cons]
        exact (keepR_sub (h r List.mem_cons_self) bt ms).append (ih fun r hr => h r (List.mem_cons_of_mem _ hr))
    have := key _ hfall
    rwa [hf] at this
  refine ⟨hsub, worst_of (ho.sublist hsub) fun x hx => hc x (hsub.subset hx), ?_, fun m hm => ?_⟩
  · show (runsE (keepE l bt ms)).flatMap (keepR bt ms) = _
    rw [hrk, hk, flatMap_congr (g := id) fun r hr => by
      obtain ⟨r0, hr0, rfl⟩ := List.mem_map.1 (List.mem_filter.1 hr).1
      exact kept_again (hfall r0 hr0) bt ms]
    simp [List.flatMap_id]
  · rw [visE, hrk, visE, vis_parts hfall fun r hr => hm.elim good_mem fun h => good_all fun x hx => h x (hmem r hr x hx)]
end Go.Proofs.Ytpnckagibkdcpaa


/-
  Walk over the law MergeSame.
-/
namespace Go.Proofs.Ytpnckagibkdcpaa
open Go.RowKit

theorem opv_max {P : Program} {L : FL} {w : World} {x y : Operand} {ats : Array TypeId} {ty : TypeId} {k : IntKind} {a b r : Int} (hx : look L x = some (.int k a)) (hy : look L y = some (.int k b)) (hr : (if a < b then b else a) = r) : OpV P (.call { callee := .builtin .max, args := #[x, y], argTypes := ats }) ty L w (.int k r) w := fun ρ o hρ ho _ => by
  subst hr
  unfold execOp
  simp only [ho, resolve, invoke, builtin, Sem.run_bind, Sem.run_pure, Result.andThen_ok, List.map_toArray, List.map_cons, List.map_nil, hρ x _ hx, hρ y _ hy]
  simp [Builtin.max_, Builtin.max2]
def lastE (l : List En) : Nat := l.foldl (fun a x => max a x.seq) 0
theorem last_take {l : List En} {k : Nat} {x : En} (h : l[k]? = some x) : lastE (l.take (k + 1)) = max (lastE (l.take k)) x.seq := by
  rw [lastE, take_getR h, List.foldl_append]; rfl
theorem last_le {l : List En} : ∀ x ∈ l, x.seq ≤ lastE l := by
  have key : ∀ (l : List En) (a : Nat), a ≤ l.foldl (fun a x => max a x.seq) a ∧ ∀ x ∈ l, x.seq ≤ l.foldl (fun a x => max a x.seq) a := by
    intro l
    induction l with
    | nil => intro a; simp
    | cons y l ih =>
      intro a
      obtain ⟨h1, h2⟩ := ih (max a y.seq)
      rw [List.foldl_cons]
      refine ⟨by omega, fun x hx => ?_⟩
      rw [List.mem_cons] at hx
      rcases hx with rfl | hx
      · omega
      · exact h2 x hx
  exact (key l 0).2
theorem last_lt {l : List En} (h : ∀ x ∈ l, x.seq < 2 ^ 64) : lastE l < 2 ^ 64 := by
  have key : ∀ (l : List En) (a : Nat), (∀ x ∈ l, x.seq < 2 ^ 64) → a < 2 ^ 64 → l.foldl (fun a x => max a x.seq) a < 2 ^ 64 := by
    intro l
    induction l with
    | nil => intro a _ h; exact h
    | cons y l ih =>
      intro a h ha
      have := h y List.mem_cons_self
      exact ih _ (fun x hx => h x (List.mem_cons_of_mem _ hx)) (show max a y.seq < 2 ^ 64 by omega)
  exact key l 0 h (by omega)
theorem sorted_mem {l : List En} {p : En → Prop} (h : ∀ x ∈ l, p x) : (sortedE l).length ≤ l.length ∧ ∀ x ∈ sortedE l, p x := by
  have := fold_facts h l.length
  rw [List.take_length] at this
  exact this
set_option maxRecDepth 8000 in
theorem same_any {A B : Option Addr} {n c nb cb : Nat} {l0 : List En} {bt : Bool} {ms : List Nat} {w : World} (hr : RdR 4 w All A (l0.map enEl)) (hn : l0.length = n) (hc : n ≤ c) (hsq : ∀ x ∈ l0, x.seq < 2 ^ 64) (hl : sumB enB l0 ≤ 1048576) (hm0 : RdR 1 w All B (ms.map uEl)) (hnb : ms.length = nb) (hcb : nb ≤ cb) (_hms : ∀ m ∈ ms, m < 2 ^ 64) (hml : (sumB (fun _ => 0) ms : Nat) ≤ 1048576) :
    CallsV Try.prog 6 #[.slice A n c, .bool bt, .slice B nb cb] w (RetTr w) := by
  obtain ⟨hl1, hok1⟩ := ent_small hl
  have hm := rd_u64s hm0
  have hml1 := sumB_len (bulk := fun _ : Nat => 0) ms
  subst hnb
  have hs := St.init w
  refine calls_in (N := _) Try.func6 rfl Try.ntmps6 rfl ?_; show WC _ _ _ _ _ _
  refine wc_sr ?_; refine wl_as rfl rfl ?_; refine wl_ns ?_; refine wc_seq ?_; refine wc_sr ?_
  refine wl_call ok_caissonlaw11_awake (awake_any _) trivial rfl ?_; rintro _ _ ⟨rfl, hbx⟩; replace hs := hs.below hbx; try dsimp only [List.cons_append, List.nil_append, setC, delC] at hs
  apply wl_val; apply opv_not; exact rfl; exact rfl; refine wl_ns ?_; apply wc_condFb; exact rfl; exact Bool.not_true; refine wc_skip ?_; refine we_seq ?_; refine wc_sr ?_; refine wl_mv rfl rfl ?_
  refine wl_call ok_caissonlaw11_few (few_any (m := 40) hn hc) ⟨rfl, rfl, trivial⟩ rfl ?_; rintro _ _ ⟨rfl, rfl⟩
  have hr2 := take_rdr (m := 40) hr (by omega)
  have hokA : ∀ x ∈ l0.take 40, (x.key.length ≤ 1048576 ∧ x.val.length ≤ 1048576) ∧ x.seq < 2 ^ 64 := fun x hx => ⟨hok1 x (few_mem hx), hsq x (few_mem hx)⟩
  have hlen : (l0.take 40).length ≤ 40 := by rw [List.length_take]; omega
  obtain ⟨k, hk⟩ : ∃ q, l0.take 40 = q := ⟨_, rfl⟩
  rw [hk] at hr2 hokA hlen
  rw [hk]
  clear hr hok1 hsq hk
  refine wl_call ok_caissonref07_Sorted (sorted_any (hr2.below hs.bel) rfl (fun x hx => by have := (hokA x hx).1; simp only [maxLen]; omega) (by omega)) ⟨rfl, trivial⟩ rfl ?_
  rintro _ w2 ⟨P, cp, rfl, hcp, hl2, hbx2⟩
  obtain ⟨hsl, hsm⟩ := sorted_mem hokA
  obtain ⟨hord, hchk⟩ := sorted_ok k
  have hlast := last_lt fun x hx => (hsm x hx).2
  have hle := last_le (l := sortedE k)
  have hlaw := same_law hord hchk bt ms
  have hwst := worst_of hord hchk
  obtain ⟨l, hld⟩ : ∃ q, sortedE k = q := ⟨_, rfl⟩
  rw [hld] at hl2 hsl hsm hord hchk hlast hle hlaw hwst hcp
  rw [hld]
  have hbw2 := hs.bel.trans (hbx2.mono hs.size)
  have hm2 := hm.below hbw2
  have hl2 := hl2.all
  have hok : ∀ x ∈ l, x.key.length ≤ 1048576 ∧ x.val.length ≤ 1048576 := fun x hx => (hsm x hx).1
  clear hs hbx hld hm hm0
  have hs := St.init w2
  refine wl_as rfl rfl ?_; refine wl_ns ?_; refine wc_sr ?_; refine wl_mv rfl rfl ?_
  refine wl_call ok_caissonref07_Twins (twinsE_any (hl2.below hs.bel) rfl (fun x hx => by have := hok x hx; omega) (by omega)) ⟨rfl, trivial⟩ rfl ?_
  rintro _ w3 ⟨D, d, rfl, hB, hbx3⟩
  replace hs := hs.newG hbx3 hB (Nat.le_refl _) fun _ _ h => h
  have hBl := OwR.len_le hB
  rw [List.length_map] at hBl
  refine wl_mv rfl rfl ?_
  refine ws_bs (vs := []) hs tyU trivial rfl (by decide) rfl ?_
  clear hs; intro E0 w4 hs
  refine wl_mv rfl rfl ?_
  refine ws_app (ys := u64s ms) (m := ms.length) hs 0 rfl rfl tyU rfl (hm2.below hs.bel) (u64s_one ms) (by omega) (by simp only [maxLen]; omega) rfl ?_
  clear hs; intro E1 c1 w5 hs; dsimp only [setC] at hs
  rw [List.nil_append, Nat.zero_add] at hs
  rw [Nat.zero_add]
  refine wl_call ok_merge_Keep (keep_any (bt := bt) (ms := ms) (OwR.rd (hs.rg 1 rfl)) rfl hBl (hs.ow 0 rfl).rd (fun x hx => by have := hok x hx; omega) (by omega) (by omega)) ⟨rfl, rfl, rfl, trivial⟩ rfl ?_
  rintro _ w6 ⟨Q, cq, rfl, hsx⟩
  replace hs := ((hs.drop 0 rfl).drop 0 rfl).call hsx
  dsimp only [delC, List.cons_append, List.nil_append] at hs
  rw [hwst, if_pos rfl] at hs
  rw [hwst, if_pos rfl]
  obtain ⟨hsub, hw0, hagain, hvis⟩ := hlaw
  obtain ⟨kk, hkk⟩ : ∃ q, keepE l bt ms = q := ⟨_, rfl⟩
  rw [hkk] at hs hsub hw0 hagain hvis
  rw [hkk]
  have hkl : kk.length ≤ l.length := hsub.length_le
  have hkl' : ¬ (l.length : Int) < (kk.length : Int) := by omega
  have hokk : ∀ x ∈ kk, x.key.length ≤ 1048576 ∧ x.val.length ≤ 1048576 := fun x hx => hok x (hsub.subset hx)
  have hkq : kk.length ≤ cq := by have := OwR.len_le (hs.rg 0 rfl); simpa using this
  refine wl_mv rfl rfl ?_; apply wl_val; apply opv_extract; exact rfl; exact rfl; exact rfl; apply wl_val; apply opv_extract; exact rfl; exact rfl; exact rfl; refine wl_as rfl rfl ?_; refine wl_as rfl rfl ?_; refine wl_ns ?_; refine wc_seq ?_; refine wc_sr ?_; refine wl_mv rfl rfl ?_; refine wl_bin rfl rfl bin_neq rfl ?_; refine wl_mv rfl rfl ?_; apply wl_take; exact rfl; exact rfl; exact rfl; refine bF ?_; omega; refine wl_mv rfl rfl ?_; apply wl_take; exact rfl; exact rfl; exact rfl; refine bF ?_; omega; apply wl_val; apply opv_len; exact rfl; exact tkE.sl; exact rfl; apply wl_take; exact rfl; exact rfl; exact rfl; refine bF ?_; omega; refine wl_mv rfl rfl ?_; apply wl_take; exact rfl; exact rfl; exact rfl; refine bF ?_; omega; apply wl_val; apply opv_len; exact rfl; exact tkE.sl; exact rfl; apply wl_take; exact rfl; exact rfl; exact rfl; refine bF ?_; omega; refine wl_bin rfl rfl bin_gtr rfl ?_; apply wl_val; apply opv_pickF; exact rfl; refine bF ?_; omega; exact rfl; exact rfl; refine wl_ns ?_; apply wc_decF; exact rfl; (with_reducible assumption); refine wc_skip ?_; refine we_seq ?_; refine wc_sr ?_; refine wl_as rfl rfl ?_; refine wl_ns ?_; refine wc_seq ?_; refine wc_sr ?_; refine wl_mv rfl rfl ?_; apply wl_val; apply opv_len; exact rfl; exact tkE.sl; exact rfl; refine wl_mv rfl rfl ?_; refine wl_ns ?_; refine wc_block ?_
  refine wc_loop (fun L wr mm => ∃ (j : Nat), L = [(0, .slice P l.length cp), (1, .bool bt), (2, .slice B ms.length cb), (7, .slice Q kk.length cq), (9, .int .u64 (lastE (l.take j) : Nat)), (43, .slice P l.length cp), (44, .int .i64 (l.length : Int)), (45, .int .i64 (j : Int))] ∧ j ≤ l.length ∧ St NoB w2 wr [.rg 4 56 Q cq (kk.map enEl)] ∧ mm = l.length - j)
    [(0, .slice P l.length cp), (1, .bool bt), (2, .slice B ms.length cb), (7, .slice Q kk.length cq), (9, .int .u64 (0 : Nat)), (43, .slice P l.length cp), (44, .int .i64 (l.length : Int)), (45, .int .i64 (0 : Nat))] l.length ⟨0, rfl, by omega, hs, rfl⟩ ⟨rfl, rfl, rfl, rfl, rfl, rfl, rfl, rfl, trivial⟩ ?_
  clear hs
  rintro _ w7 mm ⟨j, rfl, hj, hs, rfl⟩
  refine wc_sr ?_; refine wl_bin rfl rfl bin_lss rfl ?_; refine wl_ns ?_; refine wc_seq ?_
  refine wc_cond rfl (fun h1 => ?_) (fun h1 => ?_)
  · obtain ⟨x, hx⟩ : ∃ x, l[j]? = some x := ⟨_, List.getElem?_eq_getElem (by omega)⟩
    obtain ⟨b, o, cs, rfl, _, _, hp, i1⟩ := RdR.at (k := 4) (by decide) hl2 (E := enEl x) (i := j) (by rw [List.getElem?_map, hx]; rfl)
    obtain ⟨U, cu, U2, cu2, rfl, _⟩ := enEl.rd hp
    have hlt := last_take hx
    replace i1 := i1.below hs.bel
    refine wc_skip ?_; refine we_seq ?_; refine wc_seq ?_; refine wc_block ?_; refine wc_sr ?_; apply wl_val; apply opv_idxG tkE; exact rfl; exact rfl; exact rfl; omega; exact rfl; apply wl_val; apply opv_ldG; exact rfl; assumption; exact sE; exact rfl
    refine ws_new hs zeroE rfl ?_; clear hs; intro g11 _ hs
    apply ws_stS hs 0; exact rfl; exact rfl; exact rfl; exact sE; exact rfl; exact rfl; clear hs; intro _ hs; dsimp only [setC] at hs; refine wl_ns ?_; refine wc_region ?_; refine wl_mv rfl rfl ?_; apply wl_val; apply opv_fa; exact fa_sE (by decide); exact rfl; exact rfl; apply wl_val; apply opv_ldX; exact rfl; exact hs.ar 0 rfl; exact e1_u64; exact rfl; exact rfl
    unfold enV at hs
    skip
    refine wl_val (opv_max (r := (lastE (l.take (j + 1)) : Nat)) rfl rfl (by rw [hlt]; split <;> omega)) rfl ?_
    refine wl_as rfl rfl ?_; refine wl_nil ?_; refine we_block_norm ?_; refine we_seq ?_; refine wc_region ?_; apply wl_val; apply opv_bin; exact rfl; exact rfl; exact bin_add64 (by omega); exact rfl; refine wl_mv rfl rfl ?_; refine wl_nil ?_
    refine we_loop _ (l.length - (j + 1)) ⟨j + 1, rfl, by omega, hs.drop 0 rfl, rfl⟩ (by omega) ⟨rfl, rfl, rfl, rfl, rfl, rfl, rfl, by simp [lookT], trivial⟩
  obtain rfl : j = l.length := by omega
  rw [List.take_length]
  obtain ⟨la, hla⟩ : ∃ q, lastE l = q := ⟨_, rfl⟩
  rw [hla] at hlast hle
  rw [hla]
  refine wc_exit ?_; refine we_seq_exit ?_; refine we_loop_exit ?_; refine we_block_exit ?_; refine we_seq ?_; refine wc_seq ?_; refine wc_sr ?_; refine wl_mv rfl rfl ?_
  refine ws_bs (vs := [.int .u64 (la : Int), .int .u64 18446744073709551615]) hs tyU ⟨rfl, rfl, rfl, rfl, rfl, rfl, trivial⟩ rfl (by decide) rfl ?_
  clear hs; intro G0 w8 hs
  refine wl_mv rfl rfl ?_
  refine ws_app (ys := u64s ms) (m := ms.length) hs 0 rfl rfl tyU rfl (hm2.below hs.bel) (u64s_one ms) (by omega) (by simp only [maxLen]; omega) rfl ?_
  clear hs; intro G1 d1 w9 hs; dsimp only [setC] at hs
  have hms2 : ([.int .u64 (la : Int), .int .u64 18446744073709551615] ++ u64s ms : List Value) = u64s (la :: 18446744073709551615 :: ms) := rfl
  have hgood : ∀ m ∈ la :: 18446744073709551615 :: ms, m ∈ ms ∨ ∀ x ∈ l, x.seq ≤ m := fun m hm => by
    rw [List.mem_cons, List.mem_cons] at hm
    rcases hm with rfl | rfl | hm
    · exact .inr hle
    · exact .inr fun x hx => by have := (hsm x hx).2; omega
    · exact .inl hm
  have hmsl : (la :: 18446744073709551615 :: ms).length = 2 + ms.length := by simp; omega
  rw [hms2] at hs
  clear hms2
  obtain ⟨ms2, hms2⟩ : ∃ q, la :: 18446744073709551615 :: ms = q := ⟨_, rfl⟩
  rw [hms2] at hs hgood hmsl
  rw [← hmsl] at hs
  rw [← hmsl]
  apply wl_val; apply opv_len; exact rfl; exact tyU.sl; exact rfl; refine wl_mv rfl rfl ?_; refine wl_ns ?_; refine wc_block ?_
  refine wc_loop (fun L wr mm => ∃ (j : Nat), L = [(0, .slice P l.length cp), (1, .bool bt), (2, .slice B ms.length cb), (7, .slice Q kk.length cq), (57, .slice G1 ms2.length d1), (58, .int .i64 (ms2.length : Int)), (59, .int .i64 (j : Int))] ∧ j ≤ ms2.length ∧ St NoB w2 wr [.ow 26 G1 ms2.length d1 (u64s ms2), .rg 4 56 Q cq (kk.map enEl)] ∧ mm = ms2.length - j)
    [(0, .slice P l.length cp), (1, .bool bt), (2, .slice B ms.length cb), (7, .slice Q kk.length cq), (57, .slice G1 ms2.length d1), (58, .int .i64 (ms2.length : Int)), (59, .int .i64 (0 : Nat))] ms2.length ⟨0, rfl, by omega, hs, rfl⟩ ⟨rfl, rfl, rfl, rfl, rfl, rfl, rfl, trivial⟩ ?_
  clear hs h1 hj
  rintro _ w10 mm ⟨j, rfl, hj, hs, rfl⟩
  refine wc_sr ?_; refine wl_bin rfl rfl bin_lss rfl ?_; refine wl_ns ?_; refine wc_seq ?_
  refine wc_cond rfl (fun h1 => ?_) (fun h1 => ?_)
  · obtain ⟨m, hx⟩ : ∃ m, ms2[j]? = some m := ⟨_, List.getElem?_eq_getElem (by omega)⟩
    have hum := u64s_get hx
    have hmw := (hs.ow 0 rfl).rd
    have hgm := hvis m (hgood m (List.mem_of_getElem? hx))
    refine wc_skip ?_; refine we_seq ?_; refine wc_seq ?_; refine wc_block ?_; refine wc_sr ?_; apply wl_elK (T := tyU) (hr := hmw) (hb := hum); exact rfl; exact rfl; exact rfl; exact rfl; exact rfl; intro _; refine wl_as rfl rfl ?_; refine wl_ns ?_; refine wc_sr ?_; refine wl_mv rfl rfl ?_; refine wl_mv rfl rfl ?_
    refine wl_call ok_merge_Visible (visible_any (m := m) (hl2.below hs.bel) rfl hcp (fun x hx => by have := hok x hx; omega) (by omega)) ⟨rfl, rfl, trivial⟩ rfl ?_
    rintro _ w11 ⟨V, cv, rfl, hsx⟩
    replace hs := hs.call hsx
    dsimp only [List.cons_append, List.nil_append] at hs
    rw [hwst, if_pos rfl] at hs
    rw [hwst, if_pos rfl]
    refine wl_mv rfl rfl ?_; apply wl_val; apply opv_extract; exact rfl; exact rfl; exact rfl; apply wl_val; apply opv_extract; exact rfl; exact rfl; exact rfl; refine wl_as rfl rfl ?_; refine wl_as rfl rfl ?_; refine wl_ns ?_; refine wc_sr ?_; refine wl_mv rfl rfl ?_; refine wl_mv rfl rfl ?_
    refine wl_call ok_merge_Visible (visible_any (m := m) (OwR.rd (hs.rg 2 rfl)) rfl hkq (fun x hx => by have := hokk x hx; omega) (by omega)) ⟨rfl, rfl, trivial⟩ rfl ?_
    rintro _ w12 ⟨V2, cv2, rfl, hsx⟩
    replace hs := hs.call hsx
    dsimp only [List.cons_append, List.nil_append] at hs
    rw [hw0, if_pos rfl, hgm] at hs
    rw [hw0, if_pos rfl, hgm]
    have hvl : (visE l m).length ≤ 40 := by
      have := filterMap_len (visR m) (runsE l)
      have := (runsE_facts l).1
      show ((runsE l).filterMap (visR m)).length ≤ 40
      omega
    have hvm : ∀ x ∈ visE l m, x ∈ l := fun x hx => by rw [vis_eq hord] at hx; exact (List.mem_filter.1 hx).1
    refine wl_mv rfl rfl ?_; apply wl_val; apply opv_extract; exact rfl; exact rfl; exact rfl; apply wl_val; apply opv_extract; exact rfl; exact rfl; exact rfl; refine wl_as rfl rfl ?_; refine wl_as rfl rfl ?_; refine wl_ns ?_; refine wc_sr ?_; refine wl_mv rfl rfl ?_; refine wl_bin rfl rfl bin_neq rfl ?_; refine wl_mv rfl rfl ?_; apply wl_take; exact rfl; exact rfl; exact rfl; refine bF ?_; omega; refine wl_mv rfl rfl ?_; apply wl_take; exact rfl; exact rfl; exact rfl; refine bF ?_; omega; refine wl_bin rfl rfl bin_neq rfl ?_; apply wl_val; apply opv_pickF; exact rfl; refine bF ?_; omega; exact rfl; exact rfl; refine wl_mv rfl rfl ?_; apply wl_take; exact rfl; exact rfl; exact rfl; refine bF ?_; omega; refine wl_mv rfl rfl ?_; apply wl_take; exact rfl; exact rfl; exact rfl; refine bF ?_; omega; refine wl_mv rfl rfl ?_; apply wl_take; exact rfl; exact rfl; exact rfl; refine bF ?_; omega
    refine wl_call ok_caissonref07_SameList (sameListE_any (OwR.rd (hs.rg 1 rfl)) (OwR.rd (hs.rg 0 rfl)) rfl rfl (fun x hx => by have := hok x (hvm x hx); simp only [maxLen]; omega) (by omega) (by omega)) ⟨rfl, rfl, trivial⟩ rfl ?_
    rintro _ w13 ⟨⟨b, rfl, hb⟩, hbx7⟩
    obtain rfl := hb.2 rfl
    replace hs := hs.below hbx7
    apply wl_take; exact rfl; exact rfl; exact rfl; refine bF ?_; omega; apply wl_val; apply opv_not; exact rfl; exact rfl; apply wl_val; apply opv_pickF; exact rfl; refine bF ?_; omega; exact rfl; exact rfl; refine wl_ns ?_; apply wc_condFb; exact rfl; exact Bool.not_true; refine wc_skip ?_; refine we_block_norm ?_; refine we_seq ?_; refine wc_region ?_; apply wl_val; apply opv_bin; exact rfl; exact rfl; exact bin_add64 (by omega); exact rfl; refine wl_mv rfl rfl ?_; refine wl_nil ?_
    refine we_loop _ (ms2.length - (j + 1)) ⟨j + 1, rfl, by omega, (hs.drop 0 rfl).drop 0 rfl, rfl⟩ (by omega) ⟨rfl, rfl, rfl, rfl, rfl, rfl, by simp [lookT], trivial⟩
  replace hs := hs.drop 0 rfl
  dsimp only [delC] at hs
  refine wc_exit ?_; refine we_seq_exit ?_; refine we_loop_exit ?_; refine we_block_exit ?_; refine we_seq ?_; refine wc_sr ?_; refine wl_mv rfl rfl ?_; refine wl_mv rfl rfl ?_
  refine ws_bs (vs := []) hs tyU trivial rfl (by decide) rfl ?_
  clear hs; intro F0 w14 hs
  refine wl_mv rfl rfl ?_
  refine ws_app (ys := u64s ms) (m := ms.length) hs 0 rfl rfl tyU rfl (hm2.below hs.bel) (u64s_one ms) (by omega) (by simp only [maxLen]; omega) rfl ?_
  clear hs; intro F1 f1 w15 hs; dsimp only [setC] at hs
  rw [List.nil_append, Nat.zero_add] at hs
  rw [Nat.zero_add]
  refine wl_call ok_merge_Keep (keep_any (bt := bt) (ms := ms) (OwR.rd (hs.rg 1 rfl)) rfl hkq (hs.ow 0 rfl).rd (fun x hx => by have := hokk x hx; omega) (by omega) (by omega)) ⟨rfl, rfl, rfl, trivial⟩ rfl ?_
  rintro _ w16 ⟨Q2, cq2, rfl, hsx⟩
  replace hs := hs.call hsx
  dsimp only [List.cons_append, List.nil_append] at hs
  rw [hw0, if_pos rfl, hagain] at hs
  rw [hw0, if_pos rfl, hagain]
  refine wl_mv rfl rfl ?_; apply wl_val; apply opv_extract; exact rfl; exact rfl; exact rfl; apply wl_val; apply opv_extract; exact rfl; exact rfl; exact rfl; refine wl_as rfl rfl ?_; refine wl_as rfl rfl ?_; refine wl_ns ?_; refine wc_sr ?_; refine wl_mv rfl rfl ?_; refine wl_bin rfl rfl bin_eql rfl ?_; refine wl_mv rfl rfl ?_; apply wl_take; exact rfl; exact rfl; exact rfl; refine bT ?_; omega; refine wl_mv rfl rfl ?_; apply wl_take; exact rfl; exact rfl; exact rfl; refine bT ?_; omega; refine wl_mv rfl rfl ?_; apply wl_take; exact rfl; exact rfl; exact rfl; refine bT ?_; omega
  refine wl_call ok_caissonref07_SameList (sameListE_any (OwR.rd (hs.rg 0 rfl)) (OwR.rd (hs.rg 2 rfl)) rfl rfl (fun x hx => by have := hokk x hx; simp only [maxLen]; omega) (by omega) (by omega)) ⟨rfl, rfl, trivial⟩ rfl ?_
  rintro _ w17 ⟨⟨b, rfl, hb⟩, hbx7⟩
  obtain rfl := hb.2 rfl
  replace hs := hs.below hbx7
  apply wl_val; apply opv_pickT; exact rfl; refine bT ?_; omega; exact rfl; exact rfl; refine wl_as rfl rfl ?_; refine wl_ns ?_; refine wc_ret ?_
  exact we_ret1 rfl rfl ⟨_, rfl, rfl, hbw2.trans (hs.bel.mono hbw2.size)⟩
end Go.Proofs.Ytpnckagibkdcpaa
