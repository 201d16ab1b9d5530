/-
  The texts of this proof, joined: Jq.
-/
import Derived.Test.YtpnckagibkdcpaaKepM3
import Derived.Test.YtpnckagibkdcpaaKepM1

/-
  How arguments that are entries, or lists of them, are read; walks over awake and over the laws MergeSees and MergeKeeps.
-/
namespace Go.Proofs.Ytpnckagibkdcpaa
open Go.RowKit Go.ChangeShapes Go.WideShapes Go.ChangeAt Go.Deep

theorem open_boolV {H : Type} {enc : TypeId × Value → H} {P : Program} {w : World} {base : Nat} {spare : Nat → Bool} {held : Bool} {t : TypeId} {b : Bool} {d : DataW H} {ps : List MemPlace} (ht : P.underlying t = some .bool) (hd : DataW.Trod enc P w base spare held t (.bool b) d ps) : d = .lit (.bool b) ∧ ps = [] := by
  obtain ⟨fuel, hf⟩ := hd
  obtain ⟨b', h, hx⟩ := DataW.trod_bool ht hf
  simp [Value.cells] at h
  subst h
  simp only [Prod.mk.injEq] at hx
  exact hx
def enB (x : En) : Nat := x.key.length + x.val.length
theorem opens_entry : Opens Try.prog 56 enEl 4 enB (fun x => x.seq < 2 ^ 64) := fun {H} enc W fuel cs x h => by
  obtain ⟨xs, n, rfl, rfl, hl, hx, hf⟩ := DataW.trod_struct Try.underlying56 h
  replace hl : cs.length = 4 := hl.trans (by kernel_rfl)
  obtain ⟨c0, c1, c2, c3, rfl⟩ := len4 hl
  obtain ⟨y0, y1, y2, y3, rfl⟩ := len4 hx
  obtain ⟨a0, h0, _, k0, b0⟩ := opens_bytes enc W n [c0] y0 (field_at hf (i := 0) (off := 0) (k := 1) (t := 24) rfl rfl rfl (by kernel_rfl))
  obtain ⟨a1, h1, _, k1, b1⟩ := opens_int Try.underlying26 enc W n [c1] y1 (field_at hf (i := 1) (off := 1) (k := 1) (t := 26) rfl rfl rfl (by kernel_rfl))
  obtain ⟨a2, h2, _, k2, b2⟩ := opens_int Try.underlying5 enc W n [c2] y2 (field_at hf (i := 2) (off := 2) (k := 1) (t := 5) rfl rfl rfl (by kernel_rfl))
  obtain ⟨a3, h3, _, k3, b3⟩ := opens_bytes enc W n [c3] y3 (field_at hf (i := 3) (off := 3) (k := 1) (t := 24) rfl rfl rfl (by kernel_rfl))
  obtain rfl : c1 = .int .u64 a1 := by simpa [vEl] using h1
  obtain rfl : c2 = .int .u8 a2 := by simpa [vEl] using h2
  have k1' : 0 ≤ a1 ∧ a1 ≤ 18446744073709551615 := by simpa [Lit.wf, IntKind.min, IntKind.max, IntKind.signed, IntKind.bits] using k1
  have k2' : 0 ≤ a2 ∧ a2 ≤ 255 := by simpa [Lit.wf, IntKind.min, IntKind.max, IntKind.signed, IntKind.bits] using k2
  obtain ⟨s, rfl⟩ := Int.eq_ofNat_of_zero_le k1'.1
  obtain ⟨q, rfl⟩ := Int.eq_ofNat_of_zero_le k2'.1
  have h0' := h0
  have h3' := h3
  obtain ⟨A, c, e0, _⟩ := h0
  obtain ⟨B, d, e3, _⟩ := h3
  obtain rfl : c0 = .slice A a0.length c := by simpa using e0
  obtain rfl : c3 = .slice B a3.length d := by simpa using e3
  refine ⟨⟨a0, s, UInt8.ofNat q, a3⟩, ⟨A, c, B, d, ?_, h0', h3'⟩, rfl, ?_, ?_⟩
  · have : (UInt8.ofNat q).toNat = q := by rw [UInt8.toNat_ofNat', Nat.mod_eq_of_lt (by omega)]
    simp [enV, this]
  · show s < 2 ^ 64; omega
  · replace b0 : a0.length + 1 ≤ _ := b0
    replace b3 : a3.length + 1 ≤ _ := b3
    simp only [enB, Rows.uptoBulk, Rows.uptoBulkAll, List.map_cons, List.map_nil]
    omega
abbrev uEl (m : Nat) : El := vEl (.int .u64 (m : Int))
theorem opens_u64 : Opens Try.prog 26 uEl 1 (fun _ => 0) (fun m => m < 2 ^ 64) := fun {H} enc W fuel cs x h => by
  obtain ⟨a, h1, h2, k, b⟩ := opens_int Try.underlying26 enc W fuel cs x h
  have k' : 0 ≤ a ∧ a ≤ 18446744073709551615 := by simpa [Lit.wf, IntKind.min, IntKind.max, IntKind.signed, IntKind.bits] using k
  obtain ⟨s, rfl⟩ := Int.eq_ofNat_of_zero_le k'.1
  exact ⟨s, h1, h2, by omega, b⟩
theorem tkU : RowK Try.prog 41 26 1 (.int .u64 0) 8 := ⟨Try.underlying41, by kernel_rfl, rfl, by decide⟩
theorem opens_entries : Opens Try.prog 40 (fun l : List En => rowEl 4 (l.map enEl)) 1 (sumB enB) (fun l => ∀ x ∈ l, x.seq < 2 ^ 64) := opens_slice tkE (by kernel_rfl) opens_entry
theorem opens_u64s : Opens Try.prog 41 (fun l : List Nat => rowEl 1 (l.map uEl)) 1 (sumB fun _ => 0) (fun l => ∀ m ∈ l, m < 2 ^ 64) := opens_slice tkU (by kernel_rfl) opens_u64
theorem flat_u64s : ∀ (ms : List Nat), (ms.map fun (m : Nat) => [Value.int .u64 (m : Int)]).flatten = u64s ms
  | [] => rfl
  | m :: ms => by rw [List.map_cons, List.flatten_cons, flat_u64s ms]; rfl
theorem rd_u64s {w : World} {S : BS} {A : Option Addr} {ms : List Nat} (h : RdR 1 w S A (ms.map uEl)) : Rd w A ms.length (u64s ms) := by
  obtain ⟨css, h1, h2, _⟩ := h
  have he : css.flatten = u64s ms := by
    have hl := h1.1
    rw [List.length_map] at hl
    have : css = ms.map fun (m : Nat) => [Value.int .u64 (m : Int)] := by
      apply List.ext_getElem?
      intro i
      cases hi : css[i]? with
      | none => rw [List.getElem?_eq_none]; have := List.getElem?_eq_none_iff.1 hi; simp; omega
      | some cs =>
        obtain ⟨_, E, hE, hp⟩ := h1.2 i cs hi
        rw [List.getElem?_map] at hE ⊢
        cases hm : ms[i]? with
        | none => rw [hm] at hE; cases hE
        | some m => rw [hm] at hE; cases hE; exact congrArg some hp
    rw [this, flat_u64s]
  rw [he, List.length_map, Nat.mul_one] at h2
  exact h2
theorem ent_small {l : List En} (h : sumB enB l ≤ 1048576) : l.length ≤ 1048576 ∧ ∀ x ∈ l, x.key.length ≤ 1048576 ∧ x.val.length ≤ 1048576 := by
  have h1 := sumB_len (bulk := enB) l
  refine ⟨by omega, fun x hx => ?_⟩
  have h2 := sumB_mem (bulk := enB) hx
  have h3 : enB x = x.key.length + x.val.length := rfl
  omega
theorem w_ok {l : List En} (h : worstE [l] = 0) : checkE l = 0 ∧ Ord l := by
  have h1 : stepW 0 l = 0 := h
  unfold stepW errE at h1
  rcases checkE_le l with h0 | h0 | h0
  · cases ho : ordE l with
    | true => exact ⟨h0, ord_of ho⟩
    | false => rw [h0, ho] at h1; simp at h1
  · rw [h0] at h1; simp at h1
  · rw [h0] at h1; simp at h1
theorem check_ok {l : List En} (h : checkE l = 0) : ∀ x ∈ l, bigE x = false ∧ badE x = false := by
  intro x hx
  unfold checkE at h
  split at h
  · cases h
  · rename_i h1
    split at h
    · cases h
    · rename_i h2
      simp only [Bool.not_eq_true] at h1 h2
      have h1' := List.any_eq_false.1 h1 x hx
      have h2' := List.any_eq_false.1 h2 x hx
      simp only [Bool.not_eq_true] at h1' h2'
      exact ⟨h1', h2'⟩
theorem kind_ok {x : En} (h : badE x = false) : x.kind = 1 ∨ x.kind = 2 := by
  have := of_decide_eq_false h
  rcases Decidable.not_not.1 this with h | ⟨h, _⟩
  · exact .inl h
  · exact .inr h
theorem few_mem {l : List En} {n : Nat} {x : En} (h : x ∈ l.take n) : x ∈ l := List.mem_of_mem_take h
/-- The program's own list, of one key. -/
def awakeL : List En := [⟨[107], 9, 1, []⟩, ⟨[107], 7, 1, []⟩, ⟨[107], 5, 1, []⟩, ⟨[107], 3, 1, []⟩]
theorem awake_keep : worstE [awakeL] = 0 ∧ keepE awakeL false [6] = [⟨[107], 9, 1, []⟩, ⟨[107], 5, 1, []⟩] := by decide
set_option maxRecDepth 8000 in
theorem awake_any (w : World) : CallsV Try.prog 21 #[] w fun v w' => v = .bool true ∧ Below w.heap.size w w' := by
  have hs := St.init w
  refine calls_in (N := _) Try.func21 rfl Try.ntmps21 rfl ?_; show WC _ _ _ _ _ _
  refine wc_sr ?_; refine wl_as rfl rfl ?_; refine wl_ns ?_; refine wc_sr ?_
  refine ws_lit hs [107] tyB Try.underlying5 ⟨rfl, rfl, rfl, trivial⟩ rfl (by decide) (by decide) rfl rfl ?_
  clear hs; intro _ A w1 hs
  refine wl_as rfl rfl ?_; refine wl_ns ?_; refine wc_sr ?_; refine wl_mv rfl rfl ?_
  refine wl_val (opv_build (vs := [(0, .slice A 1 1), (1, .int .u64 9), (2, .int .u8 1)]) (cs := enV ⟨[107], 9, 1, []⟩ A 1 none 0) ⟨rfl, rfl, rfl, rfl, rfl, rfl, trivial⟩ (by kernel_rfl)) rfl ?_
  refine wl_mv rfl rfl ?_
  refine wl_val (opv_build (vs := [(0, .slice A 1 1), (1, .int .u64 7), (2, .int .u8 1)]) (cs := enV ⟨[107], 7, 1, []⟩ A 1 none 0) ⟨rfl, rfl, rfl, rfl, rfl, rfl, trivial⟩ (by kernel_rfl)) rfl ?_
  refine wl_mv rfl rfl ?_
  refine wl_val (opv_build (vs := [(0, .slice A 1 1), (1, .int .u64 5), (2, .int .u8 1)]) (cs := enV ⟨[107], 5, 1, []⟩ A 1 none 0) ⟨rfl, rfl, rfl, rfl, rfl, rfl, trivial⟩ (by kernel_rfl)) rfl ?_
  refine wl_mv rfl rfl ?_
  refine wl_val (opv_build (vs := [(0, .slice A 1 1), (1, .int .u64 3), (2, .int .u8 1)]) (cs := enV ⟨[107], 3, 1, []⟩ A 1 none 0) ⟨rfl, rfl, rfl, rfl, rfl, rfl, trivial⟩ (by kernel_rfl)) rfl ?_
  skip
  have hby : ∀ {w' : World}, Below w1.heap.size w1 w' → (byEl [107]).P w' All [.slice A 1 1] := fun hb => El.below (hs.ce 0 rfl) hb
  have hen : ∀ (s : Nat), (enEl ⟨[107], s, 1, []⟩).P w1 All (enV ⟨[107], s, 1, []⟩ A 1 none 0) := fun s => enEl.mk (hby (Below.refl _ _)) (byEl.mk (xs := []) (Rd.nil _ _) (Nat.zero_le _) fun _ _ _ => trivial)
  refine wl_bsG (css := [enV ⟨[107], 9, 1, []⟩ A 1 none 0, enV ⟨[107], 7, 1, []⟩ A 1 none 0, enV ⟨[107], 5, 1, []⟩ A 1 none 0, enV ⟨[107], 3, 1, []⟩ A 1 none 0]) tkE ⟨rfl, ⟨_, rfl, rfl⟩, rfl, rfl, ⟨_, rfl, rfl⟩, rfl, rfl, ⟨_, rfl, rfl⟩, rfl, rfl, ⟨_, rfl, rfl⟩, rfl, trivial⟩ (els := awakeL.map enEl) rfl (by decide) (by decide)
    ((Grp.one (hen 9) rfl).append ((Grp.one (hen 7) rfl).append ((Grp.one (hen 5) rfl).append (Grp.one (hen 3) rfl)))) rfl fun R w2 hR hbx _ => ?_
  replace hs := hs.below hbx
  have hR := OwR.rd hR
  skip
  refine wl_bs (vs := [.int .u64 6]) tyU ⟨rfl, rfl, rfl, trivial⟩ rfl (by decide) rfl fun B w3 ho3 hbx3 _ => ?_
  replace hs := hs.below hbx3
  replace hR := hR.below hbx3
  refine wl_call ok_merge_Keep (keep_any (bt := false) (ms := [6]) (nb := 1) hR rfl (by decide) (Ow.rd ho3) (by decide) (by decide) (by decide)) ⟨rfl, rfl, rfl, trivial⟩ rfl ?_
  rintro _ w4 ⟨P, cp, rfl, hsx⟩
  rw [awake_keep.1, if_pos rfl, awake_keep.2] at hsx
  rw [awake_keep.1, if_pos rfl, awake_keep.2]
  obtain ⟨b, o, cs, rfl, _, _, hp, i1⟩ := RdR.at (k := 4) (by decide) (OwR.rd (hsx.rg 0 rfl)) (E := enEl ⟨[107], 9, 1, []⟩) (i := 0) rfl
  obtain ⟨_, _, cs2, hA, _, _, hp2, i2⟩ := RdR.at (k := 4) (by decide) (OwR.rd (hsx.rg 0 rfl)) (E := enEl ⟨[107], 5, 1, []⟩) (i := 1) rfl
  simp only [Option.some.injEq, Addr.mk.injEq, and_true] at hA
  obtain ⟨rfl, rfl⟩ := hA
  obtain ⟨U, cu, U2, cu2, rfl, _⟩ := enEl.rd (El.all hp)
  obtain ⟨V, cv, V2, cv2, rfl, _⟩ := enEl.rd (El.all hp2)
  unfold enV at i1 i2
  have hb4 := hs.bel.trans (hsx.bel.mono hs.size)
  have j0 : ((0 : Nat) : Int) = 0 := rfl
  refine wl_mv rfl rfl ?_; apply wl_val; apply opv_extract; exact rfl; exact rfl; exact rfl; apply wl_val; apply opv_extract; exact rfl; exact rfl; exact rfl; refine wl_as rfl rfl ?_; refine wl_as rfl rfl ?_; refine wl_ns ?_; refine wc_sr ?_; refine wl_mv rfl rfl ?_; refine wl_bin rfl rfl bin_eql rfl ?_; refine wl_mv rfl rfl ?_; apply wl_take; exact rfl; exact rfl; exact rfl; refine bT ?_; (with_reducible assumption); refine wl_mv rfl rfl ?_; apply wl_take; exact rfl; exact rfl; exact rfl; refine bT ?_; (with_reducible assumption); apply wl_val; apply opv_len; exact rfl; exact tkE.sl; exact rfl; apply wl_take; exact rfl; exact rfl; exact rfl; refine bT ?_; (with_reducible assumption); refine wl_bin rfl rfl bin_eql rfl ?_; apply wl_val; apply opv_pickT; exact rfl; refine bT ?_; (with_reducible assumption); exact rfl; exact rfl; refine wl_mv rfl rfl ?_; apply wl_take; exact rfl; exact rfl; exact rfl; refine bT ?_; exact rfl; refine wl_mv rfl rfl ?_; apply wl_take; exact rfl; exact rfl; exact rfl; refine bT ?_; exact rfl; apply wl_val; apply opv_idxG (kk := 0) tkE; exact rfl; exact rfl; exact rfl; exact Nat.le_of_ble_eq_true rfl; exact rfl; apply wl_take; exact rfl; exact rfl; exact rfl; refine bT ?_; exact rfl; apply wl_val; apply opv_fa; exact fa_sE (by decide); exact rfl; exact rfl; apply wl_take; exact rfl; exact rfl; exact rfl; refine bT ?_; exact rfl; apply wl_val; apply opv_ldW; exact rfl; assumption; exact e1_u64; exact rfl; exact rfl; apply wl_take; exact rfl; exact rfl; exact rfl; refine bT ?_; exact rfl; refine wl_bin rfl rfl bin_eql rfl ?_; apply wl_val; apply opv_pickT; exact rfl; refine bT ?_; exact rfl; exact rfl; exact rfl; refine wl_mv rfl rfl ?_; apply wl_take; exact rfl; exact rfl; exact rfl; refine bT ?_; exact rfl; refine wl_mv rfl rfl ?_; apply wl_take; exact rfl; exact rfl; exact rfl; refine bT ?_; exact rfl; apply wl_val; apply opv_idxG (kk := 1) tkE; exact rfl; exact rfl; exact rfl; exact Nat.le_of_ble_eq_true rfl; exact rfl; apply wl_take; exact rfl; exact rfl; exact rfl; refine bT ?_; exact rfl; apply wl_val; apply opv_fa; exact fa_sE (by decide); exact rfl; exact rfl; apply wl_take; exact rfl; exact rfl; exact rfl; refine bT ?_; exact rfl; apply wl_val; apply opv_ldW; exact rfl; assumption; exact e1_u64; exact rfl; exact rfl; apply wl_take; exact rfl; exact rfl; exact rfl; refine bT ?_; exact rfl; refine wl_bin rfl rfl bin_eql rfl ?_; apply wl_val; apply opv_pickT; exact rfl; refine bT ?_; exact rfl; exact rfl; exact rfl; refine wl_as rfl rfl ?_; refine wl_ns ?_; refine wc_ret ?_
  exact we_ret1 rfl rfl ⟨_, rfl, rfl, hb4⟩
abbrev RetTr (w : World) (v : Value) (w' : World) : Prop := v = .bool true ∧ Below w.heap.size w w'
theorem rows_one {w : World} {A : Option Addr} {n c : Nat} {l : List En} (hr : RdR 4 w All A (l.map enEl)) (hn : l.length = n) (hc : n ≤ c) : Grp 1 w All (rowsE [l]) [[.slice A n c]] :=
  Grp.one (by subst hn; have := rowEl.mk hr (c := c) (by simpa using hc) (by decide); simpa using this) rfl
theorem sees_any {A : Option Addr} {n c m : Nat} {l : List En} {w : World} (hr : RdR 4 w All A (l.map enEl)) (hn : l.length = n) (hc : n ≤ c) (hsq : ∀ x ∈ l, x.seq < 2 ^ 64) (hl : sumB enB l ≤ 1048576) (hm : m < 2 ^ 64) :
    CallsV Try.prog 5 #[.slice A n c, .int .u64 (m : Int)] w (RetTr w) := by
  obtain ⟨hl1, hok1⟩ := ent_small hl
  have hs := St.init w
  refine calls_in (N := _) Try.func5 rfl Try.ntmps5 rfl ?_; show WC _ _ _ _ _ _
  refine wc_sr ?_; refine wl_as rfl rfl ?_; refine wl_ns ?_; refine wc_seq ?_; refine wc_sr ?_
  refine wl_call ok_caissonlaw11_awake (awake_any _) trivial rfl ?_; rintro _ _ ⟨rfl, hbx⟩; replace hs := hs.below hbx; try dsimp only [List.cons_append, List.nil_append, setC, delC] at hs
  apply wl_val; apply opv_not; exact rfl; exact rfl; refine wl_ns ?_; apply wc_condFb; exact rfl; exact Bool.not_true; refine wc_skip ?_; refine we_seq ?_; refine wc_sr ?_; refine wl_mv rfl rfl ?_
  refine wl_call ok_caissonlaw11_few (few_any (m := 60) hn hc) ⟨rfl, rfl, trivial⟩ rfl ?_; rintro _ _ ⟨rfl, rfl⟩
  have hr2 := take_rdr (m := 60) hr (by omega)
  have hok : ∀ x ∈ l.take 60, x.key.length ≤ 1048576 ∧ x.val.length ≤ 1048576 := fun x hx => hok1 x (few_mem hx)
  have hsq2 : ∀ x ∈ l.take 60, x.seq < 2 ^ 64 := fun x hx => hsq x (few_mem hx)
  have hlen : (l.take 60).length ≤ 60 := by rw [List.length_take]; omega
  have hlc : (l.take 60).length ≤ c := by rw [List.length_take]; omega
  obtain ⟨k, hk⟩ : ∃ q, l.take 60 = q := ⟨_, rfl⟩
  rw [hk] at hr2 hok hsq2 hlen hlc
  rw [hk]
  clear hr hok1 hsq hk
  refine wl_as rfl rfl ?_; refine wl_ns ?_; refine wc_sr ?_; refine wl_mv rfl rfl ?_
  refine wl_call ok_caissonref07_Twins (twinsE_any (hr2.below hs.bel) rfl (fun x hx => by have := hok x hx; omega) (by omega)) ⟨rfl, trivial⟩ rfl ?_
  rintro _ w2 ⟨B, d, rfl, hB, hbx2⟩
  replace hs := hs.below hbx2
  have hBl := OwR.len_le hB
  rw [List.length_map] at hBl
  refine wl_mv rfl rfl ?_
  refine wl_call ok_merge_Visible (visible_any (m := m) (OwR.rd hB) rfl hBl (fun x hx => by have := hok x hx; omega) (by omega)) ⟨rfl, rfl, trivial⟩ rfl ?_
  rintro _ w3 ⟨P, cp, rfl, hsx⟩
  replace hs := hs.call hsx
  dsimp only [List.cons_append, List.nil_append] at hs
  refine wl_mv rfl rfl ?_; apply wl_val; apply opv_extract; exact rfl; exact rfl; exact rfl; apply wl_val; apply opv_extract; exact rfl; exact rfl; exact rfl; refine wl_as rfl rfl ?_; refine wl_as rfl rfl ?_; refine wl_ns ?_; refine wc_sr ?_; refine wl_mv rfl rfl ?_
  refine wl_bsG (css := [[.slice A k.length c]]) tkEE ⟨rfl, ⟨_, rfl, rfl⟩, rfl, trivial⟩ (els := rowsE [k]) rfl (by decide) (by decide) (rows_one (hr2.below hs.bel) rfl hlc) rfl fun R w4 hR hbx4 _ => ?_
  replace hs := hs.below hbx4
  skip
  refine wl_call ok_caissonref11_Check (refCheck11_any (lists := [k]) (OwR.rd hR) rfl (by intro l' h; simp at h; subst h; exact ⟨by omega, fun x hx => by have := hok x hx; simp only [maxLen]; omega⟩) (by simp)) ⟨rfl, trivial⟩ rfl ?_; rintro _ _ ⟨rfl, hbx5⟩; replace hs := hs.below hbx5; try dsimp only [List.cons_append, List.nil_append, setC, delC] at hs
  obtain ⟨e, he⟩ : ∃ q, worstE [k] = q := ⟨_, rfl⟩
  rw [he] at hs
  rw [he]
  by_cases h0 : e = 0
  · subst h0
    rw [if_pos rfl] at hs
    rw [if_pos rfl]
    obtain ⟨hck, hord⟩ := w_ok he
    refine wl_as rfl rfl ?_; refine wl_ns ?_; refine wc_seq ?_; refine wc_sr ?_; refine wl_mv rfl rfl ?_; refine wl_mv rfl rfl ?_; refine wl_bin rfl rfl bin_neq rfl ?_; refine wl_ns ?_; apply wc_condFb; exact rfl; exact rfl; refine wc_skip ?_; refine we_seq ?_; refine wc_seq ?_; refine wc_sr ?_; refine wl_mv rfl rfl ?_; refine wl_bin rfl rfl bin_neq rfl ?_; refine wl_ns ?_; apply wc_condFb; exact rfl; exact rfl; refine wc_skip ?_; refine we_seq ?_; refine wc_sr ?_; refine wl_mv rfl rfl ?_; refine wl_mv rfl rfl ?_; refine wl_mv rfl rfl ?_
    refine wl_call ok_caissonref11_Visible (refVisible_any (S := All) (m := m) (hr2.below hs.bel) rfl (fun x hx => by have := hok x hx; simp only [maxLen]; exact ⟨by omega, hsq2 x hx⟩) (by omega)) ⟨rfl, rfl, trivial⟩ rfl ?_
    rintro _ w6 ⟨V, cv, rfl, hV, hbx6⟩
    replace hs := hs.below hbx6
    have hvl : (refVis k m).length ≤ 60 := Nat.le_trans (List.length_filter_le _ _) hlen
    rw [vis_eq hord m] at hs
    rw [vis_eq hord m]
    refine wl_call ok_caissonref07_SameList (sameListE_any (OwR.rd (hs.rg 0 rfl)) (OwR.rd hV) rfl rfl (fun x hx => by have := hok x (List.mem_filter.1 hx).1; simp only [maxLen]; omega) (by omega) (by omega)) ⟨rfl, rfl, trivial⟩ rfl ?_
    rintro _ w7 ⟨⟨b, rfl, hb⟩, hbx7⟩
    obtain rfl := hb.2 rfl
    replace hs := hs.below hbx7
    refine wl_as rfl rfl ?_; refine wl_ns ?_; refine wc_ret ?_
    exact we_ret1 rfl rfl ⟨_, rfl, rfl, hs.bel⟩
  · rw [if_neg h0] at hs
    rw [if_neg h0]
    have h0' : (e : Int) ≠ 0 := by omega
    refine wl_as rfl rfl ?_; refine wl_ns ?_; refine wc_seq ?_; refine wc_sr ?_; refine wl_mv rfl rfl ?_; refine wl_mv rfl rfl ?_; refine wl_bin rfl rfl bin_neq rfl ?_; refine wl_ns ?_; apply wc_decF; exact rfl; (with_reducible exact nne); refine wc_skip ?_; refine we_seq ?_; refine wc_seq ?_; refine wc_sr ?_; refine wl_mv rfl rfl ?_; refine wl_bin rfl rfl bin_neq rfl ?_; refine wl_ns ?_; apply wc_decT; exact rfl; (with_reducible assumption); refine wc_sr ?_; refine wl_mv rfl rfl ?_; apply wl_val; apply opv_len; exact rfl; exact tkE.sl; exact rfl; refine wl_bin rfl rfl bin_eql rfl ?_; refine wl_as rfl rfl ?_; refine wl_ns ?_; refine wc_ret ?_; refine we_seq_ret ?_
    exact we_ret1 rfl rfl ⟨_, rfl, rfl, hs.bel⟩
theorem u64s_one (ms : List Nat) : ∀ u ∈ u64s ms, u.oneCell' = true := by
  intro u hu; simp [u64s] at hu; obtain ⟨_, _, rfl⟩ := hu; rfl
set_option maxRecDepth 4000 in
theorem keeps_any {A B : Option Addr} {n c nb cb : Nat} {l : List En} {bt : Bool} {ms : List Nat} {w : World} (hr : RdR 4 w All A (l.map enEl)) (hn : l.length = n) (hc : n ≤ c) (hsq : ∀ x ∈ l, x.seq < 2 ^ 64) (hl : sumB enB l ≤ 1048576) (hm0 : RdR 1 w All B (ms.map uEl)) (hnb : ms.length = nb) (hcb : nb ≤ cb) (_hms : ∀ m ∈ ms, m < 2 ^ 64) (hml : (sumB (fun _ => 0) ms : Nat) ≤ 1048576) :
    CallsV Try.prog 4 #[.slice A n c, .bool bt, .slice B nb cb] w (RetTr w) := by
  obtain ⟨hl1, hok1⟩ := ent_small hl
  have hm := rd_u64s hm0
  have hml1 := sumB_len (bulk := fun _ : Nat => 0) ms
  subst hnb
  have hs := St.init w
  refine calls_in (N := _) Try.func4 rfl Try.ntmps4 rfl ?_; show WC _ _ _ _ _ _
  refine wc_sr ?_; refine wl_as rfl rfl ?_; refine wl_ns ?_; refine wc_seq ?_; refine wc_sr ?_
  refine wl_call ok_caissonlaw11_awake (awake_any _) trivial rfl ?_; rintro _ _ ⟨rfl, hbx⟩; replace hs := hs.below hbx; try dsimp only [List.cons_append, List.nil_append, setC, delC] at hs
  apply wl_val; apply opv_not; exact rfl; exact rfl; refine wl_ns ?_; apply wc_condFb; exact rfl; exact Bool.not_true; refine wc_skip ?_; refine we_seq ?_; refine wc_sr ?_; refine wl_mv rfl rfl ?_
  refine wl_call ok_caissonlaw11_few (few_any (m := 40) hn hc) ⟨rfl, rfl, trivial⟩ rfl ?_; rintro _ _ ⟨rfl, rfl⟩
  have hr2 := take_rdr (m := 40) hr (by omega)
  have hok : ∀ x ∈ l.take 40, x.key.length ≤ 1048576 ∧ x.val.length ≤ 1048576 := fun x hx => hok1 x (few_mem hx)
  have hsq2 : ∀ x ∈ l.take 40, x.seq < 2 ^ 64 := fun x hx => hsq x (few_mem hx)
  have hlen : (l.take 40).length ≤ 40 := by rw [List.length_take]; omega
  have hlc : (l.take 40).length ≤ c := by rw [List.length_take]; omega
  obtain ⟨k, hk⟩ : ∃ q, l.take 40 = q := ⟨_, rfl⟩
  rw [hk] at hr2 hok hsq2 hlen hlc
  rw [hk]
  clear hr hok1 hsq hk
  refine wl_as rfl rfl ?_; refine wl_ns ?_; refine wc_sr ?_; refine wl_mv rfl rfl ?_
  refine wl_call ok_caissonref07_Twins (twinsE_any (hr2.below hs.bel) rfl (fun x hx => by have := hok x hx; omega) (by omega)) ⟨rfl, trivial⟩ rfl ?_
  rintro _ w2 ⟨D, d, rfl, hB, hbx2⟩
  replace hs := hs.newG hbx2 hB (Nat.le_refl _) fun _ _ h => h
  have hBl := OwR.len_le hB
  rw [List.length_map] at hBl
  refine wl_mv rfl rfl ?_
  refine ws_bs (vs := []) hs tyU trivial rfl (by decide) rfl ?_
  clear hs; intro E0 w3 hs
  refine wl_mv rfl rfl ?_
  refine ws_app (ys := u64s ms) (m := ms.length) hs 0 rfl rfl tyU rfl (hm.below hs.bel) (u64s_one ms) (by omega) (by simp only [maxLen]; omega) rfl ?_
  clear hs; intro E1 c1 w4 hs; dsimp only [setC] at hs
  rw [List.nil_append, Nat.zero_add] at hs
  rw [Nat.zero_add]
  refine wl_call ok_merge_Keep (keep_any (bt := bt) (ms := ms) (OwR.rd (hs.rg 1 rfl)) rfl hBl (hs.ow 0 rfl).rd (fun x hx => by have := hok x hx; omega) (by omega) (by omega)) ⟨rfl, rfl, rfl, trivial⟩ rfl ?_
  rintro _ w5 ⟨P, cp, rfl, hsx⟩
  replace hs := ((hs.drop 0 rfl).drop 0 rfl).call hsx
  dsimp only [delC, List.cons_append, List.nil_append] at hs
  refine wl_mv rfl rfl ?_; apply wl_val; apply opv_extract; exact rfl; exact rfl; exact rfl; apply wl_val; apply opv_extract; exact rfl; exact rfl; exact rfl; refine wl_as rfl rfl ?_; refine wl_as rfl rfl ?_; refine wl_ns ?_; refine wc_sr ?_; refine wl_mv rfl rfl ?_
  refine wl_bsG (css := [[.slice A k.length c]]) tkEE ⟨rfl, ⟨_, rfl, rfl⟩, rfl, trivial⟩ (els := rowsE [k]) rfl (by decide) (by decide) (rows_one (hr2.below hs.bel) rfl hlc) rfl fun R w6 hR hbx4 _ => ?_
  replace hs := hs.below hbx4
  skip
  refine wl_call ok_caissonref11_Check (refCheck11_any (lists := [k]) (OwR.rd hR) rfl (by intro l' h; simp at h; subst h; exact ⟨by omega, fun x hx => by have := hok x hx; simp only [maxLen]; omega⟩) (by simp)) ⟨rfl, trivial⟩ rfl ?_; rintro _ _ ⟨rfl, hbx5⟩; replace hs := hs.below hbx5; try dsimp only [List.cons_append, List.nil_append, setC, delC] at hs
  obtain ⟨e, he⟩ : ∃ q, worstE [k] = q := ⟨_, rfl⟩
  rw [he] at hs
  rw [he]
  by_cases h0 : e = 0
  · subst h0
    rw [if_pos rfl] at hs
    rw [if_pos rfl]
    obtain ⟨hck, hord⟩ := w_ok he
    have hkd : ∀ x ∈ k, x.kind = 1 ∨ x.kind = 2 := fun x hx => kind_ok (check_ok hck x hx).2
    refine wl_as rfl rfl ?_; refine wl_ns ?_; refine wc_seq ?_; refine wc_sr ?_; refine wl_mv rfl rfl ?_; refine wl_mv rfl rfl ?_; refine wl_bin rfl rfl bin_neq rfl ?_; refine wl_ns ?_; apply wc_condFb; exact rfl; exact rfl; refine wc_skip ?_; refine we_seq ?_; refine wc_seq ?_; refine wc_sr ?_; refine wl_mv rfl rfl ?_; refine wl_bin rfl rfl bin_neq rfl ?_; refine wl_ns ?_; apply wc_condFb; exact rfl; exact rfl; refine wc_skip ?_; refine we_seq ?_; refine wc_sr ?_; refine wl_mv rfl rfl ?_; refine wl_mv rfl rfl ?_; refine wl_mv rfl rfl ?_; refine wl_mv rfl rfl ?_
    refine wl_call ok_caissonref11_Keep (refKeep_any (S := All) (bt := bt) (ms := ms) (hr2.below hs.bel) rfl (hm.below hs.bel) (fun x hx => by have := hok x hx; simp only [maxLen]; omega) (by omega) (by omega)) ⟨rfl, rfl, rfl, trivial⟩ rfl ?_
    rintro _ w7 ⟨V, cv, rfl, hV, hbx6⟩
    replace hs := hs.below hbx6
    rw [keep_eq hord hsq2 hkd] at hs
    rw [keep_eq hord hsq2 hkd]
    have hvl : (refKeep k bt ms).length ≤ 40 := by
      rw [← keep_eq hord hsq2 hkd]
      have := flat_len (keepR_len bt ms) (runsE k)
      rw [runs_sum] at this
      exact Nat.le_trans this hlen
    have hvm : ∀ x ∈ refKeep k bt ms, x ∈ k := fun x hx => by
      rw [← keep_eq hord hsq2 hkd] at hx
      obtain ⟨r, hr, hxr⟩ := List.mem_flatMap.1 hx
      have := List.mem_of_mem_take hxr
      rw [needE, List.mem_filterMap] at this
      obtain ⟨i, _, hi⟩ := this
      rw [pick] at hi
      split at hi
      · exact ((runsE_facts k).2 r hr).2.1 x (List.mem_of_getElem? hi)
      · cases hi
    refine wl_call ok_caissonref07_SameList (sameListE_any (OwR.rd (hs.rg 0 rfl)) (OwR.rd hV) rfl rfl (fun x hx => by have := hok x (hvm x hx); simp only [maxLen]; omega) (by omega) (by omega)) ⟨rfl, rfl, trivial⟩ rfl ?_
    rintro _ w8 ⟨⟨b, rfl, hb⟩, hbx7⟩
    obtain rfl := hb.2 rfl
    replace hs := hs.below hbx7
    refine wl_as rfl rfl ?_; refine wl_ns ?_; refine wc_ret ?_
    exact we_ret1 rfl rfl ⟨_, rfl, rfl, hs.bel⟩
  · rw [if_neg h0] at hs
    rw [if_neg h0]
    have h0' : (e : Int) ≠ 0 := by omega
    refine wl_as rfl rfl ?_; refine wl_ns ?_; refine wc_seq ?_; refine wc_sr ?_; refine wl_mv rfl rfl ?_; refine wl_mv rfl rfl ?_; refine wl_bin rfl rfl bin_neq rfl ?_; refine wl_ns ?_; apply wc_decF; exact rfl; (with_reducible exact nne); refine wc_skip ?_; refine we_seq ?_; refine wc_seq ?_; refine wc_sr ?_; refine wl_mv rfl rfl ?_; refine wl_bin rfl rfl bin_neq rfl ?_; refine wl_ns ?_; apply wc_decT; exact rfl; (with_reducible assumption); refine wc_sr ?_; refine wl_mv rfl rfl ?_; apply wl_val; apply opv_len; exact rfl; exact tkE.sl; exact rfl; refine wl_bin rfl rfl bin_eql rfl ?_; refine wl_as rfl rfl ?_; refine wl_ns ?_; refine wc_ret ?_; refine we_seq_ret ?_
    exact we_ret1 rfl rfl ⟨_, rfl, rfl, hs.bel⟩
end Go.Proofs.Ytpnckagibkdcpaa
