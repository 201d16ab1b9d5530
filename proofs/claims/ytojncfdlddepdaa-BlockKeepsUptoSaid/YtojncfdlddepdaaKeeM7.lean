/-
  The texts of this proof, joined: Bx.
-/
import Derived.Test.YtojncfdlddepdaaKeeM6

/-
  Walk over the law BlockKeeps.
-/
namespace Go.Proofs.Ytojncfdlddepdaa
open Go.RowKit

theorem sekM {l : List En} {y : En} (hok : ∀ x ∈ l, x.key.length ≤ 1048576 ∧ x.val.length ≤ 1048576) : ((sekE l y).getD noE).key.length ≤ 1048576 ∧ ((sekE l y).getD noE).val.length ≤ 1048576 := by
  cases h : sekE l y with
  | none => exact ⟨Nat.zero_le _, Nat.zero_le _⟩
  | some z => exact hok z (List.mem_of_find?_eq_some h)
set_option maxRecDepth 8000 in
theorem keeps8_any {A B : Option Addr} {n c nb cb : Nat} {l0 : List En} {key : List UInt8} {w : World} (hr : RdR 4 w All A (l0.map enEl)) (hn : l0.length = n) (hc : n ≤ c) (hsq : ∀ x ∈ l0, x.seq < 2 ^ 64) (hl : sumB enB l0 ≤ 1048576) (hk : RdB w B key) (hnb : key.length = nb) (_hkl : nb ≤ cb) (_hkl2 : key.length ≤ 1048576) :
    CallsV Try.prog 6 #[.slice A n c, .slice B nb cb] w (RetTr w) := by
  obtain ⟨hl1, hok1⟩ := ent_small hl
  subst hnb
  have hs := St.init w
  refine calls_in (N := _) Try.func6 rfl Try.ntmps6 rfl ?_; show WC _ _ _ _ _ _
  refine wc_sr ?_; refine wl_as rfl rfl ?_; refine wl_ns ?_; refine wc_seq ?_; refine wc_sr ?_
  refine wl_call ok_caissonlaw08_awake awake8_any trivial rfl ?_
  rintro _ w1 ⟨rfl, hbx⟩
  replace hs := hs.below hbx
  clear hbx
  apply wl_val; apply opv_not; exact rfl; exact rfl; refine wl_ns ?_; apply wc_condFb; exact rfl; exact Bool.not_true; refine wc_skip ?_; refine we_seq ?_; refine wc_seq ?_; refine wc_sr ?_; refine wl_mv rfl rfl ?_; apply wl_val; apply opv_len; exact rfl; exact tkE.sl; exact rfl; refine wl_bin rfl rfl bin_gtr rfl ?_; refine wl_ns ?_
  refine wc_cutE (fun L' w' => L' = [(0, .slice A (l0.take 20).length c), (1, .slice B key.length cb)] ∧ w' = w1) ?_ ?_
  · by_cases h : 20 < n
    · have h' : (n : Int) > 20 := by omega
      apply wc_decT; exact rfl; (with_reducible assumption); refine wc_region ?_; refine wl_mv rfl rfl ?_
      refine wl_slK (l := 0) (h := 20) tkE rfl rfl ⟨_, rfl⟩ (by omega) (by omega) rfl ?_
      rw [cutK_zero]
      refine wl_as rfl rfl ?_; refine wl_nil ?_
      exact we_cut _ ⟨rfl, rfl⟩ ⟨congrArg some (slice_eq (by simp; omega)), rfl, trivial⟩
    · have h' : ¬ (n : Int) > 20 := by omega
      apply wc_decF; exact rfl; (with_reducible assumption); refine wc_skip ?_
      exact we_cut _ ⟨rfl, rfl⟩ ⟨congrArg some (slice_eq (by simp; omega)), rfl, trivial⟩
  rintro _ _ ⟨rfl, rfl⟩
  refine we_seq ?_
  have hr2 := take_rdr (m := 20) hr (by omega)
  have hokA : ∀ x ∈ l0.take 20, (x.key.length ≤ 1048576 ∧ x.val.length ≤ 1048576) ∧ x.seq < 2 ^ 64 := fun x hx => ⟨hok1 x (few_mem hx), hsq x (few_mem hx)⟩
  have hlen : (l0.take 20).length ≤ 20 := by rw [List.length_take]; omega
  obtain ⟨k, hk'⟩ : ∃ q, l0.take 20 = q := ⟨_, rfl⟩
  rw [hk'] at hr2 hokA hlen
  rw [hk']
  clear hr hok1 hsq hk'
  refine wc_sr ?_; refine wl_mv rfl rfl ?_
  refine wl_call ok_caissonref07_Sorted (sorted_any (hr2.below hs.bel) rfl (fun x hx => by have := (hokA x hx).1; simp only [maxLen]; omega) (by omega)) ⟨rfl, trivial⟩ rfl ?_
  rintro _ w2 ⟨P, cp, rfl, hcp, hl2, hbx2⟩
  obtain ⟨hsl, hsm⟩ := sorted_mem8 hokA
  obtain ⟨hord, hchk⟩ := sorted_ok k
  obtain ⟨l, hld⟩ : ∃ q, sortedE k = q := ⟨_, rfl⟩
  rw [hld] at hl2 hsl hsm hord hchk hcp
  rw [hld]
  have hbw2 := hs.bel.trans (hbx2.mono hs.size)
  have hl3 : RdR 4 w2 All P (l.map enEl) := RdR.mono (by decide) hl2 fun _ _ _ => trivial
  replace hk := hk.below hbw2
  clear hs hbx2 hr2 hokA hl2
  have hs := St.init w2
  have hmx : ∀ x ∈ l, x.key.length ≤ 1048576 ∧ x.val.length ≤ 1048576 := fun x hx => (hsm x hx).1
  have hz2 : Siz2 l := fun x hx => by have := hmx x hx; exact ⟨by omega, by omega, (hsm x hx).2⟩
  refine wl_as rfl rfl ?_; refine wl_ns ?_; refine wc_sr ?_; refine wl_mv rfl rfl ?_
  refine wl_call ok_caissonref07_Twins (twins3_any (l := l) (hl3.below hs.bel) rfl (fun x h => by have := hmx x h; omega) (by omega)) ⟨rfl, trivial⟩ rfl ?_
  rintro _ w3 ⟨D, d, rfl, hsx⟩
  replace hs := hs.call hsx
  clear hsx
  dsimp only [List.cons_append, List.nil_append] at hs
  have hck0 := check_of hchk
  have hor0 := ordE_of hord
  refine wl_as rfl rfl ?_; refine wl_ns ?_; refine wc_sr ?_; refine wl_mv rfl rfl ?_
  refine wl_call ok_block_Build (blkBuild_any (l := l) (every := 2) (by decide) (by decide) (OwR.rd (hs.rsE 0 rfl)) rfl (by omega) hz2) ⟨rfl, rfl, trivial⟩ rfl ?_
  by_cases hbig : 1048576 < (blkB 2 l).length
  · have hbd : buildB 2 l = ([], 2) := by
      rw [buildB, hck0, if_neg (by omega), sealB, if_pos hbig]; rfl
    rw [hbd]
    rintro _ w6 ⟨BA, bc, rfl, oB, hbx⟩
    replace hs := hs.below hbx
    clear oB hbx
    dsimp only
    have h2 : ((2 : Nat) : Int) = 2 := rfl
    refine wl_mv rfl rfl ?_; apply wl_val; apply opv_extract; exact rfl; exact rfl; exact rfl; apply wl_val; apply opv_extract; exact rfl; exact rfl; exact rfl; refine wl_as rfl rfl ?_; refine wl_as rfl rfl ?_; refine wl_ns ?_; refine wc_sr ?_; refine wl_mv rfl rfl ?_
    refine wl_call ok_block_Build (blkBuild_any (l := l) (every := 2) (by decide) (by decide) (OwR.rd (hs.rsE 0 rfl)) rfl (by omega) hz2) ⟨rfl, rfl, trivial⟩ rfl ?_
    rw [hbd]
    rintro _ w7 ⟨BA2, bc2, rfl, oB, hbx⟩
    replace hs := hs.below hbx
    clear oB hbx
    dsimp only
    refine wl_mv rfl rfl ?_; apply wl_val; apply opv_extract; exact rfl; exact rfl; exact rfl; apply wl_val; apply opv_extract; exact rfl; exact rfl; exact rfl; refine wl_as rfl rfl ?_; refine wl_as rfl rfl ?_; refine wl_ns ?_; refine wc_seq ?_; refine wc_sr ?_; refine wl_mv rfl rfl ?_; refine wl_bin rfl rfl bin_neq rfl ?_; refine wl_ns ?_; apply wc_condTb; exact rfl; exact rfl; refine wc_sr ?_; refine wl_mv rfl rfl ?_; refine wl_bin rfl rfl bin_eql rfl ?_; refine wl_as rfl rfl ?_; refine wl_ns ?_; refine wc_ret ?_; refine we_seq_ret ?_
    exact we_ret1 rfl rfl ⟨_, rfl, rfl, hbw2.trans (hs.bel.mono hbw2.size)⟩
  obtain ⟨hbd, hdc⟩ := dec_build (every := 2) (by decide) hz2.siz hck0 hor0 (by omega)
  obtain ⟨bs, hbs⟩ : ∃ q, crcRec (blkB 2 l) = q := ⟨_, rfl⟩
  rw [hbs] at hbd hdc
  have hbl : bs.length ≤ 1048584 := by rw [← hbs, crcRec_length]; omega
  rw [hbd]
  rintro _ w6 ⟨BA, bc, rfl, oB, hbx⟩
  replace hs := hs.newN hbx oB
  clear oB hbx
  dsimp only at hs ⊢
  have h00' : ((0 : Nat) : Int) = 0 := rfl
  refine wl_mv rfl rfl ?_; apply wl_val; apply opv_extract; exact rfl; exact rfl; exact rfl; apply wl_val; apply opv_extract; exact rfl; exact rfl; exact rfl; refine wl_as rfl rfl ?_; refine wl_as rfl rfl ?_; refine wl_ns ?_; refine wc_sr ?_; refine wl_mv rfl rfl ?_
  refine wl_call ok_block_Build (blkBuild_any (l := l) (every := 2) (by decide) (by decide) (OwR.rd (hs.rsE 1 rfl)) rfl (by omega) hz2) ⟨rfl, rfl, trivial⟩ rfl ?_
  rw [hbd]
  rintro _ w7 ⟨BA2, bc2, rfl, oB, hbx⟩
  replace hs := hs.newN hbx oB
  clear oB hbx
  dsimp only at hs ⊢
  refine wl_mv rfl rfl ?_; apply wl_val; apply opv_extract; exact rfl; exact rfl; exact rfl; apply wl_val; apply opv_extract; exact rfl; exact rfl; exact rfl; refine wl_as rfl rfl ?_; refine wl_as rfl rfl ?_; refine wl_ns ?_; refine wc_seq ?_; refine wc_sr ?_; refine wl_mv rfl rfl ?_; refine wl_bin rfl rfl bin_neq rfl ?_; refine wl_ns ?_; apply wc_condFb; exact rfl; exact rfl; refine wc_skip ?_; refine we_seq ?_; refine wc_seq ?_; refine wc_sr ?_; refine wl_mv rfl rfl ?_; refine wl_mv rfl rfl ?_
  refine wl_call ok_caissonref07_SameList (sameListE_any (OwR.rd (hs.rsE 2 rfl)) (hl3.below hs.bel) rfl rfl (fun x h => by have := hmx x h; simp only [maxLen]; omega) (by omega) (by omega)) ⟨rfl, rfl, trivial⟩ rfl ?_
  rintro _ w8 ⟨⟨q, rfl, hq⟩, hbx⟩
  obtain rfl := hq.2 rfl
  replace hs := hs.below hbx
  clear hbx hq
  apply wl_val; apply opv_not; exact rfl; exact rfl; refine wl_ns ?_; apply wc_condFb; exact rfl; exact Bool.not_true; refine wc_skip ?_; refine we_seq ?_; refine wc_sr ?_; refine wl_mv rfl rfl ?_
  refine wl_call ok_caissonref01_Spare (spare_any (xs := bs) (hs.nw 1 rfl).1 rfl (by omega)) ⟨rfl, trivial⟩ rfl ?_
  rintro _ w9 ⟨g1, rfl, hg1, ha1, hbx⟩
  replace hs := hs.newSp hbx hg1 ha1 (by omega)
  clear hg1 ha1 hbx
  refine wl_mv rfl rfl ?_; apply wl_val; apply opv_extract; exact rfl; exact rfl; exact rfl; apply wl_val; apply opv_extract; exact rfl; exact rfl; exact rfl; refine wl_as rfl rfl ?_; refine wl_as rfl rfl ?_; refine wl_ns ?_; refine wc_sr ?_; refine wl_mv rfl rfl ?_
  refine wl_call ok_block_Decode (decode_any (hs.sp 0 rfl).2 rfl (by dsimp only; omega) (by dsimp only; omega)) ⟨rfl, trivial⟩ rfl ?_
  dsimp only
  rw [hdc]
  rintro _ w10 ⟨R, rc, rfl, hsx⟩
  replace hs := hs.call hsx
  clear hsx
  dsimp only [List.cons_append, List.nil_append] at hs ⊢
  refine wl_mv rfl rfl ?_; apply wl_val; apply opv_extract; exact rfl; exact rfl; exact rfl; apply wl_val; apply opv_extract; exact rfl; exact rfl; exact rfl; refine wl_as rfl rfl ?_; refine wl_as rfl rfl ?_; refine wl_ns ?_; refine wc_sr ?_; refine wl_mv rfl rfl ?_; refine wl_mv rfl rfl ?_
  refine wl_call ok_block_Seek (bseek3_any (m := 3) (hs.sp 1 rfl).2 rfl (by dsimp only; omega) (by dsimp only; omega) (hk.below hs.bel) rfl) ⟨rfl, rfl, rfl, trivial⟩ rfl ?_
  have hsk : sekB bs ⟨key, 3, 0, []⟩ = ((sekE l ⟨key, 3, 0, []⟩).getD noE, (sekE l ⟨key, 3, 0, []⟩).isSome, 0) := by rw [sekB, hdc]; rfl
  dsimp only
  rw [hsk]
  have hym := sekM (y := ⟨key, 3, 0, []⟩) hmx
  obtain ⟨y, hy⟩ : ∃ q, (sekE l ⟨key, 3, 0, []⟩).getD noE = q := ⟨_, rfl⟩
  rw [hy] at hym
  rw [hy]
  clear hsk hy
  rintro _ w11 ⟨Z, cz, W, cw, rfl, hsx⟩
  replace hs := hs.call hsx
  clear hsx
  unfold enOw at hs
  dsimp only [List.cons_append, List.nil_append] at hs ⊢
  refine wl_mv rfl rfl ?_; apply wl_val; apply opv_extract; exact rfl; exact rfl; exact rfl; apply wl_val; apply opv_extract; exact rfl; exact rfl; exact rfl; apply wl_val; apply opv_extract; exact rfl; exact rfl; exact rfl
  refine ws_var (cs := enV y Z cz W cw) hs zeroE sE rfl (fun _ => rfl) (by first | rfl | simp [Value.oneCell']) rfl ?_; clear hs; intro g14 _ hs
  unfold enV at hs
  refine wl_as rfl rfl ?_; refine wl_as rfl rfl ?_; refine wl_ns ?_; refine wc_seq ?_; refine wc_sr ?_; refine wl_mv rfl rfl ?_; refine wl_mv rfl rfl ?_
  refine wl_call ok_caissonref01_Kept (kept_yes (xs := bs) (hs.sp 4 rfl).1 (hs.nw 6 rfl).1 rfl rfl (by omega)) ⟨rfl, rfl, trivial⟩ rfl ?_
  rintro _ w13 ⟨rfl, hbx⟩
  replace hs := hs.below hbx
  clear hbx
  apply wl_val; apply opv_not; exact rfl; exact rfl; refine wl_ns ?_; apply wc_condFb; exact rfl; exact Bool.not_true; refine wc_skip ?_; refine we_seq ?_; refine wc_sr ?_; refine wl_mv rfl rfl ?_; refine wl_mv rfl rfl ?_; refine wl_mv rfl rfl ?_; apply wl_val; apply opv_fa; exact fa_sE (by decide); exact rfl; exact rfl; apply wl_val; apply opv_ldX; exact rfl; exact hs.ar 0 rfl; exact e1_by; exact rfl; exact rfl; apply wl_val; apply opv_fa; exact fa_sE (by decide); exact rfl; exact rfl; apply wl_val; apply opv_ldX; exact rfl; exact hs.ar 0 rfl; exact e1_by; exact rfl; exact rfl
  refine ws_bs (vs := [.slice BA bs.length bc, .slice BA2 bs.length bc2, spV (bs, g1), .slice Z y.key.length cz, .slice W y.val.length cw]) hs tyBB ⟨rfl, rfl, rfl, rfl, rfl, rfl, rfl, rfl, rfl, rfl, rfl, rfl, rfl, rfl, rfl, trivial⟩ rfl (by decide) rfl ?_
  clear hs; intro V w14 hs
  replace hs := hs.front 4 rfl
  dsimp only [delC] at hs
  obtain ⟨es1, he1, hs⟩ := hs.es7
  replace hs := hs.front 9 rfl
  dsimp only [delC] at hs
  obtain ⟨es2, he2, hs⟩ := hs.es7
  have hl1' : es1.length = l.length := by rw [← he1, List.length_map]
  have hl2' : es2.length = l.length := by rw [← he2, List.length_map]
  refine wl_as rfl rfl ?_; refine wl_ns ?_; refine wc_seq ?_; refine wc_sr ?_; refine wl_mv rfl rfl ?_; apply wl_val; apply opv_len; exact rfl; exact tkE.sl; exact rfl; refine wl_mv rfl rfl ?_; refine wl_ns ?_; refine wc_block ?_
  have hlm : l.length ≤ 20 := by omega
  have hzl : (es1.zip es2).length = l.length := by rw [List.length_zip, hl1', hl2']; omega
  obtain ⟨V0, hV0⟩ : ∃ q, [Value.slice BA bs.length bc, .slice BA2 bs.length bc2, spV (bs, g1), .slice Z y.key.length cz, .slice W y.val.length cw] = q := ⟨_, rfl⟩
  have hv5 : V0.length = 5 := by rw [← hV0]; rfl
  rw [hV0] at hs
  refine wc_loop (fun L wr mm => ∃ (i : Nat) (V : Option Addr) (cv : Nat), L = [(5, .slice D l.length d), (12, .slice R l.length rc), (17, .slice V (5 + 4 * i) cv), (78, .int .i64 (l.length : Int)), (79, .int .i64 (i : Int))] ∧ i ≤ l.length ∧ St NoB w2 wr [.rg 4 38 D d ((es2.map eaV).map rawEl), .ck (packC (es2.flatMap enM)), .rg 4 38 R rc ((es1.map eaV).map rawEl), .ck (packC (es1.flatMap enM)), .ow 25 V (5 + 4 * i) cv (V0 ++ ((es1.zip es2).take i).flatMap prSl), .blk g14 38 (enV y Z cz W cw), .ow 5 Z y.key.length cz (bvs y.key), .ow 5 W y.val.length cw (bvs y.val), spP (bs, g1), .ck (nwC BA2 bc2 bs), .ck (nwC BA bc bs)] ∧ mm = l.length - i)
    [(5, .slice D l.length d), (12, .slice R l.length rc), (17, .slice V 5 5), (78, .int .i64 (l.length : Int)), (79, .int .i64 (0 : Nat))] l.length ⟨0, V, 5, rfl, by omega, by rw [List.take_zero, List.flatMap_nil, List.append_nil]; exact hs, rfl⟩ ⟨rfl, rfl, rfl, rfl, rfl, trivial⟩ ?_
  clear hs
  rintro _ w15 mm ⟨i, V, cv, rfl, hi, hs, rfl⟩
  refine wc_sr ?_; refine wl_bin rfl rfl bin_lss rfl ?_; refine wl_ns ?_; refine wc_seq ?_
  refine wc_cond rfl (fun h1 => ?_) (fun h1 => ?_)
  · obtain ⟨a, ha⟩ : ∃ a, es1[i]? = some a := ⟨_, List.getElem?_eq_getElem (by omega)⟩
    obtain ⟨a', ha'⟩ : ∃ a, es2[i]? = some a := ⟨_, List.getElem?_eq_getElem (by omega)⟩
    have hzt := zip_take ha ha'
    replace hs := hs.below (Below.refl _ _).drew
    obtain ⟨b1, o1, hb1, i1⟩ := raw8 (by decide) (hs.rg 2 rfl) (j := i) (cs := eaV a) (by rw [List.getElem?_map, ha]; rfl)
    obtain ⟨b2, o2, hb2, i2⟩ := raw8 (by decide) (hs.rg 0 rfl) (j := i) (cs := eaV a') (by rw [List.getElem?_map, ha']; rfl)
    subst hb1 hb2
    refine wc_skip ?_; refine we_seq ?_; refine wc_seq ?_; refine wc_block ?_; refine wc_sr ?_; refine wl_mv rfl rfl ?_; refine wl_as rfl rfl ?_; refine wl_ns ?_
    refine wc_held (fun w => Wi w b1 (o1 + i * 4) [.slice a.A a.x.key.length a.c, .int .u64 (a.x.seq : Int), .int .u8 (a.x.kind.toNat : Int), .slice a.B a.x.val.length a.d] ∧ Wi w b2 (o2 + i * 4) [.slice a'.A a'.x.key.length a'.c, .int .u64 (a'.x.seq : Int), .int .u8 (a'.x.kind.toNat : Int), .slice a'.B a'.x.val.length a'.d]) mixed ?_
    have hS := And.intro i1 i2
    unfold eaV enV at hS
    apply wh_takeH 0; exact rfl; intro _ hw_; apply opv_move; exact rfl; exact rfl; kernel_rfl; exact hS; apply wh_takeH 1; exact rfl; intro _ hw_; apply opv_move; exact rfl; exact rfl; kernel_rfl; exact hS; apply wh_takeH 2; exact rfl; intro _ hw_; apply opv_move; exact rfl; exact rfl; kernel_rfl; exact hS; apply wh_takeH 3; exact rfl; intro _ hw_; apply opv_idxG tkE; exact rfl; exact rfl; exact rfl; omega; exact rfl; kernel_rfl; exact hS; apply wh_takeH 4; exact rfl; intro _ hw_; apply opv_fa; exact fa_sE (by decide); exact rfl; exact rfl; kernel_rfl; exact hS; apply wh_takeH 5; exact rfl; intro _ hw_; apply opv_ldW; exact rfl; exact hw_.1; exact e1_by; exact rfl; exact rfl; kernel_rfl; exact hS; apply wh_takeH 6; exact rfl; intro _ hw_; apply opv_move; exact rfl; exact rfl; kernel_rfl; exact hS; apply wh_takeH 7; exact rfl; intro _ hw_; apply opv_move; exact rfl; exact rfl; kernel_rfl; exact hS; apply wh_takeH 8; exact rfl; intro _ hw_; apply opv_idxG tkE; exact rfl; exact rfl; exact rfl; omega; exact rfl; kernel_rfl; exact hS; apply wh_takeH 9; exact rfl; intro _ hw_; apply opv_fa; exact fa_sE (by decide); exact rfl; exact rfl; kernel_rfl; exact hS; apply wh_takeH 10; exact rfl; intro _ hw_; apply opv_ldW; exact rfl; exact hw_.1; exact e1_by; exact rfl; exact rfl; kernel_rfl; exact hS; apply wh_takeH 11; exact rfl; intro _ hw_; apply opv_move; exact rfl; exact rfl; kernel_rfl; exact hS; apply wh_takeH 12; exact rfl; intro _ hw_; apply opv_move; exact rfl; exact rfl; kernel_rfl; exact hS; apply wh_takeH 13; exact rfl; intro _ hw_; apply opv_idxG tkE; exact rfl; exact rfl; exact rfl; omega; exact rfl; kernel_rfl; exact hS; apply wh_takeH 14; exact rfl; intro _ hw_; apply opv_fa; exact fa_sE (by decide); exact rfl; exact rfl; kernel_rfl; exact hS; apply wh_takeH 15; exact rfl; intro _ hw_; apply opv_ldW; exact rfl; exact hw_.2; exact e1_by; exact rfl; exact rfl; kernel_rfl; exact hS; apply wh_takeH 16; exact rfl; intro _ hw_; apply opv_move; exact rfl; exact rfl; kernel_rfl; exact hS; apply wh_takeH 17; exact rfl; intro _ hw_; apply opv_move; exact rfl; exact rfl; kernel_rfl; exact hS; apply wh_takeH 18; exact rfl; intro _ hw_; apply opv_idxG tkE; exact rfl; exact rfl; exact rfl; omega; exact rfl; kernel_rfl; exact hS; apply wh_takeH 19; exact rfl; intro _ hw_; apply opv_fa; exact fa_sE (by decide); exact rfl; exact rfl; kernel_rfl; exact hS; apply wh_takeH 20; exact rfl; intro _ hw_; apply opv_ldW; exact rfl; exact hw_.2; exact e1_by; exact rfl; exact rfl; kernel_rfl; exact hS
    clear hS i1 i2
    refine wh_one 21 (o := ⟨_, _, _, _, _, _⟩) (by kernel_rfl) rfl ?_
    refine ws_bs (vs := [.slice a.A a.x.key.length a.c, .slice a.B a.x.val.length a.d, .slice a'.A a'.x.key.length a'.c, .slice a'.B a'.x.val.length a'.d]) hs tyBB ⟨rfl, rfl, rfl, rfl, rfl, rfl, rfl, rfl, rfl, rfl, rfl, rfl, trivial⟩ rfl (by decide) rfl ?_
    clear hs; intro Q w9 hs
    have hS : ∀ {w' : World} {H : List Cd} (k1 k2 : Nat), St NoB w2 w' H → nthC H k1 = some (.rg 4 38 (some ⟨b1, o1, none⟩) rc ((es1.map eaV).map rawEl)) → nthC H k2 = some (.rg 4 38 (some ⟨b2, o2, none⟩) d ((es2.map eaV).map rawEl)) → Wi w' b1 (o1 + i * 4) (eaV a) ∧ Wi w' b2 (o2 + i * 4) (eaV a') := fun {w' H} k1 k2 hs h1 h2 => by
      obtain ⟨_, _, hb1, i1⟩ := raw8 (by decide) (hs.rg k1 h1) (j := i) (cs := eaV a) (by rw [List.getElem?_map, ha]; rfl)
      obtain ⟨_, _, hb2, i2⟩ := raw8 (by decide) (hs.rg k2 h2) (j := i) (cs := eaV a') (by rw [List.getElem?_map, ha']; rfl)
      cases hb1; cases hb2
      exact ⟨i1, i2⟩
    refine wl_nil ?_
    refine we_held (hS 3 1 hs rfl rfl) ?_
    refine wh_one 22 (o := ⟨_, _, _, _, _, _⟩) (by kernel_rfl) rfl ?_
    refine ws_app (ys := [.slice a.A a.x.key.length a.c, .slice a.B a.x.val.length a.d, .slice a'.A a'.x.key.length a'.c, .slice a'.B a'.x.val.length a'.d]) (m := 4) hs 5 rfl rfl tyBB rfl (hs.ow 0 rfl).rd (by simp [Value.oneCell']) (by omega) (by simp only [maxLen]; omega) rfl ?_
    clear hs; intro V2 cv2 w10 hs; dsimp only [setC] at hs
    refine wl_nil ?_
    refine we_held (hS 3 1 hs rfl rfl) ?_
    refine wh_one 23 (o := ⟨_, _, _, _, _, _⟩) (by kernel_rfl) rfl ?_
    refine wl_as rfl rfl ?_; refine wl_nil ?_
    refine we_held (hS 3 1 hs rfl rfl) ?_
    refine wh_done (by kernel_rfl) ?_
    refine we_block_norm ?_; refine we_seq ?_; refine wc_region ?_; apply wl_val; apply opv_bin; exact rfl; exact rfl; exact bin_add64 (by omega); exact rfl; refine wl_mv rfl rfl ?_; refine wl_nil ?_
    refine we_loop _ (l.length - (i + 1)) ⟨i + 1, V2, cv2, rfl, by omega, ?_, rfl⟩ (by omega) ⟨rfl, rfl, rfl, rfl, by simp [lookT], trivial⟩
    rw [hzt, List.flatMap_append, ← List.append_assoc]
    exact hs.drop 0 rfl
  · obtain rfl : i = l.length := by omega
    rw [List.take_of_length_le (by omega)] at hs
    replace hs := (((((((hs.front 1 rfl).front 3 rfl).front 7 rfl).front 7 rfl).front 8 rfl).front 9 rfl).front 10 rfl)
    dsimp only [delC] at hs
    replace hs := (St.pack (H1 := [_, _, _, _, _, _, _]) hs (.ck (packC ([.ck (nwC BA bc bs), .ck (nwC BA2 bc2 bs), spP (bs, g1), .ow 5 Z y.key.length cz (bvs y.key), .ow 5 W y.val.length cw (bvs y.val)] ++ (es1.zip es2).flatMap prM))) fun w S h => by
      obtain ⟨T, hT, h1, h2⟩ := Sat.append (H1 := [.ck (nwC BA bc bs), .ck (nwC BA2 bc2 bs), spP (bs, g1), .ow 5 Z y.key.length cz (bvs y.key), .ow 5 W y.val.length cw (bvs y.val)]) (H2 := [.ck (packC (es1.flatMap enM)), .ck (packC (es2.flatMap enM))]) h
      have h3 := pks7 (Hs := [es1.flatMap enM, es2.flatMap enM]) h2
      have h4 := Sat.permL (H' := (es1.zip es2).flatMap prM) (by
        rw [List.flatten_cons, List.flatten_cons, List.flatten_nil, List.append_nil]
        exact zip_perm enM (by omega)) h3
      exact Sat.join hT h1 h4).front 3 rfl
    dsimp only [delC] at hs
    have hes : ∀ (es : List EnA), es.map (·.x) = l → ∀ a ∈ es, a.x.key.length ≤ 1048576 ∧ a.x.val.length ≤ 1048576 := fun es he a ha => hmx a.x (by rw [← he]; exact List.mem_map_of_mem ha)
    have hby : ByQ ([.ck (nwC BA bc bs), .ck (nwC BA2 bc2 bs), spP (bs, g1), .ow 5 Z y.key.length cz (bvs y.key), .ow 5 W y.val.length cw (bvs y.val)] ++ (es1.zip es2).flatMap prM) (V0 ++ (es1.zip es2).flatMap prSl) := by
      rw [← hV0]
      exact ByQ.append (.cons (by omega) hdc_nw (.cons (by omega) hdc_nw (.cons (by dsimp only; omega) hdc_ow (.cons (by omega) hdc_ow (.cons (by omega) hdc_ow .nil))))) (zip_byQ fun p hp => ⟨hes es1 he1 _ (List.of_mem_zip hp).1, hes es2 he2 _ (List.of_mem_zip hp).2⟩)
    refine wc_exit ?_; refine we_seq_exit ?_; refine we_loop_exit ?_; refine we_block_exit ?_; refine we_seq ?_; refine wc_sr ?_; refine wl_mv rfl rfl ?_
    refine wl_call ok_caissonref01_Apart (apartQ_any hs hby (by omega)) ⟨rfl, trivial⟩ rfl ?_
    clear hs
    rintro _ w12 ⟨rfl, hs⟩
    refine wl_as rfl rfl ?_; refine wl_ns ?_; refine wc_ret ?_
    exact we_ret1 rfl rfl ⟨_, rfl, rfl, hbw2.trans (hs.bel.mono hbw2.size)⟩
end Go.Proofs.Ytojncfdlddepdaa
