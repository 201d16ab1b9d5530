/-
  The texts of this proof, joined: Ub, Uc, Ud, Ue, Uf.
-/
import Derived.Test.YtcjiecclmepboaaCodM5

/-
  Walks over the reference's Encode, and over part and Decode of the program.
-/
namespace Go.Proofs.Ytcjiecclmepboaa
open Go.RowKit

def RefEncI (w : World) (us : List Va) (A : Option Addr) (c : Nat) : FL → World → Nat → Prop := fun L wr m =>
  ∃ (k : Nat) (P : Option Addr) (cp : Nat), L = [(0, .slice A us.length c), (3, .slice P k cp), (4, .int .i64 (k : Int))] ∧ k ≤ us.length ∧ OwBB wr w.heap.size P cp ((us.take k).map enc1) ∧ Below w.heap.size w wr ∧ m = us.length - k
set_option maxHeartbeats 2000000 in
theorem refEncode_any {A : Option Addr} {n c : Nat} {us : List Va} {w : World} (hr : RdR 5 w All A (us.map fun u => ceEl (vaC u))) (hn : us.length = n) (hok : ∀ u ∈ us, VaOk u) (hl : sumB vaB us ≤ 1073741824) :
    CallsV Try.prog 57 #[.slice A n c] w (RetB w (encV us)) := by
  subst hn
  have hmax : maxLen = 9223372036854775807 := rfl
  have hul := sumB_len (bulk := vaB) us
  have hef := encs_flat us
  refine calls_in (N := _) Try.func57 rfl Try.ntmps57 rfl ?_; show WC _ _ _ _ _ _
  refine wc_sr ?_; refine wl_as rfl rfl ?_; refine wl_ns ?_; refine wc_sr ?_; refine wl_as rfl rfl ?_; refine wl_ns ?_; refine wc_seq ?_; refine wc_sr ?_; refine wl_as rfl rfl ?_; refine wl_ns ?_; refine wc_block ?_
  refine wc_loop (RefEncI w us A c) [(0, .slice A us.length c), (3, .slice none 0 0), (4, .int .i64 (0 : Nat))] us.length ⟨0, none, 0, rfl, by omega, OwBB.nil _ _, Below.refl _ _, rfl⟩ ⟨rfl, rfl, rfl, trivial⟩ ?_
  rintro _ w1 m ⟨k, P, cp, rfl, hk, O1, hb0, rfl⟩
  refine wc_seq ?_; refine wc_sr ?_; refine wl_mv rfl rfl ?_; refine wl_mv rfl rfl ?_; apply wl_val; apply opv_len; exact rfl; exact tkC.sl; exact rfl; refine wl_bin rfl rfl bin_lss rfl ?_; refine wl_ns ?_
  refine wc_cond rfl (fun h1 => ?_) (fun h1 => ?_)
  · obtain ⟨u, hu⟩ : ∃ u, us[k]? = some u := ⟨_, List.getElem?_eq_getElem (by omega)⟩
    have hou := hok u (List.mem_of_getElem? hu)
    have hbu := sumB_mem (bulk := vaB) (List.mem_of_getElem? hu)
    have hbe : vaB u = (vaC u).text.length + (vaC u).data.length := rfl
    obtain ⟨b, o, cs, rfl, _, _, hx, hw⟩ := RdR.at (k := 5) (by decide) hr (E := ceEl (vaC u)) (i := k) (by rw [List.getElem?_map, hu]; rfl)
    obtain ⟨X, cx, rfl, rx, _⟩ := ceEl.rd hx
    have i1 := hw.below hb0
    replace rx := rx.below hb0
    have hb := Below.refl w1.heap.size w1
    refine wc_skip ?_; refine we_seq ?_; refine wc_seq ?_; refine wc_block ?_; refine wc_sr ?_; refine wl_mv rfl rfl ?_; refine wl_mv rfl rfl ?_; apply wl_val; apply opv_idxG tkC; exact rfl; exact rfl; exact rfl; omega; exact rfl; apply wl_val; apply opv_ldG; exact rfl; assumption; exact sC; exact rfl
    refine wl_var (cs := ceV (vaC u) X cx) zeroC sC rfl (fun _ => rfl) (by first | rfl | simp [Value.oneCell'] | simp [ceV, Value.oneCell']) rfl fun g5 _ hg5 a5 hbx => ?_; replace hb := hb.trans (hbx.mono hb.size); clear hbx
    unfold ceV at a5
    cases u with
    | nil =>
      simp only [vaC] at a5
      refine wl_ns ?_; refine wc_sr ?_; apply wl_val; apply opv_fa; exact fa_sC (by decide); exact rfl; exact rfl; apply wl_val; apply opv_ldX; exact rfl; assumption; exact c1_int; exact rfl; exact rfl; apply wl_val; apply opv_convR; exact rfl; exact Try.underlying3; exact Try.underlying5; exact IntWalk.u8_in _ (by omega); exact rfl
      refine wl_bs (vs := [bv 0]) tyB ⟨rfl, rfl, rfl, trivial⟩ rfl (by decide) rfl fun E e q3 hbx _ => ?_
      replace a5 := Ar.bel a5 hbx
      replace rx := RdB.below rx hb
      replace q3 := Ow.mono q3 hb.size
      replace hb := hb.trans (hbx.mono hb.size)
      refine wl_as rfl rfl ?_; refine wl_ns ?_; refine wc_seq ?_; refine wc_sr ?_; apply wl_val; apply opv_fa; exact fa_sC (by decide); exact rfl; exact rfl; apply wl_val; apply opv_ldX; exact rfl; assumption; exact c1_int; exact rfl; exact rfl; refine wl_ns ?_; refine wc_block ?_; refine wc_sr ?_; refine wl_bin rfl rfl bin_eql rfl ?_; refine wl_as rfl rfl ?_; refine wl_ns ?_; apply wc_decF; exact rfl; omega; refine wc_sr ?_; refine wl_bin rfl rfl bin_eql rfl ?_; refine wl_as rfl rfl ?_; refine wl_ns ?_; apply wc_decF; exact rfl; omega; refine wc_sr ?_; refine wl_bin rfl rfl bin_eql rfl ?_; refine wl_as rfl rfl ?_; refine wl_ns ?_; apply wc_decF; exact rfl; omega; refine wc_sr ?_; refine wl_bin rfl rfl bin_eql rfl ?_; refine wl_as rfl rfl ?_; refine wl_ns ?_; apply wc_decF; exact rfl; omega; refine wc_skip ?_; refine we_block_norm ?_; refine we_seq ?_; refine wc_region ?_; refine wl_mv rfl rfl ?_; refine wl_mv rfl rfl ?_
      refine wl_pushR (wf := w) (r := enc1 (.nil)) O1 hb hb0.size q3 (hb0.trans (hb.mono hb0.size)) (by simp; omega) (by omega) rfl rfl rfl rfl rfl fun _ A9 c9 w9 O9 hb9 => ?_
      refine wl_as rfl rfl ?_; refine wl_nil ?_; refine we_block_norm ?_; refine we_seq ?_; refine wc_region ?_; refine wl_mv rfl rfl ?_; apply wl_val; apply opv_bin; exact rfl; exact rfl; exact bin_add64 (by omega); exact rfl; refine wl_as rfl rfl ?_; refine wl_nil ?_
      refine we_loop _ (us.length - (k + 1)) ⟨k + 1, _, _, rfl, by omega, by rw [take_map _ hu]; exact O9, hb9, rfl⟩ (by omega) ⟨rfl, rfl, by simp [lookT], trivial⟩
    | bool t =>
      simp only [vaC] at a5
      cases t with
      | true =>
        refine wl_ns ?_; refine wc_sr ?_; apply wl_val; apply opv_fa; exact fa_sC (by decide); exact rfl; exact rfl; apply wl_val; apply opv_ldX; exact rfl; assumption; exact c1_int; exact rfl; exact rfl; apply wl_val; apply opv_convR; exact rfl; exact Try.underlying3; exact Try.underlying5; exact IntWalk.u8_in _ (by omega); exact rfl
        refine wl_bs (vs := [bv 1]) tyB ⟨rfl, rfl, rfl, trivial⟩ rfl (by decide) rfl fun E e q3 hbx _ => ?_
        replace a5 := Ar.bel a5 hbx
        replace rx := RdB.below rx hb
        replace q3 := Ow.mono q3 hb.size
        replace hb := hb.trans (hbx.mono hb.size)
        refine wl_as rfl rfl ?_; refine wl_ns ?_; refine wc_seq ?_; refine wc_sr ?_; apply wl_val; apply opv_fa; exact fa_sC (by decide); exact rfl; exact rfl; apply wl_val; apply opv_ldX; exact rfl; assumption; exact c1_int; exact rfl; exact rfl; refine wl_ns ?_; refine wc_block ?_; refine wc_sr ?_; refine wl_bin rfl rfl bin_eql rfl ?_; refine wl_as rfl rfl ?_; refine wl_ns ?_; apply wc_decT; exact rfl; (with_reducible rfl); refine wc_sr ?_; apply wl_val; apply opv_fa; exact fa_sC (by decide); exact rfl; exact rfl; apply wl_val; apply opv_ldX; exact rfl; assumption; exact c1_bool; exact rfl; exact rfl; refine wl_ns ?_; apply wc_condTb; exact rfl; exact rfl; refine wc_region ?_; refine wl_mv rfl rfl ?_
        refine wl_push (vs := [_]) tyB rfl q3 ⟨rfl, rfl, rfl, trivial⟩ rfl (by decide) rfl (by omega) (by simp only [maxLen]; omega) hb.size rfl rfl fun _ _ _ _ hO hG _ => ?_; (try replace a5 := Ar.grA a5 hG (Ar.ne_ow a5 q3 rfl)); replace hb := hG.below hb q3 (Nat.le_refl _) hb.size; replace q3 := hO; clear hO hG
        refine wl_as rfl rfl ?_; refine wl_nil ?_; refine we_block_norm ?_; refine we_seq ?_; refine wc_region ?_; refine wl_mv rfl rfl ?_; refine wl_mv rfl rfl ?_
        refine wl_pushR (wf := w) (r := enc1 (.bool true)) O1 hb hb0.size q3 (hb0.trans (hb.mono hb0.size)) (by simp; omega) (by omega) rfl rfl rfl rfl rfl fun _ A9 c9 w9 O9 hb9 => ?_
        refine wl_as rfl rfl ?_; refine wl_nil ?_; refine we_block_norm ?_; refine we_seq ?_; refine wc_region ?_; refine wl_mv rfl rfl ?_; apply wl_val; apply opv_bin; exact rfl; exact rfl; exact bin_add64 (by omega); exact rfl; refine wl_as rfl rfl ?_; refine wl_nil ?_
        refine we_loop _ (us.length - (k + 1)) ⟨k + 1, _, _, rfl, by omega, by rw [take_map _ hu]; exact O9, hb9, rfl⟩ (by omega) ⟨rfl, rfl, by simp [lookT], trivial⟩
      | false =>
        refine wl_ns ?_; refine wc_sr ?_; apply wl_val; apply opv_fa; exact fa_sC (by decide); exact rfl; exact rfl; apply wl_val; apply opv_ldX; exact rfl; assumption; exact c1_int; exact rfl; exact rfl; apply wl_val; apply opv_convR; exact rfl; exact Try.underlying3; exact Try.underlying5; exact IntWalk.u8_in _ (by omega); exact rfl
        refine wl_bs (vs := [bv 1]) tyB ⟨rfl, rfl, rfl, trivial⟩ rfl (by decide) rfl fun E e q3 hbx _ => ?_
        replace a5 := Ar.bel a5 hbx
        replace rx := RdB.below rx hb
        replace q3 := Ow.mono q3 hb.size
        replace hb := hb.trans (hbx.mono hb.size)
        refine wl_as rfl rfl ?_; refine wl_ns ?_; refine wc_seq ?_; refine wc_sr ?_; apply wl_val; apply opv_fa; exact fa_sC (by decide); exact rfl; exact rfl; apply wl_val; apply opv_ldX; exact rfl; assumption; exact c1_int; exact rfl; exact rfl; refine wl_ns ?_; refine wc_block ?_; refine wc_sr ?_; refine wl_bin rfl rfl bin_eql rfl ?_; refine wl_as rfl rfl ?_; refine wl_ns ?_; apply wc_decT; exact rfl; (with_reducible rfl); refine wc_sr ?_; apply wl_val; apply opv_fa; exact fa_sC (by decide); exact rfl; exact rfl; apply wl_val; apply opv_ldX; exact rfl; assumption; exact c1_bool; exact rfl; exact rfl; refine wl_ns ?_; apply wc_condFb; exact rfl; exact rfl; refine wc_region ?_; refine wl_mv rfl rfl ?_
        refine wl_push (vs := [_]) tyB rfl q3 ⟨rfl, rfl, rfl, trivial⟩ rfl (by decide) rfl (by omega) (by simp only [maxLen]; omega) hb.size rfl rfl fun _ _ _ _ hO hG _ => ?_; (try replace a5 := Ar.grA a5 hG (Ar.ne_ow a5 q3 rfl)); replace hb := hG.below hb q3 (Nat.le_refl _) hb.size; replace q3 := hO; clear hO hG
        refine wl_as rfl rfl ?_; refine wl_nil ?_; refine we_block_norm ?_; refine we_seq ?_; refine wc_region ?_; refine wl_mv rfl rfl ?_; refine wl_mv rfl rfl ?_
        refine wl_pushR (wf := w) (r := enc1 (.bool false)) O1 hb hb0.size q3 (hb0.trans (hb.mono hb0.size)) (by simp; omega) (by omega) rfl rfl rfl rfl rfl fun _ A9 c9 w9 O9 hb9 => ?_
        refine wl_as rfl rfl ?_; refine wl_nil ?_; refine we_block_norm ?_; refine we_seq ?_; refine wc_region ?_; refine wl_mv rfl rfl ?_; apply wl_val; apply opv_bin; exact rfl; exact rfl; exact bin_add64 (by omega); exact rfl; refine wl_as rfl rfl ?_; refine wl_nil ?_
        refine we_loop _ (us.length - (k + 1)) ⟨k + 1, _, _, rfl, by omega, by rw [take_map _ hu]; exact O9, hb9, rfl⟩ (by omega) ⟨rfl, rfl, by simp [lookT], trivial⟩
    | int n =>
      simp only [vaC] at a5
      refine wl_ns ?_; refine wc_sr ?_; apply wl_val; apply opv_fa; exact fa_sC (by decide); exact rfl; exact rfl; apply wl_val; apply opv_ldX; exact rfl; assumption; exact c1_int; exact rfl; exact rfl; apply wl_val; apply opv_convR; exact rfl; exact Try.underlying3; exact Try.underlying5; exact IntWalk.u8_in _ (by omega); exact rfl
      refine wl_bs (vs := [bv 2]) tyB ⟨rfl, rfl, rfl, trivial⟩ rfl (by decide) rfl fun E e q3 hbx _ => ?_
      replace a5 := Ar.bel a5 hbx
      replace rx := RdB.below rx hb
      replace q3 := Ow.mono q3 hb.size
      replace hb := hb.trans (hbx.mono hb.size)
      clear hbx
      refine wl_as rfl rfl ?_; refine wl_ns ?_; refine wc_seq ?_; refine wc_sr ?_; apply wl_val; apply opv_fa; exact fa_sC (by decide); exact rfl; exact rfl; apply wl_val; apply opv_ldX; exact rfl; assumption; exact c1_int; exact rfl; exact rfl; refine wl_ns ?_; refine wc_block ?_; refine wc_sr ?_; refine wl_bin rfl rfl bin_eql rfl ?_; refine wl_as rfl rfl ?_; refine wl_ns ?_; apply wc_decF; exact rfl; omega; refine wc_sr ?_; refine wl_bin rfl rfl bin_eql rfl ?_; refine wl_as rfl rfl ?_; refine wl_ns ?_; apply wc_decT; exact rfl; (with_reducible rfl); refine wc_region ?_; refine wl_mv rfl rfl ?_; apply wl_val; apply opv_fa; exact fa_sC (by decide); exact rfl; exact rfl; apply wl_val; apply opv_ldX; exact rfl; assumption; exact c1_i64; exact rfl; exact rfl
      refine wl_call ok_caissonref01_OrdI (refOrdI_any n hou.num _) ⟨rfl, trivial⟩ rfl ?_; rintro _ _ ⟨Y, cy, rfl, o3, hbx⟩; replace q3 := Ow.bel q3 hbx; replace hb := hb.trans (hbx.mono hb.size); clear hbx
      rw [ordU_length]
      refine wl_app tyB rfl q3 rfl (Ow.re o3 (ordU_length _)).rd (bvs_one _) (by omega) (by simp only [maxLen]; omega) hb.size rfl fun _ _ _ hO hG _ => ?_; (try replace a5 := Ar.grA a5 hG (Ar.ne_ow a5 q3 rfl)); replace hb := hG.below hb q3 (Nat.le_refl _) hb.size; replace q3 := hO; clear hO hG
      refine wl_as rfl rfl ?_; refine wl_nil ?_; refine we_block_norm ?_; refine we_seq ?_; refine wc_region ?_; refine wl_mv rfl rfl ?_; refine wl_mv rfl rfl ?_
      have ho : OwB _ w1.heap.size _ _ (enc1 (.int n)) := OwB.of' q3 (by simp [enc1, ordU_length]) (by simp [enc1, bvs, bv])
      refine wl_pushR (wf := w) (r := enc1 (.int n)) O1 hb hb0.size ho (hb0.trans (hb.mono hb0.size)) (by simp; omega) (by omega) rfl (by simp [enc1, ordU_length, look, lookT]) rfl rfl rfl fun _ A9 c9 w9 O9 hb9 => ?_
      refine wl_as rfl rfl ?_; refine wl_nil ?_; refine we_block_norm ?_; refine we_seq ?_; refine wc_region ?_; refine wl_mv rfl rfl ?_; apply wl_val; apply opv_bin; exact rfl; exact rfl; exact bin_add64 (by omega); exact rfl; refine wl_as rfl rfl ?_; refine wl_nil ?_
      refine we_loop _ (us.length - (k + 1)) ⟨k + 1, _, _, rfl, by omega, by rw [take_map _ hu]; exact O9, hb9, rfl⟩ (by omega) ⟨rfl, rfl, by simp [lookT], trivial⟩
    | text s =>
      simp only [vaC] at a5
      refine wl_ns ?_; refine wc_sr ?_; apply wl_val; apply opv_fa; exact fa_sC (by decide); exact rfl; exact rfl; apply wl_val; apply opv_ldX; exact rfl; assumption; exact c1_int; exact rfl; exact rfl; apply wl_val; apply opv_convR; exact rfl; exact Try.underlying3; exact Try.underlying5; exact IntWalk.u8_in _ (by omega); exact rfl
      refine wl_bs (vs := [bv 3]) tyB ⟨rfl, rfl, rfl, trivial⟩ rfl (by decide) rfl fun E e q3 hbx _ => ?_
      replace a5 := Ar.bel a5 hbx
      replace rx := RdB.below rx hb
      replace q3 := Ow.mono q3 hb.size
      replace hb := hb.trans (hbx.mono hb.size)
      clear hbx
      refine wl_as rfl rfl ?_; refine wl_ns ?_; refine wc_seq ?_; refine wc_sr ?_; apply wl_val; apply opv_fa; exact fa_sC (by decide); exact rfl; exact rfl; apply wl_val; apply opv_ldX; exact rfl; assumption; exact c1_int; exact rfl; exact rfl; refine wl_ns ?_; refine wc_block ?_; refine wc_sr ?_; refine wl_bin rfl rfl bin_eql rfl ?_; refine wl_as rfl rfl ?_; refine wl_ns ?_; apply wc_decF; exact rfl; omega; refine wc_sr ?_; refine wl_bin rfl rfl bin_eql rfl ?_; refine wl_as rfl rfl ?_; refine wl_ns ?_; apply wc_decF; exact rfl; omega; refine wc_sr ?_; refine wl_bin rfl rfl bin_eql rfl ?_; refine wl_as rfl rfl ?_; refine wl_ns ?_; apply wc_decT; exact rfl; (with_reducible rfl); refine wc_region ?_; refine wl_mv rfl rfl ?_; apply wl_val; apply opv_fa; exact fa_sC (by decide); exact rfl; exact rfl; apply wl_val; apply opv_ldX; exact rfl; assumption; exact c1_str; exact rfl; exact rfl
      refine wl_toBytes tyStr Try.underlying30 Try.underlying5 rfl rfl fun T cT wT r9 hcT hbx => ?_
      replace q3 := Ow.bel q3 hbx
      replace hb := hb.trans (hbx.mono hb.size)
      clear hbx
      have hd : s.length ≤ 68719476736 := hou.text
      refine wl_app tyB rfl q3 rfl r9 (bvs_one _) (by omega) (by simp only [maxLen]; omega) hb.size rfl fun _ _ _ hO hG _ => ?_
      replace hb := hG.below hb q3 (Nat.le_refl _) hb.size
      refine wl_as rfl rfl ?_; refine wl_nil ?_; refine we_block_norm ?_; refine we_seq ?_; refine wc_region ?_; refine wl_mv rfl rfl ?_; refine wl_mv rfl rfl ?_
      have ho : OwB _ w1.heap.size _ _ (enc1 (.text s)) := OwB.of' hO (by simp [enc1]; omega) (by simp [enc1, bvs, bv])
      refine wl_pushR (wf := w) (r := enc1 (.text s)) O1 hb hb0.size ho (hb0.trans (hb.mono hb0.size)) (by simp; omega) (by omega) rfl (by simp [enc1, look, lookT]; omega) rfl rfl rfl fun _ A9 c9 w9 O9 hb9 => ?_
      refine wl_as rfl rfl ?_; refine wl_nil ?_; refine we_block_norm ?_; refine we_seq ?_; refine wc_region ?_; refine wl_mv rfl rfl ?_; apply wl_val; apply opv_bin; exact rfl; exact rfl; exact bin_add64 (by omega); exact rfl; refine wl_as rfl rfl ?_; refine wl_nil ?_
      refine we_loop _ (us.length - (k + 1)) ⟨k + 1, _, _, rfl, by omega, by rw [take_map _ hu]; exact O9, hb9, rfl⟩ (by omega) ⟨rfl, rfl, by simp [lookT], trivial⟩
    | bytes d =>
      simp only [vaC] at a5
      refine wl_ns ?_; refine wc_sr ?_; apply wl_val; apply opv_fa; exact fa_sC (by decide); exact rfl; exact rfl; apply wl_val; apply opv_ldX; exact rfl; assumption; exact c1_int; exact rfl; exact rfl; apply wl_val; apply opv_convR; exact rfl; exact Try.underlying3; exact Try.underlying5; exact IntWalk.u8_in _ (by omega); exact rfl
      refine wl_bs (vs := [bv 4]) tyB ⟨rfl, rfl, rfl, trivial⟩ rfl (by decide) rfl fun E e q3 hbx _ => ?_
      replace a5 := Ar.bel a5 hbx
      replace rx := RdB.below rx hb
      replace q3 := Ow.mono q3 hb.size
      replace hb := hb.trans (hbx.mono hb.size)
      refine wl_as rfl rfl ?_; refine wl_ns ?_; refine wc_seq ?_; refine wc_sr ?_; apply wl_val; apply opv_fa; exact fa_sC (by decide); exact rfl; exact rfl; apply wl_val; apply opv_ldX; exact rfl; assumption; exact c1_int; exact rfl; exact rfl; refine wl_ns ?_; refine wc_block ?_; refine wc_sr ?_; refine wl_bin rfl rfl bin_eql rfl ?_; refine wl_as rfl rfl ?_; refine wl_ns ?_; apply wc_decF; exact rfl; omega; refine wc_sr ?_; refine wl_bin rfl rfl bin_eql rfl ?_; refine wl_as rfl rfl ?_; refine wl_ns ?_; apply wc_decF; exact rfl; omega; refine wc_sr ?_; refine wl_bin rfl rfl bin_eql rfl ?_; refine wl_as rfl rfl ?_; refine wl_ns ?_; apply wc_decF; exact rfl; omega; refine wc_sr ?_; refine wl_bin rfl rfl bin_eql rfl ?_; refine wl_as rfl rfl ?_; refine wl_ns ?_; apply wc_decT; exact rfl; (with_reducible rfl); refine wc_region ?_; refine wl_mv rfl rfl ?_; apply wl_val; apply opv_fa; exact fa_sC (by decide); exact rfl; exact rfl; apply wl_val; apply opv_ldX; exact rfl; assumption; exact c1_by; exact rfl; exact rfl
      have hd : d.length ≤ 68719476736 := hou.data
      refine wl_app tyB rfl q3 rfl (RdB.below rx hbx) (bvs_one _) (by omega) (by simp only [maxLen]; omega) hb.size rfl fun _ _ _ hO hG _ => ?_
      replace hb := hG.below hb q3 (Nat.le_refl _) hb.size
      refine wl_as rfl rfl ?_; refine wl_nil ?_; refine we_block_norm ?_; refine we_seq ?_; refine wc_region ?_; refine wl_mv rfl rfl ?_; refine wl_mv rfl rfl ?_
      have ho : OwB _ w1.heap.size _ _ (enc1 (.bytes d)) := OwB.of' hO (by simp [enc1]; omega) (by simp [enc1, bvs, bv])
      refine wl_pushR (wf := w) (r := enc1 (.bytes d)) O1 hb hb0.size ho (hb0.trans (hb.mono hb0.size)) (by simp; omega) (by omega) rfl (by simp [enc1, look, lookT]; omega) rfl rfl rfl fun _ A9 c9 w9 O9 hb9 => ?_
      refine wl_as rfl rfl ?_; refine wl_nil ?_; refine we_block_norm ?_; refine we_seq ?_; refine wc_region ?_; refine wl_mv rfl rfl ?_; apply wl_val; apply opv_bin; exact rfl; exact rfl; exact bin_add64 (by omega); exact rfl; refine wl_as rfl rfl ?_; refine wl_nil ?_
      refine we_loop _ (us.length - (k + 1)) ⟨k + 1, _, _, rfl, by omega, by rw [take_map _ hu]; exact O9, hb9, rfl⟩ (by omega) ⟨rfl, rfl, by simp [lookT], trivial⟩
  · obtain rfl : k = us.length := by omega
    rw [List.take_length] at O1
    have hb := hb0
    refine wc_exit ?_; refine we_seq_exit ?_; refine we_loop_exit ?_; refine we_block_exit ?_; refine we_seq ?_; refine wc_sr ?_; refine wl_mv rfl rfl ?_
    refine wl_call ok_caissonref01_Frame (refFrame_any O1.rd (by simp) (by rw [List.length_map]; omega)) ⟨rfl, trivial⟩ rfl ?_; rintro _ _ ⟨B, cB, rfl, o2, hbx⟩; replace hb := hb.trans (hbx.mono hb.size); clear hbx
    refine wl_as rfl rfl ?_; refine wl_ns ?_; refine wc_ret ?_
    exact we_ret1 rfl rfl ⟨_, rfl, B, cB, rfl, Ow.mono o2 hb0.size, hb⟩
end Go.Proofs.Ytcjiecclmepboaa


/-
  Walks over part and Decode.
-/
namespace Go.Proofs.Ytcjiecclmepboaa
open Go.RowKit

/-- The value of a part, and whether it is one. -/
def RetPt (w : World) (p : List UInt8) (v : Value) (w' : World) : Prop :=
  ∃ (u : Va) (B : Option Addr) (c : Nat), v = .tuple #[vaV u B c, .bool (partV p).isSome] ∧ (∀ u', partV p = some u' → u = u' ∧ OwB w' w.heap.size B c (vaC u).data) ∧ Below w.heap.size w w'
theorem RetPt.mk {w w' : World} {p : List UInt8} {r : Option Va} {B : Option Addr} {c : Nat} {q : Bool} {u : Va} (h : partV p = r) (hq : q = r.isSome) (hu : ∀ u', r = some u' → u = u' ∧ OwB w' w.heap.size B c (vaC u).data) (hb : Below w.heap.size w w') :
    RetPt w p (.tuple #[vaV u B c, .bool q]) w' := by
  subst h hq
  exact ⟨u, B, c, rfl, hu, hb⟩
set_option maxHeartbeats 2000000 in
theorem part_any {A : Option Addr} {n c : Nat} {p : List UInt8} {w : World} (r1 : RdB w A p) (hn : p.length = n) (hc : p.length ≤ c) (hl : p.length ≤ 1099511627776) :
    CallsV Try.prog 90 #[.slice A n c] w (RetPt w p) := by
  subst hn
  have hb := Below.refl w.heap.size w
  refine calls_in (N := _) Try.func90 rfl Try.ntmps90 rfl ?_; show WC _ _ _ _ _ _
  cases p with
  | nil =>
    refine wc_sr ?_; refine wl_as rfl rfl ?_; refine wl_as rfl rfl ?_; refine wl_ns ?_; refine wc_seq ?_; refine wc_sr ?_; refine wl_mv rfl rfl ?_; apply wl_val; apply opv_len; exact rfl; exact tyB.sl; exact rfl; refine wl_bin rfl rfl bin_eql rfl ?_; refine wl_ns ?_; apply wc_decT; exact rfl; exact rfl; refine wc_sr ?_; refine wl_as rfl rfl ?_; refine wl_as rfl rfl ?_; refine wl_ns ?_; refine wc_ret ?_; refine we_seq_ret ?_
    exact we_ret2 rfl rfl rfl ⟨_, rfl, RetPt.mk (u := .nil) (B := none) (c := 0) rfl rfl (fun _ h => by cases h) hb⟩
  | cons k r =>
    have hx : (k :: r)[0]? = some k := rfl
    have hpos : ¬ (((k :: r).length : Nat) : Int) = 0 := by simp only [List.length_cons]; omega
    have ho : partV (k :: r) = partK k r := rfl
    have hkl := k.toNat_lt
    refine wc_sr ?_; refine wl_as rfl rfl ?_; refine wl_as rfl rfl ?_; refine wl_ns ?_; refine wc_seq ?_; refine wc_sr ?_; refine wl_mv rfl rfl ?_; apply wl_val; apply opv_len; exact rfl; exact tyB.sl; exact rfl; refine wl_bin rfl rfl bin_eql rfl ?_; refine wl_ns ?_; apply wc_decF; exact rfl; (with_reducible assumption); refine wc_skip ?_; refine we_seq ?_; refine wc_sr ?_; refine wl_mv rfl rfl ?_
    refine wl_sl (l := 1) (h := (k :: r).length) tyB rfl ⟨_, rfl⟩ rfl (by simp) hc rfl ?_
    have r2 := rd_cut r1 (show 1 ≤ (k :: r).length by simp) (Nat.le_refl _) hc
    rw [show ((k :: r).take (k :: r).length).drop 1 = r by simp] at r2
    rw [show (k :: r).length - 1 = r.length by simp]
    have hcr : r.length ≤ c - 1 := by simp only [List.length_cons] at hc; omega
    simp only [List.length_cons] at hl
    refine wl_as rfl rfl ?_; refine wl_ns ?_; refine wc_seq ?_; refine wc_sr ?_; refine wl_mv rfl rfl ?_; apply wl_byK (T := tyB) (hr := r1) (hb := hx); exact rfl; exact rfl; exact rfl; exact rfl; exact rfl; intro _; refine wl_ns ?_; refine wc_block ?_; refine wc_sr ?_; refine wl_bin rfl rfl bin_eql rfl ?_; refine wl_as rfl rfl ?_; refine wl_ns ?_
    rw [partK] at ho
    by_cases h0 : k = 0
    · subst h0
      rw [if_pos rfl] at ho
      apply wc_decT; exact rfl; exact rfl; refine wc_sr ?_; refine wl_mv rfl rfl ?_; apply wl_val; apply opv_len; exact rfl; exact tyB.sl; exact rfl; refine wl_bin rfl rfl bin_eql rfl ?_; refine wl_as rfl rfl ?_; refine wl_as rfl rfl ?_; refine wl_ns ?_; refine wc_ret ?_; refine we_block_ret ?_; refine we_seq_ret ?_
      refine we_ret2 rfl rfl rfl ⟨_, rfl, RetPt.mk (u := .nil) (B := none) (c := 0) ho ?_ (fun u' h => ?_) hb⟩
      · by_cases hr : r = []
        · subst hr; rfl
        · have : ¬ ((r.length : Int) = 0) := by rw [← List.length_eq_zero_iff] at hr; omega
          rw [if_neg hr]; simp [this]; exact hr
      · split at h
        · cases h; exact ⟨rfl, Ow.nil _ _ _⟩
        · cases h
    rw [if_neg h0] at ho
    have h0' : ¬ (k.toNat : Int) = 0 := fun h => h0 (u8_eq (n := 0) h (by decide))
    by_cases h1 : k = 1
    · subst h1
      rw [if_pos rfl] at ho
      by_cases hr1 : (r.length : Int) = 1
      · obtain ⟨t, rfl⟩ := len1 (show r.length = 1 by omega)
        have ht : [t][0]? = some t := rfl
        have htl := t.toNat_lt
        apply wc_decF; exact rfl; (with_reducible assumption); refine wc_sr ?_; refine wl_bin rfl rfl bin_eql rfl ?_; refine wl_as rfl rfl ?_; refine wl_ns ?_; apply wc_decT; exact rfl; exact rfl; refine wc_seq ?_
        refine wc_drawB mixed (by kernel_rfl) ?_
        apply wq_val; intro _ hw_; apply opv_move; exact rfl; exact rfl; apply wq_val; intro _ hw_; apply opv_len; exact rfl; exact tyB.sl; exact rfl; apply wq_val; intro _ hw_; apply opv_bin; exact rfl; exact rfl; exact bin_eql; exact rfl; apply wq_val; intro _ hw_; apply opv_move; exact rfl; exact rfl; apply wq_take; exact rfl; exact rfl; exact rfl; refine bT ?_; (with_reducible assumption); apply wq_val; intro _ hw_; apply opv_move; exact rfl; exact rfl; apply wq_byTK (T := tyB) (hr := r2) (hb := ht); exact rfl; exact rfl; exact rfl; refine bT ?_; (with_reducible assumption); exact rfl; exact rfl; exact rfl; exact rfl; refine bT ?_; (with_reducible assumption); exact rfl; exact rfl; exact rfl; exact rfl; exact rfl; intro _; apply wq_take; exact rfl; exact rfl; exact rfl; refine bT ?_; (with_reducible assumption); apply wq_val; intro _ hw_; apply opv_bin; exact rfl; exact rfl; exact bin_eql; exact rfl; apply wq_val; intro _ hw_; apply opv_pickT; exact rfl; refine bT ?_; (with_reducible assumption); exact rfl; exact rfl; apply wq_val; intro _ hw_; apply opv_mkI; kernel_rfl; exact rfl; exact rfl; apply wq_val; intro _ hw_; apply opv_move; exact rfl; exact rfl; apply wq_val; intro _ hw_; apply opv_len; exact rfl; exact tyB.sl; exact rfl; apply wq_val; intro _ hw_; apply opv_bin; exact rfl; exact rfl; exact bin_eql; exact rfl; apply wq_val; intro _ hw_; apply opv_move; exact rfl; exact rfl; apply wq_take; exact rfl; exact rfl; exact rfl; refine bT ?_; (with_reducible assumption); apply wq_val; intro _ hw_; apply opv_move; exact rfl; exact rfl; apply wq_byTK (T := tyB) (hr := r2) (hb := ht); exact rfl; exact rfl; exact rfl; refine bT ?_; (with_reducible assumption); exact rfl; exact rfl; exact rfl; exact rfl; refine bT ?_; (with_reducible assumption); exact rfl; exact rfl; exact rfl; exact rfl; exact rfl; intro _; apply wq_take; exact rfl; exact rfl; exact rfl; refine bT ?_; (with_reducible assumption); apply wq_val; intro _ hw_; apply opv_bin; exact rfl; exact rfl; exact bin_lss; exact rfl; apply wq_val; intro _ hw_; apply opv_pickT; exact rfl; refine bT ?_; (with_reducible assumption); exact rfl; exact rfl; apply wq_val; intro _ hw_; apply opv_assign; exact rfl; exact rfl; apply wq_val; intro _ hw_; apply opv_assign; exact rfl; exact rfl; refine wq_nil fun w1 hw1 => ?_
        replace hb := hb.trans (hw1.mono hb.size)
        refine we_seq ?_; refine wc_ret ?_; refine we_block_ret ?_; refine we_seq_ret ?_
        refine we_ret2 rfl rfl rfl ⟨_, rfl, RetPt.mk (u := .bool (decide ((t.toNat : Int) = 1))) (B := none) (c := 0) ho ?_ (fun u' h => ?_) hb⟩
        · by_cases t0 : t = 0
          · subst t0; rfl
          by_cases t1 : t = 1
          · subst t1; rfl
          have : ¬ (t.toNat : Int) < 2 := fun h => by
            have : t.toNat = 0 ∨ t.toNat = 1 := by omega
            rcases this with h | h
            · exact t0 (u8_eq (n := 0) (by omega) (by decide))
            · exact t1 (u8_eq (n := 1) (by omega) (by decide))
          simp [t0, t1, this]
        · split at h
          · rename_i hr; cases h; cases hr; exact ⟨rfl, Ow.nil _ _ _⟩
          split at h
          · rename_i hr; cases h; cases hr; exact ⟨rfl, Ow.nil _ _ _⟩
          · cases h
      · have hne : ∀ x : UInt8, ¬ r = [x] := fun x h => hr1 (by rw [h]; rfl)
        rw [if_neg (hne 0), if_neg (hne 1)] at ho
        apply wc_decF; exact rfl; (with_reducible assumption); refine wc_sr ?_; refine wl_bin rfl rfl bin_eql rfl ?_; refine wl_as rfl rfl ?_; refine wl_ns ?_; apply wc_decT; exact rfl; exact rfl; refine wc_seq ?_
        refine wc_drawB mixed (by kernel_rfl) ?_
        apply wq_val; intro _ hw_; apply opv_move; exact rfl; exact rfl; apply wq_val; intro _ hw_; apply opv_len; exact rfl; exact tyB.sl; exact rfl; apply wq_val; intro _ hw_; apply opv_bin; exact rfl; exact rfl; exact bin_eql; exact rfl; apply wq_val; intro _ hw_; apply opv_move; exact rfl; exact rfl; apply wq_skip; exact rfl; exact rfl; exact rfl; refine bFn ?_; (with_reducible assumption); exact rfl; apply wq_skip; exact rfl; exact rfl; exact rfl; refine bFn ?_; (with_reducible assumption); exact rfl; apply wq_skip; exact rfl; exact rfl; exact rfl; refine bFn ?_; (with_reducible assumption); exact rfl; apply wq_skip; exact rfl; exact rfl; exact rfl; refine bFn ?_; (with_reducible assumption); exact rfl; apply wq_val; intro _ hw_; apply opv_pickF; exact rfl; refine bF ?_; (with_reducible assumption); exact rfl; exact rfl; apply wq_val; intro _ hw_; apply opv_mkI; kernel_rfl; exact rfl; exact rfl; apply wq_val; intro _ hw_; apply opv_move; exact rfl; exact rfl; apply wq_val; intro _ hw_; apply opv_len; exact rfl; exact tyB.sl; exact rfl; apply wq_val; intro _ hw_; apply opv_bin; exact rfl; exact rfl; exact bin_eql; exact rfl; apply wq_val; intro _ hw_; apply opv_move; exact rfl; exact rfl; apply wq_skip; exact rfl; exact rfl; exact rfl; refine bFn ?_; (with_reducible assumption); exact rfl; apply wq_skip; exact rfl; exact rfl; exact rfl; refine bFn ?_; (with_reducible assumption); exact rfl; apply wq_skip; exact rfl; exact rfl; exact rfl; refine bFn ?_; (with_reducible assumption); exact rfl; apply wq_skip; exact rfl; exact rfl; exact rfl; refine bFn ?_; (with_reducible assumption); exact rfl; apply wq_val; intro _ hw_; apply opv_pickF; exact rfl; refine bF ?_; (with_reducible assumption); exact rfl; exact rfl; apply wq_val; intro _ hw_; apply opv_assign; exact rfl; exact rfl; apply wq_val; intro _ hw_; apply opv_assign; exact rfl; exact rfl; refine wq_nil fun w1 hw1 => ?_
        replace hb := hb.trans (hw1.mono hb.size)
        refine we_seq ?_; refine wc_ret ?_; refine we_block_ret ?_; refine we_seq_ret ?_
        exact we_ret2 rfl rfl rfl ⟨_, rfl, RetPt.mk (u := .bool false) (B := none) (c := 0) ho rfl (fun _ h => by cases h) hb⟩
    rw [if_neg h1] at ho
    have h1' : ¬ (k.toNat : Int) = 1 := fun h => h1 (u8_eq (n := 1) h (by decide))
    by_cases h2 : k = 2
    · subst h2
      rw [if_pos rfl] at ho
      apply wc_decF; exact rfl; (with_reducible assumption); refine wc_sr ?_; refine wl_bin rfl rfl bin_eql rfl ?_; refine wl_as rfl rfl ?_; refine wl_ns ?_; apply wc_decF; exact rfl; (with_reducible assumption); refine wc_sr ?_; refine wl_bin rfl rfl bin_eql rfl ?_; refine wl_as rfl rfl ?_; refine wl_ns ?_; apply wc_decT; exact rfl; exact rfl; refine wc_sr ?_; refine wl_mv rfl rfl ?_
      refine wl_call ok_codec_GetOrdI (getOrdI_any (p := ((0 : Nat) : Int)) r2 rfl hcr (by omega) (by omega)) ⟨rfl, rfl, trivial⟩ rfl ?_
      rintro _ w2 ⟨rfl, hbx⟩
      replace hb := hb.trans (hbx.mono hb.size)
      clear hbx
      have hgl := fun h => (getOrdU_le (b := r) (q := 0) h)
      have hok := fun h => getOrdU_ok (b := r) (q := 0) h
      obtain ⟨g, hg⟩ : ∃ g, getOrdU r ((0 : Nat) : Int) = g := ⟨_, rfl⟩
      rw [hg] at hgl hok ⊢
      by_cases he : g.2.2 = 0
      · obtain ⟨hlen, hgv⟩ := hgl he
        have e21 : g.2.1 = 8 := by rw [hgv]; rfl
        have e1 : g.1 = numB (r.take 8) := by rw [hgv]; rfl
        have he' : (g.2.2 : Int) = 0 := by omega
        refine wl_mv rfl rfl ?_; apply wl_val; apply opv_extract; exact rfl; exact rfl; exact rfl; apply wl_val; apply opv_extract; exact rfl; exact rfl; exact rfl; apply wl_val; apply opv_extract; exact rfl; exact rfl; exact rfl; refine wl_as rfl rfl ?_; refine wl_as rfl rfl ?_; refine wl_as rfl rfl ?_; refine wl_ns ?_; refine wc_sr ?_; refine wl_mv rfl rfl ?_; apply wl_val; apply opv_mkI; kernel_rfl; exact rfl; exact rfl; refine wl_mv rfl rfl ?_; refine wl_bin rfl rfl bin_eql rfl ?_; refine wl_mv rfl rfl ?_; apply wl_take; exact rfl; exact rfl; exact rfl; refine bT ?_; (with_reducible assumption); refine wl_mv rfl rfl ?_; apply wl_take; exact rfl; exact rfl; exact rfl; refine bT ?_; (with_reducible assumption); refine wl_mv rfl rfl ?_; apply wl_take; exact rfl; exact rfl; exact rfl; refine bT ?_; (with_reducible assumption); apply wl_val; apply opv_len; exact rfl; exact tyB.sl; exact rfl; apply wl_take; exact rfl; exact rfl; exact rfl; refine bT ?_; (with_reducible assumption); refine wl_bin rfl rfl bin_eql rfl ?_; apply wl_val; apply opv_pickT; exact rfl; refine bT ?_; (with_reducible assumption); exact rfl; exact rfl; refine wl_as rfl rfl ?_; refine wl_as rfl rfl ?_; refine wl_ns ?_; refine wc_ret ?_; refine we_block_ret ?_; refine we_seq_ret ?_
        refine we_ret2 rfl rfl rfl ⟨_, rfl, RetPt.mk (u := .int (if g.2.2 = 0 then (g.1 : Int) - 9223372036854775808 else 0)) (B := none) (c := 0) ho ?_ (fun u' h => ?_) hb⟩
        · rw [e21]
          by_cases h8 : r.length = 8
          · rw [if_pos h8, h8]; rfl
          · rw [if_neg h8]; simp; omega
        · split at h
          · rename_i hr; cases h
            rw [if_pos he, e1, List.take_of_length_le (by omega)]
            exact ⟨rfl, Ow.nil _ _ _⟩
          · cases h
      · have he' : ¬ (g.2.2 : Int) = 0 := by omega
        have h8 : ¬ r.length = 8 := fun h => he (by rw [hok (by omega)])
        rw [if_neg h8] at ho
        refine wl_mv rfl rfl ?_; apply wl_val; apply opv_extract; exact rfl; exact rfl; exact rfl; apply wl_val; apply opv_extract; exact rfl; exact rfl; exact rfl; apply wl_val; apply opv_extract; exact rfl; exact rfl; exact rfl; refine wl_as rfl rfl ?_; refine wl_as rfl rfl ?_; refine wl_as rfl rfl ?_; refine wl_ns ?_; refine wc_sr ?_; refine wl_mv rfl rfl ?_; apply wl_val; apply opv_mkI; kernel_rfl; exact rfl; exact rfl; refine wl_mv rfl rfl ?_; refine wl_bin rfl rfl bin_eql rfl ?_; refine wl_mv rfl rfl ?_; apply wl_skip; exact rfl; exact rfl; exact rfl; refine bFn ?_; (with_reducible assumption); exact rfl; apply wl_skip; exact rfl; exact rfl; exact rfl; refine bFn ?_; (with_reducible assumption); exact rfl; apply wl_skip; exact rfl; exact rfl; exact rfl; refine bFn ?_; (with_reducible assumption); exact rfl; apply wl_skip; exact rfl; exact rfl; exact rfl; refine bFn ?_; (with_reducible assumption); exact rfl; apply wl_val; apply opv_pickF; exact rfl; refine bF ?_; (with_reducible assumption); exact rfl; exact rfl; refine wl_as rfl rfl ?_; refine wl_as rfl rfl ?_; refine wl_ns ?_; refine wc_ret ?_; refine we_block_ret ?_; refine we_seq_ret ?_
        exact we_ret2 rfl rfl rfl ⟨_, rfl, RetPt.mk (u := .int (if g.2.2 = 0 then (g.1 : Int) - 9223372036854775808 else 0)) (B := none) (c := 0) ho (by simp [he]) (fun _ h => by cases h) hb⟩
    rw [if_neg h2] at ho
    have h2' : ¬ (k.toNat : Int) = 2 := fun h => h2 (u8_eq (n := 2) h (by decide))
    by_cases h3 : k = 3
    · subst h3
      rw [if_pos rfl] at ho
      apply wc_decF; exact rfl; (with_reducible assumption); refine wc_sr ?_; refine wl_bin rfl rfl bin_eql rfl ?_; refine wl_as rfl rfl ?_; refine wl_ns ?_; apply wc_decF; exact rfl; (with_reducible assumption); refine wc_sr ?_; refine wl_bin rfl rfl bin_eql rfl ?_; refine wl_as rfl rfl ?_; refine wl_ns ?_; apply wc_decF; exact rfl; (with_reducible assumption); refine wc_sr ?_; refine wl_bin rfl rfl bin_eql rfl ?_; refine wl_as rfl rfl ?_; refine wl_ns ?_; apply wc_decT; exact rfl; exact rfl; refine wc_sr ?_; refine wl_mv rfl rfl ?_
      refine wl_val (opv_ofBytes Try.underlying30 Try.underlying5 tyStr rfl (r2)) rfl ?_
      apply wl_val; apply opv_mkI; kernel_rfl; exact rfl; exact rfl; refine wl_as rfl rfl ?_; refine wl_as rfl rfl ?_; refine wl_ns ?_; refine wc_ret ?_; refine we_block_ret ?_; refine we_seq_ret ?_
      refine we_ret2 rfl rfl rfl ⟨_, rfl, RetPt.mk (u := .text r) (B := none) (c := 0) ho rfl (fun u' h => by cases h; exact ⟨rfl, Ow.nil _ _ _⟩) hb⟩
    rw [if_neg h3] at ho
    have h3' : ¬ (k.toNat : Int) = 3 := fun h => h3 (u8_eq (n := 3) h (by decide))
    by_cases h4 : k = 4
    · subst h4
      rw [if_pos rfl] at ho
      apply wc_decF; exact rfl; (with_reducible assumption); refine wc_sr ?_; refine wl_bin rfl rfl bin_eql rfl ?_; refine wl_as rfl rfl ?_; refine wl_ns ?_; apply wc_decF; exact rfl; (with_reducible assumption); refine wc_sr ?_; refine wl_bin rfl rfl bin_eql rfl ?_; refine wl_as rfl rfl ?_; refine wl_ns ?_; apply wc_decF; exact rfl; (with_reducible assumption); refine wc_sr ?_; refine wl_bin rfl rfl bin_eql rfl ?_; refine wl_as rfl rfl ?_; refine wl_ns ?_; apply wc_decF; exact rfl; (with_reducible assumption); refine wc_sr ?_; refine wl_bin rfl rfl bin_eql rfl ?_; refine wl_as rfl rfl ?_; refine wl_ns ?_; apply wc_decT; exact rfl; exact rfl; refine wc_sr ?_
      refine wl_bs (vs := []) tyB trivial rfl (by decide) rfl fun E w3 q3 hbx _ => ?_
      replace q3 := Ow.mono q3 hb.size
      replace hb := hb.trans (hbx.mono hb.size)
      clear hbx
      refine wl_mv rfl rfl ?_
      refine wl_app tyB rfl q3 rfl (r2.below hb) (bvs_one _) (by omega) (by simp only [maxLen]; omega) hb.size rfl fun _ _ _ hO hG _ => ?_; replace hb := hG.below hb q3 (Nat.le_refl _) hb.size; replace q3 := hO; clear hO hG
      rw [List.nil_append] at q3
      rw [Nat.zero_add] at q3 ⊢
      apply wl_val; apply opv_mkI; kernel_rfl; exact rfl; exact rfl; refine wl_as rfl rfl ?_; refine wl_as rfl rfl ?_; refine wl_ns ?_; refine wc_ret ?_; refine we_block_ret ?_; refine we_seq_ret ?_
      exact we_ret2 rfl rfl rfl ⟨_, rfl, RetPt.mk (u := .bytes r) ho rfl (fun u' h => by cases h; exact ⟨rfl, q3⟩) hb⟩
    rw [if_neg h4] at ho
    have h4' : ¬ (k.toNat : Int) = 4 := fun h => h4 (u8_eq (n := 4) h (by decide))
    apply wc_decF; exact rfl; (with_reducible assumption); refine wc_sr ?_; refine wl_bin rfl rfl bin_eql rfl ?_; refine wl_as rfl rfl ?_; refine wl_ns ?_; apply wc_decF; exact rfl; (with_reducible assumption); refine wc_sr ?_; refine wl_bin rfl rfl bin_eql rfl ?_; refine wl_as rfl rfl ?_; refine wl_ns ?_; apply wc_decF; exact rfl; (with_reducible assumption); refine wc_sr ?_; refine wl_bin rfl rfl bin_eql rfl ?_; refine wl_as rfl rfl ?_; refine wl_ns ?_; apply wc_decF; exact rfl; (with_reducible assumption); refine wc_sr ?_; refine wl_bin rfl rfl bin_eql rfl ?_; refine wl_as rfl rfl ?_; refine wl_ns ?_; apply wc_decF; exact rfl; (with_reducible assumption); refine wc_skip ?_; refine we_block_norm ?_; refine we_seq ?_; refine wc_sr ?_; refine wl_as rfl rfl ?_; refine wl_as rfl rfl ?_; refine wl_ns ?_; refine wc_ret ?_
    exact we_ret2 rfl rfl rfl ⟨_, rfl, RetPt.mk (u := .nil) (B := none) (c := 0) ho rfl (fun _ h => by cases h) hb⟩
end Go.Proofs.Ytcjiecclmepboaa


/-
  Walks over Decode of the program and of the reference.
-/
namespace Go.Proofs.Ytcjiecclmepboaa
open Go.RowKit

theorem decV_err {b : List UInt8} (h : ¬ (parts b).2 = 0) : decV b = ([], (parts b).2) := by rw [decV, if_neg h]
theorem decV_bad {b : List UInt8} (h : (parts b).2 = 0) (hd : decL (parts b).1 = none) : decV b = ([], 3) := by rw [decV, if_pos h, hd]
theorem decV_good {b : List UInt8} {us : List Va} (h : (parts b).2 = 0) (hd : decL (parts b).1 = some us) : decV b = (us, 0) := by rw [decV, if_pos h, hd]
theorem decL_take {ps : List (List UInt8)} {us : List Va} {k : Nat} (h : decL (ps.take k) = some us) (hk : k ≤ ps.length) : us.length = k := by have := decL_len h; simp at this; omega
theorem decode_any {A : Option Addr} {n c : Nat} {b : List UInt8} {w : World} (r1 : RdB w A b) (hn : b.length = n) (hc : b.length ≤ c) (hl : b.length ≤ 1073741824) :
    CallsV Try.prog 56 #[.slice A n c] w (RetVs w (decV b)) := by
  subst hn
  have hb := Below.refl w.heap.size w
  have hps := parts_size b
  refine calls_in (N := _) Try.func56 rfl Try.ntmps56 rfl ?_; show WC _ _ _ _ _ _
  refine wc_sr ?_; refine wl_as rfl rfl ?_; refine wl_as rfl rfl ?_; refine wl_ns ?_; refine wc_sr ?_; refine wl_mv rfl rfl ?_
  refine wl_call ok_codec_Parts (parts_any r1 rfl hc (by omega)) ⟨rfl, trivial⟩ rfl ?_
  rintro _ wL ⟨E, e, rfl, O1, hb1⟩
  clear hb
  obtain ⟨ps, hps'⟩ : ∃ ps, (parts b).1 = ps := ⟨_, rfl⟩
  obtain ⟨er, her⟩ : ∃ er, (parts b).2 = er := ⟨_, rfl⟩
  have hgood := @decV_good b
  have hbad := @decV_bad b
  have herr := @decV_err b
  rw [hps'] at O1 hps hgood hbad ⊢
  rw [her] at hgood hbad herr ⊢
  by_cases h0 : er = 0
  case neg =>
    have h0' : ¬ (er : Int) = 0 := by omega
    refine wl_mv rfl rfl ?_; apply wl_val; apply opv_extract; exact rfl; exact rfl; exact rfl; apply wl_val; apply opv_extract; exact rfl; exact rfl; exact rfl; refine wl_as rfl rfl ?_; refine wl_as rfl rfl ?_; refine wl_ns ?_; refine wc_seq ?_; refine wc_sr ?_; refine wl_mv rfl rfl ?_; refine wl_bin rfl rfl bin_neq rfl ?_; refine wl_ns ?_; apply wc_decT; exact rfl; (with_reducible assumption); refine wc_sr ?_; refine wl_mv rfl rfl ?_; refine wl_as rfl rfl ?_; refine wl_as rfl rfl ?_; refine wl_ns ?_; refine wc_ret ?_; refine we_seq_ret ?_
    exact we_ret2 rfl rfl rfl ⟨_, rfl, none, 0, by rw [herr h0]; rfl, by rw [herr h0]; exact OwR.nil _ _ _, hb1⟩
  subst h0
  have R0 := O1.rd
  clear O1
  refine wl_mv rfl rfl ?_; apply wl_val; apply opv_extract; exact rfl; exact rfl; exact rfl; apply wl_val; apply opv_extract; exact rfl; exact rfl; exact rfl; refine wl_as rfl rfl ?_; refine wl_as rfl rfl ?_; refine wl_ns ?_; refine wc_seq ?_; refine wc_sr ?_; refine wl_mv rfl rfl ?_; refine wl_bin rfl rfl bin_neq rfl ?_; refine wl_ns ?_; apply wc_condFb; exact rfl; exact rfl; refine wc_skip ?_; refine we_seq ?_; refine wc_sr ?_; refine wl_as rfl rfl ?_; refine wl_ns ?_; refine wc_seq ?_; refine wc_sr ?_; refine wl_mv rfl rfl ?_; apply wl_val; apply opv_len; exact rfl; exact tyBB.sl; exact rfl; refine wl_mv rfl rfl ?_; refine wl_ns ?_; refine wc_block ?_
  refine wc_loop (fun L wr m => ∃ (k : Nat) (us : List Va) (P : Option Addr) (cp : Nat), L = [(6, .slice P us.length cp), (19, .slice E ps.length e), (20, .int .i64 (ps.length : Int)), (21, .int .i64 (k : Int))] ∧ k ≤ ps.length ∧ decL (ps.take k) = some us ∧ OwR 1 20 wr wL.heap.size (fun b => wL.heap.size ≤ b) P cp (us.map vaEl) ∧ Below wL.heap.size wL wr ∧ m = ps.length - k)
    [(6, .slice none 0 0), (19, .slice E ps.length e), (20, .int .i64 (ps.length : Int)), (21, .int .i64 (0 : Nat))] ps.length ⟨0, [], none, 0, rfl, by omega, rfl, OwR.nil _ _ _, Below.refl _ _, rfl⟩ ⟨rfl, rfl, rfl, rfl, trivial⟩ ?_
  rintro _ w2 m ⟨k, us, P, cp, rfl, hk, hd, g1, hb, rfl⟩
  have hul := decL_take hd hk
  refine wc_sr ?_; refine wl_bin rfl rfl bin_lss rfl ?_; refine wl_ns ?_; refine wc_seq ?_
  refine wc_cond rfl (fun h1 => ?_) (fun h1 => ?_)
  · obtain ⟨p, hp⟩ : ∃ p, ps[k]? = some p := ⟨_, List.getElem?_eq_getElem (by omega)⟩
    obtain ⟨vs, X, cx, hv, hvk, rx, hcx⟩ := (R0.below hb).at hp
    have hpl := flat_mem hp
    have hP := fun a ha => (OwR.lt g1 a ha).2
    have hs1 := hb.size
    refine wc_skip ?_; refine we_seq ?_; refine wc_seq ?_; refine wc_block ?_; refine wc_sr ?_; apply wl_elK (T := tyBB) (hr := hv) (hb := hvk); exact rfl; exact rfl; exact rfl; exact rfl; exact rfl; intro _; refine wl_as rfl rfl ?_; refine wl_ns ?_; refine wc_sr ?_; refine wl_mv rfl rfl ?_
    refine wl_call ok_cell_part (part_any rx rfl hcx (by omega)) ⟨rfl, trivial⟩ rfl ?_
    rintro _ w3 ⟨u, B, cB, rfl, hok, hbx⟩
    replace g1 := OwR.below g1 hbx
    replace hb := hb.trans (hbx.mono hb.size)
    clear hbx hv rx
    cases hpv : partV p with
    | none =>
      refine wl_mv rfl rfl ?_; apply wl_val; apply opv_extract; exact rfl; exact rfl; exact rfl; apply wl_val; apply opv_extract; exact rfl; exact rfl; exact rfl; refine wl_as rfl rfl ?_; refine wl_as rfl rfl ?_; refine wl_ns ?_; refine wc_seq ?_; refine wc_sr ?_; refine wl_mv rfl rfl ?_; apply wl_val; apply opv_not; exact rfl; exact rfl; refine wl_ns ?_; apply wc_condTb; exact rfl; exact rfl; refine wc_sr ?_; refine wl_as rfl rfl ?_; refine wl_as rfl rfl ?_; refine wl_ns ?_; refine wc_ret ?_; refine we_seq_ret ?_; refine we_block_ret ?_; refine we_seq_ret ?_; refine we_loop_ret ?_; refine we_block_ret ?_; refine we_seq_ret ?_
      have hdn := hbad rfl (decL_none hp hpv)
      exact we_ret2 rfl rfl rfl ⟨_, rfl, none, 0, by rw [hdn]; rfl, by rw [hdn]; exact OwR.nil _ _ _, hb1.trans (hb.mono hb1.size)⟩
    | some v =>
      obtain ⟨rfl, o2⟩ := hok v hpv
      refine wl_mv rfl rfl ?_; apply wl_val; apply opv_extract; exact rfl; exact rfl; exact rfl; apply wl_val; apply opv_extract; exact rfl; exact rfl; exact rfl; refine wl_as rfl rfl ?_; refine wl_as rfl rfl ?_; refine wl_ns ?_; refine wc_seq ?_; refine wc_sr ?_; refine wl_mv rfl rfl ?_; apply wl_val; apply opv_not; exact rfl; exact rfl; refine wl_ns ?_; apply wc_condFb; exact rfl; exact rfl; refine wc_skip ?_; refine we_seq ?_; refine wc_region ?_; refine wl_mv rfl rfl ?_; refine wl_mv rfl rfl ?_
      refine wl_pushG (css' := [[vaV u B cB]]) (els' := [vaEl u]) tkA (fun _ => rfl) g1 ((by simp)) ⟨rfl, ⟨_, rfl, (by first | rfl | exact cells_one (vaV_one _ _ _))⟩, rfl, trivial⟩ (Grp.one (⟨B, cB, rfl, byEl.own o2 fun a ha h1 h2 => ⟨by omega, fun p hp => by have := hP p hp; omega⟩⟩) rfl) rfl (by first | exact ceV_all _ _ _ | exact vaV_all _ _ _ | (simp [Value.oneCell'])) (by decide) (by decide) (by omega) (by simp only [maxLen]; omega) hb.size rfl rfl fun _ _ _ _ hO hG hA => ?_; replace hb := hG.belowR hb g1 (Nat.le_refl _) hb.size; replace g1 := hO; clear hO hG
      refine wl_as rfl rfl ?_; refine wl_nil ?_; refine we_block_norm ?_; refine we_seq ?_; refine wc_region ?_; apply wl_val; apply opv_bin; exact rfl; exact rfl; exact bin_add64 (by omega); exact rfl; refine wl_mv rfl rfl ?_; refine wl_nil ?_
      refine we_loop _ (ps.length - (k + 1)) ⟨k + 1, us ++ [u], _, _, rfl, by omega, by rw [take_getR hp]; exact decL_snoc _ _ _ _ hd hpv, by rw [List.map_append]; exact g1, hb, rfl⟩ (by omega) ⟨by rw [List.length_append]; rfl, rfl, rfl, by simp [lookT], trivial⟩
  · obtain rfl : k = ps.length := by omega
    rw [List.take_length] at hd
    have hdn := hgood rfl hd
    refine wc_exit ?_; refine we_seq_exit ?_; refine we_loop_exit ?_; refine we_block_exit ?_; refine we_seq ?_; refine wc_sr ?_; refine wl_mv rfl rfl ?_; refine wl_as rfl rfl ?_; refine wl_as rfl rfl ?_; refine wl_ns ?_; refine wc_ret ?_
    exact we_ret2 rfl rfl rfl ⟨_, rfl, P, cp, by rw [hdn]; rfl, by rw [hdn]; exact OwR.mono g1 hb1.size (fun _ _ h => Nat.le_trans hb1.size h), hb1.trans (hb.mono hb1.size)⟩
end Go.Proofs.Ytcjiecclmepboaa


/-
  The walk over the reference's Decode.
-/
namespace Go.Proofs.Ytcjiecclmepboaa
open Go.RowKit

theorem drop63_lt {n : Nat} (h : n < 2 ^ 64) : -9223372036854775808 ≤ drop63 n ∧ drop63 n ≤ 9223372036854775807 := by unfold drop63; omega
theorem part_yes {p : List UInt8} {u : Va} (hu : VaOk u) (h : enc1 u = p) : partV p = some u := by rw [← h]; exact partV_enc hu
theorem parts_one {u : Va} (hu : VaOk u) : parts (encV [u]) = ([enc1 u], 0) := by
  rw [encV, List.map_cons, List.map_nil]
  refine parts_framed fun r hr => ?_
  simp at hr
  subst hr
  have h1 := enc1_length u
  have h2 := hu.text
  have h3 := hu.data
  have e : vaB u = (vaC u).text.length + (vaC u).data.length := rfl
  omega
set_option maxHeartbeats 4000000 in
theorem refDecode_any {A : Option Addr} {n c : Nat} {b : List UInt8} {w : World} (r1 : RdB w A b) (hn : b.length = n) (hc : b.length ≤ c) (hl : b.length ≤ 16777216) :
    CallsV Try.prog 58 #[.slice A n c] w fun v w' => ∃ (B : Option Addr) (c : Nat), v = .tuple #[.slice B (decV b).1.length c, .int .i64 ((decV b).2 : Nat)] ∧ OwR 5 53 w' w.heap.size (fun b => w.heap.size ≤ b) B c ((decV b).1.map fun u => ceEl (vaC u)) ∧ Below w.heap.size w w' := by
  subst hn
  have hmax : maxLen = 9223372036854775807 := rfl
  have hps := parts_size b
  refine calls_in (N := _) Try.func58 rfl Try.ntmps58 rfl ?_; show WC _ _ _ _ _ _
  refine wc_sr ?_; refine wl_as rfl rfl ?_; refine wl_as rfl rfl ?_; refine wl_ns ?_; refine wc_sr ?_; refine wl_mv rfl rfl ?_
  refine wl_call ok_caissonref01_Parts (refParts_any r1 rfl hc (by omega)) ⟨rfl, trivial⟩ rfl ?_
  rintro _ wL ⟨E, e, rfl, O1, hb1⟩
  obtain ⟨ps, hps'⟩ : ∃ ps, (parts b).1 = ps := ⟨_, rfl⟩
  obtain ⟨er, her⟩ : ∃ er, (parts b).2 = er := ⟨_, rfl⟩
  have hgood := @decV_good b
  have hbad := @decV_bad b
  have herr := @decV_err b
  rw [hps'] at O1 hps hgood hbad ⊢
  rw [her] at hgood hbad herr ⊢
  by_cases h0 : er = 0
  case neg =>
    have h0' : ¬ (er : Int) = 0 := by omega
    refine wl_mv rfl rfl ?_; apply wl_val; apply opv_extract; exact rfl; exact rfl; exact rfl; apply wl_val; apply opv_extract; exact rfl; exact rfl; exact rfl; refine wl_as rfl rfl ?_; refine wl_as rfl rfl ?_; refine wl_ns ?_; refine wc_seq ?_; refine wc_sr ?_; refine wl_mv rfl rfl ?_; refine wl_bin rfl rfl bin_neq rfl ?_; refine wl_ns ?_; apply wc_decT; exact rfl; (with_reducible assumption); refine wc_sr ?_; refine wl_mv rfl rfl ?_; refine wl_as rfl rfl ?_; refine wl_as rfl rfl ?_; refine wl_ns ?_; refine wc_ret ?_; refine we_seq_ret ?_
    exact we_ret2 rfl rfl rfl ⟨_, rfl, none, 0, by rw [herr h0]; rfl, by rw [herr h0]; exact OwR.nil _ _ _, hb1⟩
  subst h0
  have R0 := O1.rd
  clear O1
  refine wl_mv rfl rfl ?_; apply wl_val; apply opv_extract; exact rfl; exact rfl; exact rfl; apply wl_val; apply opv_extract; exact rfl; exact rfl; exact rfl; refine wl_as rfl rfl ?_; refine wl_as rfl rfl ?_; refine wl_ns ?_; refine wc_seq ?_; refine wc_sr ?_; refine wl_mv rfl rfl ?_; refine wl_bin rfl rfl bin_neq rfl ?_; refine wl_ns ?_; apply wc_condFb; exact rfl; exact rfl; refine wc_skip ?_; refine we_seq ?_; refine wc_sr ?_; refine wl_as rfl rfl ?_; refine wl_ns ?_; refine wc_seq ?_; refine wc_sr ?_; refine wl_as rfl rfl ?_; refine wl_ns ?_; refine wc_block ?_
  refine wc_loop (fun L wr m => ∃ (k : Nat) (us : List Va) (P : Option Addr) (cp : Nat), L = [(4, .slice E ps.length e), (6, .slice P us.length cp), (7, .int .i64 (k : Int))] ∧ k ≤ ps.length ∧ decL (ps.take k) = some us ∧ OwR 5 53 wr wL.heap.size (fun b => wL.heap.size ≤ b) P cp (us.map fun u => ceEl (vaC u)) ∧ Below wL.heap.size wL wr ∧ m = ps.length - k)
    [(4, .slice E ps.length e), (6, .slice none 0 0), (7, .int .i64 (0 : Nat))] ps.length ⟨0, [], none, 0, rfl, by omega, rfl, OwR.nil _ _ _, Below.refl _ _, rfl⟩ ⟨rfl, rfl, rfl, trivial⟩ ?_
  rintro _ w2 m ⟨k, us, P, cp, rfl, hk, hd, g1, hb, rfl⟩
  have hul := decL_take hd hk
  refine wc_seq ?_; refine wc_sr ?_; refine wl_mv rfl rfl ?_; refine wl_mv rfl rfl ?_; apply wl_val; apply opv_len; exact rfl; exact tyBB.sl; exact rfl; refine wl_bin rfl rfl bin_lss rfl ?_; refine wl_ns ?_
  refine wc_cond rfl (fun h1 => ?_) (fun h1 => ?_)
  case refine_2 =>
    obtain rfl : k = ps.length := by omega
    rw [List.take_length] at hd
    have hdn := hgood rfl hd
    refine wc_exit ?_; refine we_seq_exit ?_; refine we_loop_exit ?_; refine we_block_exit ?_; refine we_seq ?_; refine wc_sr ?_; refine wl_mv rfl rfl ?_; refine wl_as rfl rfl ?_; refine wl_as rfl rfl ?_; refine wl_ns ?_; refine wc_ret ?_
    exact we_ret2 rfl rfl rfl ⟨_, rfl, P, cp, by rw [hdn]; rfl, by rw [hdn]; exact OwR.mono g1 hb1.size (fun _ _ h => Nat.le_trans hb1.size h), hb1.trans (hb.mono hb1.size)⟩
  obtain ⟨p, hp⟩ : ∃ p, ps[k]? = some p := ⟨_, List.getElem?_eq_getElem (by omega)⟩
  obtain ⟨vs, X, cx, hv, hvk, rx, hcx⟩ := (R0.below hb).at hp
  have rx0 : ∀ w', Below w2.heap.size w2 w' → RdB w' X p := fun w' h => rx.below h
  have hpl := flat_mem hp
  have hP := fun a ha => (OwR.lt g1 a ha).2
  have hs1 := hb.size
  have hstop : partV p = none → decV b = ([], 3) := fun h => hbad rfl (decL_none hp h)
  have hret : ∀ {w' : World}, Below wL.heap.size wL w' → decV b = ([], 3) → ∃ v, Ending.returned (.tuple #[.slice none 0 0, .int .i64 3]) = .returned v ∧ ∃ (B : Option Addr) (c : Nat), v = .tuple #[.slice B (decV b).1.length c, .int .i64 ((decV b).2 : Nat)] ∧ OwR 5 53 w' w.heap.size (fun b => w.heap.size ≤ b) B c ((decV b).1.map fun u => ceEl (vaC u)) ∧ Below w.heap.size w w' := fun {w'} h hd => by
    rw [hd]; exact ⟨_, rfl, none, 0, rfl, OwR.nil _ _ _, hb1.trans (h.mono hb1.size)⟩
  refine wc_skip ?_; refine we_seq ?_; refine wc_seq ?_; refine wc_block ?_; refine wc_sr ?_; refine wl_mv rfl rfl ?_; refine wl_mv rfl rfl ?_; apply wl_elK (T := tyBB) (hr := hv) (hb := hvk); exact rfl; exact rfl; exact rfl; exact rfl; exact rfl; intro _; refine wl_as rfl rfl ?_; refine wl_ns ?_; refine wc_seq ?_; refine wc_sr ?_; refine wl_mv rfl rfl ?_; apply wl_val; apply opv_len; exact rfl; exact tyB.sl; exact rfl; refine wl_bin rfl rfl bin_eql rfl ?_; refine wl_mv rfl rfl ?_
  cases p with
  | nil =>
    apply wl_skip; exact rfl; exact rfl; exact rfl; refine bTn ?_; exact rfl; exact rfl; apply wl_skip; exact rfl; exact rfl; exact rfl; refine bTn ?_; exact rfl; exact rfl; apply wl_skip; exact rfl; exact rfl; exact rfl; refine bTn ?_; exact rfl; exact rfl; apply wl_skip; exact rfl; exact rfl; exact rfl; refine bTn ?_; exact rfl; exact rfl; apply wl_val; apply opv_pickT; exact rfl; refine bT ?_; exact rfl; exact rfl; exact rfl; refine wl_ns ?_; apply wc_condTb; exact rfl; exact rfl; refine wc_sr ?_; refine wl_as rfl rfl ?_; refine wl_as rfl rfl ?_; refine wl_ns ?_; refine wc_ret ?_; refine we_seq_ret ?_; refine we_block_ret ?_; refine we_seq_ret ?_; refine we_loop_ret ?_; refine we_block_ret ?_; refine we_seq_ret ?_
    exact we_ret2 rfl rfl rfl (hret hb (hstop rfl))
  | cons kk r =>
    have hx : (kk :: r)[0]? = some kk := rfl
    have hpos : ¬ (((kk :: r).length : Nat) : Int) = 0 := by simp only [List.length_cons]; omega
    have ho : partV (kk :: r) = partK kk r := rfl
    have hkl := kk.toNat_lt
    have hrl : r.length ≤ 16777216 := by simp only [List.length_cons] at hpl; omega
    have rcut : ∀ w', Below w2.heap.size w2 w' → RdB w' (cutA X cx 1) r := fun w' h => by
      have r2 := rd_cut (rx0 w' h) (show 1 ≤ (kk :: r).length by simp) (Nat.le_refl _) hcx
      rwa [show ((kk :: r).take (kk :: r).length).drop 1 = r by simp] at r2
    have hcr : r.length ≤ cx - 1 := by simp only [List.length_cons] at hcx; omega
    apply wl_take; exact rfl; exact rfl; exact rfl; refine bF ?_; (with_reducible assumption); refine wl_mv rfl rfl ?_; apply wl_byTK (T := tyB) (hr := rx) (hb := hx); exact rfl; exact rfl; exact rfl; refine bF ?_; (with_reducible assumption); exact rfl; exact rfl; exact rfl; exact rfl; refine bF ?_; (with_reducible assumption); exact rfl; exact rfl; exact rfl; exact rfl; exact rfl; intro _; apply wl_take; exact rfl; exact rfl; exact rfl; refine bF ?_; (with_reducible assumption); refine wl_bin rfl rfl bin_gtr rfl ?_; apply wl_val; apply opv_pickF; exact rfl; refine bF ?_; (with_reducible assumption); exact rfl; exact rfl; refine wl_ns ?_
    by_cases h4' : 4 < kk.toNat
    · have h4i : (4 : Int) < (kk.toNat : Int) := by omega
      have hne : ∀ j : UInt8, j.toNat ≤ 4 → ¬ kk = j := fun j hj h => by subst h; omega
      apply wc_decT; exact rfl; (with_reducible assumption); refine wc_sr ?_; refine wl_as rfl rfl ?_; refine wl_as rfl rfl ?_; refine wl_ns ?_; refine wc_ret ?_; refine we_seq_ret ?_; refine we_block_ret ?_; refine we_seq_ret ?_; refine we_loop_ret ?_; refine we_block_ret ?_; refine we_seq_ret ?_
      refine we_ret2 rfl rfl rfl (hret hb (hstop ?_))
      rw [ho, partK, if_neg (hne 0 (by decide)), if_neg (hne 1 (by decide)), if_neg (hne 2 (by decide)), if_neg (hne 3 (by decide)), if_neg (hne 4 (by decide))]
    have h4i : ¬ (4 : Int) < (kk.toNat : Int) := by omega
    apply wc_decF; exact rfl; (with_reducible assumption); refine wc_skip ?_; refine we_seq ?_; refine wc_sr ?_; refine wl_mv rfl rfl ?_; apply wl_byK (T := tyB) (hr := rx) (hb := hx); exact rfl; exact rfl; exact rfl; exact rfl; exact rfl; intro _; apply wl_val; apply opv_convR; exact rfl; exact Try.underlying5; exact Try.underlying3; exact IntWalk.i64_in _ (by omega); exact rfl
    refine wl_val (opv_build (vs := [(0, .int .i64 (kk.toNat : Int))]) (cs := [.int .i64 (kk.toNat : Int), .bool false, .int .i64 0, str [], .slice none 0 0]) ⟨rfl, rfl, trivial⟩ (by kernel_rfl)) rfl ?_
    replace g1 := OwR.mono g1 (Nat.le_refl _) (S' := fun b => wL.heap.size ≤ b ∧ b < w2.heap.size) fun b h h' => ⟨h', h⟩
    have hbx2 := Below.refl w2.heap.size w2
    refine wl_var (cs := [.int .i64 (kk.toNat : Int), .bool false, .int .i64 0, str [], .slice none 0 0]) zeroC sC rfl (fun _ => rfl) (by simp [Value.oneCell']) rfl fun g9 w3 hg9 a9 hbx => ?_
    replace g1 := OwR.below g1 hbx
    replace hb := hb.trans (hbx.mono hb.size)
    replace hbx2 := hbx
    clear hbx rx hv
    have hbut : ∀ b' : Nat, b' < w2.heap.size → But (some ⟨g9, 0, none⟩) b' := fun b' h a ha => by cases ha; exact (show b' ≠ g9 by omega)
    refine wl_ns ?_; refine wc_seq ?_; refine wc_sr ?_; apply wl_val; apply opv_fa; exact fa_sC (by decide); exact rfl; exact rfl; apply wl_val; apply opv_ldX; exact rfl; assumption; exact c1_int; exact rfl; exact rfl; refine wl_ns ?_; refine wc_block ?_; refine wc_sr ?_; refine wl_bin rfl rfl bin_eql rfl ?_; refine wl_as rfl rfl ?_; refine wl_ns ?_
    have hkk : kk = 0 ∨ kk = 1 ∨ kk = 2 ∨ kk = 3 ∨ kk = 4 := by
      have : kk.toNat = 0 ∨ kk.toNat = 1 ∨ kk.toNat = 2 ∨ kk.toNat = 3 ∨ kk.toNat = 4 := by omega
      rcases this with h | h | h | h | h
      · exact .inl (u8_eq (n := 0) (by omega) (by decide))
      · exact .inr (.inl (u8_eq (n := 1) (by omega) (by decide)))
      · exact .inr (.inr (.inl (u8_eq (n := 2) (by omega) (by decide))))
      · exact .inr (.inr (.inr (.inl (u8_eq (n := 3) (by omega) (by decide)))))
      · exact .inr (.inr (.inr (.inr (u8_eq (n := 4) (by omega) (by decide)))))
    refine wc_cutE (fun L w' => ∃ (u : Va) (B : Option Addr) (cB : Nat), L = [(4, .slice E ps.length e), (6, .slice P us.length cp), (7, .int .i64 (k : Int)), (8, .slice X (kk :: r).length cx), (9, .pointer (some ⟨g9, 0, none⟩))] ∧ Ar w' g9 53 (ceV (vaC u) B cB) ∧
      OwR 5 53 w' wL.heap.size (fun b => wL.heap.size ≤ b ∧ b < w2.heap.size) P cp (us.map fun u => ceEl (vaC u)) ∧ OwB w' w2.heap.size B cB (vaC u).data ∧ VaOk u ∧ vaB u ≤ 16777216 ∧ (∀ v, partV (kk :: r) = some v → v = u) ∧ Below wL.heap.size wL w' ∧ Below w2.heap.size w2 w') ?_ ?_
    · clear h4' h4i
      rcases hkk with rfl | rfl | rfl | rfl | rfl
      · apply wc_condFb; exact rfl; exact rfl; refine wc_sr ?_; refine wl_bin rfl rfl bin_eql rfl ?_; refine wl_as rfl rfl ?_; refine wl_ns ?_; apply wc_condFb; exact rfl; exact rfl; refine wc_sr ?_; refine wl_bin rfl rfl bin_eql rfl ?_; refine wl_as rfl rfl ?_; refine wl_ns ?_; apply wc_condFb; exact rfl; exact rfl; refine wc_sr ?_; refine wl_bin rfl rfl bin_eql rfl ?_; refine wl_as rfl rfl ?_; refine wl_ns ?_; apply wc_condFb; exact rfl; exact rfl; refine wc_skip ?_
        refine we_cut _ ⟨.nil, none, 0, rfl, a9, g1, Ow.nil _ _ _, ⟨by simp [vaC], by simp [vaC], by simp [vaC]⟩, by simp [vaB, vaC], fun v hv => ?_, hb, hbx2⟩ ⟨rfl, rfl, rfl, rfl, rfl, trivial⟩
        rw [ho, partK, if_pos rfl] at hv
        split at hv
        · cases hv; rfl
        · cases hv
      · by_cases hr : 0 < r.length
        · obtain ⟨t, ht⟩ : ∃ t, r[0]? = some t := ⟨_, List.getElem?_eq_getElem hr⟩
          have ht1 : (1 :: r)[1]? = some t := by simpa using ht
          have htl := t.toNat_lt
          have hlen : (1 : Int) < (((1 :: r).length : Nat) : Int) := by simp only [List.length_cons]; omega
          have rc := rx0 _ hbx2
          apply wc_condTb; exact rfl; exact rfl; refine wc_region ?_; refine wl_mv rfl rfl ?_; apply wl_val; apply opv_len; exact rfl; exact tyB.sl; exact rfl; refine wl_bin rfl rfl bin_gtr rfl ?_; refine wl_mv rfl rfl ?_; apply wl_take; exact rfl; exact rfl; exact rfl; refine bT ?_; (with_reducible assumption); refine wl_mv rfl rfl ?_; apply wl_byTK (T := tyB) (hr := rc) (hb := ht1); exact rfl; exact rfl; exact rfl; refine bT ?_; (with_reducible assumption); exact rfl; exact rfl; exact rfl; exact rfl; refine bT ?_; (with_reducible assumption); exact rfl; exact rfl; exact rfl; exact rfl; exact rfl; intro _; apply wl_take; exact rfl; exact rfl; exact rfl; refine bT ?_; (with_reducible assumption); refine wl_bin rfl rfl bin_eql rfl ?_; apply wl_val; apply opv_pickT; exact rfl; refine bT ?_; (with_reducible assumption); exact rfl; exact rfl; apply wl_val; apply opv_fa; exact fa_sC (by decide); exact rfl; exact rfl
          refine wl_stA c1_bool a9 rfl (show 0 + 1 < 5 by decide) rfl rfl fun w4 a9 hG _ => ?_
          replace g1 := OwR.gr g1 hG (fun b' _ h _ => hbut b' h.2) (fun a ha => hbut _ (hP a ha))
          replace hb := hG.belowI hb (by omega) hb.size
          replace hbx2 := hG.belowI hbx2 hg9 hbx2.size
          refine wl_nil ?_
          refine we_cut _ ⟨.bool (decide ((t.toNat : Int) = 1)), none, 0, rfl, a9, g1, Ow.nil _ _ _, ⟨by simp [vaC], by simp [vaC], by simp [vaC]⟩, by simp [vaB, vaC], fun v hv => ?_, hb, hbx2⟩ ⟨rfl, rfl, rfl, rfl, rfl, trivial⟩
          rw [ho, partK, if_neg (by decide), if_pos rfl] at hv
          split at hv
          · rename_i hr'; subst hr'; cases hv; simp at ht; subst ht; rfl
          split at hv
          · rename_i hr'; subst hr'; cases hv; simp at ht; subst ht; rfl
          · cases hv
        · have hlen : ¬ (1 : Int) < (((1 :: r).length : Nat) : Int) := by simp only [List.length_cons]; omega
          apply wc_condTb; exact rfl; exact rfl; refine wc_region ?_; refine wl_mv rfl rfl ?_; apply wl_val; apply opv_len; exact rfl; exact tyB.sl; exact rfl; refine wl_bin rfl rfl bin_gtr rfl ?_; refine wl_mv rfl rfl ?_; apply wl_skip; exact rfl; exact rfl; exact rfl; refine bFn ?_; (with_reducible assumption); exact rfl; apply wl_skip; exact rfl; exact rfl; exact rfl; refine bFn ?_; (with_reducible assumption); exact rfl; apply wl_skip; exact rfl; exact rfl; exact rfl; refine bFn ?_; (with_reducible assumption); exact rfl; apply wl_skip; exact rfl; exact rfl; exact rfl; refine bFn ?_; (with_reducible assumption); exact rfl; apply wl_val; apply opv_pickF; exact rfl; refine bF ?_; (with_reducible assumption); exact rfl; exact rfl; apply wl_val; apply opv_fa; exact fa_sC (by decide); exact rfl; exact rfl
          refine wl_stA c1_bool a9 rfl (show 0 + 1 < 5 by decide) rfl rfl fun w4 a9 hG _ => ?_
          replace g1 := OwR.gr g1 hG (fun b' _ h _ => hbut b' h.2) (fun a ha => hbut _ (hP a ha))
          replace hb := hG.belowI hb (by omega) hb.size
          replace hbx2 := hG.belowI hbx2 hg9 hbx2.size
          refine wl_nil ?_
          refine we_cut _ ⟨.bool false, none, 0, rfl, a9, g1, Ow.nil _ _ _, ⟨by simp [vaC], by simp [vaC], by simp [vaC]⟩, by simp [vaB, vaC], fun v hv => ?_, hb, hbx2⟩ ⟨rfl, rfl, rfl, rfl, rfl, trivial⟩
          obtain rfl : r = [] := List.eq_nil_of_length_eq_zero (by omega)
          rw [ho, partK, if_neg (by decide), if_pos rfl] at hv
          simp at hv
      · apply wc_condFb; exact rfl; exact rfl; refine wc_sr ?_; refine wl_bin rfl rfl bin_eql rfl ?_; refine wl_as rfl rfl ?_; refine wl_ns ?_; apply wc_condTb; exact rfl; exact rfl; refine wc_sr ?_; refine wl_mv rfl rfl ?_
        refine wl_call ok_caissonref01_GetOrdU (refGetOrdU_any (p := ((1 : Nat) : Int)) (rx0 _ hbx2) rfl (by simp only [List.length_cons]; omega) (by omega)) ⟨rfl, rfl, trivial⟩ rfl ?_
        rintro _ w4 ⟨rfl, hbx⟩
        replace hb := hb.trans (hbx.mono hb.size)
        replace hbx2 := hbx2.trans (hbx.mono hbx2.size)
        replace g1 := OwR.below g1 hbx
        replace a9 := Ar.bel a9 hbx
        clear hbx
        have hgl := fun h => getOrdU_le (b := 2 :: r) (q := 1) h
        have hok := fun h => getOrdU_ok (b := 2 :: r) (q := 1) h
        have hgn := getOrdU_num (2 :: r) 1
        obtain ⟨g, hg⟩ : ∃ g, getOrdU (2 :: r) ((1 : Nat) : Int) = g := ⟨_, rfl⟩
        rw [hg] at hgl hok hgn ⊢
        simp only [List.length_cons] at hgl hok
        by_cases he : g.2.2 = 0
        case neg =>
          have he' : ¬ (g.2.2 : Int) = 0 := by omega
          have h8 : ¬ r.length = 8 := fun h => he (by rw [hok (by omega)])
          refine wl_mv rfl rfl ?_; apply wl_val; apply opv_extract; exact rfl; exact rfl; exact rfl; apply wl_val; apply opv_extract; exact rfl; exact rfl; exact rfl; apply wl_val; apply opv_extract; exact rfl; exact rfl; exact rfl; refine wl_as rfl rfl ?_; refine wl_as rfl rfl ?_; refine wl_as rfl rfl ?_; refine wl_ns ?_; refine wc_seq ?_; refine wc_sr ?_; refine wl_mv rfl rfl ?_; refine wl_bin rfl rfl bin_neq rfl ?_; refine wl_ns ?_; apply wc_decT; exact rfl; (with_reducible assumption); refine wc_sr ?_; refine wl_as rfl rfl ?_; refine wl_as rfl rfl ?_; refine wl_ns ?_; refine wc_ret ?_; refine we_seq_ret ?_; refine we_cut_ret ?_; refine we_block_ret ?_; refine we_seq_ret ?_; refine we_block_ret ?_; refine we_seq_ret ?_; refine we_loop_ret ?_; refine we_block_ret ?_; refine we_seq_ret ?_
          refine we_ret2 rfl rfl rfl (hret hb (hstop ?_))
          rw [ho, partK, if_neg (by decide), if_neg (by decide), if_pos rfl, if_neg h8]
        obtain ⟨hlen, hgv⟩ := hgl he
        have he' : (g.2.2 : Int) = 0 := by omega
        have e1 : g.1 = numB (r.take 8) := by rw [hgv]; rfl
        refine wl_mv rfl rfl ?_; apply wl_val; apply opv_extract; exact rfl; exact rfl; exact rfl; apply wl_val; apply opv_extract; exact rfl; exact rfl; exact rfl; apply wl_val; apply opv_extract; exact rfl; exact rfl; exact rfl; refine wl_as rfl rfl ?_; refine wl_as rfl rfl ?_; refine wl_as rfl rfl ?_; refine wl_ns ?_; refine wc_seq ?_; refine wc_sr ?_; refine wl_mv rfl rfl ?_; refine wl_bin rfl rfl bin_neq rfl ?_; refine wl_ns ?_; apply wc_decF; exact rfl; omega; refine wc_skip ?_; refine we_seq ?_; refine wc_region ?_; refine wl_mv rfl rfl ?_
        refine wl_val (opv_bin (b := .int .u64 (9223372036854775808 : Nat)) rfl rfl (bin_addU rfl)) rfl ?_
        refine wl_val (opv_convR rfl Try.underlying121 Try.underlying2 (r := drop63 g.1) ?_) rfl ?_
        · rw [IntKind.wrap_i64]; unfold drop63; simp only [IntKind.bits]; omega
        apply wl_val; apply opv_fa; exact fa_sC (by decide); exact rfl; exact rfl
        refine wl_stA c1_i64 a9 rfl (show 0 + 2 < 5 by decide) rfl rfl fun w4 a9 hG _ => ?_
        replace g1 := OwR.gr g1 hG (fun b' _ h _ => hbut b' h.2) (fun a ha => hbut _ (hP a ha))
        replace hb := hG.belowI hb (by omega) hb.size
        replace hbx2 := hG.belowI hbx2 hg9 hbx2.size
        refine wl_nil ?_
        refine we_cut _ ⟨.int (drop63 g.1), none, 0, rfl, a9, g1, Ow.nil _ _ _, ⟨drop63_lt hgn, by simp [vaC], by simp [vaC]⟩, by simp [vaB, vaC], fun v hv => ?_, hb, hbx2⟩ ⟨rfl, rfl, rfl, rfl, rfl, trivial⟩
        rw [ho, partK, if_neg (by decide), if_neg (by decide), if_pos rfl] at hv
        split at hv
        · cases hv; rw [e1, List.take_of_length_le (by omega)]
        · cases hv
      · apply wc_condFb; exact rfl; exact rfl; refine wc_sr ?_; refine wl_bin rfl rfl bin_eql rfl ?_; refine wl_as rfl rfl ?_; refine wl_ns ?_; apply wc_condFb; exact rfl; exact rfl; refine wc_sr ?_; refine wl_bin rfl rfl bin_eql rfl ?_; refine wl_as rfl rfl ?_; refine wl_ns ?_; apply wc_condTb; exact rfl; exact rfl; refine wc_region ?_; refine wl_mv rfl rfl ?_
        refine wl_sl (l := 1) (h := (3 :: r).length) tyB rfl ⟨_, rfl⟩ rfl (by simp) hcx rfl ?_
        rw [show (3 :: r).length - 1 = r.length by simp]
        have r2 := rcut _ hbx2
        refine wl_val (opv_ofBytes Try.underlying30 Try.underlying5 tyStr rfl (r2)) rfl ?_
        apply wl_val; apply opv_fa; exact fa_sC (by decide); exact rfl; exact rfl
        refine wl_stA c1_str a9 rfl (show 0 + 3 < 5 by decide) rfl rfl fun w4 a9 hG _ => ?_
        replace g1 := OwR.gr g1 hG (fun b' _ h _ => hbut b' h.2) (fun a ha => hbut _ (hP a ha))
        replace hb := hG.belowI hb (by omega) hb.size
        replace hbx2 := hG.belowI hbx2 hg9 hbx2.size
        refine wl_nil ?_
        refine we_cut _ ⟨.text r, none, 0, rfl, a9, g1, Ow.nil _ _ _, ⟨by simp [vaC], by simp [vaC]; omega, by simp [vaC]⟩, by simp [vaB, vaC]; omega, fun v hv => ?_, hb, hbx2⟩ ⟨rfl, rfl, rfl, rfl, rfl, trivial⟩
        rw [ho, partK, if_neg (by decide), if_neg (by decide), if_neg (by decide), if_pos rfl] at hv
        cases hv; rfl
      · apply wc_condFb; exact rfl; exact rfl; refine wc_sr ?_; refine wl_bin rfl rfl bin_eql rfl ?_; refine wl_as rfl rfl ?_; refine wl_ns ?_; apply wc_condFb; exact rfl; exact rfl; refine wc_sr ?_; refine wl_bin rfl rfl bin_eql rfl ?_; refine wl_as rfl rfl ?_; refine wl_ns ?_; apply wc_condFb; exact rfl; exact rfl; refine wc_sr ?_; refine wl_bin rfl rfl bin_eql rfl ?_; refine wl_as rfl rfl ?_; refine wl_ns ?_; apply wc_condTb; exact rfl; exact rfl; refine wc_region ?_; refine wl_mv rfl rfl ?_
        refine wl_sl (l := 1) (h := (4 :: r).length) tyB rfl ⟨_, rfl⟩ rfl (by simp) hcx rfl ?_
        rw [show (4 :: r).length - 1 = r.length by simp]
        have r2 := rcut _ hbx2
        have ha9 := a9.lt
        have hz := hbx2.size
        refine wl_call ok_caissonref01_Copy (copy_any r2 rfl (by omega)) ⟨rfl, trivial⟩ rfl ?_
        rintro _ w4 ⟨B, cB, rfl, o2, hbx⟩
        replace hb := hb.trans (hbx.mono hb.size)
        replace hbx2 := hbx2.trans (hbx.mono hbx2.size)
        replace g1 := OwR.below g1 hbx
        replace a9 := Ar.bel a9 hbx
        clear hbx
        apply wl_val; apply opv_fa; exact fa_sC (by decide); exact rfl; exact rfl
        refine wl_stA c1_by a9 rfl (show 0 + 4 < 5 by decide) rfl rfl fun w4 a9 hG _ => ?_
        replace g1 := OwR.gr g1 hG (fun b' _ h _ => hbut b' h.2) (fun a ha => hbut _ (hP a ha))
        replace hb := hG.belowI hb (by omega) hb.size
        replace hbx2 := hG.belowI hbx2 hg9 hbx2.size
        replace o2 := Ow.gr2 o2 hG (fun b hb => by cases hb; exact ha9)
        refine wl_nil ?_
        refine we_cut _ ⟨.bytes r, B, cB, rfl, a9, g1, Ow.mono o2 hz, ⟨by simp [vaC], by simp [vaC], by simp [vaC]; omega⟩, by simp [vaB, vaC]; omega, fun v hv => ?_, hb, hbx2⟩ ⟨rfl, rfl, rfl, rfl, rfl, trivial⟩
        rw [ho, partK, if_neg (by decide), if_neg (by decide), if_neg (by decide), if_neg (by decide), if_pos rfl] at hv
        cases hv; rfl
    · clear hb hbx2 g1 a9
      rintro _ w5 ⟨u, B, cB, rfl, a9, g1, o2, huok, hub, huv, hb, hbx2⟩
      refine we_block_norm ?_; refine we_seq ?_; refine wc_sr ?_; apply wl_val; apply opv_loadX; exact rfl; assumption; exact sC; exact rfl
      refine wl_bsG (css := [ceV (vaC u) B cB]) (S := All) (els := [ceEl (vaC u)]) tkC ⟨rfl, ⟨_, rfl, rfl⟩, rfl, trivial⟩ rfl (by decide) (by decide) (Grp.one ⟨B, cB, rfl, byEl.own o2 fun _ _ _ _ => trivial⟩ rfl) rfl fun E6 w6 g6 hbx _ => ?_
      replace g1 := OwR.below g1 hbx
      replace a9 := Ar.bel a9 hbx
      replace o2 := OwB.below o2 hbx
      replace hb := hb.trans (hbx.mono hb.size)
      replace hbx2 := hbx2.trans (hbx.mono hbx2.size)
      clear hbx
      refine wl_call ok_caissonref06_Encode (refEncode_any (us := [u]) (OwR.rd g6) rfl (fun v hv => by simp at hv; subst hv; exact huok) (by rw [sumB_cons]; simp [sumB]; omega)) ⟨rfl, trivial⟩ rfl ?_
      rintro _ w7 ⟨E7, e7, rfl, o7, hbx⟩
      replace g1 := OwR.below g1 hbx
      replace a9 := Ar.bel a9 hbx
      replace o2 := OwB.below o2 hbx
      replace hb := hb.trans (hbx.mono hb.size)
      replace hbx2 := hbx2.trans (hbx.mono hbx2.size)
      clear hbx g6
      have hpo := parts_one huok
      have hle := enc1_length u
      have hlen7 : (encV [u]).length ≤ 1099511627776 := by
        have h2 := framed_length [enc1 u] (fun r hr => by simp at hr; subst hr; omega)
        simp only [List.flatten_cons, List.flatten_nil, List.append_nil, List.length_cons, List.length_nil] at h2
        rw [encV, List.map_cons, List.map_nil]; omega
      refine wl_call ok_caissonref01_Parts (refParts_any o7.rd rfl o7.cap hlen7) ⟨rfl, trivial⟩ rfl ?_
      rintro _ w8 ⟨E8, e8, rfl, O8, hbx⟩
      rw [hpo] at O8 ⊢
      replace g1 := OwR.below g1 hbx
      replace a9 := Ar.bel a9 hbx
      replace o2 := OwB.below o2 hbx
      replace hb := hb.trans (hbx.mono hb.size)
      replace hbx2 := hbx2.trans (hbx.mono hbx2.size)
      clear hbx o7
      obtain ⟨vs8, X8, cx8, hv8, hvk8, rx8, hcx8⟩ := O8.rd.at (k := 0) rfl
      refine wl_mv rfl rfl ?_; apply wl_val; apply opv_extract; exact rfl; exact rfl; exact rfl; apply wl_val; apply opv_extract; exact rfl; exact rfl; exact rfl; refine wl_as rfl rfl ?_; refine wl_as rfl rfl ?_; refine wl_ns ?_; refine wc_seq ?_; refine wc_sr ?_; refine wl_mv rfl rfl ?_; apply wl_val; apply opv_len; exact rfl; exact tyBB.sl; exact rfl; refine wl_bin rfl rfl bin_neq rfl ?_; refine wl_mv rfl rfl ?_; apply wl_take; exact rfl; exact rfl; exact rfl; exact rfl; refine wl_mv rfl rfl ?_; apply wl_elTK (T := tyBB) (hr := hv8) (hb := hvk8); exact rfl; exact rfl; exact rfl; exact rfl; exact rfl; exact rfl; exact rfl; exact rfl; exact rfl; exact rfl; exact rfl; exact rfl; exact rfl; exact rfl; intro _; apply wl_take; exact rfl; exact rfl; exact rfl; exact rfl; refine wl_mv rfl rfl ?_; apply wl_take; exact rfl; exact rfl; exact rfl; exact rfl
      refine wl_call ok_caissonref01_Equal (equal_any rx8 (rx0 _ hbx2) rfl rfl (by omega)) ⟨rfl, rfl, trivial⟩ rfl ?_
      rintro _ w9 ⟨rfl, hbx⟩
      replace g1 := OwR.below g1 hbx
      replace a9 := Ar.bel a9 hbx
      replace o2 := OwB.below o2 hbx
      replace hb := hb.trans (hbx.mono hb.size)
      clear hbx hv8 rx8 O8
      by_cases hq : enc1 u = kk :: r
      case neg =>
        have hpn : partV (kk :: r) = none := by
          cases hpv : partV (kk :: r) with
          | none => rfl
          | some v => have := huv v hpv; subst this; exact absurd (enc_part hpv) hq
        rw [decide_eq_false hq]
        apply wl_take; exact rfl; exact rfl; exact rfl; exact rfl; apply wl_val; apply opv_not; exact rfl; exact rfl; apply wl_val; apply opv_pickF; exact rfl; exact rfl; exact rfl; exact rfl; refine wl_ns ?_; apply wc_condTb; exact rfl; exact Bool.not_false; refine wc_sr ?_; refine wl_as rfl rfl ?_; refine wl_as rfl rfl ?_; refine wl_ns ?_; refine wc_ret ?_; refine we_seq_ret ?_; refine we_block_ret ?_; refine we_seq_ret ?_; refine we_loop_ret ?_; refine we_block_ret ?_; refine we_seq_ret ?_
        exact we_ret2 rfl rfl rfl (hret hb (hstop hpn))
      have hpv := part_yes huok hq
      rw [decide_eq_true hq]
      replace g1 := OwR.mono g1 (Nat.le_refl _) (S' := fun b => wL.heap.size ≤ b) fun _ _ h => h.1
      apply wl_take; exact rfl; exact rfl; exact rfl; exact rfl; apply wl_val; apply opv_not; exact rfl; exact rfl; apply wl_val; apply opv_pickF; exact rfl; exact rfl; exact rfl; exact rfl; refine wl_ns ?_; apply wc_condFb; exact rfl; exact Bool.not_true; refine wc_skip ?_; refine we_seq ?_; refine wc_region ?_; refine wl_mv rfl rfl ?_; apply wl_val; apply opv_loadX; exact rfl; assumption; exact sC; exact rfl
      refine wl_pushG (css' := [ceV (vaC u) B cB]) (els' := [ceEl (vaC u)]) tkC (fun _ => rfl) g1 ((by simp)) ⟨rfl, ⟨_, rfl, (by first | rfl | exact cells_one (vaV_one _ _ _))⟩, rfl, trivial⟩ (Grp.one (⟨B, cB, rfl, byEl.own o2 fun a ha h1 h2 => ⟨by omega, fun p hp => by have := hP p hp; omega⟩⟩) rfl) rfl (by first | exact ceV_all _ _ _ | exact vaV_all _ _ _ | (simp [Value.oneCell'])) (by decide) (by decide) (by omega) (by simp only [maxLen]; omega) hb.size rfl rfl fun _ _ _ _ hO hG hA => ?_; replace hb := hG.belowR hb g1 (Nat.le_refl _) hb.size; replace g1 := hO; clear hO hG
      refine wl_as rfl rfl ?_; refine wl_nil ?_; refine we_block_norm ?_; refine we_seq ?_; refine wc_region ?_; refine wl_mv rfl rfl ?_; apply wl_val; apply opv_bin; exact rfl; exact rfl; exact bin_add64 (by omega); exact rfl; refine wl_as rfl rfl ?_; refine wl_nil ?_
      refine we_loop _ (ps.length - (k + 1)) ⟨k + 1, us ++ [u], _, _, rfl, by omega, by rw [take_getR hp]; exact decL_snoc _ _ _ _ hd hpv, by rw [List.map_append]; exact g1, hb, rfl⟩ (by omega) ⟨rfl, by rw [List.length_append]; rfl, by simp [lookT], trivial⟩
end Go.Proofs.Ytcjiecclmepboaa


/-
  The walk over CellCodes.
-/
namespace Go.Proofs.Ytcjiecclmepboaa
open Go.RowKit

theorem decV_sum (b : List UInt8) : sumB vaB (decV b).1 ≤ b.length := by
  unfold decV
  by_cases h1 : (parts b).2 = 0
  · rw [if_pos h1]
    cases hd : decL (parts b).1 with
    | none => simp [sumB]
    | some us =>
      have key : ∀ {ps : List (List UInt8)} {us : List Va}, decL ps = some us → sumB vaB us ≤ ps.flatten.length := by
        intro ps
        induction ps with
        | nil => intro us h; cases h; simp [sumB]
        | cons q ps ih =>
          intro us h
          simp only [decL] at h
          cases hq : partV q with
          | none => rw [hq] at h; cases h
          | some v =>
            rw [hq] at h
            cases hd : decL ps with
            | none => rw [hd] at h; cases h
            | some vs =>
              rw [hd] at h; cases h
              have h1 := ih hd
              have h2 := (partV_ok hq).2.2
              have e : vaB v = (vaC v).text.length + (vaC v).data.length := rfl
              rw [sumB_cons, List.flatten_cons, List.length_append]; omega
      have h1 := key hd
      have h2 := parts_size b
      simp only; omega
  · rw [if_neg h1]; simp [sumB]
theorem encV_length {us : List Va} (h : ∀ u ∈ us, VaOk u) : (encV us).length ≤ 20 * sumB vaB us := by
  have h1 := encs_flat us
  have h3 := sumB_len (bulk := vaB) us
  have h2 := framed_length (us.map enc1) (fun r hr => by
    obtain ⟨u, hu, rfl⟩ := List.mem_map.1 hr
    have a1 := enc1_length u
    have a2 := (h u hu).text
    have a3 := (h u hu).data
    have e : vaB u = (vaC u).text.length + (vaC u).data.length := rfl
    omega)
  rw [List.length_map] at h2
  rw [encV]; omega
set_option maxHeartbeats 4000000 in
theorem cellCodes_walk {A B : Option Addr} {n m c d : Nat} {l : List Ce} {b : List UInt8} {w : World} (hr : RdR 5 w All A (l.map ceEl)) (hn : l.length = n) (_hc : n ≤ c) (ho : ∀ x ∈ l, CeOk x) (hl : sumB ceB l ≤ 1048576)
    (r1 : RdB w B b) (hm : b.length = m) (hd : b.length ≤ d) (hlb : b.length ≤ 1048576) :
    CallsV Try.prog 11 #[.slice A n c, .slice B m d] w (RetTr w) := by
  have la : LOk l := ⟨ho, hl⟩
  have hna := la.len
  have hga := goodL_le l
  have hal := goodVs_length l
  subst hn hm
  have hb := Below.refl w.heap.size w
  have hmax : maxLen = 9223372036854775807 := rfl
  refine calls_in (N := _) Try.func11 rfl Try.ntmps11 rfl ?_; show WC _ _ _ _ _ _
  refine wc_sr ?_; refine wl_as rfl rfl ?_; refine wl_ns ?_; refine wc_sr ?_; refine wl_mv rfl rfl ?_
  refine wl_call ok_caissonlaw06_good (good_list hr rfl (fun x hx => by have := la.each hx; omega) (by omega)) ⟨rfl, trivial⟩ rfl ?_; rintro _ _ ⟨P1, p1, D1, d1, rfl, g1, g2, hbx⟩; replace hb := hb.trans (hbx.mono hb.size); clear hbx
  rw [goodL_ce] at g1
  rw [goodVs_map] at g2
  rw [← hal]
  obtain ⟨us, hus⟩ : ∃ us, goodVs l = us := ⟨_, rfl⟩
  have hvo := fun u hu => la.vaOk (u := u) hu
  have hsum := Nat.le_trans (sumB_sub l) hl
  rw [hus] at g1 g2 hal hvo hsum ⊢
  have hvd := fun u hu => (hvo u hu).data
  refine wl_mv rfl rfl ?_; apply wl_val; apply opv_extract; exact rfl; exact rfl; exact rfl; apply wl_val; apply opv_extract; exact rfl; exact rfl; exact rfl; apply wl_val; apply opv_extract; exact rfl; exact rfl; exact rfl; refine wl_as rfl rfl ?_; refine wl_as rfl rfl ?_; refine wl_as rfl rfl ?_; refine wl_ns ?_; refine wc_seq ?_; refine wc_sr ?_; refine wl_mv rfl rfl ?_; apply wl_val; apply opv_not; exact rfl; exact rfl; refine wl_mv rfl rfl ?_; apply wl_take; exact rfl; exact rfl; exact rfl; exact Bool.not_true
  refine wl_call ok_caissonlaw06_awake (awake6_any _) trivial rfl ?_; rintro _ _ ⟨rfl, hbx⟩; replace g1 := OwR.below g1 hbx; replace g2 := OwR.below g2 hbx; replace hb := hb.trans (hbx.mono hb.size); clear hbx
  apply wl_take; exact rfl; exact rfl; exact rfl; exact Bool.not_true; apply wl_val; apply opv_not; exact rfl; exact rfl; apply wl_val; apply opv_pickF; exact rfl; exact Bool.not_true; exact rfl; exact rfl; refine wl_ns ?_; apply wc_condFb; exact rfl; exact Bool.not_true; refine wc_skip ?_; refine we_seq ?_; refine wc_sr ?_; refine wl_mv rfl rfl ?_
  have t1 := OwR.rd g1
  clear g1
  refine wl_call ok_cell_Encode (encode_any (OwR.rd g2) rfl hvo (by omega)) ⟨rfl, trivial⟩ rfl ?_; rintro _ _ ⟨E1, e1, rfl, o1, hbx⟩; replace t1 := RdR.below t1 hbx; replace hb := hb.trans (hbx.mono hb.size); clear hbx
  clear g2
  have hel := encV_length hvo
  have hfk1 : (decV (encV us)).1 = us := by rw [decV_enc hvo]
  have hfk2 : (decV (encV us)).2 = 0 := by rw [decV_enc hvo]
  refine wl_mv rfl rfl ?_; apply wl_val; apply opv_extract; exact rfl; exact rfl; exact rfl; apply wl_val; apply opv_extract; exact rfl; exact rfl; exact rfl; refine wl_as rfl rfl ?_; refine wl_as rfl rfl ?_; refine wl_ns ?_; refine wc_sr ?_; refine wl_mv rfl rfl ?_
  refine wl_call ok_cell_Decode (decode_any o1.rd rfl o1.cap (by omega)) ⟨rfl, trivial⟩ rfl ?_
  rintro _ w3 ⟨B3, c3, rfl, g3, hbx⟩
  rw [hfk1] at g3 ⊢
  rw [hfk2]
  replace t1 := t1.below hbx
  replace o1 := OwB.below o1 hbx
  replace hb := hb.trans (hbx.mono hb.size)
  clear hbx
  refine wl_mv rfl rfl ?_; apply wl_val; apply opv_extract; exact rfl; exact rfl; exact rfl; apply wl_val; apply opv_extract; exact rfl; exact rfl; exact rfl; refine wl_as rfl rfl ?_; refine wl_as rfl rfl ?_; refine wl_ns ?_; refine wc_seq ?_; refine wc_sr ?_; refine wl_mv rfl rfl ?_; refine wl_bin rfl rfl bin_neq rfl ?_; refine wl_mv rfl rfl ?_; apply wl_take; exact rfl; exact rfl; exact rfl; refine bF ?_; (with_reducible exact nne); refine wl_mv rfl rfl ?_; apply wl_take; exact rfl; exact rfl; exact rfl; refine bF ?_; (with_reducible exact nne); refine wl_bin rfl rfl bin_neq rfl ?_; apply wl_val; apply opv_pickF; exact rfl; refine bF ?_; (with_reducible exact nne); exact rfl; exact rfl; refine wl_mv rfl rfl ?_; apply wl_take; exact rfl; exact rfl; exact rfl; refine bF ?_; omega; refine wl_mv rfl rfl ?_; apply wl_take; exact rfl; exact rfl; exact rfl; refine bF ?_; omega; refine wl_mv rfl rfl ?_; apply wl_take; exact rfl; exact rfl; exact rfl; refine bF ?_; omega
  refine wl_call ok_caissonref06_Encode (refEncode_any t1 rfl hvo (by omega)) ⟨rfl, trivial⟩ rfl ?_; rintro _ _ ⟨E4, e4, rfl, o4, hbx⟩; replace t1 := RdR.below t1 hbx; replace o1 := OwB.below o1 hbx; replace g3 := OwR.below g3 hbx; replace hb := hb.trans (hbx.mono hb.size); clear hbx
  apply wl_take; exact rfl; exact rfl; exact rfl; refine bF ?_; omega
  refine wl_call ok_caissonref01_Equal (equal_yes rfl o1.rd o4.rd rfl rfl (by omega)) ⟨rfl, rfl, trivial⟩ rfl ?_; rintro _ _ ⟨rfl, hbx⟩; replace t1 := RdR.below t1 hbx; replace g3 := OwR.below g3 hbx; replace hb := hb.trans (hbx.mono hb.size); clear hbx
  clear o1 o4
  apply wl_take; exact rfl; exact rfl; exact rfl; refine bF ?_; omega; apply wl_val; apply opv_not; exact rfl; exact rfl; apply wl_val; apply opv_pickF; exact rfl; refine bF ?_; omega; exact rfl; exact rfl; refine wl_mv rfl rfl ?_; apply wl_take; exact rfl; exact rfl; exact rfl; exact Bool.not_true; refine wl_mv rfl rfl ?_; apply wl_take; exact rfl; exact rfl; exact rfl; exact Bool.not_true
  refine wl_call ok_caissonlaw06_told (told_any (OwR.rd g3) rfl hvd (by omega)) ⟨rfl, trivial⟩ rfl ?_; rintro _ _ ⟨B5, c5, rfl, g5, hbx⟩; replace t1 := RdR.below t1 hbx; replace hb := hb.trans (hbx.mono hb.size); clear hbx
  clear g3
  apply wl_take; exact rfl; exact rfl; exact rfl; exact Bool.not_true; refine wl_mv rfl rfl ?_; apply wl_take; exact rfl; exact rfl; exact rfl; exact Bool.not_true
  refine wl_call ok_caissonref06_SameList (sameList_yes (OwR.rd g5) t1 rfl rfl hvd (by omega)) ⟨rfl, rfl, trivial⟩ rfl ?_; rintro _ _ ⟨rfl, hbx⟩; replace hb := hb.trans (hbx.mono hb.size); clear hbx
  clear g5 t1
  apply wl_take; exact rfl; exact rfl; exact rfl; exact Bool.not_true; apply wl_val; apply opv_not; exact rfl; exact rfl; apply wl_val; apply opv_pickF; exact rfl; exact Bool.not_true; exact rfl; exact rfl; refine wl_ns ?_; apply wc_condFb; exact rfl; exact Bool.not_true; refine wc_skip ?_; refine we_seq ?_; refine wc_sr ?_; refine wl_mv rfl rfl ?_
  refine wl_call ok_caissonref01_Copy (copy_any (r1.below hb) rfl (by omega)) ⟨rfl, trivial⟩ rfl ?_; rintro _ _ ⟨B6, c6, rfl, o6, hbx⟩; replace hb := hb.trans (hbx.mono hb.size); clear hbx
  refine wl_call ok_cell_Decode (decode_any o6.rd rfl o6.cap (by omega)) ⟨rfl, trivial⟩ rfl ?_
  rintro _ w7 ⟨B7, c7, rfl, g7, hbx⟩
  replace hb := hb.trans (hbx.mono hb.size)
  clear hbx o6
  refine wl_mv rfl rfl ?_; apply wl_val; apply opv_extract; exact rfl; exact rfl; exact rfl; apply wl_val; apply opv_extract; exact rfl; exact rfl; exact rfl; refine wl_as rfl rfl ?_; refine wl_as rfl rfl ?_; refine wl_ns ?_; refine wc_sr ?_; refine wl_mv rfl rfl ?_
  refine wl_call ok_caissonref06_Decode (refDecode_any (r1.below hb) rfl hd (by omega)) ⟨rfl, trivial⟩ rfl ?_
  rintro _ w8 ⟨B8, c8, rfl, g8, hbx⟩
  replace g7 := OwR.below g7 hbx
  replace hb := hb.trans (hbx.mono hb.size)
  clear hbx
  have hfl := decV_len b
  have hfo := fun u hu => (decV_ok (b := b) (u := u) (by omega) hu)
  have hfd := fun u hu => Nat.le_trans (show (vaC u).data.length ≤ b.length by have := (hfo u hu).2; omega) (by omega : b.length ≤ 68719476736)
  have hfs := decV_sum b
  have hench := fun h => enc_decV (b := b) h
  obtain ⟨vs, hvs⟩ : ∃ vs, (decV b).1 = vs := ⟨_, rfl⟩
  obtain ⟨er, her⟩ : ∃ er, (decV b).2 = er := ⟨_, rfl⟩
  rw [hvs] at g7 g8 hfl hfd hfo hench hfs ⊢
  rw [her] at hench ⊢
  have t7 := OwR.rd g7
  have t8 := OwR.rd g8
  clear g7 g8
  refine wl_mv rfl rfl ?_; apply wl_val; apply opv_extract; exact rfl; exact rfl; exact rfl; apply wl_val; apply opv_extract; exact rfl; exact rfl; exact rfl; refine wl_as rfl rfl ?_; refine wl_as rfl rfl ?_; refine wl_ns ?_; refine wc_seq ?_; refine wc_sr ?_; refine wl_mv rfl rfl ?_; refine wl_mv rfl rfl ?_; refine wl_bin rfl rfl bin_neq rfl ?_; refine wl_mv rfl rfl ?_; apply wl_take; exact rfl; exact rfl; exact rfl; refine bF ?_; (with_reducible exact nne); refine wl_mv rfl rfl ?_; apply wl_take; exact rfl; exact rfl; exact rfl; refine bF ?_; (with_reducible exact nne)
  refine wl_call ok_caissonlaw06_told (told_any t7 rfl hfd (by omega)) ⟨rfl, trivial⟩ rfl ?_; rintro _ _ ⟨B11, c11, rfl, g11, hbx⟩; replace t7 := RdR.below t7 hbx; replace t8 := RdR.below t8 hbx; replace hb := hb.trans (hbx.mono hb.size); clear hbx
  apply wl_take; exact rfl; exact rfl; exact rfl; refine bF ?_; (with_reducible exact nne); refine wl_mv rfl rfl ?_; apply wl_take; exact rfl; exact rfl; exact rfl; refine bF ?_; (with_reducible exact nne)
  refine wl_call ok_caissonref06_SameList (sameList_yes (OwR.rd g11) t8 rfl rfl hfd (by omega)) ⟨rfl, rfl, trivial⟩ rfl ?_; rintro _ _ ⟨rfl, hbx⟩; replace t7 := RdR.below t7 hbx; replace hb := hb.trans (hbx.mono hb.size); clear hbx
  apply wl_take; exact rfl; exact rfl; exact rfl; refine bF ?_; (with_reducible exact nne); apply wl_val; apply opv_not; exact rfl; exact rfl; apply wl_val; apply opv_pickF; exact rfl; refine bF ?_; (with_reducible exact nne); exact rfl; exact rfl; refine wl_ns ?_; apply wc_condFb; exact rfl; exact Bool.not_true; refine wc_skip ?_; refine we_seq ?_; refine wc_seq ?_; refine wc_sr ?_; refine wl_mv rfl rfl ?_; refine wl_bin rfl rfl bin_neq rfl ?_; refine wl_ns ?_
  by_cases he : er = 0
  · subst he
    apply wc_condFb; exact rfl; exact rfl; refine wc_skip ?_; refine we_seq ?_; refine wc_sr ?_; refine wl_mv rfl rfl ?_
    refine wl_call ok_cell_Encode (encode_any t7 rfl (fun u hu => (hfo u hu).1) (by omega)) ⟨rfl, trivial⟩ rfl ?_; rintro _ _ ⟨E12, e12, rfl, o12, hbx⟩; replace hb := hb.trans (hbx.mono hb.size); clear hbx
    rw [hench rfl] at o12 ⊢
    refine wl_mv rfl rfl ?_; apply wl_val; apply opv_extract; exact rfl; exact rfl; exact rfl; apply wl_val; apply opv_extract; exact rfl; exact rfl; exact rfl; refine wl_as rfl rfl ?_; refine wl_as rfl rfl ?_; refine wl_ns ?_; refine wc_sr ?_; refine wl_mv rfl rfl ?_; refine wl_bin rfl rfl bin_eql rfl ?_; refine wl_mv rfl rfl ?_; apply wl_take; exact rfl; exact rfl; exact rfl; refine bT ?_; (with_reducible rfl); refine wl_mv rfl rfl ?_; apply wl_take; exact rfl; exact rfl; exact rfl; refine bT ?_; (with_reducible rfl); refine wl_mv rfl rfl ?_; apply wl_take; exact rfl; exact rfl; exact rfl; refine bT ?_; (with_reducible rfl)
    refine wl_call ok_caissonref01_Equal (equal_yes rfl o12.rd (r1.below hb) rfl rfl (by omega)) ⟨rfl, rfl, trivial⟩ rfl ?_; rintro _ _ ⟨rfl, hbx⟩; replace hb := hb.trans (hbx.mono hb.size); clear hbx
    apply wl_val; apply opv_pickT; exact rfl; refine bT ?_; (with_reducible rfl); exact rfl; exact rfl; refine wl_as rfl rfl ?_; refine wl_ns ?_; refine wc_ret ?_
    exact we_ret1 rfl rfl ⟨_, rfl, rfl, hb⟩
  · have he' : ¬ (er : Int) = 0 := by omega
    apply wc_decT; exact rfl; (with_reducible assumption); refine wc_sr ?_; refine wl_as rfl rfl ?_; refine wl_ns ?_; refine wc_ret ?_; refine we_seq_ret ?_
    exact we_ret1 rfl rfl ⟨_, rfl, rfl, hb⟩
end Go.Proofs.Ytcjiecclmepboaa
