/-
  The texts of this proof, joined: Ub, Uc, Ud, Ue, Uf, Pf, Va, Wd, Vb, Vc, Pg, Vd, Ve, Vf, Ka, Kb, Kc, Kd, Ke, Ug.
-/
import Derived.Test.YtcjiecclmepboaaKeeM5
import Derived.Lib.Hide
import Derived.Test.YtcjiecclmepboaaKeeM1
import Derived.Test.YtcjiecclmepboaaKeeM2
import Derived.Test.YtcjiecclmepboaaKeeM3
import Derived.Test.YtcjiecclmepboaaKeeM4
import Derived.Laws.CopyOwn
import Derived.Lib.MakeNoZero
import Derived.Laws.Externs

/-
  Walks over the reference's Encode, and over part and Decode of the program.
-/
namespace Go.Proofs.Ytcjiecclmepboaa
open Go.RowKit

def RefEncI (w : World) (us : List Va) (A : Option Addr) (c : Nat) : FL → World → Nat → Prop := fun L wr m =>
  ∃ (k : Nat) (P : Option Addr) (cp : Nat), L = [(0, .slice A us.length c), (3, .slice P k cp), (4, .int .i64 (k : Int))] ∧ k ≤ us.length ∧ OwBB wr w.heap.size P cp ((us.take k).map enc1) ∧ Below w.heap.size w wr ∧ m = us.length - k
set_option maxHeartbeats 2000000 in
theorem refEncode_any {A : Option Addr} {n c : Nat} {us : List Va} {w : World} (hr : RdR 5 w All A (us.map fun u => ceEl (vaC u))) (hn : us.length = n) (hok : ∀ u ∈ us, VaOk u) (hl : sumB vaB us ≤ 1073741824) :
    CallsV Try.prog 57 #[.slice A n c] w (RetB w (encV us)) := by
  subst hn
  have hmax : maxLen = 9223372036854775807 := rfl
  have hul := sumB_len (bulk := vaB) us
  have hef := encs_flat us
  refine calls_in (N := _) Try.func57 rfl Try.ntmps57 rfl ?_; show WC _ _ _ _ _ _
  refine wc_sr ?_; refine wl_as rfl rfl ?_; refine wl_ns ?_; refine wc_sr ?_; refine wl_as rfl rfl ?_; refine wl_ns ?_; refine wc_seq ?_; refine wc_sr ?_; refine wl_as rfl rfl ?_; refine wl_ns ?_; refine wc_block ?_
  refine wc_loop (RefEncI w us A c) [(0, .slice A us.length c), (3, .slice none 0 0), (4, .int .i64 (0 : Nat))] us.length ⟨0, none, 0, rfl, by omega, OwBB.nil _ _, Below.refl _ _, rfl⟩ ⟨rfl, rfl, rfl, trivial⟩ ?_
  rintro _ w1 m ⟨k, P, cp, rfl, hk, O1, hb0, rfl⟩
  refine wc_seq ?_; refine wc_sr ?_; refine wl_mv rfl rfl ?_; refine wl_mv rfl rfl ?_; apply wl_val; apply opv_len; exact rfl; exact tkC.sl; exact rfl; refine wl_bin rfl rfl bin_lss rfl ?_; refine wl_ns ?_
  refine wc_cond rfl (fun h1 => ?_) (fun h1 => ?_)
  · obtain ⟨u, hu⟩ : ∃ u, us[k]? = some u := ⟨_, List.getElem?_eq_getElem (by omega)⟩
    have hou := hok u (List.mem_of_getElem? hu)
    have hbu := sumB_mem (bulk := vaB) (List.mem_of_getElem? hu)
    have hbe : vaB u = (vaC u).text.length + (vaC u).data.length := rfl
    obtain ⟨b, o, cs, rfl, _, _, hx, hw⟩ := RdR.at (k := 5) (by decide) hr (E := ceEl (vaC u)) (i := k) (by rw [List.getElem?_map, hu]; rfl)
    obtain ⟨X, cx, rfl, rx, _⟩ := ceEl.rd hx
    have i1 := hw.below hb0
    replace rx := rx.below hb0
    have hb := Below.refl w1.heap.size w1
    refine wc_skip ?_; refine we_seq ?_; refine wc_seq ?_; refine wc_block ?_; refine wc_sr ?_; refine wl_mv rfl rfl ?_; refine wl_mv rfl rfl ?_; apply wl_val; apply opv_idxG tkC; exact rfl; exact rfl; exact rfl; omega; exact rfl; apply wl_val; apply opv_ldG; exact rfl; assumption; exact sC; exact rfl
    refine wl_var (cs := ceV (vaC u) X cx) zeroC sC rfl (fun _ => rfl) (by first | rfl | simp [Value.oneCell'] | simp [ceV, Value.oneCell']) rfl fun g5 _ hg5 a5 hbx => ?_; replace hb := hb.trans (hbx.mono hb.size); clear hbx
    unfold ceV at a5
    cases u with
    | nil =>
      simp only [vaC] at a5
      refine wl_ns ?_; refine wc_sr ?_; apply wl_val; apply opv_fa; exact fa_sC (by decide); exact rfl; exact rfl; apply wl_val; apply opv_ldX; exact rfl; assumption; exact c1_int; exact rfl; exact rfl; apply wl_val; apply opv_convR; exact rfl; exact Try.underlying3; exact Try.underlying5; exact IntWalk.u8_in _ (by omega); exact rfl
      refine wl_bs (vs := [bv 0]) tyB ⟨rfl, rfl, rfl, trivial⟩ rfl (by decide) rfl fun E e q3 hbx _ => ?_
      replace a5 := Ar.bel a5 hbx
      replace rx := RdB.below rx hb
      replace q3 := Ow.mono q3 hb.size
      replace hb := hb.trans (hbx.mono hb.size)
      refine wl_as rfl rfl ?_; refine wl_ns ?_; refine wc_seq ?_; refine wc_sr ?_; apply wl_val; apply opv_fa; exact fa_sC (by decide); exact rfl; exact rfl; apply wl_val; apply opv_ldX; exact rfl; assumption; exact c1_int; exact rfl; exact rfl; refine wl_ns ?_; refine wc_block ?_; refine wc_sr ?_; refine wl_bin rfl rfl bin_eql rfl ?_; refine wl_as rfl rfl ?_; refine wl_ns ?_; apply wc_condFb; exact rfl; exact rfl; refine wc_sr ?_; refine wl_bin rfl rfl bin_eql rfl ?_; refine wl_as rfl rfl ?_; refine wl_ns ?_; apply wc_condFb; exact rfl; exact rfl; refine wc_sr ?_; refine wl_bin rfl rfl bin_eql rfl ?_; refine wl_as rfl rfl ?_; refine wl_ns ?_; apply wc_condFb; exact rfl; exact rfl; refine wc_sr ?_; refine wl_bin rfl rfl bin_eql rfl ?_; refine wl_as rfl rfl ?_; refine wl_ns ?_; apply wc_condFb; exact rfl; exact rfl; refine wc_skip ?_; refine we_block_norm ?_; refine we_seq ?_; refine wc_region ?_; refine wl_mv rfl rfl ?_; refine wl_mv rfl rfl ?_
      refine wl_pushR (wf := w) (r := enc1 (.nil)) O1 hb hb0.size q3 (hb0.trans (hb.mono hb0.size)) (by simp; omega) (by omega) rfl rfl rfl rfl rfl fun _ A9 c9 w9 O9 hb9 => ?_
      refine wl_as rfl rfl ?_; refine wl_nil ?_; refine we_block_norm ?_; refine we_seq ?_; refine wc_region ?_; refine wl_mv rfl rfl ?_; apply wl_val; apply opv_bin; exact rfl; exact rfl; exact bin_add64 (by omega); exact rfl; refine wl_as rfl rfl ?_; refine wl_nil ?_
      refine we_loop _ (us.length - (k + 1)) ⟨k + 1, _, _, rfl, by omega, by rw [take_map _ hu]; exact O9, hb9, rfl⟩ (by omega) ⟨rfl, rfl, by simp [lookT], trivial⟩
    | bool t =>
      simp only [vaC] at a5
      cases t with
      | true =>
        refine wl_ns ?_; refine wc_sr ?_; apply wl_val; apply opv_fa; exact fa_sC (by decide); exact rfl; exact rfl; apply wl_val; apply opv_ldX; exact rfl; assumption; exact c1_int; exact rfl; exact rfl; apply wl_val; apply opv_convR; exact rfl; exact Try.underlying3; exact Try.underlying5; exact IntWalk.u8_in _ (by omega); exact rfl
        refine wl_bs (vs := [bv 1]) tyB ⟨rfl, rfl, rfl, trivial⟩ rfl (by decide) rfl fun E e q3 hbx _ => ?_
        replace a5 := Ar.bel a5 hbx
        replace rx := RdB.below rx hb
        replace q3 := Ow.mono q3 hb.size
        replace hb := hb.trans (hbx.mono hb.size)
        refine wl_as rfl rfl ?_; refine wl_ns ?_; refine wc_seq ?_; refine wc_sr ?_; apply wl_val; apply opv_fa; exact fa_sC (by decide); exact rfl; exact rfl; apply wl_val; apply opv_ldX; exact rfl; assumption; exact c1_int; exact rfl; exact rfl; refine wl_ns ?_; refine wc_block ?_; refine wc_sr ?_; refine wl_bin rfl rfl bin_eql rfl ?_; refine wl_as rfl rfl ?_; refine wl_ns ?_; apply wc_condTb; exact rfl; exact rfl; refine wc_sr ?_; apply wl_val; apply opv_fa; exact fa_sC (by decide); exact rfl; exact rfl; apply wl_val; apply opv_ldX; exact rfl; assumption; exact c1_bool; exact rfl; exact rfl; refine wl_ns ?_; apply wc_condTb; exact rfl; exact rfl; refine wc_region ?_; refine wl_mv rfl rfl ?_
        refine wl_push (vs := [_]) tyB rfl q3 ⟨rfl, rfl, rfl, trivial⟩ rfl (by decide) rfl (by omega) (by simp only [maxLen]; omega) hb.size rfl rfl fun _ _ _ _ hO hG _ => ?_; (try replace a5 := Ar.grA a5 hG (Ar.ne_ow a5 q3 rfl)); replace hb := hG.below hb q3 (Nat.le_refl _) hb.size; replace q3 := hO; clear hO hG
        refine wl_as rfl rfl ?_; refine wl_nil ?_; refine we_block_norm ?_; refine we_seq ?_; refine wc_region ?_; refine wl_mv rfl rfl ?_; refine wl_mv rfl rfl ?_
        refine wl_pushR (wf := w) (r := enc1 (.bool true)) O1 hb hb0.size q3 (hb0.trans (hb.mono hb0.size)) (by simp; omega) (by omega) rfl rfl rfl rfl rfl fun _ A9 c9 w9 O9 hb9 => ?_
        refine wl_as rfl rfl ?_; refine wl_nil ?_; refine we_block_norm ?_; refine we_seq ?_; refine wc_region ?_; refine wl_mv rfl rfl ?_; apply wl_val; apply opv_bin; exact rfl; exact rfl; exact bin_add64 (by omega); exact rfl; refine wl_as rfl rfl ?_; refine wl_nil ?_
        refine we_loop _ (us.length - (k + 1)) ⟨k + 1, _, _, rfl, by omega, by rw [take_map _ hu]; exact O9, hb9, rfl⟩ (by omega) ⟨rfl, rfl, by simp [lookT], trivial⟩
      | false =>
        refine wl_ns ?_; refine wc_sr ?_; apply wl_val; apply opv_fa; exact fa_sC (by decide); exact rfl; exact rfl; apply wl_val; apply opv_ldX; exact rfl; assumption; exact c1_int; exact rfl; exact rfl; apply wl_val; apply opv_convR; exact rfl; exact Try.underlying3; exact Try.underlying5; exact IntWalk.u8_in _ (by omega); exact rfl
        refine wl_bs (vs := [bv 1]) tyB ⟨rfl, rfl, rfl, trivial⟩ rfl (by decide) rfl fun E e q3 hbx _ => ?_
        replace a5 := Ar.bel a5 hbx
        replace rx := RdB.below rx hb
        replace q3 := Ow.mono q3 hb.size
        replace hb := hb.trans (hbx.mono hb.size)
        refine wl_as rfl rfl ?_; refine wl_ns ?_; refine wc_seq ?_; refine wc_sr ?_; apply wl_val; apply opv_fa; exact fa_sC (by decide); exact rfl; exact rfl; apply wl_val; apply opv_ldX; exact rfl; assumption; exact c1_int; exact rfl; exact rfl; refine wl_ns ?_; refine wc_block ?_; refine wc_sr ?_; refine wl_bin rfl rfl bin_eql rfl ?_; refine wl_as rfl rfl ?_; refine wl_ns ?_; apply wc_condTb; exact rfl; exact rfl; refine wc_sr ?_; apply wl_val; apply opv_fa; exact fa_sC (by decide); exact rfl; exact rfl; apply wl_val; apply opv_ldX; exact rfl; assumption; exact c1_bool; exact rfl; exact rfl; refine wl_ns ?_; apply wc_condFb; exact rfl; exact rfl; refine wc_region ?_; refine wl_mv rfl rfl ?_
        refine wl_push (vs := [_]) tyB rfl q3 ⟨rfl, rfl, rfl, trivial⟩ rfl (by decide) rfl (by omega) (by simp only [maxLen]; omega) hb.size rfl rfl fun _ _ _ _ hO hG _ => ?_; (try replace a5 := Ar.grA a5 hG (Ar.ne_ow a5 q3 rfl)); replace hb := hG.below hb q3 (Nat.le_refl _) hb.size; replace q3 := hO; clear hO hG
        refine wl_as rfl rfl ?_; refine wl_nil ?_; refine we_block_norm ?_; refine we_seq ?_; refine wc_region ?_; refine wl_mv rfl rfl ?_; refine wl_mv rfl rfl ?_
        refine wl_pushR (wf := w) (r := enc1 (.bool false)) O1 hb hb0.size q3 (hb0.trans (hb.mono hb0.size)) (by simp; omega) (by omega) rfl rfl rfl rfl rfl fun _ A9 c9 w9 O9 hb9 => ?_
        refine wl_as rfl rfl ?_; refine wl_nil ?_; refine we_block_norm ?_; refine we_seq ?_; refine wc_region ?_; refine wl_mv rfl rfl ?_; apply wl_val; apply opv_bin; exact rfl; exact rfl; exact bin_add64 (by omega); exact rfl; refine wl_as rfl rfl ?_; refine wl_nil ?_
        refine we_loop _ (us.length - (k + 1)) ⟨k + 1, _, _, rfl, by omega, by rw [take_map _ hu]; exact O9, hb9, rfl⟩ (by omega) ⟨rfl, rfl, by simp [lookT], trivial⟩
    | int n =>
      simp only [vaC] at a5
      refine wl_ns ?_; refine wc_sr ?_; apply wl_val; apply opv_fa; exact fa_sC (by decide); exact rfl; exact rfl; apply wl_val; apply opv_ldX; exact rfl; assumption; exact c1_int; exact rfl; exact rfl; apply wl_val; apply opv_convR; exact rfl; exact Try.underlying3; exact Try.underlying5; exact IntWalk.u8_in _ (by omega); exact rfl
      refine wl_bs (vs := [bv 2]) tyB ⟨rfl, rfl, rfl, trivial⟩ rfl (by decide) rfl fun E e q3 hbx _ => ?_
      replace a5 := Ar.bel a5 hbx
      replace rx := RdB.below rx hb
      replace q3 := Ow.mono q3 hb.size
      replace hb := hb.trans (hbx.mono hb.size)
      clear hbx
      refine wl_as rfl rfl ?_; refine wl_ns ?_; refine wc_seq ?_; refine wc_sr ?_; apply wl_val; apply opv_fa; exact fa_sC (by decide); exact rfl; exact rfl; apply wl_val; apply opv_ldX; exact rfl; assumption; exact c1_int; exact rfl; exact rfl; refine wl_ns ?_; refine wc_block ?_; refine wc_sr ?_; refine wl_bin rfl rfl bin_eql rfl ?_; refine wl_as rfl rfl ?_; refine wl_ns ?_; apply wc_condFb; exact rfl; exact rfl; refine wc_sr ?_; refine wl_bin rfl rfl bin_eql rfl ?_; refine wl_as rfl rfl ?_; refine wl_ns ?_; apply wc_condTb; exact rfl; exact rfl; refine wc_region ?_; refine wl_mv rfl rfl ?_; apply wl_val; apply opv_fa; exact fa_sC (by decide); exact rfl; exact rfl; apply wl_val; apply opv_ldX; exact rfl; assumption; exact c1_i64; exact rfl; exact rfl
      refine wl_call ok_caissonref01_OrdI (refOrdI_any n hou.num _) ⟨rfl, trivial⟩ rfl ?_; rintro _ _ ⟨Y, cy, rfl, o3, hbx⟩; replace q3 := Ow.bel q3 hbx; replace hb := hb.trans (hbx.mono hb.size); clear hbx
      rw [ordU_length]
      refine wl_app tyB rfl q3 rfl (Ow.re o3 (ordU_length _)).rd (bvs_one _) (by omega) (by simp only [maxLen]; omega) hb.size rfl fun _ _ _ hO hG _ => ?_; (try replace a5 := Ar.grA a5 hG (Ar.ne_ow a5 q3 rfl)); replace hb := hG.below hb q3 (Nat.le_refl _) hb.size; replace q3 := hO; clear hO hG
      refine wl_as rfl rfl ?_; refine wl_nil ?_; refine we_block_norm ?_; refine we_seq ?_; refine wc_region ?_; refine wl_mv rfl rfl ?_; refine wl_mv rfl rfl ?_
      have ho : OwB _ w1.heap.size _ _ (enc1 (.int n)) := OwB.of' q3 (by simp [enc1, ordU_length]) (by simp [enc1, bvs, bv])
      refine wl_pushR (wf := w) (r := enc1 (.int n)) O1 hb hb0.size ho (hb0.trans (hb.mono hb0.size)) (by simp; omega) (by omega) rfl (by simp [enc1, ordU_length, look, lookT]) rfl rfl rfl fun _ A9 c9 w9 O9 hb9 => ?_
      refine wl_as rfl rfl ?_; refine wl_nil ?_; refine we_block_norm ?_; refine we_seq ?_; refine wc_region ?_; refine wl_mv rfl rfl ?_; apply wl_val; apply opv_bin; exact rfl; exact rfl; exact bin_add64 (by omega); exact rfl; refine wl_as rfl rfl ?_; refine wl_nil ?_
      refine we_loop _ (us.length - (k + 1)) ⟨k + 1, _, _, rfl, by omega, by rw [take_map _ hu]; exact O9, hb9, rfl⟩ (by omega) ⟨rfl, rfl, by simp [lookT], trivial⟩
    | text s =>
      simp only [vaC] at a5
      refine wl_ns ?_; refine wc_sr ?_; apply wl_val; apply opv_fa; exact fa_sC (by decide); exact rfl; exact rfl; apply wl_val; apply opv_ldX; exact rfl; assumption; exact c1_int; exact rfl; exact rfl; apply wl_val; apply opv_convR; exact rfl; exact Try.underlying3; exact Try.underlying5; exact IntWalk.u8_in _ (by omega); exact rfl
      refine wl_bs (vs := [bv 3]) tyB ⟨rfl, rfl, rfl, trivial⟩ rfl (by decide) rfl fun E e q3 hbx _ => ?_
      replace a5 := Ar.bel a5 hbx
      replace rx := RdB.below rx hb
      replace q3 := Ow.mono q3 hb.size
      replace hb := hb.trans (hbx.mono hb.size)
      clear hbx
      refine wl_as rfl rfl ?_; refine wl_ns ?_; refine wc_seq ?_; refine wc_sr ?_; apply wl_val; apply opv_fa; exact fa_sC (by decide); exact rfl; exact rfl; apply wl_val; apply opv_ldX; exact rfl; assumption; exact c1_int; exact rfl; exact rfl; refine wl_ns ?_; refine wc_block ?_; refine wc_sr ?_; refine wl_bin rfl rfl bin_eql rfl ?_; refine wl_as rfl rfl ?_; refine wl_ns ?_; apply wc_condFb; exact rfl; exact rfl; refine wc_sr ?_; refine wl_bin rfl rfl bin_eql rfl ?_; refine wl_as rfl rfl ?_; refine wl_ns ?_; apply wc_condFb; exact rfl; exact rfl; refine wc_sr ?_; refine wl_bin rfl rfl bin_eql rfl ?_; refine wl_as rfl rfl ?_; refine wl_ns ?_; apply wc_condTb; exact rfl; exact rfl; refine wc_region ?_; refine wl_mv rfl rfl ?_; apply wl_val; apply opv_fa; exact fa_sC (by decide); exact rfl; exact rfl; apply wl_val; apply opv_ldX; exact rfl; assumption; exact c1_str; exact rfl; exact rfl
      refine wl_toBytes tyStr Try.underlying30 Try.underlying5 rfl rfl fun T cT wT r9 hcT hbx => ?_
      replace q3 := Ow.bel q3 hbx
      replace hb := hb.trans (hbx.mono hb.size)
      clear hbx
      have hd : s.length ≤ 68719476736 := hou.text
      refine wl_app tyB rfl q3 rfl r9 (bvs_one _) (by omega) (by simp only [maxLen]; omega) hb.size rfl fun _ _ _ hO hG _ => ?_
      replace hb := hG.below hb q3 (Nat.le_refl _) hb.size
      refine wl_as rfl rfl ?_; refine wl_nil ?_; refine we_block_norm ?_; refine we_seq ?_; refine wc_region ?_; refine wl_mv rfl rfl ?_; refine wl_mv rfl rfl ?_
      have ho : OwB _ w1.heap.size _ _ (enc1 (.text s)) := OwB.of' hO (by simp [enc1]; omega) (by simp [enc1, bvs, bv])
      refine wl_pushR (wf := w) (r := enc1 (.text s)) O1 hb hb0.size ho (hb0.trans (hb.mono hb0.size)) (by simp; omega) (by omega) rfl (by simp [enc1, look, lookT]; omega) rfl rfl rfl fun _ A9 c9 w9 O9 hb9 => ?_
      refine wl_as rfl rfl ?_; refine wl_nil ?_; refine we_block_norm ?_; refine we_seq ?_; refine wc_region ?_; refine wl_mv rfl rfl ?_; apply wl_val; apply opv_bin; exact rfl; exact rfl; exact bin_add64 (by omega); exact rfl; refine wl_as rfl rfl ?_; refine wl_nil ?_
      refine we_loop _ (us.length - (k + 1)) ⟨k + 1, _, _, rfl, by omega, by rw [take_map _ hu]; exact O9, hb9, rfl⟩ (by omega) ⟨rfl, rfl, by simp [lookT], trivial⟩
    | bytes d =>
      simp only [vaC] at a5
      refine wl_ns ?_; refine wc_sr ?_; apply wl_val; apply opv_fa; exact fa_sC (by decide); exact rfl; exact rfl; apply wl_val; apply opv_ldX; exact rfl; assumption; exact c1_int; exact rfl; exact rfl; apply wl_val; apply opv_convR; exact rfl; exact Try.underlying3; exact Try.underlying5; exact IntWalk.u8_in _ (by omega); exact rfl
      refine wl_bs (vs := [bv 4]) tyB ⟨rfl, rfl, rfl, trivial⟩ rfl (by decide) rfl fun E e q3 hbx _ => ?_
      replace a5 := Ar.bel a5 hbx
      replace rx := RdB.below rx hb
      replace q3 := Ow.mono q3 hb.size
      replace hb := hb.trans (hbx.mono hb.size)
      refine wl_as rfl rfl ?_; refine wl_ns ?_; refine wc_seq ?_; refine wc_sr ?_; apply wl_val; apply opv_fa; exact fa_sC (by decide); exact rfl; exact rfl; apply wl_val; apply opv_ldX; exact rfl; assumption; exact c1_int; exact rfl; exact rfl; refine wl_ns ?_; refine wc_block ?_; refine wc_sr ?_; refine wl_bin rfl rfl bin_eql rfl ?_; refine wl_as rfl rfl ?_; refine wl_ns ?_; apply wc_condFb; exact rfl; exact rfl; refine wc_sr ?_; refine wl_bin rfl rfl bin_eql rfl ?_; refine wl_as rfl rfl ?_; refine wl_ns ?_; apply wc_condFb; exact rfl; exact rfl; refine wc_sr ?_; refine wl_bin rfl rfl bin_eql rfl ?_; refine wl_as rfl rfl ?_; refine wl_ns ?_; apply wc_condFb; exact rfl; exact rfl; refine wc_sr ?_; refine wl_bin rfl rfl bin_eql rfl ?_; refine wl_as rfl rfl ?_; refine wl_ns ?_; apply wc_condTb; exact rfl; exact rfl; refine wc_region ?_; refine wl_mv rfl rfl ?_; apply wl_val; apply opv_fa; exact fa_sC (by decide); exact rfl; exact rfl; apply wl_val; apply opv_ldX; exact rfl; assumption; exact c1_by; exact rfl; exact rfl
      have hd : d.length ≤ 68719476736 := hou.data
      refine wl_app tyB rfl q3 rfl (RdB.below rx hbx) (bvs_one _) (by omega) (by simp only [maxLen]; omega) hb.size rfl fun _ _ _ hO hG _ => ?_
      replace hb := hG.below hb q3 (Nat.le_refl _) hb.size
      refine wl_as rfl rfl ?_; refine wl_nil ?_; refine we_block_norm ?_; refine we_seq ?_; refine wc_region ?_; refine wl_mv rfl rfl ?_; refine wl_mv rfl rfl ?_
      have ho : OwB _ w1.heap.size _ _ (enc1 (.bytes d)) := OwB.of' hO (by simp [enc1]; omega) (by simp [enc1, bvs, bv])
      refine wl_pushR (wf := w) (r := enc1 (.bytes d)) O1 hb hb0.size ho (hb0.trans (hb.mono hb0.size)) (by simp; omega) (by omega) rfl (by simp [enc1, look, lookT]; omega) rfl rfl rfl fun _ A9 c9 w9 O9 hb9 => ?_
      refine wl_as rfl rfl ?_; refine wl_nil ?_; refine we_block_norm ?_; refine we_seq ?_; refine wc_region ?_; refine wl_mv rfl rfl ?_; apply wl_val; apply opv_bin; exact rfl; exact rfl; exact bin_add64 (by omega); exact rfl; refine wl_as rfl rfl ?_; refine wl_nil ?_
      refine we_loop _ (us.length - (k + 1)) ⟨k + 1, _, _, rfl, by omega, by rw [take_map _ hu]; exact O9, hb9, rfl⟩ (by omega) ⟨rfl, rfl, by simp [lookT], trivial⟩
  · obtain rfl : k = us.length := by omega
    rw [List.take_length] at O1
    have hb := hb0
    refine wc_exit ?_; refine we_seq_exit ?_; refine we_loop_exit ?_; refine we_block_exit ?_; refine we_seq ?_; refine wc_sr ?_; refine wl_mv rfl rfl ?_
    refine wl_call ok_caissonref01_Frame (refFrame_any O1.rd (by simp) (by rw [List.length_map]; omega)) ⟨rfl, trivial⟩ rfl ?_; rintro _ _ ⟨B, cB, rfl, o2, hbx⟩; replace hb := hb.trans (hbx.mono hb.size); clear hbx
    refine wl_as rfl rfl ?_; refine wl_ns ?_; refine wc_ret ?_
    exact we_ret1 rfl rfl ⟨_, rfl, B, cB, rfl, Ow.mono o2 hb0.size, hb⟩
end Go.Proofs.Ytcjiecclmepboaa


/-
  Walks over part and Decode.
-/
namespace Go.Proofs.Ytcjiecclmepboaa
open Go.RowKit

/-- The value of a part, and whether it is one. -/
def RetPt (w : World) (p : List UInt8) (v : Value) (w' : World) : Prop :=
  ∃ (u : Va) (B : Option Addr) (c : Nat), v = .tuple #[vaV u B c, .bool (partV p).isSome] ∧ (∀ u', partV p = some u' → u = u' ∧ OwB w' w.heap.size B c (vaC u).data) ∧ Below w.heap.size w w'
theorem RetPt.mk {w w' : World} {p : List UInt8} {r : Option Va} {B : Option Addr} {c : Nat} {q : Bool} {u : Va} (h : partV p = r) (hq : q = r.isSome) (hu : ∀ u', r = some u' → u = u' ∧ OwB w' w.heap.size B c (vaC u).data) (hb : Below w.heap.size w w') :
    RetPt w p (.tuple #[vaV u B c, .bool q]) w' := by
  subst h hq
  exact ⟨u, B, c, rfl, hu, hb⟩
set_option maxHeartbeats 2000000 in
theorem part_any {A : Option Addr} {n c : Nat} {p : List UInt8} {w : World} (r1 : RdB w A p) (hn : p.length = n) (hc : p.length ≤ c) (hl : p.length ≤ 1099511627776) :
    CallsV Try.prog 90 #[.slice A n c] w (RetPt w p) := by
  subst hn
  have hb := Below.refl w.heap.size w
  refine calls_in (N := _) Try.func90 rfl Try.ntmps90 rfl ?_; show WC _ _ _ _ _ _
  cases p with
  | nil =>
    refine wc_sr ?_; refine wl_as rfl rfl ?_; refine wl_as rfl rfl ?_; refine wl_ns ?_; refine wc_seq ?_; refine wc_sr ?_; refine wl_mv rfl rfl ?_; apply wl_val; apply opv_len; exact rfl; exact tyB.sl; exact rfl; refine wl_bin rfl rfl bin_eql rfl ?_; refine wl_ns ?_; apply wc_condTb; exact rfl; exact rfl; refine wc_sr ?_; refine wl_as rfl rfl ?_; refine wl_as rfl rfl ?_; refine wl_ns ?_; refine wc_ret ?_; refine we_seq_ret ?_
    exact we_ret2 rfl rfl rfl ⟨_, rfl, RetPt.mk (u := .nil) (B := none) (c := 0) rfl rfl (fun _ h => by cases h) hb⟩
  | cons k r =>
    have hx : (k :: r)[0]? = some k := rfl
    have hpos : ¬ (((k :: r).length : Nat) : Int) = 0 := by simp only [List.length_cons]; omega
    have ho : partV (k :: r) = partK k r := rfl
    have hkl := k.toNat_lt
    refine wc_sr ?_; refine wl_as rfl rfl ?_; refine wl_as rfl rfl ?_; refine wl_ns ?_; refine wc_seq ?_; refine wc_sr ?_; refine wl_mv rfl rfl ?_; apply wl_val; apply opv_len; exact rfl; exact tyB.sl; exact rfl; refine wl_bin rfl rfl bin_eql rfl ?_; refine wl_ns ?_; apply wc_condFb; exact rfl; exact rfl; refine wc_skip ?_; refine we_seq ?_; refine wc_sr ?_; refine wl_mv rfl rfl ?_
    refine wl_sl (l := 1) (h := (k :: r).length) tyB rfl ⟨_, rfl⟩ rfl (by simp) hc rfl ?_
    have r2 := rd_cut r1 (show 1 ≤ (k :: r).length by simp) (Nat.le_refl _) hc
    rw [show ((k :: r).take (k :: r).length).drop 1 = r by simp] at r2
    rw [show (k :: r).length - 1 = r.length by simp]
    have hcr : r.length ≤ c - 1 := by simp only [List.length_cons] at hc; omega
    simp only [List.length_cons] at hl
    refine wl_as rfl rfl ?_; refine wl_ns ?_; refine wc_seq ?_; refine wc_sr ?_; refine wl_mv rfl rfl ?_; apply wl_byK (T := tyB) (hr := r1) (hb := hx); exact rfl; exact rfl; exact rfl; exact rfl; exact rfl; intro _; refine wl_ns ?_; refine wc_block ?_; refine wc_sr ?_; refine wl_bin rfl rfl bin_eql rfl ?_; refine wl_as rfl rfl ?_; refine wl_ns ?_
    rw [partK] at ho
    by_cases h0 : k = 0
    · subst h0
      rw [if_pos rfl] at ho
      apply wc_condTb; exact rfl; exact rfl; refine wc_sr ?_; refine wl_mv rfl rfl ?_; apply wl_val; apply opv_len; exact rfl; exact tyB.sl; exact rfl; refine wl_bin rfl rfl bin_eql rfl ?_; refine wl_as rfl rfl ?_; refine wl_as rfl rfl ?_; refine wl_ns ?_; refine wc_ret ?_; refine we_block_ret ?_; refine we_seq_ret ?_
      refine we_ret2 rfl rfl rfl ⟨_, rfl, RetPt.mk (u := .nil) (B := none) (c := 0) ho ?_ (fun u' h => ?_) hb⟩
      · by_cases hr : r = []
        · subst hr; rfl
        · have : ¬ ((r.length : Int) = 0) := by rw [← List.length_eq_zero_iff] at hr; omega
          rw [if_neg hr]; simp [this]; exact hr
      · split at h
        · cases h; exact ⟨rfl, Ow.nil _ _ _⟩
        · cases h
    rw [if_neg h0] at ho
    have h0' : ¬ (k.toNat : Int) = 0 := fun h => h0 (u8_eq (n := 0) h (by decide))
    by_cases h1 : k = 1
    · subst h1
      rw [if_pos rfl] at ho
      by_cases hr1 : (r.length : Int) = 1
      · obtain ⟨t, rfl⟩ := len1 (show r.length = 1 by omega)
        have ht : [t][0]? = some t := rfl
        have htl := t.toNat_lt
        apply wc_condFb; exact rfl; exact rfl; refine wc_sr ?_; refine wl_bin rfl rfl bin_eql rfl ?_; refine wl_as rfl rfl ?_; refine wl_ns ?_; apply wc_condTb; exact rfl; exact rfl; refine wc_seq ?_
        refine wc_drawB mixed (by kernel_rfl) ?_
        apply wq_val; intro _ hw_; apply opv_move; exact rfl; exact rfl; apply wq_val; intro _ hw_; apply opv_len; exact rfl; exact tyB.sl; exact rfl; apply wq_val; intro _ hw_; apply opv_bin; exact rfl; exact rfl; exact bin_eql; exact rfl; apply wq_val; intro _ hw_; apply opv_move; exact rfl; exact rfl; apply wq_take; exact rfl; exact rfl; exact rfl; refine bT ?_; (with_reducible assumption); apply wq_val; intro _ hw_; apply opv_move; exact rfl; exact rfl; apply wq_byTK (T := tyB) (hr := r2) (hb := ht); exact rfl; exact rfl; exact rfl; refine bT ?_; (with_reducible assumption); exact rfl; exact rfl; exact rfl; exact rfl; refine bT ?_; (with_reducible assumption); exact rfl; exact rfl; exact rfl; exact rfl; exact rfl; intro _; apply wq_take; exact rfl; exact rfl; exact rfl; refine bT ?_; (with_reducible assumption); apply wq_val; intro _ hw_; apply opv_bin; exact rfl; exact rfl; exact bin_eql; exact rfl; apply wq_val; intro _ hw_; apply opv_pickT; exact rfl; refine bT ?_; (with_reducible assumption); exact rfl; exact rfl; apply wq_val; intro _ hw_; apply opv_mkI; kernel_rfl; exact rfl; exact rfl; apply wq_val; intro _ hw_; apply opv_move; exact rfl; exact rfl; apply wq_val; intro _ hw_; apply opv_len; exact rfl; exact tyB.sl; exact rfl; apply wq_val; intro _ hw_; apply opv_bin; exact rfl; exact rfl; exact bin_eql; exact rfl; apply wq_val; intro _ hw_; apply opv_move; exact rfl; exact rfl; apply wq_take; exact rfl; exact rfl; exact rfl; refine bT ?_; (with_reducible assumption); apply wq_val; intro _ hw_; apply opv_move; exact rfl; exact rfl; apply wq_byTK (T := tyB) (hr := r2) (hb := ht); exact rfl; exact rfl; exact rfl; refine bT ?_; (with_reducible assumption); exact rfl; exact rfl; exact rfl; exact rfl; refine bT ?_; (with_reducible assumption); exact rfl; exact rfl; exact rfl; exact rfl; exact rfl; intro _; apply wq_take; exact rfl; exact rfl; exact rfl; refine bT ?_; (with_reducible assumption); apply wq_val; intro _ hw_; apply opv_bin; exact rfl; exact rfl; exact bin_lss; exact rfl; apply wq_val; intro _ hw_; apply opv_pickT; exact rfl; refine bT ?_; (with_reducible assumption); exact rfl; exact rfl; apply wq_val; intro _ hw_; apply opv_assign; exact rfl; exact rfl; apply wq_val; intro _ hw_; apply opv_assign; exact rfl; exact rfl; refine wq_nil fun w1 hw1 => ?_
        replace hb := hb.trans (hw1.mono hb.size)
        refine we_seq ?_; refine wc_ret ?_; refine we_block_ret ?_; refine we_seq_ret ?_
        refine we_ret2 rfl rfl rfl ⟨_, rfl, RetPt.mk (u := .bool (decide ((t.toNat : Int) = 1))) (B := none) (c := 0) ho ?_ (fun u' h => ?_) hb⟩
        · by_cases t0 : t = 0
          · subst t0; rfl
          by_cases t1 : t = 1
          · subst t1; rfl
          have : ¬ (t.toNat : Int) < 2 := fun h => by
            have : t.toNat = 0 ∨ t.toNat = 1 := by omega
            rcases this with h | h
            · exact t0 (u8_eq (n := 0) (by omega) (by decide))
            · exact t1 (u8_eq (n := 1) (by omega) (by decide))
          simp [t0, t1, this]
        · split at h
          · rename_i hr; cases h; cases hr; exact ⟨rfl, Ow.nil _ _ _⟩
          split at h
          · rename_i hr; cases h; cases hr; exact ⟨rfl, Ow.nil _ _ _⟩
          · cases h
      · have hne : ∀ x : UInt8, ¬ r = [x] := fun x h => hr1 (by rw [h]; rfl)
        rw [if_neg (hne 0), if_neg (hne 1)] at ho
        apply wc_condFb; exact rfl; exact rfl; refine wc_sr ?_; refine wl_bin rfl rfl bin_eql rfl ?_; refine wl_as rfl rfl ?_; refine wl_ns ?_; apply wc_condTb; exact rfl; exact rfl; refine wc_seq ?_
        refine wc_drawB mixed (by kernel_rfl) ?_
        apply wq_val; intro _ hw_; apply opv_move; exact rfl; exact rfl; apply wq_val; intro _ hw_; apply opv_len; exact rfl; exact tyB.sl; exact rfl; apply wq_val; intro _ hw_; apply opv_bin; exact rfl; exact rfl; exact bin_eql; exact rfl; apply wq_val; intro _ hw_; apply opv_move; exact rfl; exact rfl; apply wq_skip; exact rfl; exact rfl; exact rfl; refine bFn ?_; (with_reducible assumption); exact rfl; apply wq_skip; exact rfl; exact rfl; exact rfl; refine bFn ?_; (with_reducible assumption); exact rfl; apply wq_skip; exact rfl; exact rfl; exact rfl; refine bFn ?_; (with_reducible assumption); exact rfl; apply wq_skip; exact rfl; exact rfl; exact rfl; refine bFn ?_; (with_reducible assumption); exact rfl; apply wq_val; intro _ hw_; apply opv_pickF; exact rfl; refine bF ?_; (with_reducible assumption); exact rfl; exact rfl; apply wq_val; intro _ hw_; apply opv_mkI; kernel_rfl; exact rfl; exact rfl; apply wq_val; intro _ hw_; apply opv_move; exact rfl; exact rfl; apply wq_val; intro _ hw_; apply opv_len; exact rfl; exact tyB.sl; exact rfl; apply wq_val; intro _ hw_; apply opv_bin; exact rfl; exact rfl; exact bin_eql; exact rfl; apply wq_val; intro _ hw_; apply opv_move; exact rfl; exact rfl; apply wq_skip; exact rfl; exact rfl; exact rfl; refine bFn ?_; (with_reducible assumption); exact rfl; apply wq_skip; exact rfl; exact rfl; exact rfl; refine bFn ?_; (with_reducible assumption); exact rfl; apply wq_skip; exact rfl; exact rfl; exact rfl; refine bFn ?_; (with_reducible assumption); exact rfl; apply wq_skip; exact rfl; exact rfl; exact rfl; refine bFn ?_; (with_reducible assumption); exact rfl; apply wq_val; intro _ hw_; apply opv_pickF; exact rfl; refine bF ?_; (with_reducible assumption); exact rfl; exact rfl; apply wq_val; intro _ hw_; apply opv_assign; exact rfl; exact rfl; apply wq_val; intro _ hw_; apply opv_assign; exact rfl; exact rfl; refine wq_nil fun w1 hw1 => ?_
        replace hb := hb.trans (hw1.mono hb.size)
        refine we_seq ?_; refine wc_ret ?_; refine we_block_ret ?_; refine we_seq_ret ?_
        exact we_ret2 rfl rfl rfl ⟨_, rfl, RetPt.mk (u := .bool false) (B := none) (c := 0) ho rfl (fun _ h => by cases h) hb⟩
    rw [if_neg h1] at ho
    have h1' : ¬ (k.toNat : Int) = 1 := fun h => h1 (u8_eq (n := 1) h (by decide))
    by_cases h2 : k = 2
    · subst h2
      rw [if_pos rfl] at ho
      apply wc_condFb; exact rfl; exact rfl; refine wc_sr ?_; refine wl_bin rfl rfl bin_eql rfl ?_; refine wl_as rfl rfl ?_; refine wl_ns ?_; apply wc_condFb; exact rfl; exact rfl; refine wc_sr ?_; refine wl_bin rfl rfl bin_eql rfl ?_; refine wl_as rfl rfl ?_; refine wl_ns ?_; apply wc_condTb; exact rfl; exact rfl; refine wc_sr ?_; refine wl_mv rfl rfl ?_
      refine wl_call ok_codec_GetOrdI (getOrdI_any (p := ((0 : Nat) : Int)) r2 rfl hcr (by omega) (by omega)) ⟨rfl, rfl, trivial⟩ rfl ?_
      rintro _ w2 ⟨rfl, hbx⟩
      replace hb := hb.trans (hbx.mono hb.size)
      clear hbx
      have hgl := fun h => (getOrdU_le (b := r) (q := 0) h)
      have hok := fun h => getOrdU_ok (b := r) (q := 0) h
      obtain ⟨g, hg⟩ : ∃ g, getOrdU r ((0 : Nat) : Int) = g := ⟨_, rfl⟩
      rw [hg] at hgl hok ⊢
      by_cases he : g.2.2 = 0
      · obtain ⟨hlen, hgv⟩ := hgl he
        have e21 : g.2.1 = 8 := by rw [hgv]; rfl
        have e1 : g.1 = numB (r.take 8) := by rw [hgv]; rfl
        have he' : (g.2.2 : Int) = 0 := by omega
        refine wl_mv rfl rfl ?_; apply wl_val; apply opv_extract; exact rfl; exact rfl; exact rfl; apply wl_val; apply opv_extract; exact rfl; exact rfl; exact rfl; apply wl_val; apply opv_extract; exact rfl; exact rfl; exact rfl; refine wl_as rfl rfl ?_; refine wl_as rfl rfl ?_; refine wl_as rfl rfl ?_; refine wl_ns ?_; refine wc_sr ?_; refine wl_mv rfl rfl ?_; apply wl_val; apply opv_mkI; kernel_rfl; exact rfl; exact rfl; refine wl_mv rfl rfl ?_; refine wl_bin rfl rfl bin_eql rfl ?_; refine wl_mv rfl rfl ?_; apply wl_take; exact rfl; exact rfl; exact rfl; refine bT ?_; (with_reducible assumption); refine wl_mv rfl rfl ?_; apply wl_take; exact rfl; exact rfl; exact rfl; refine bT ?_; (with_reducible assumption); refine wl_mv rfl rfl ?_; apply wl_take; exact rfl; exact rfl; exact rfl; refine bT ?_; (with_reducible assumption); apply wl_val; apply opv_len; exact rfl; exact tyB.sl; exact rfl; apply wl_take; exact rfl; exact rfl; exact rfl; refine bT ?_; (with_reducible assumption); refine wl_bin rfl rfl bin_eql rfl ?_; apply wl_val; apply opv_pickT; exact rfl; refine bT ?_; (with_reducible assumption); exact rfl; exact rfl; refine wl_as rfl rfl ?_; refine wl_as rfl rfl ?_; refine wl_ns ?_; refine wc_ret ?_; refine we_block_ret ?_; refine we_seq_ret ?_
        refine we_ret2 rfl rfl rfl ⟨_, rfl, RetPt.mk (u := .int (if g.2.2 = 0 then (g.1 : Int) - 9223372036854775808 else 0)) (B := none) (c := 0) ho ?_ (fun u' h => ?_) hb⟩
        · rw [e21]
          by_cases h8 : r.length = 8
          · rw [if_pos h8, h8]; rfl
          · rw [if_neg h8]; simp; omega
        · split at h
          · rename_i hr; cases h
            rw [if_pos he, e1, List.take_of_length_le (by omega)]
            exact ⟨rfl, Ow.nil _ _ _⟩
          · cases h
      · have he' : ¬ (g.2.2 : Int) = 0 := by omega
        have h8 : ¬ r.length = 8 := fun h => he (by rw [hok (by omega)])
        rw [if_neg h8] at ho
        refine wl_mv rfl rfl ?_; apply wl_val; apply opv_extract; exact rfl; exact rfl; exact rfl; apply wl_val; apply opv_extract; exact rfl; exact rfl; exact rfl; apply wl_val; apply opv_extract; exact rfl; exact rfl; exact rfl; refine wl_as rfl rfl ?_; refine wl_as rfl rfl ?_; refine wl_as rfl rfl ?_; refine wl_ns ?_; refine wc_sr ?_; refine wl_mv rfl rfl ?_; apply wl_val; apply opv_mkI; kernel_rfl; exact rfl; exact rfl; refine wl_mv rfl rfl ?_; refine wl_bin rfl rfl bin_eql rfl ?_; refine wl_mv rfl rfl ?_; apply wl_skip; exact rfl; exact rfl; exact rfl; refine bFn ?_; (with_reducible assumption); exact rfl; apply wl_skip; exact rfl; exact rfl; exact rfl; refine bFn ?_; (with_reducible assumption); exact rfl; apply wl_skip; exact rfl; exact rfl; exact rfl; refine bFn ?_; (with_reducible assumption); exact rfl; apply wl_skip; exact rfl; exact rfl; exact rfl; refine bFn ?_; (with_reducible assumption); exact rfl; apply wl_val; apply opv_pickF; exact rfl; refine bF ?_; (with_reducible assumption); exact rfl; exact rfl; refine wl_as rfl rfl ?_; refine wl_as rfl rfl ?_; refine wl_ns ?_; refine wc_ret ?_; refine we_block_ret ?_; refine we_seq_ret ?_
        exact we_ret2 rfl rfl rfl ⟨_, rfl, RetPt.mk (u := .int (if g.2.2 = 0 then (g.1 : Int) - 9223372036854775808 else 0)) (B := none) (c := 0) ho (by simp [he]) (fun _ h => by cases h) hb⟩
    rw [if_neg h2] at ho
    have h2' : ¬ (k.toNat : Int) = 2 := fun h => h2 (u8_eq (n := 2) h (by decide))
    by_cases h3 : k = 3
    · subst h3
      rw [if_pos rfl] at ho
      apply wc_condFb; exact rfl; exact rfl; refine wc_sr ?_; refine wl_bin rfl rfl bin_eql rfl ?_; refine wl_as rfl rfl ?_; refine wl_ns ?_; apply wc_condFb; exact rfl; exact rfl; refine wc_sr ?_; refine wl_bin rfl rfl bin_eql rfl ?_; refine wl_as rfl rfl ?_; refine wl_ns ?_; apply wc_condFb; exact rfl; exact rfl; refine wc_sr ?_; refine wl_bin rfl rfl bin_eql rfl ?_; refine wl_as rfl rfl ?_; refine wl_ns ?_; apply wc_condTb; exact rfl; exact rfl; refine wc_sr ?_; refine wl_mv rfl rfl ?_
      refine wl_val (opv_ofBytes Try.underlying30 Try.underlying5 tyStr rfl (r2)) rfl ?_
      apply wl_val; apply opv_mkI; kernel_rfl; exact rfl; exact rfl; refine wl_as rfl rfl ?_; refine wl_as rfl rfl ?_; refine wl_ns ?_; refine wc_ret ?_; refine we_block_ret ?_; refine we_seq_ret ?_
      refine we_ret2 rfl rfl rfl ⟨_, rfl, RetPt.mk (u := .text r) (B := none) (c := 0) ho rfl (fun u' h => by cases h; exact ⟨rfl, Ow.nil _ _ _⟩) hb⟩
    rw [if_neg h3] at ho
    have h3' : ¬ (k.toNat : Int) = 3 := fun h => h3 (u8_eq (n := 3) h (by decide))
    by_cases h4 : k = 4
    · subst h4
      rw [if_pos rfl] at ho
      apply wc_condFb; exact rfl; exact rfl; refine wc_sr ?_; refine wl_bin rfl rfl bin_eql rfl ?_; refine wl_as rfl rfl ?_; refine wl_ns ?_; apply wc_condFb; exact rfl; exact rfl; refine wc_sr ?_; refine wl_bin rfl rfl bin_eql rfl ?_; refine wl_as rfl rfl ?_; refine wl_ns ?_; apply wc_condFb; exact rfl; exact rfl; refine wc_sr ?_; refine wl_bin rfl rfl bin_eql rfl ?_; refine wl_as rfl rfl ?_; refine wl_ns ?_; apply wc_condFb; exact rfl; exact rfl; refine wc_sr ?_; refine wl_bin rfl rfl bin_eql rfl ?_; refine wl_as rfl rfl ?_; refine wl_ns ?_; apply wc_condTb; exact rfl; exact rfl; refine wc_sr ?_
      refine wl_bs (vs := []) tyB trivial rfl (by decide) rfl fun E w3 q3 hbx _ => ?_
      replace q3 := Ow.mono q3 hb.size
      replace hb := hb.trans (hbx.mono hb.size)
      clear hbx
      refine wl_mv rfl rfl ?_
      refine wl_app tyB rfl q3 rfl (r2.below hb) (bvs_one _) (by omega) (by simp only [maxLen]; omega) hb.size rfl fun _ _ _ hO hG _ => ?_; replace hb := hG.below hb q3 (Nat.le_refl _) hb.size; replace q3 := hO; clear hO hG
      rw [List.nil_append] at q3
      rw [Nat.zero_add] at q3 ⊢
      apply wl_val; apply opv_mkI; kernel_rfl; exact rfl; exact rfl; refine wl_as rfl rfl ?_; refine wl_as rfl rfl ?_; refine wl_ns ?_; refine wc_ret ?_; refine we_block_ret ?_; refine we_seq_ret ?_
      exact we_ret2 rfl rfl rfl ⟨_, rfl, RetPt.mk (u := .bytes r) ho rfl (fun u' h => by cases h; exact ⟨rfl, q3⟩) hb⟩
    rw [if_neg h4] at ho
    have h4' : ¬ (k.toNat : Int) = 4 := fun h => h4 (u8_eq (n := 4) h (by decide))
    apply wc_decF; exact rfl; (with_reducible assumption); refine wc_sr ?_; refine wl_bin rfl rfl bin_eql rfl ?_; refine wl_as rfl rfl ?_; refine wl_ns ?_; apply wc_decF; exact rfl; (with_reducible assumption); refine wc_sr ?_; refine wl_bin rfl rfl bin_eql rfl ?_; refine wl_as rfl rfl ?_; refine wl_ns ?_; apply wc_decF; exact rfl; (with_reducible assumption); refine wc_sr ?_; refine wl_bin rfl rfl bin_eql rfl ?_; refine wl_as rfl rfl ?_; refine wl_ns ?_; apply wc_decF; exact rfl; (with_reducible assumption); refine wc_sr ?_; refine wl_bin rfl rfl bin_eql rfl ?_; refine wl_as rfl rfl ?_; refine wl_ns ?_; apply wc_decF; exact rfl; (with_reducible assumption); refine wc_skip ?_; refine we_block_norm ?_; refine we_seq ?_; refine wc_sr ?_; refine wl_as rfl rfl ?_; refine wl_as rfl rfl ?_; refine wl_ns ?_; refine wc_ret ?_
    exact we_ret2 rfl rfl rfl ⟨_, rfl, RetPt.mk (u := .nil) (B := none) (c := 0) ho rfl (fun _ h => by cases h) hb⟩
end Go.Proofs.Ytcjiecclmepboaa


/-
  Walks over Decode of the program and of the reference.
-/
namespace Go.Proofs.Ytcjiecclmepboaa
open Go.RowKit

theorem decV_err {b : List UInt8} (h : ¬ (parts b).2 = 0) : decV b = ([], (parts b).2) := by rw [decV, if_neg h]
theorem decV_bad {b : List UInt8} (h : (parts b).2 = 0) (hd : decL (parts b).1 = none) : decV b = ([], 3) := by rw [decV, if_pos h, hd]
theorem decV_good {b : List UInt8} {us : List Va} (h : (parts b).2 = 0) (hd : decL (parts b).1 = some us) : decV b = (us, 0) := by rw [decV, if_pos h, hd]
theorem decL_take {ps : List (List UInt8)} {us : List Va} {k : Nat} (h : decL (ps.take k) = some us) (hk : k ≤ ps.length) : us.length = k := by have := decL_len h; simp at this; omega
theorem decode_any {A : Option Addr} {n c : Nat} {b : List UInt8} {w : World} (r1 : RdB w A b) (hn : b.length = n) (hc : b.length ≤ c) (hl : b.length ≤ 1073741824) :
    CallsV Try.prog 56 #[.slice A n c] w (RetVs w (decV b)) := by
  subst hn
  have hb := Below.refl w.heap.size w
  have hps := parts_size b
  refine calls_in (N := _) Try.func56 rfl Try.ntmps56 rfl ?_; show WC _ _ _ _ _ _
  refine wc_sr ?_; refine wl_as rfl rfl ?_; refine wl_as rfl rfl ?_; refine wl_ns ?_; refine wc_sr ?_; refine wl_mv rfl rfl ?_
  refine wl_call ok_codec_Parts (parts_any r1 rfl hc (by omega)) ⟨rfl, trivial⟩ rfl ?_
  rintro _ wL ⟨E, e, rfl, O1, hb1⟩
  clear hb
  obtain ⟨ps, hps'⟩ : ∃ ps, (parts b).1 = ps := ⟨_, rfl⟩
  obtain ⟨er, her⟩ : ∃ er, (parts b).2 = er := ⟨_, rfl⟩
  have hgood := @decV_good b
  have hbad := @decV_bad b
  have herr := @decV_err b
  rw [hps'] at O1 hps hgood hbad ⊢
  rw [her] at hgood hbad herr ⊢
  by_cases h0 : er = 0
  case neg =>
    have h0' : ¬ (er : Int) = 0 := by omega
    refine wl_mv rfl rfl ?_; apply wl_val; apply opv_extract; exact rfl; exact rfl; exact rfl; apply wl_val; apply opv_extract; exact rfl; exact rfl; exact rfl; refine wl_as rfl rfl ?_; refine wl_as rfl rfl ?_; refine wl_ns ?_; refine wc_seq ?_; refine wc_sr ?_; refine wl_mv rfl rfl ?_; refine wl_bin rfl rfl bin_neq rfl ?_; refine wl_ns ?_; apply wc_decT; exact rfl; (with_reducible assumption); refine wc_sr ?_; refine wl_mv rfl rfl ?_; refine wl_as rfl rfl ?_; refine wl_as rfl rfl ?_; refine wl_ns ?_; refine wc_ret ?_; refine we_seq_ret ?_
    exact we_ret2 rfl rfl rfl ⟨_, rfl, none, 0, by rw [herr h0]; rfl, by rw [herr h0]; exact OwR.nil _ _ _, hb1⟩
  subst h0
  have R0 := O1.rd
  clear O1
  refine wl_mv rfl rfl ?_; apply wl_val; apply opv_extract; exact rfl; exact rfl; exact rfl; apply wl_val; apply opv_extract; exact rfl; exact rfl; exact rfl; refine wl_as rfl rfl ?_; refine wl_as rfl rfl ?_; refine wl_ns ?_; refine wc_seq ?_; refine wc_sr ?_; refine wl_mv rfl rfl ?_; refine wl_bin rfl rfl bin_neq rfl ?_; refine wl_ns ?_; apply wc_condFb; exact rfl; exact rfl; refine wc_skip ?_; refine we_seq ?_; refine wc_sr ?_; refine wl_as rfl rfl ?_; refine wl_ns ?_; refine wc_seq ?_; refine wc_sr ?_; refine wl_mv rfl rfl ?_; apply wl_val; apply opv_len; exact rfl; exact tyBB.sl; exact rfl; refine wl_mv rfl rfl ?_; refine wl_ns ?_; refine wc_block ?_
  refine wc_loop (fun L wr m => ∃ (k : Nat) (us : List Va) (P : Option Addr) (cp : Nat), L = [(6, .slice P us.length cp), (19, .slice E ps.length e), (20, .int .i64 (ps.length : Int)), (21, .int .i64 (k : Int))] ∧ k ≤ ps.length ∧ decL (ps.take k) = some us ∧ OwR 1 20 wr wL.heap.size (fun b => wL.heap.size ≤ b) P cp (us.map vaEl) ∧ Below wL.heap.size wL wr ∧ m = ps.length - k)
    [(6, .slice none 0 0), (19, .slice E ps.length e), (20, .int .i64 (ps.length : Int)), (21, .int .i64 (0 : Nat))] ps.length ⟨0, [], none, 0, rfl, by omega, rfl, OwR.nil _ _ _, Below.refl _ _, rfl⟩ ⟨rfl, rfl, rfl, rfl, trivial⟩ ?_
  rintro _ w2 m ⟨k, us, P, cp, rfl, hk, hd, g1, hb, rfl⟩
  have hul := decL_take hd hk
  refine wc_sr ?_; refine wl_bin rfl rfl bin_lss rfl ?_; refine wl_ns ?_; refine wc_seq ?_
  refine wc_cond rfl (fun h1 => ?_) (fun h1 => ?_)
  · obtain ⟨p, hp⟩ : ∃ p, ps[k]? = some p := ⟨_, List.getElem?_eq_getElem (by omega)⟩
    obtain ⟨vs, X, cx, hv, hvk, rx, hcx⟩ := (R0.below hb).at hp
    have hpl := flat_mem hp
    have hP := fun a ha => (OwR.lt g1 a ha).2
    have hs1 := hb.size
    refine wc_skip ?_; refine we_seq ?_; refine wc_seq ?_; refine wc_block ?_; refine wc_sr ?_; apply wl_elK (T := tyBB) (hr := hv) (hb := hvk); exact rfl; exact rfl; exact rfl; exact rfl; exact rfl; intro _; refine wl_as rfl rfl ?_; refine wl_ns ?_; refine wc_sr ?_; refine wl_mv rfl rfl ?_
    refine wl_call ok_cell_part (part_any rx rfl hcx (by omega)) ⟨rfl, trivial⟩ rfl ?_
    rintro _ w3 ⟨u, B, cB, rfl, hok, hbx⟩
    replace g1 := OwR.below g1 hbx
    replace hb := hb.trans (hbx.mono hb.size)
    clear hbx hv rx
    cases hpv : partV p with
    | none =>
      refine wl_mv rfl rfl ?_; apply wl_val; apply opv_extract; exact rfl; exact rfl; exact rfl; apply wl_val; apply opv_extract; exact rfl; exact rfl; exact rfl; refine wl_as rfl rfl ?_; refine wl_as rfl rfl ?_; refine wl_ns ?_; refine wc_seq ?_; refine wc_sr ?_; refine wl_mv rfl rfl ?_; apply wl_val; apply opv_not; exact rfl; exact rfl; refine wl_ns ?_; apply wc_condTb; exact rfl; exact rfl; refine wc_sr ?_; refine wl_as rfl rfl ?_; refine wl_as rfl rfl ?_; refine wl_ns ?_; refine wc_ret ?_; refine we_seq_ret ?_; refine we_block_ret ?_; refine we_seq_ret ?_; refine we_loop_ret ?_; refine we_block_ret ?_; refine we_seq_ret ?_
      have hdn := hbad rfl (decL_none hp hpv)
      exact we_ret2 rfl rfl rfl ⟨_, rfl, none, 0, by rw [hdn]; rfl, by rw [hdn]; exact OwR.nil _ _ _, hb1.trans (hb.mono hb1.size)⟩
    | some v =>
      obtain ⟨rfl, o2⟩ := hok v hpv
      refine wl_mv rfl rfl ?_; apply wl_val; apply opv_extract; exact rfl; exact rfl; exact rfl; apply wl_val; apply opv_extract; exact rfl; exact rfl; exact rfl; refine wl_as rfl rfl ?_; refine wl_as rfl rfl ?_; refine wl_ns ?_; refine wc_seq ?_; refine wc_sr ?_; refine wl_mv rfl rfl ?_; apply wl_val; apply opv_not; exact rfl; exact rfl; refine wl_ns ?_; apply wc_condFb; exact rfl; exact rfl; refine wc_skip ?_; refine we_seq ?_; refine wc_region ?_; refine wl_mv rfl rfl ?_; refine wl_mv rfl rfl ?_
      refine wl_pushG (css' := [[vaV u B cB]]) (els' := [vaEl u]) tkA (fun _ => rfl) g1 ((by simp)) ⟨rfl, ⟨_, rfl, (by first | rfl | exact cells_one (vaV_one _ _ _))⟩, rfl, trivial⟩ (Grp.one (⟨B, cB, rfl, byEl.own o2 fun a ha h1 h2 => ⟨by omega, fun p hp => by have := hP p hp; omega⟩⟩) rfl) rfl (by first | exact ceV_all _ _ _ | exact vaV_all _ _ _ | (simp [Value.oneCell'])) (by decide) (by decide) (by omega) (by simp only [maxLen]; omega) hb.size rfl rfl fun _ _ _ _ hO hG hA => ?_; replace hb := hG.belowR hb g1 (Nat.le_refl _) hb.size; replace g1 := hO; clear hO hG
      refine wl_as rfl rfl ?_; refine wl_nil ?_; refine we_block_norm ?_; refine we_seq ?_; refine wc_region ?_; apply wl_val; apply opv_bin; exact rfl; exact rfl; exact bin_add64 (by omega); exact rfl; refine wl_mv rfl rfl ?_; refine wl_nil ?_
      refine we_loop _ (ps.length - (k + 1)) ⟨k + 1, us ++ [u], _, _, rfl, by omega, by rw [take_getR hp]; exact decL_snoc _ _ _ _ hd hpv, by rw [List.map_append]; exact g1, hb, rfl⟩ (by omega) ⟨by rw [List.length_append]; rfl, rfl, rfl, by simp [lookT], trivial⟩
  · obtain rfl : k = ps.length := by omega
    rw [List.take_length] at hd
    have hdn := hgood rfl hd
    refine wc_exit ?_; refine we_seq_exit ?_; refine we_loop_exit ?_; refine we_block_exit ?_; refine we_seq ?_; refine wc_sr ?_; refine wl_mv rfl rfl ?_; refine wl_as rfl rfl ?_; refine wl_as rfl rfl ?_; refine wl_ns ?_; refine wc_ret ?_
    exact we_ret2 rfl rfl rfl ⟨_, rfl, P, cp, by rw [hdn]; rfl, by rw [hdn]; exact OwR.mono g1 hb1.size (fun _ _ h => Nat.le_trans hb1.size h), hb1.trans (hb.mono hb1.size)⟩
end Go.Proofs.Ytcjiecclmepboaa


/-
  The walk over the reference's Decode.
-/
namespace Go.Proofs.Ytcjiecclmepboaa
open Go.RowKit

theorem drop63_lt {n : Nat} (h : n < 2 ^ 64) : -9223372036854775808 ≤ drop63 n ∧ drop63 n ≤ 9223372036854775807 := by unfold drop63; omega
theorem part_yes {p : List UInt8} {u : Va} (hu : VaOk u) (h : enc1 u = p) : partV p = some u := by rw [← h]; exact partV_enc hu
theorem parts_one {u : Va} (hu : VaOk u) : parts (encV [u]) = ([enc1 u], 0) := by
  rw [encV, List.map_cons, List.map_nil]
  refine parts_framed fun r hr => ?_
  simp at hr
  subst hr
  have h1 := enc1_length u
  have h2 := hu.text
  have h3 := hu.data
  have e : vaB u = (vaC u).text.length + (vaC u).data.length := rfl
  omega
set_option maxHeartbeats 4000000 in
theorem refDecode_any {A : Option Addr} {n c : Nat} {b : List UInt8} {w : World} (r1 : RdB w A b) (hn : b.length = n) (hc : b.length ≤ c) (hl : b.length ≤ 16777216) :
    CallsV Try.prog 58 #[.slice A n c] w fun v w' => ∃ (B : Option Addr) (c : Nat), v = .tuple #[.slice B (decV b).1.length c, .int .i64 ((decV b).2 : Nat)] ∧ OwR 5 53 w' w.heap.size (fun b => w.heap.size ≤ b) B c ((decV b).1.map fun u => ceEl (vaC u)) ∧ Below w.heap.size w w' := by
  subst hn
  have hmax : maxLen = 9223372036854775807 := rfl
  have hps := parts_size b
  refine calls_in (N := _) Try.func58 rfl Try.ntmps58 rfl ?_; show WC _ _ _ _ _ _
  refine wc_sr ?_; refine wl_as rfl rfl ?_; refine wl_as rfl rfl ?_; refine wl_ns ?_; refine wc_sr ?_; refine wl_mv rfl rfl ?_
  refine wl_call ok_caissonref01_Parts (refParts_any r1 rfl hc (by omega)) ⟨rfl, trivial⟩ rfl ?_
  rintro _ wL ⟨E, e, rfl, O1, hb1⟩
  obtain ⟨ps, hps'⟩ : ∃ ps, (parts b).1 = ps := ⟨_, rfl⟩
  obtain ⟨er, her⟩ : ∃ er, (parts b).2 = er := ⟨_, rfl⟩
  have hgood := @decV_good b
  have hbad := @decV_bad b
  have herr := @decV_err b
  rw [hps'] at O1 hps hgood hbad ⊢
  rw [her] at hgood hbad herr ⊢
  by_cases h0 : er = 0
  case neg =>
    have h0' : ¬ (er : Int) = 0 := by omega
    refine wl_mv rfl rfl ?_; apply wl_val; apply opv_extract; exact rfl; exact rfl; exact rfl; apply wl_val; apply opv_extract; exact rfl; exact rfl; exact rfl; refine wl_as rfl rfl ?_; refine wl_as rfl rfl ?_; refine wl_ns ?_; refine wc_seq ?_; refine wc_sr ?_; refine wl_mv rfl rfl ?_; refine wl_bin rfl rfl bin_neq rfl ?_; refine wl_ns ?_; apply wc_decT; exact rfl; (with_reducible assumption); refine wc_sr ?_; refine wl_mv rfl rfl ?_; refine wl_as rfl rfl ?_; refine wl_as rfl rfl ?_; refine wl_ns ?_; refine wc_ret ?_; refine we_seq_ret ?_
    exact we_ret2 rfl rfl rfl ⟨_, rfl, none, 0, by rw [herr h0]; rfl, by rw [herr h0]; exact OwR.nil _ _ _, hb1⟩
  subst h0
  have R0 := O1.rd
  clear O1
  refine wl_mv rfl rfl ?_; apply wl_val; apply opv_extract; exact rfl; exact rfl; exact rfl; apply wl_val; apply opv_extract; exact rfl; exact rfl; exact rfl; refine wl_as rfl rfl ?_; refine wl_as rfl rfl ?_; refine wl_ns ?_; refine wc_seq ?_; refine wc_sr ?_; refine wl_mv rfl rfl ?_; refine wl_bin rfl rfl bin_neq rfl ?_; refine wl_ns ?_; apply wc_condFb; exact rfl; exact rfl; refine wc_skip ?_; refine we_seq ?_; refine wc_sr ?_; refine wl_as rfl rfl ?_; refine wl_ns ?_; refine wc_seq ?_; refine wc_sr ?_; refine wl_as rfl rfl ?_; refine wl_ns ?_; refine wc_block ?_
  refine wc_loop (fun L wr m => ∃ (k : Nat) (us : List Va) (P : Option Addr) (cp : Nat), L = [(4, .slice E ps.length e), (6, .slice P us.length cp), (7, .int .i64 (k : Int))] ∧ k ≤ ps.length ∧ decL (ps.take k) = some us ∧ OwR 5 53 wr wL.heap.size (fun b => wL.heap.size ≤ b) P cp (us.map fun u => ceEl (vaC u)) ∧ Below wL.heap.size wL wr ∧ m = ps.length - k)
    [(4, .slice E ps.length e), (6, .slice none 0 0), (7, .int .i64 (0 : Nat))] ps.length ⟨0, [], none, 0, rfl, by omega, rfl, OwR.nil _ _ _, Below.refl _ _, rfl⟩ ⟨rfl, rfl, rfl, trivial⟩ ?_
  rintro _ w2 m ⟨k, us, P, cp, rfl, hk, hd, g1, hb, rfl⟩
  have hul := decL_take hd hk
  refine wc_seq ?_; refine wc_sr ?_; refine wl_mv rfl rfl ?_; refine wl_mv rfl rfl ?_; apply wl_val; apply opv_len; exact rfl; exact tyBB.sl; exact rfl; refine wl_bin rfl rfl bin_lss rfl ?_; refine wl_ns ?_
  refine wc_cond rfl (fun h1 => ?_) (fun h1 => ?_)
  case refine_2 =>
    obtain rfl : k = ps.length := by omega
    rw [List.take_length] at hd
    have hdn := hgood rfl hd
    refine wc_exit ?_; refine we_seq_exit ?_; refine we_loop_exit ?_; refine we_block_exit ?_; refine we_seq ?_; refine wc_sr ?_; refine wl_mv rfl rfl ?_; refine wl_as rfl rfl ?_; refine wl_as rfl rfl ?_; refine wl_ns ?_; refine wc_ret ?_
    exact we_ret2 rfl rfl rfl ⟨_, rfl, P, cp, by rw [hdn]; rfl, by rw [hdn]; exact OwR.mono g1 hb1.size (fun _ _ h => Nat.le_trans hb1.size h), hb1.trans (hb.mono hb1.size)⟩
  obtain ⟨p, hp⟩ : ∃ p, ps[k]? = some p := ⟨_, List.getElem?_eq_getElem (by omega)⟩
  obtain ⟨vs, X, cx, hv, hvk, rx, hcx⟩ := (R0.below hb).at hp
  have rx0 : ∀ w', Below w2.heap.size w2 w' → RdB w' X p := fun w' h => rx.below h
  have hpl := flat_mem hp
  have hP := fun a ha => (OwR.lt g1 a ha).2
  have hs1 := hb.size
  have hstop : partV p = none → decV b = ([], 3) := fun h => hbad rfl (decL_none hp h)
  have hret : ∀ {w' : World}, Below wL.heap.size wL w' → decV b = ([], 3) → ∃ v, Ending.returned (.tuple #[.slice none 0 0, .int .i64 3]) = .returned v ∧ ∃ (B : Option Addr) (c : Nat), v = .tuple #[.slice B (decV b).1.length c, .int .i64 ((decV b).2 : Nat)] ∧ OwR 5 53 w' w.heap.size (fun b => w.heap.size ≤ b) B c ((decV b).1.map fun u => ceEl (vaC u)) ∧ Below w.heap.size w w' := fun {w'} h hd => by
    rw [hd]; exact ⟨_, rfl, none, 0, rfl, OwR.nil _ _ _, hb1.trans (h.mono hb1.size)⟩
  refine wc_skip ?_; refine we_seq ?_; refine wc_seq ?_; refine wc_block ?_; refine wc_sr ?_; refine wl_mv rfl rfl ?_; refine wl_mv rfl rfl ?_; apply wl_elK (T := tyBB) (hr := hv) (hb := hvk); exact rfl; exact rfl; exact rfl; exact rfl; exact rfl; intro _; refine wl_as rfl rfl ?_; refine wl_ns ?_; refine wc_seq ?_; refine wc_sr ?_; refine wl_mv rfl rfl ?_; apply wl_val; apply opv_len; exact rfl; exact tyB.sl; exact rfl; refine wl_bin rfl rfl bin_eql rfl ?_; refine wl_mv rfl rfl ?_
  cases p with
  | nil =>
    apply wl_skip; exact rfl; exact rfl; exact rfl; refine bTn ?_; exact rfl; exact rfl; apply wl_skip; exact rfl; exact rfl; exact rfl; refine bTn ?_; exact rfl; exact rfl; apply wl_skip; exact rfl; exact rfl; exact rfl; refine bTn ?_; exact rfl; exact rfl; apply wl_skip; exact rfl; exact rfl; exact rfl; refine bTn ?_; exact rfl; exact rfl; apply wl_val; apply opv_pickT; exact rfl; refine bT ?_; exact rfl; exact rfl; exact rfl; refine wl_ns ?_; apply wc_condTb; exact rfl; exact rfl; refine wc_sr ?_; refine wl_as rfl rfl ?_; refine wl_as rfl rfl ?_; refine wl_ns ?_; refine wc_ret ?_; refine we_seq_ret ?_; refine we_block_ret ?_; refine we_seq_ret ?_; refine we_loop_ret ?_; refine we_block_ret ?_; refine we_seq_ret ?_
    exact we_ret2 rfl rfl rfl (hret hb (hstop rfl))
  | cons kk r =>
    have hx : (kk :: r)[0]? = some kk := rfl
    have hpos : ¬ (((kk :: r).length : Nat) : Int) = 0 := by simp only [List.length_cons]; omega
    have ho : partV (kk :: r) = partK kk r := rfl
    have hkl := kk.toNat_lt
    have hrl : r.length ≤ 16777216 := by simp only [List.length_cons] at hpl; omega
    have rcut : ∀ w', Below w2.heap.size w2 w' → RdB w' (cutA X cx 1) r := fun w' h => by
      have r2 := rd_cut (rx0 w' h) (show 1 ≤ (kk :: r).length by simp) (Nat.le_refl _) hcx
      rwa [show ((kk :: r).take (kk :: r).length).drop 1 = r by simp] at r2
    have hcr : r.length ≤ cx - 1 := by simp only [List.length_cons] at hcx; omega
    apply wl_take; exact rfl; exact rfl; exact rfl; refine bF ?_; (with_reducible assumption); refine wl_mv rfl rfl ?_; apply wl_byTK (T := tyB) (hr := rx) (hb := hx); exact rfl; exact rfl; exact rfl; refine bF ?_; (with_reducible assumption); exact rfl; exact rfl; exact rfl; exact rfl; refine bF ?_; (with_reducible assumption); exact rfl; exact rfl; exact rfl; exact rfl; exact rfl; intro _; apply wl_take; exact rfl; exact rfl; exact rfl; refine bF ?_; (with_reducible assumption); refine wl_bin rfl rfl bin_gtr rfl ?_; apply wl_val; apply opv_pickF; exact rfl; refine bF ?_; (with_reducible assumption); exact rfl; exact rfl; refine wl_ns ?_
    by_cases h4' : 4 < kk.toNat
    · have h4i : (4 : Int) < (kk.toNat : Int) := by omega
      have hne : ∀ j : UInt8, j.toNat ≤ 4 → ¬ kk = j := fun j hj h => by subst h; omega
      apply wc_decT; exact rfl; (with_reducible assumption); refine wc_sr ?_; refine wl_as rfl rfl ?_; refine wl_as rfl rfl ?_; refine wl_ns ?_; refine wc_ret ?_; refine we_seq_ret ?_; refine we_block_ret ?_; refine we_seq_ret ?_; refine we_loop_ret ?_; refine we_block_ret ?_; refine we_seq_ret ?_
      refine we_ret2 rfl rfl rfl (hret hb (hstop ?_))
      rw [ho, partK, if_neg (hne 0 (by decide)), if_neg (hne 1 (by decide)), if_neg (hne 2 (by decide)), if_neg (hne 3 (by decide)), if_neg (hne 4 (by decide))]
    have h4i : ¬ (4 : Int) < (kk.toNat : Int) := by omega
    apply wc_decF; exact rfl; (with_reducible assumption); refine wc_skip ?_; refine we_seq ?_; refine wc_sr ?_; refine wl_mv rfl rfl ?_; apply wl_byK (T := tyB) (hr := rx) (hb := hx); exact rfl; exact rfl; exact rfl; exact rfl; exact rfl; intro _; apply wl_val; apply opv_convR; exact rfl; exact Try.underlying5; exact Try.underlying3; exact IntWalk.i64_in _ (by omega); exact rfl
    refine wl_val (opv_build (vs := [(0, .int .i64 (kk.toNat : Int))]) (cs := [.int .i64 (kk.toNat : Int), .bool false, .int .i64 0, str [], .slice none 0 0]) ⟨rfl, rfl, trivial⟩ (by kernel_rfl)) rfl ?_
    replace g1 := OwR.mono g1 (Nat.le_refl _) (S' := fun b => wL.heap.size ≤ b ∧ b < w2.heap.size) fun b h h' => ⟨h', h⟩
    have hbx2 := Below.refl w2.heap.size w2
    refine wl_var (cs := [.int .i64 (kk.toNat : Int), .bool false, .int .i64 0, str [], .slice none 0 0]) zeroC sC rfl (fun _ => rfl) (by simp [Value.oneCell']) rfl fun g9 w3 hg9 a9 hbx => ?_
    replace g1 := OwR.below g1 hbx
    replace hb := hb.trans (hbx.mono hb.size)
    replace hbx2 := hbx
    clear hbx rx hv
    have hbut : ∀ b' : Nat, b' < w2.heap.size → But (some ⟨g9, 0, none⟩) b' := fun b' h a ha => by cases ha; exact (show b' ≠ g9 by omega)
    refine wl_ns ?_; refine wc_seq ?_; refine wc_sr ?_; apply wl_val; apply opv_fa; exact fa_sC (by decide); exact rfl; exact rfl; apply wl_val; apply opv_ldX; exact rfl; assumption; exact c1_int; exact rfl; exact rfl; refine wl_ns ?_; refine wc_block ?_; refine wc_sr ?_; refine wl_bin rfl rfl bin_eql rfl ?_; refine wl_as rfl rfl ?_; refine wl_ns ?_
    have hkk : kk = 0 ∨ kk = 1 ∨ kk = 2 ∨ kk = 3 ∨ kk = 4 := by
      have : kk.toNat = 0 ∨ kk.toNat = 1 ∨ kk.toNat = 2 ∨ kk.toNat = 3 ∨ kk.toNat = 4 := by omega
      rcases this with h | h | h | h | h
      · exact .inl (u8_eq (n := 0) (by omega) (by decide))
      · exact .inr (.inl (u8_eq (n := 1) (by omega) (by decide)))
      · exact .inr (.inr (.inl (u8_eq (n := 2) (by omega) (by decide))))
      · exact .inr (.inr (.inr (.inl (u8_eq (n := 3) (by omega) (by decide)))))
      · exact .inr (.inr (.inr (.inr (u8_eq (n := 4) (by omega) (by decide)))))
    refine wc_cutE (fun L w' => ∃ (u : Va) (B : Option Addr) (cB : Nat), L = [(4, .slice E ps.length e), (6, .slice P us.length cp), (7, .int .i64 (k : Int)), (8, .slice X (kk :: r).length cx), (9, .pointer (some ⟨g9, 0, none⟩))] ∧ Ar w' g9 53 (ceV (vaC u) B cB) ∧
      OwR 5 53 w' wL.heap.size (fun b => wL.heap.size ≤ b ∧ b < w2.heap.size) P cp (us.map fun u => ceEl (vaC u)) ∧ OwB w' w2.heap.size B cB (vaC u).data ∧ VaOk u ∧ vaB u ≤ 16777216 ∧ (∀ v, partV (kk :: r) = some v → v = u) ∧ Below wL.heap.size wL w' ∧ Below w2.heap.size w2 w') ?_ ?_
    · clear h4' h4i
      rcases hkk with rfl | rfl | rfl | rfl | rfl
      · apply wc_condFb; exact rfl; exact rfl; refine wc_sr ?_; refine wl_bin rfl rfl bin_eql rfl ?_; refine wl_as rfl rfl ?_; refine wl_ns ?_; apply wc_condFb; exact rfl; exact rfl; refine wc_sr ?_; refine wl_bin rfl rfl bin_eql rfl ?_; refine wl_as rfl rfl ?_; refine wl_ns ?_; apply wc_condFb; exact rfl; exact rfl; refine wc_sr ?_; refine wl_bin rfl rfl bin_eql rfl ?_; refine wl_as rfl rfl ?_; refine wl_ns ?_; apply wc_condFb; exact rfl; exact rfl; refine wc_skip ?_
        refine we_cut _ ⟨.nil, none, 0, rfl, a9, g1, Ow.nil _ _ _, ⟨by simp [vaC], by simp [vaC], by simp [vaC]⟩, by simp [vaB, vaC], fun v hv => ?_, hb, hbx2⟩ ⟨rfl, rfl, rfl, rfl, rfl, trivial⟩
        rw [ho, partK, if_pos rfl] at hv
        split at hv
        · cases hv; rfl
        · cases hv
      · by_cases hr : 0 < r.length
        · obtain ⟨t, ht⟩ : ∃ t, r[0]? = some t := ⟨_, List.getElem?_eq_getElem hr⟩
          have ht1 : (1 :: r)[1]? = some t := by simpa using ht
          have htl := t.toNat_lt
          have hlen : (1 : Int) < (((1 :: r).length : Nat) : Int) := by simp only [List.length_cons]; omega
          have rc := rx0 _ hbx2
          apply wc_condTb; exact rfl; exact rfl; refine wc_region ?_; refine wl_mv rfl rfl ?_; apply wl_val; apply opv_len; exact rfl; exact tyB.sl; exact rfl; refine wl_bin rfl rfl bin_gtr rfl ?_; refine wl_mv rfl rfl ?_; apply wl_take; exact rfl; exact rfl; exact rfl; refine bT ?_; (with_reducible assumption); refine wl_mv rfl rfl ?_; apply wl_byTK (T := tyB) (hr := rc) (hb := ht1); exact rfl; exact rfl; exact rfl; refine bT ?_; (with_reducible assumption); exact rfl; exact rfl; exact rfl; exact rfl; refine bT ?_; (with_reducible assumption); exact rfl; exact rfl; exact rfl; exact rfl; exact rfl; intro _; apply wl_take; exact rfl; exact rfl; exact rfl; refine bT ?_; (with_reducible assumption); refine wl_bin rfl rfl bin_eql rfl ?_; apply wl_val; apply opv_pickT; exact rfl; refine bT ?_; (with_reducible assumption); exact rfl; exact rfl; apply wl_val; apply opv_fa; exact fa_sC (by decide); exact rfl; exact rfl
          refine wl_stA c1_bool a9 rfl (show 0 + 1 < 5 by decide) rfl rfl fun w4 a9 hG _ => ?_
          replace g1 := OwR.gr g1 hG (fun b' _ h _ => hbut b' h.2) (fun a ha => hbut _ (hP a ha))
          replace hb := hG.belowI hb (by omega) hb.size
          replace hbx2 := hG.belowI hbx2 hg9 hbx2.size
          refine wl_nil ?_
          refine we_cut _ ⟨.bool (decide ((t.toNat : Int) = 1)), none, 0, rfl, a9, g1, Ow.nil _ _ _, ⟨by simp [vaC], by simp [vaC], by simp [vaC]⟩, by simp [vaB, vaC], fun v hv => ?_, hb, hbx2⟩ ⟨rfl, rfl, rfl, rfl, rfl, trivial⟩
          rw [ho, partK, if_neg (by decide), if_pos rfl] at hv
          split at hv
          · rename_i hr'; subst hr'; cases hv; simp at ht; subst ht; rfl
          split at hv
          · rename_i hr'; subst hr'; cases hv; simp at ht; subst ht; rfl
          · cases hv
        · have hlen : ¬ (1 : Int) < (((1 :: r).length : Nat) : Int) := by simp only [List.length_cons]; omega
          apply wc_condTb; exact rfl; exact rfl; refine wc_region ?_; refine wl_mv rfl rfl ?_; apply wl_val; apply opv_len; exact rfl; exact tyB.sl; exact rfl; refine wl_bin rfl rfl bin_gtr rfl ?_; refine wl_mv rfl rfl ?_; apply wl_skip; exact rfl; exact rfl; exact rfl; refine bFn ?_; (with_reducible assumption); exact rfl; apply wl_skip; exact rfl; exact rfl; exact rfl; refine bFn ?_; (with_reducible assumption); exact rfl; apply wl_skip; exact rfl; exact rfl; exact rfl; refine bFn ?_; (with_reducible assumption); exact rfl; apply wl_skip; exact rfl; exact rfl; exact rfl; refine bFn ?_; (with_reducible assumption); exact rfl; apply wl_val; apply opv_pickF; exact rfl; refine bF ?_; (with_reducible assumption); exact rfl; exact rfl; apply wl_val; apply opv_fa; exact fa_sC (by decide); exact rfl; exact rfl
          refine wl_stA c1_bool a9 rfl (show 0 + 1 < 5 by decide) rfl rfl fun w4 a9 hG _ => ?_
          replace g1 := OwR.gr g1 hG (fun b' _ h _ => hbut b' h.2) (fun a ha => hbut _ (hP a ha))
          replace hb := hG.belowI hb (by omega) hb.size
          replace hbx2 := hG.belowI hbx2 hg9 hbx2.size
          refine wl_nil ?_
          refine we_cut _ ⟨.bool false, none, 0, rfl, a9, g1, Ow.nil _ _ _, ⟨by simp [vaC], by simp [vaC], by simp [vaC]⟩, by simp [vaB, vaC], fun v hv => ?_, hb, hbx2⟩ ⟨rfl, rfl, rfl, rfl, rfl, trivial⟩
          obtain rfl : r = [] := List.eq_nil_of_length_eq_zero (by omega)
          rw [ho, partK, if_neg (by decide), if_pos rfl] at hv
          simp at hv
      · apply wc_condFb; exact rfl; exact rfl; refine wc_sr ?_; refine wl_bin rfl rfl bin_eql rfl ?_; refine wl_as rfl rfl ?_; refine wl_ns ?_; apply wc_condTb; exact rfl; exact rfl; refine wc_sr ?_; refine wl_mv rfl rfl ?_
        refine wl_call ok_caissonref01_GetOrdU (refGetOrdU_any (p := ((1 : Nat) : Int)) (rx0 _ hbx2) rfl (by simp only [List.length_cons]; omega) (by omega)) ⟨rfl, rfl, trivial⟩ rfl ?_
        rintro _ w4 ⟨rfl, hbx⟩
        replace hb := hb.trans (hbx.mono hb.size)
        replace hbx2 := hbx2.trans (hbx.mono hbx2.size)
        replace g1 := OwR.below g1 hbx
        replace a9 := Ar.bel a9 hbx
        clear hbx
        have hgl := fun h => getOrdU_le (b := 2 :: r) (q := 1) h
        have hok := fun h => getOrdU_ok (b := 2 :: r) (q := 1) h
        have hgn := getOrdU_num (2 :: r) 1
        obtain ⟨g, hg⟩ : ∃ g, getOrdU (2 :: r) ((1 : Nat) : Int) = g := ⟨_, rfl⟩
        rw [hg] at hgl hok hgn ⊢
        simp only [List.length_cons] at hgl hok
        by_cases he : g.2.2 = 0
        case neg =>
          have he' : ¬ (g.2.2 : Int) = 0 := by omega
          have h8 : ¬ r.length = 8 := fun h => he (by rw [hok (by omega)])
          refine wl_mv rfl rfl ?_; apply wl_val; apply opv_extract; exact rfl; exact rfl; exact rfl; apply wl_val; apply opv_extract; exact rfl; exact rfl; exact rfl; apply wl_val; apply opv_extract; exact rfl; exact rfl; exact rfl; refine wl_as rfl rfl ?_; refine wl_as rfl rfl ?_; refine wl_as rfl rfl ?_; refine wl_ns ?_; refine wc_seq ?_; refine wc_sr ?_; refine wl_mv rfl rfl ?_; refine wl_bin rfl rfl bin_neq rfl ?_; refine wl_ns ?_; apply wc_decT; exact rfl; (with_reducible assumption); refine wc_sr ?_; refine wl_as rfl rfl ?_; refine wl_as rfl rfl ?_; refine wl_ns ?_; refine wc_ret ?_; refine we_seq_ret ?_; refine we_cut_ret ?_; refine we_block_ret ?_; refine we_seq_ret ?_; refine we_block_ret ?_; refine we_seq_ret ?_; refine we_loop_ret ?_; refine we_block_ret ?_; refine we_seq_ret ?_
          refine we_ret2 rfl rfl rfl (hret hb (hstop ?_))
          rw [ho, partK, if_neg (by decide), if_neg (by decide), if_pos rfl, if_neg h8]
        obtain ⟨hlen, hgv⟩ := hgl he
        have he' : (g.2.2 : Int) = 0 := by omega
        have e1 : g.1 = numB (r.take 8) := by rw [hgv]; rfl
        refine wl_mv rfl rfl ?_; apply wl_val; apply opv_extract; exact rfl; exact rfl; exact rfl; apply wl_val; apply opv_extract; exact rfl; exact rfl; exact rfl; apply wl_val; apply opv_extract; exact rfl; exact rfl; exact rfl; refine wl_as rfl rfl ?_; refine wl_as rfl rfl ?_; refine wl_as rfl rfl ?_; refine wl_ns ?_; refine wc_seq ?_; refine wc_sr ?_; refine wl_mv rfl rfl ?_; refine wl_bin rfl rfl bin_neq rfl ?_; refine wl_ns ?_; apply wc_decF; exact rfl; omega; refine wc_skip ?_; refine we_seq ?_; refine wc_region ?_; refine wl_mv rfl rfl ?_
        refine wl_val (opv_bin (b := .int .u64 (9223372036854775808 : Nat)) rfl rfl (bin_addU rfl)) rfl ?_
        refine wl_val (opv_convR rfl Try.underlying121 Try.underlying2 (r := drop63 g.1) ?_) rfl ?_
        · rw [IntKind.wrap_i64]; unfold drop63; simp only [IntKind.bits]; omega
        apply wl_val; apply opv_fa; exact fa_sC (by decide); exact rfl; exact rfl
        refine wl_stA c1_i64 a9 rfl (show 0 + 2 < 5 by decide) rfl rfl fun w4 a9 hG _ => ?_
        replace g1 := OwR.gr g1 hG (fun b' _ h _ => hbut b' h.2) (fun a ha => hbut _ (hP a ha))
        replace hb := hG.belowI hb (by omega) hb.size
        replace hbx2 := hG.belowI hbx2 hg9 hbx2.size
        refine wl_nil ?_
        refine we_cut _ ⟨.int (drop63 g.1), none, 0, rfl, a9, g1, Ow.nil _ _ _, ⟨drop63_lt hgn, by simp [vaC], by simp [vaC]⟩, by simp [vaB, vaC], fun v hv => ?_, hb, hbx2⟩ ⟨rfl, rfl, rfl, rfl, rfl, trivial⟩
        rw [ho, partK, if_neg (by decide), if_neg (by decide), if_pos rfl] at hv
        split at hv
        · cases hv; rw [e1, List.take_of_length_le (by omega)]
        · cases hv
      · apply wc_condFb; exact rfl; exact rfl; refine wc_sr ?_; refine wl_bin rfl rfl bin_eql rfl ?_; refine wl_as rfl rfl ?_; refine wl_ns ?_; apply wc_condFb; exact rfl; exact rfl; refine wc_sr ?_; refine wl_bin rfl rfl bin_eql rfl ?_; refine wl_as rfl rfl ?_; refine wl_ns ?_; apply wc_condTb; exact rfl; exact rfl; refine wc_region ?_; refine wl_mv rfl rfl ?_
        refine wl_sl (l := 1) (h := (3 :: r).length) tyB rfl ⟨_, rfl⟩ rfl (by simp) hcx rfl ?_
        rw [show (3 :: r).length - 1 = r.length by simp]
        have r2 := rcut _ hbx2
        refine wl_val (opv_ofBytes Try.underlying30 Try.underlying5 tyStr rfl (r2)) rfl ?_
        apply wl_val; apply opv_fa; exact fa_sC (by decide); exact rfl; exact rfl
        refine wl_stA c1_str a9 rfl (show 0 + 3 < 5 by decide) rfl rfl fun w4 a9 hG _ => ?_
        replace g1 := OwR.gr g1 hG (fun b' _ h _ => hbut b' h.2) (fun a ha => hbut _ (hP a ha))
        replace hb := hG.belowI hb (by omega) hb.size
        replace hbx2 := hG.belowI hbx2 hg9 hbx2.size
        refine wl_nil ?_
        refine we_cut _ ⟨.text r, none, 0, rfl, a9, g1, Ow.nil _ _ _, ⟨by simp [vaC], by simp [vaC]; omega, by simp [vaC]⟩, by simp [vaB, vaC]; omega, fun v hv => ?_, hb, hbx2⟩ ⟨rfl, rfl, rfl, rfl, rfl, trivial⟩
        rw [ho, partK, if_neg (by decide), if_neg (by decide), if_neg (by decide), if_pos rfl] at hv
        cases hv; rfl
      · apply wc_condFb; exact rfl; exact rfl; refine wc_sr ?_; refine wl_bin rfl rfl bin_eql rfl ?_; refine wl_as rfl rfl ?_; refine wl_ns ?_; apply wc_condFb; exact rfl; exact rfl; refine wc_sr ?_; refine wl_bin rfl rfl bin_eql rfl ?_; refine wl_as rfl rfl ?_; refine wl_ns ?_; apply wc_condFb; exact rfl; exact rfl; refine wc_sr ?_; refine wl_bin rfl rfl bin_eql rfl ?_; refine wl_as rfl rfl ?_; refine wl_ns ?_; apply wc_condTb; exact rfl; exact rfl; refine wc_region ?_; refine wl_mv rfl rfl ?_
        refine wl_sl (l := 1) (h := (4 :: r).length) tyB rfl ⟨_, rfl⟩ rfl (by simp) hcx rfl ?_
        rw [show (4 :: r).length - 1 = r.length by simp]
        have r2 := rcut _ hbx2
        have ha9 := a9.lt
        have hz := hbx2.size
        refine wl_call ok_caissonref01_Copy (copy_any r2 rfl (by omega)) ⟨rfl, trivial⟩ rfl ?_
        rintro _ w4 ⟨B, cB, rfl, o2, hbx⟩
        replace hb := hb.trans (hbx.mono hb.size)
        replace hbx2 := hbx2.trans (hbx.mono hbx2.size)
        replace g1 := OwR.below g1 hbx
        replace a9 := Ar.bel a9 hbx
        clear hbx
        apply wl_val; apply opv_fa; exact fa_sC (by decide); exact rfl; exact rfl
        refine wl_stA c1_by a9 rfl (show 0 + 4 < 5 by decide) rfl rfl fun w4 a9 hG _ => ?_
        replace g1 := OwR.gr g1 hG (fun b' _ h _ => hbut b' h.2) (fun a ha => hbut _ (hP a ha))
        replace hb := hG.belowI hb (by omega) hb.size
        replace hbx2 := hG.belowI hbx2 hg9 hbx2.size
        replace o2 := Ow.gr2 o2 hG (fun b hb => by cases hb; exact ha9)
        refine wl_nil ?_
        refine we_cut _ ⟨.bytes r, B, cB, rfl, a9, g1, Ow.mono o2 hz, ⟨by simp [vaC], by simp [vaC], by simp [vaC]; omega⟩, by simp [vaB, vaC]; omega, fun v hv => ?_, hb, hbx2⟩ ⟨rfl, rfl, rfl, rfl, rfl, trivial⟩
        rw [ho, partK, if_neg (by decide), if_neg (by decide), if_neg (by decide), if_neg (by decide), if_pos rfl] at hv
        cases hv; rfl
    · clear hb hbx2 g1 a9
      rintro _ w5 ⟨u, B, cB, rfl, a9, g1, o2, huok, hub, huv, hb, hbx2⟩
      refine we_block_norm ?_; refine we_seq ?_; refine wc_sr ?_; apply wl_val; apply opv_loadX; exact rfl; assumption; exact sC; exact rfl
      refine wl_bsG (css := [ceV (vaC u) B cB]) (S := All) (els := [ceEl (vaC u)]) tkC ⟨rfl, ⟨_, rfl, rfl⟩, rfl, trivial⟩ rfl (by decide) (by decide) (Grp.one ⟨B, cB, rfl, byEl.own o2 fun _ _ _ _ => trivial⟩ rfl) rfl fun E6 w6 g6 hbx _ => ?_
      replace g1 := OwR.below g1 hbx
      replace a9 := Ar.bel a9 hbx
      replace o2 := OwB.below o2 hbx
      replace hb := hb.trans (hbx.mono hb.size)
      replace hbx2 := hbx2.trans (hbx.mono hbx2.size)
      clear hbx
      refine wl_call ok_caissonref06_Encode (refEncode_any (us := [u]) (OwR.rd g6) rfl (fun v hv => by simp at hv; subst hv; exact huok) (by rw [sumB_cons]; simp [sumB]; omega)) ⟨rfl, trivial⟩ rfl ?_
      rintro _ w7 ⟨E7, e7, rfl, o7, hbx⟩
      replace g1 := OwR.below g1 hbx
      replace a9 := Ar.bel a9 hbx
      replace o2 := OwB.below o2 hbx
      replace hb := hb.trans (hbx.mono hb.size)
      replace hbx2 := hbx2.trans (hbx.mono hbx2.size)
      clear hbx g6
      have hpo := parts_one huok
      have hle := enc1_length u
      have hlen7 : (encV [u]).length ≤ 1099511627776 := by
        have h2 := framed_length [enc1 u] (fun r hr => by simp at hr; subst hr; omega)
        simp only [List.flatten_cons, List.flatten_nil, List.append_nil, List.length_cons, List.length_nil] at h2
        rw [encV, List.map_cons, List.map_nil]; omega
      refine wl_call ok_caissonref01_Parts (refParts_any o7.rd rfl o7.cap hlen7) ⟨rfl, trivial⟩ rfl ?_
      rintro _ w8 ⟨E8, e8, rfl, O8, hbx⟩
      rw [hpo] at O8 ⊢
      replace g1 := OwR.below g1 hbx
      replace a9 := Ar.bel a9 hbx
      replace o2 := OwB.below o2 hbx
      replace hb := hb.trans (hbx.mono hb.size)
      replace hbx2 := hbx2.trans (hbx.mono hbx2.size)
      clear hbx o7
      obtain ⟨vs8, X8, cx8, hv8, hvk8, rx8, hcx8⟩ := O8.rd.at (k := 0) rfl
      refine wl_mv rfl rfl ?_; apply wl_val; apply opv_extract; exact rfl; exact rfl; exact rfl; apply wl_val; apply opv_extract; exact rfl; exact rfl; exact rfl; refine wl_as rfl rfl ?_; refine wl_as rfl rfl ?_; refine wl_ns ?_; refine wc_seq ?_; refine wc_sr ?_; refine wl_mv rfl rfl ?_; apply wl_val; apply opv_len; exact rfl; exact tyBB.sl; exact rfl; refine wl_bin rfl rfl bin_neq rfl ?_; refine wl_mv rfl rfl ?_; apply wl_take; exact rfl; exact rfl; exact rfl; exact rfl; refine wl_mv rfl rfl ?_; apply wl_elTK (T := tyBB) (hr := hv8) (hb := hvk8); exact rfl; exact rfl; exact rfl; exact rfl; exact rfl; exact rfl; exact rfl; exact rfl; exact rfl; exact rfl; exact rfl; exact rfl; exact rfl; exact rfl; intro _; apply wl_take; exact rfl; exact rfl; exact rfl; exact rfl; refine wl_mv rfl rfl ?_; apply wl_take; exact rfl; exact rfl; exact rfl; exact rfl
      refine wl_call ok_caissonref01_Equal (equal_any rx8 (rx0 _ hbx2) rfl rfl (by omega)) ⟨rfl, rfl, trivial⟩ rfl ?_
      rintro _ w9 ⟨rfl, hbx⟩
      replace g1 := OwR.below g1 hbx
      replace a9 := Ar.bel a9 hbx
      replace o2 := OwB.below o2 hbx
      replace hb := hb.trans (hbx.mono hb.size)
      clear hbx hv8 rx8 O8
      by_cases hq : enc1 u = kk :: r
      case neg =>
        have hpn : partV (kk :: r) = none := by
          cases hpv : partV (kk :: r) with
          | none => rfl
          | some v => have := huv v hpv; subst this; exact absurd (enc_part hpv) hq
        rw [decide_eq_false hq]
        apply wl_take; exact rfl; exact rfl; exact rfl; exact rfl; apply wl_val; apply opv_not; exact rfl; exact rfl; apply wl_val; apply opv_pickF; exact rfl; exact rfl; exact rfl; exact rfl; refine wl_ns ?_; apply wc_condTb; exact rfl; exact Bool.not_false; refine wc_sr ?_; refine wl_as rfl rfl ?_; refine wl_as rfl rfl ?_; refine wl_ns ?_; refine wc_ret ?_; refine we_seq_ret ?_; refine we_block_ret ?_; refine we_seq_ret ?_; refine we_loop_ret ?_; refine we_block_ret ?_; refine we_seq_ret ?_
        exact we_ret2 rfl rfl rfl (hret hb (hstop hpn))
      have hpv := part_yes huok hq
      rw [decide_eq_true hq]
      replace g1 := OwR.mono g1 (Nat.le_refl _) (S' := fun b => wL.heap.size ≤ b) fun _ _ h => h.1
      apply wl_take; exact rfl; exact rfl; exact rfl; exact rfl; apply wl_val; apply opv_not; exact rfl; exact rfl; apply wl_val; apply opv_pickF; exact rfl; exact rfl; exact rfl; exact rfl; refine wl_ns ?_; apply wc_condFb; exact rfl; exact Bool.not_true; refine wc_skip ?_; refine we_seq ?_; refine wc_region ?_; refine wl_mv rfl rfl ?_; apply wl_val; apply opv_loadX; exact rfl; assumption; exact sC; exact rfl
      refine wl_pushG (css' := [ceV (vaC u) B cB]) (els' := [ceEl (vaC u)]) tkC (fun _ => rfl) g1 ((by simp)) ⟨rfl, ⟨_, rfl, (by first | rfl | exact cells_one (vaV_one _ _ _))⟩, rfl, trivial⟩ (Grp.one (⟨B, cB, rfl, byEl.own o2 fun a ha h1 h2 => ⟨by omega, fun p hp => by have := hP p hp; omega⟩⟩) rfl) rfl (by first | exact ceV_all _ _ _ | exact vaV_all _ _ _ | (simp [Value.oneCell'])) (by decide) (by decide) (by omega) (by simp only [maxLen]; omega) hb.size rfl rfl fun _ _ _ _ hO hG hA => ?_; replace hb := hG.belowR hb g1 (Nat.le_refl _) hb.size; replace g1 := hO; clear hO hG
      refine wl_as rfl rfl ?_; refine wl_nil ?_; refine we_block_norm ?_; refine we_seq ?_; refine wc_region ?_; refine wl_mv rfl rfl ?_; apply wl_val; apply opv_bin; exact rfl; exact rfl; exact bin_add64 (by omega); exact rfl; refine wl_as rfl rfl ?_; refine wl_nil ?_
      refine we_loop _ (ps.length - (k + 1)) ⟨k + 1, us ++ [u], _, _, rfl, by omega, by rw [take_getR hp]; exact decL_snoc _ _ _ _ hd hpv, by rw [List.map_append]; exact g1, hb, rfl⟩ (by omega) ⟨rfl, by rw [List.length_append]; rfl, by simp [lookT], trivial⟩
end Go.Proofs.Ytcjiecclmepboaa


/-
  The walk over CellCodes.
-/
namespace Go.Proofs.Ytcjiecclmepboaa
open Go.RowKit

theorem decV_sum (b : List UInt8) : sumB vaB (decV b).1 ≤ b.length := by
  unfold decV
  by_cases h1 : (parts b).2 = 0
  · rw [if_pos h1]
    cases hd : decL (parts b).1 with
    | none => simp [sumB]
    | some us =>
      have key : ∀ {ps : List (List UInt8)} {us : List Va}, decL ps = some us → sumB vaB us ≤ ps.flatten.length := by
        intro ps
        induction ps with
        | nil => intro us h; cases h; simp [sumB]
        | cons q ps ih =>
          intro us h
          simp only [decL] at h
          cases hq : partV q with
          | none => rw [hq] at h; cases h
          | some v =>
            rw [hq] at h
            cases hd : decL ps with
            | none => rw [hd] at h; cases h
            | some vs =>
              rw [hd] at h; cases h
              have h1 := ih hd
              have h2 := (partV_ok hq).2.2
              have e : vaB v = (vaC v).text.length + (vaC v).data.length := rfl
              rw [sumB_cons, List.flatten_cons, List.length_append]; omega
      have h1 := key hd
      have h2 := parts_size b
      simp only; omega
  · rw [if_neg h1]; simp [sumB]
theorem encV_length {us : List Va} (h : ∀ u ∈ us, VaOk u) : (encV us).length ≤ 20 * sumB vaB us := by
  have h1 := encs_flat us
  have h3 := sumB_len (bulk := vaB) us
  have h2 := framed_length (us.map enc1) (fun r hr => by
    obtain ⟨u, hu, rfl⟩ := List.mem_map.1 hr
    have a1 := enc1_length u
    have a2 := (h u hu).text
    have a3 := (h u hu).data
    have e : vaB u = (vaC u).text.length + (vaC u).data.length := rfl
    omega)
  rw [List.length_map] at h2
  rw [encV]; omega
set_option maxHeartbeats 4000000 in
theorem cellCodes_walk {A B : Option Addr} {n m c d : Nat} {l : List Ce} {b : List UInt8} {w : World} (hr : RdR 5 w All A (l.map ceEl)) (hn : l.length = n) (_hc : n ≤ c) (ho : ∀ x ∈ l, CeOk x) (hl : sumB ceB l ≤ 1048576)
    (r1 : RdB w B b) (hm : b.length = m) (hd : b.length ≤ d) (hlb : b.length ≤ 1048576) :
    CallsV Try.prog 11 #[.slice A n c, .slice B m d] w (RetTr w) := by
  have la : LOk l := ⟨ho, hl⟩
  have hna := la.len
  have hga := goodL_le l
  have hal := goodVs_length l
  subst hn hm
  have hb := Below.refl w.heap.size w
  have hmax : maxLen = 9223372036854775807 := rfl
  refine calls_in (N := _) Try.func11 rfl Try.ntmps11 rfl ?_; show WC _ _ _ _ _ _
  refine wc_sr ?_; refine wl_as rfl rfl ?_; refine wl_ns ?_; refine wc_sr ?_; refine wl_mv rfl rfl ?_
  refine wl_call ok_caissonlaw06_good (good_list hr rfl (fun x hx => by have := la.each hx; omega) (by omega)) ⟨rfl, trivial⟩ rfl ?_; rintro _ _ ⟨P1, p1, D1, d1, rfl, g1, g2, hbx⟩; replace hb := hb.trans (hbx.mono hb.size); clear hbx
  rw [goodL_ce] at g1
  rw [goodVs_map] at g2
  rw [← hal]
  obtain ⟨us, hus⟩ : ∃ us, goodVs l = us := ⟨_, rfl⟩
  have hvo := fun u hu => la.vaOk (u := u) hu
  have hsum := Nat.le_trans (sumB_sub l) hl
  rw [hus] at g1 g2 hal hvo hsum ⊢
  have hvd := fun u hu => (hvo u hu).data
  refine wl_mv rfl rfl ?_; apply wl_val; apply opv_extract; exact rfl; exact rfl; exact rfl; apply wl_val; apply opv_extract; exact rfl; exact rfl; exact rfl; apply wl_val; apply opv_extract; exact rfl; exact rfl; exact rfl; refine wl_as rfl rfl ?_; refine wl_as rfl rfl ?_; refine wl_as rfl rfl ?_; refine wl_ns ?_; refine wc_seq ?_; refine wc_sr ?_; refine wl_mv rfl rfl ?_; apply wl_val; apply opv_not; exact rfl; exact rfl; refine wl_mv rfl rfl ?_; apply wl_take; exact rfl; exact rfl; exact rfl; exact Bool.not_true
  refine wl_call ok_caissonlaw06_awake (awake6_any _) trivial rfl ?_; rintro _ _ ⟨rfl, hbx⟩; replace g1 := OwR.below g1 hbx; replace g2 := OwR.below g2 hbx; replace hb := hb.trans (hbx.mono hb.size); clear hbx
  apply wl_take; exact rfl; exact rfl; exact rfl; exact Bool.not_true; apply wl_val; apply opv_not; exact rfl; exact rfl; apply wl_val; apply opv_pickF; exact rfl; exact Bool.not_true; exact rfl; exact rfl; refine wl_ns ?_; apply wc_condFb; exact rfl; exact Bool.not_true; refine wc_skip ?_; refine we_seq ?_; refine wc_sr ?_; refine wl_mv rfl rfl ?_
  have t1 := OwR.rd g1
  clear g1
  refine wl_call ok_cell_Encode (encode_any (OwR.rd g2) rfl hvo (by omega)) ⟨rfl, trivial⟩ rfl ?_; rintro _ _ ⟨E1, e1, rfl, o1, hbx⟩; replace t1 := RdR.below t1 hbx; replace hb := hb.trans (hbx.mono hb.size); clear hbx
  clear g2
  have hel := encV_length hvo
  have hfk1 : (decV (encV us)).1 = us := by rw [decV_enc hvo]
  have hfk2 : (decV (encV us)).2 = 0 := by rw [decV_enc hvo]
  refine wl_mv rfl rfl ?_; apply wl_val; apply opv_extract; exact rfl; exact rfl; exact rfl; apply wl_val; apply opv_extract; exact rfl; exact rfl; exact rfl; refine wl_as rfl rfl ?_; refine wl_as rfl rfl ?_; refine wl_ns ?_; refine wc_sr ?_; refine wl_mv rfl rfl ?_
  refine wl_call ok_cell_Decode (decode_any o1.rd rfl o1.cap (by omega)) ⟨rfl, trivial⟩ rfl ?_
  rintro _ w3 ⟨B3, c3, rfl, g3, hbx⟩
  rw [hfk1] at g3 ⊢
  rw [hfk2]
  replace t1 := t1.below hbx
  replace o1 := OwB.below o1 hbx
  replace hb := hb.trans (hbx.mono hb.size)
  clear hbx
  refine wl_mv rfl rfl ?_; apply wl_val; apply opv_extract; exact rfl; exact rfl; exact rfl; apply wl_val; apply opv_extract; exact rfl; exact rfl; exact rfl; refine wl_as rfl rfl ?_; refine wl_as rfl rfl ?_; refine wl_ns ?_; refine wc_seq ?_; refine wc_sr ?_; refine wl_mv rfl rfl ?_; refine wl_bin rfl rfl bin_neq rfl ?_; refine wl_mv rfl rfl ?_; apply wl_take; exact rfl; exact rfl; exact rfl; refine bF ?_; (with_reducible exact nne); refine wl_mv rfl rfl ?_; apply wl_take; exact rfl; exact rfl; exact rfl; refine bF ?_; (with_reducible exact nne); refine wl_bin rfl rfl bin_neq rfl ?_; apply wl_val; apply opv_pickF; exact rfl; refine bF ?_; (with_reducible exact nne); exact rfl; exact rfl; refine wl_mv rfl rfl ?_; apply wl_take; exact rfl; exact rfl; exact rfl; refine bF ?_; omega; refine wl_mv rfl rfl ?_; apply wl_take; exact rfl; exact rfl; exact rfl; refine bF ?_; omega; refine wl_mv rfl rfl ?_; apply wl_take; exact rfl; exact rfl; exact rfl; refine bF ?_; omega
  refine wl_call ok_caissonref06_Encode (refEncode_any t1 rfl hvo (by omega)) ⟨rfl, trivial⟩ rfl ?_; rintro _ _ ⟨E4, e4, rfl, o4, hbx⟩; replace t1 := RdR.below t1 hbx; replace o1 := OwB.below o1 hbx; replace g3 := OwR.below g3 hbx; replace hb := hb.trans (hbx.mono hb.size); clear hbx
  apply wl_take; exact rfl; exact rfl; exact rfl; refine bF ?_; omega
  refine wl_call ok_caissonref01_Equal (equal_yes rfl o1.rd o4.rd rfl rfl (by omega)) ⟨rfl, rfl, trivial⟩ rfl ?_; rintro _ _ ⟨rfl, hbx⟩; replace t1 := RdR.below t1 hbx; replace g3 := OwR.below g3 hbx; replace hb := hb.trans (hbx.mono hb.size); clear hbx
  clear o1 o4
  apply wl_take; exact rfl; exact rfl; exact rfl; refine bF ?_; omega; apply wl_val; apply opv_not; exact rfl; exact rfl; apply wl_val; apply opv_pickF; exact rfl; refine bF ?_; omega; exact rfl; exact rfl; refine wl_mv rfl rfl ?_; apply wl_take; exact rfl; exact rfl; exact rfl; exact Bool.not_true; refine wl_mv rfl rfl ?_; apply wl_take; exact rfl; exact rfl; exact rfl; exact Bool.not_true
  refine wl_call ok_caissonlaw06_told (told_any (OwR.rd g3) rfl hvd (by omega)) ⟨rfl, trivial⟩ rfl ?_; rintro _ _ ⟨B5, c5, rfl, g5, hbx⟩; replace t1 := RdR.below t1 hbx; replace hb := hb.trans (hbx.mono hb.size); clear hbx
  clear g3
  apply wl_take; exact rfl; exact rfl; exact rfl; exact Bool.not_true; refine wl_mv rfl rfl ?_; apply wl_take; exact rfl; exact rfl; exact rfl; exact Bool.not_true
  refine wl_call ok_caissonref06_SameList (sameList_yes (OwR.rd g5) t1 rfl rfl hvd (by omega)) ⟨rfl, rfl, trivial⟩ rfl ?_; rintro _ _ ⟨rfl, hbx⟩; replace hb := hb.trans (hbx.mono hb.size); clear hbx
  clear g5 t1
  apply wl_take; exact rfl; exact rfl; exact rfl; exact Bool.not_true; apply wl_val; apply opv_not; exact rfl; exact rfl; apply wl_val; apply opv_pickF; exact rfl; exact Bool.not_true; exact rfl; exact rfl; refine wl_ns ?_; apply wc_condFb; exact rfl; exact Bool.not_true; refine wc_skip ?_; refine we_seq ?_; refine wc_sr ?_; refine wl_mv rfl rfl ?_
  refine wl_call ok_caissonref01_Copy (copy_any (r1.below hb) rfl (by omega)) ⟨rfl, trivial⟩ rfl ?_; rintro _ _ ⟨B6, c6, rfl, o6, hbx⟩; replace hb := hb.trans (hbx.mono hb.size); clear hbx
  refine wl_call ok_cell_Decode (decode_any o6.rd rfl o6.cap (by omega)) ⟨rfl, trivial⟩ rfl ?_
  rintro _ w7 ⟨B7, c7, rfl, g7, hbx⟩
  replace hb := hb.trans (hbx.mono hb.size)
  clear hbx o6
  refine wl_mv rfl rfl ?_; apply wl_val; apply opv_extract; exact rfl; exact rfl; exact rfl; apply wl_val; apply opv_extract; exact rfl; exact rfl; exact rfl; refine wl_as rfl rfl ?_; refine wl_as rfl rfl ?_; refine wl_ns ?_; refine wc_sr ?_; refine wl_mv rfl rfl ?_
  refine wl_call ok_caissonref06_Decode (refDecode_any (r1.below hb) rfl hd (by omega)) ⟨rfl, trivial⟩ rfl ?_
  rintro _ w8 ⟨B8, c8, rfl, g8, hbx⟩
  replace g7 := OwR.below g7 hbx
  replace hb := hb.trans (hbx.mono hb.size)
  clear hbx
  have hfl := decV_len b
  have hfo := fun u hu => (decV_ok (b := b) (u := u) (by omega) hu)
  have hfd := fun u hu => Nat.le_trans (show (vaC u).data.length ≤ b.length by have := (hfo u hu).2; omega) (by omega : b.length ≤ 68719476736)
  have hfs := decV_sum b
  have hench := fun h => enc_decV (b := b) h
  obtain ⟨vs, hvs⟩ : ∃ vs, (decV b).1 = vs := ⟨_, rfl⟩
  obtain ⟨er, her⟩ : ∃ er, (decV b).2 = er := ⟨_, rfl⟩
  rw [hvs] at g7 g8 hfl hfd hfo hench hfs ⊢
  rw [her] at hench ⊢
  have t7 := OwR.rd g7
  have t8 := OwR.rd g8
  clear g7 g8
  refine wl_mv rfl rfl ?_; apply wl_val; apply opv_extract; exact rfl; exact rfl; exact rfl; apply wl_val; apply opv_extract; exact rfl; exact rfl; exact rfl; refine wl_as rfl rfl ?_; refine wl_as rfl rfl ?_; refine wl_ns ?_; refine wc_seq ?_; refine wc_sr ?_; refine wl_mv rfl rfl ?_; refine wl_mv rfl rfl ?_; refine wl_bin rfl rfl bin_neq rfl ?_; refine wl_mv rfl rfl ?_; apply wl_take; exact rfl; exact rfl; exact rfl; refine bF ?_; (with_reducible exact nne); refine wl_mv rfl rfl ?_; apply wl_take; exact rfl; exact rfl; exact rfl; refine bF ?_; (with_reducible exact nne)
  refine wl_call ok_caissonlaw06_told (told_any t7 rfl hfd (by omega)) ⟨rfl, trivial⟩ rfl ?_; rintro _ _ ⟨B11, c11, rfl, g11, hbx⟩; replace t7 := RdR.below t7 hbx; replace t8 := RdR.below t8 hbx; replace hb := hb.trans (hbx.mono hb.size); clear hbx
  apply wl_take; exact rfl; exact rfl; exact rfl; refine bF ?_; (with_reducible exact nne); refine wl_mv rfl rfl ?_; apply wl_take; exact rfl; exact rfl; exact rfl; refine bF ?_; (with_reducible exact nne)
  refine wl_call ok_caissonref06_SameList (sameList_yes (OwR.rd g11) t8 rfl rfl hfd (by omega)) ⟨rfl, rfl, trivial⟩ rfl ?_; rintro _ _ ⟨rfl, hbx⟩; replace t7 := RdR.below t7 hbx; replace hb := hb.trans (hbx.mono hb.size); clear hbx
  apply wl_take; exact rfl; exact rfl; exact rfl; refine bF ?_; (with_reducible exact nne); apply wl_val; apply opv_not; exact rfl; exact rfl; apply wl_val; apply opv_pickF; exact rfl; refine bF ?_; (with_reducible exact nne); exact rfl; exact rfl; refine wl_ns ?_; apply wc_condFb; exact rfl; exact Bool.not_true; refine wc_skip ?_; refine we_seq ?_; refine wc_seq ?_; refine wc_sr ?_; refine wl_mv rfl rfl ?_; refine wl_bin rfl rfl bin_neq rfl ?_; refine wl_ns ?_
  by_cases he : er = 0
  · subst he
    apply wc_condFb; exact rfl; exact rfl; refine wc_skip ?_; refine we_seq ?_; refine wc_sr ?_; refine wl_mv rfl rfl ?_
    refine wl_call ok_cell_Encode (encode_any t7 rfl (fun u hu => (hfo u hu).1) (by omega)) ⟨rfl, trivial⟩ rfl ?_; rintro _ _ ⟨E12, e12, rfl, o12, hbx⟩; replace hb := hb.trans (hbx.mono hb.size); clear hbx
    rw [hench rfl] at o12 ⊢
    refine wl_mv rfl rfl ?_; apply wl_val; apply opv_extract; exact rfl; exact rfl; exact rfl; apply wl_val; apply opv_extract; exact rfl; exact rfl; exact rfl; refine wl_as rfl rfl ?_; refine wl_as rfl rfl ?_; refine wl_ns ?_; refine wc_sr ?_; refine wl_mv rfl rfl ?_; refine wl_bin rfl rfl bin_eql rfl ?_; refine wl_mv rfl rfl ?_; apply wl_take; exact rfl; exact rfl; exact rfl; refine bT ?_; (with_reducible rfl); refine wl_mv rfl rfl ?_; apply wl_take; exact rfl; exact rfl; exact rfl; refine bT ?_; (with_reducible rfl); refine wl_mv rfl rfl ?_; apply wl_take; exact rfl; exact rfl; exact rfl; refine bT ?_; (with_reducible rfl)
    refine wl_call ok_caissonref01_Equal (equal_yes rfl o12.rd (r1.below hb) rfl rfl (by omega)) ⟨rfl, rfl, trivial⟩ rfl ?_; rintro _ _ ⟨rfl, hbx⟩; replace hb := hb.trans (hbx.mono hb.size); clear hbx
    apply wl_val; apply opv_pickT; exact rfl; refine bT ?_; (with_reducible rfl); exact rfl; exact rfl; refine wl_as rfl rfl ?_; refine wl_ns ?_; refine wc_ret ?_
    exact we_ret1 rfl rfl ⟨_, rfl, rfl, hb⟩
  · have he' : ¬ (er : Int) = 0 := by omega
    apply wc_decT; exact rfl; (with_reducible assumption); refine wc_sr ?_; refine wl_as rfl rfl ?_; refine wl_ns ?_; refine wc_ret ?_; refine we_seq_ret ?_
    exact we_ret1 rfl rfl ⟨_, rfl, rfl, hb⟩
end Go.Proofs.Ytcjiecclmepboaa


/-
  Plain laws of the sum: what a step of the division does, that it keeps differences, and that no change within 32 bits of one another goes unseen. No program in sight.
-/
namespace Go.Proofs.Ytcjiecclmepboaa

def stepC (x : Nat) : Nat := if x % 2 = 1 then (x / 2) ^^^ 3988292384 else x / 2
def stepsC : Nat → Nat → Nat
  | 0, x => x
  | k + 1, x => stepsC k (stepC x)
def eightC (x : Nat) : Nat := stepsC 8 x
def crcRaw (x : Nat) (l : List UInt8) : Nat := l.foldl (fun x b => eightC (x ^^^ b.toNat)) x
def crcOf (l : List UInt8) : Nat := 4294967295 - crcRaw 4294967295 l

theorem stepC_odd {x : Nat} (h : x % 2 = 1) : stepC x = (x / 2) ^^^ 3988292384 := by rw [stepC, if_pos h]
theorem stepC_even {x : Nat} (h : ¬ x % 2 = 1) : stepC x = x / 2 := by rw [stepC, if_neg h]
theorem xor_div2 (a b : Nat) : (a ^^^ b) / 2 = a / 2 ^^^ b / 2 := by
  have := Nat.shiftRight_xor_distrib (a := a) (b := b) (i := 1)
  simpa [Nat.shiftRight_succ] using this
theorem xor_mod2 (a b : Nat) : (a ^^^ b) % 2 = (a + b) % 2 := by
  have h := Nat.testBit_xor a b 0
  simp only [Nat.testBit_zero] at h
  rcases Nat.mod_two_eq_zero_or_one a with ha | ha <;> rcases Nat.mod_two_eq_zero_or_one b with hb | hb <;> rcases Nat.mod_two_eq_zero_or_one (a ^^^ b) with hc | hc <;> simp [ha, hb, hc] at h <;> omega
theorem step_xor (a b : Nat) : stepC (a ^^^ b) = stepC a ^^^ stepC b := by
  have hm := xor_mod2 a b
  have hd := xor_div2 a b
  by_cases ha : a % 2 = 1
  · by_cases hb : b % 2 = 1
    · rw [stepC_even (by omega), stepC_odd ha, stepC_odd hb, hd]
      rw [Nat.xor_assoc, Nat.xor_comm 3988292384 (b / 2 ^^^ 3988292384), Nat.xor_assoc, Nat.xor_self, Nat.xor_zero]
    · rw [stepC_odd (by omega), stepC_odd ha, stepC_even hb, hd]
      rw [Nat.xor_assoc, Nat.xor_assoc, Nat.xor_comm (b / 2)]
  · by_cases hb : b % 2 = 1
    · rw [stepC_odd (by omega), stepC_even ha, stepC_odd hb, hd, Nat.xor_assoc]
    · rw [stepC_even (by omega), stepC_even ha, stepC_even hb, hd]
theorem steps_xor : ∀ (k a b : Nat), stepsC k (a ^^^ b) = stepsC k a ^^^ stepsC k b
  | 0, _, _ => rfl
  | k + 1, a, b => by simp only [stepsC]; rw [step_xor, steps_xor k]
theorem steps_add : ∀ (k m a : Nat), stepsC (k + m) a = stepsC m (stepsC k a)
  | 0, m, a => by rw [Nat.zero_add]; rfl
  | k + 1, m, a => by rw [show k + 1 + m = (k + m) + 1 by omega]; simp only [stepsC]; rw [steps_add k m]
theorem steps_zero : ∀ (k : Nat), stepsC k 0 = 0
  | 0 => rfl
  | k + 1 => by simp only [stepsC]; rw [show stepC 0 = 0 from rfl, steps_zero k]
theorem step_lt {x : Nat} (h : x < 4294967296) : stepC x < 4294967296 := by
  unfold stepC
  split
  · exact Nat.xor_lt_two_pow (n := 32) (by omega) (by decide)
  · omega
theorem steps_lt : ∀ (k : Nat) {x : Nat}, x < 4294967296 → stepsC k x < 4294967296
  | 0, _, h => h
  | k + 1, _, h => steps_lt k (step_lt h)
theorem steps_shift : ∀ (k m : Nat), stepsC k (m * 2 ^ k) = m
  | 0, m => by simp [stepsC]
  | k + 1, m => by
    have e : m * 2 ^ (k + 1) = 2 * (m * 2 ^ k) := by rw [Nat.pow_succ, ← Nat.mul_assoc, Nat.mul_comm]
    simp only [stepsC]
    rw [e, stepC_even (by omega), Nat.mul_div_cancel_left _ (by decide), steps_shift k]
theorem step_ne {x : Nat} (h : x < 4294967296) (h0 : x ≠ 0) : stepC x ≠ 0 := by
  intro hc
  by_cases ho : x % 2 = 1
  · rw [stepC_odd ho] at hc
    have e : x / 2 = 3988292384 := by
      have := congrArg (· ^^^ 3988292384) hc
      simpa [Nat.xor_assoc] using this
    omega
  · rw [stepC_even ho] at hc; omega
theorem steps_ne : ∀ (k : Nat) {x : Nat}, x < 4294967296 → x ≠ 0 → stepsC k x ≠ 0
  | 0, _, _, h => h
  | k + 1, _, h, h0 => steps_ne k (step_lt h) (step_ne h h0)
/-- A burst of 32 bits, wherever it begins, is never lost. -/
theorem burst_ne {n a d : Nat} (hd : d < 4294967296) (h0 : d ≠ 0) (ha : a ≤ n) : stepsC n (d * 2 ^ a) ≠ 0 := by
  obtain ⟨m, rfl⟩ := Nat.exists_eq_add_of_le ha
  rw [steps_add, steps_shift]
  exact steps_ne m hd h0
theorem xor_low (q r : Nat) (hr : r < 256) : q * 256 ^^^ r = q * 256 + r := by
  have h1 : (q * 256 ^^^ r) / 256 = q := by
    have := Nat.shiftRight_xor_distrib (a := q * 256) (b := r) (i := 8)
    simp only [Nat.shiftRight_eq_div_pow] at this
    rw [show (2 : Nat) ^ 8 = 256 from rfl, Nat.mul_div_cancel _ (by decide), Nat.div_eq_of_lt hr, Nat.xor_zero] at this
    exact this
  have h2 : (q * 256 ^^^ r) % 256 = r := by
    have := Nat.xor_mod_two_pow (a := q * 256) (b := r) (n := 8)
    rw [show (2 : Nat) ^ 8 = 256 from rfl, Nat.mul_mod_left, Nat.zero_xor, Nat.mod_eq_of_lt hr] at this
    exact this
  omega
theorem eight_high (q : Nat) : eightC (q * 256) = q := steps_shift 8 q
/-- A byte's entry does for it. -/
theorem eight_split (x : Nat) (b : UInt8) : eightC (x ^^^ b.toNat) = x / 256 ^^^ eightC (x % 256 ^^^ b.toNat) := by
  have e : x = x / 256 * 256 ^^^ x % 256 := by rw [xor_low _ _ (Nat.mod_lt _ (by decide))]; omega
  have e2 : eightC (x ^^^ b.toNat) = eightC (x / 256 * 256 ^^^ (x % 256 ^^^ b.toNat)) := by
    rw [← Nat.xor_assoc, ← e]
  rw [e2]
  unfold eightC
  rw [steps_xor]
  congr 1
  exact eight_high (x / 256)
theorem eight_lt {x : Nat} (h : x < 4294967296) : eightC x < 4294967296 := steps_lt 8 h
theorem xorb_lt {x : Nat} (h : x < 4294967296) (b : UInt8) : x ^^^ b.toNat < 4294967296 :=
  Nat.xor_lt_two_pow (n := 32) h (Nat.lt_trans b.toNat_lt (by decide))
theorem raw_cons (x : Nat) (b : UInt8) (l : List UInt8) : crcRaw x (b :: l) = crcRaw (eightC (x ^^^ b.toNat)) l := rfl
theorem raw_snoc (x : Nat) (b : UInt8) (l : List UInt8) : crcRaw x (l ++ [b]) = eightC (crcRaw x l ^^^ b.toNat) := by simp [crcRaw]
theorem raw_append (x : Nat) (l m : List UInt8) : crcRaw x (l ++ m) = crcRaw (crcRaw x l) m := by simp [crcRaw]
theorem raw_lt : ∀ (l : List UInt8) {x : Nat}, x < 4294967296 → crcRaw x l < 4294967296
  | [], _, h => h
  | b :: l, _, h => raw_lt l (eight_lt (xorb_lt h b))
theorem crcOf_lt (l : List UInt8) : crcOf l < 4294967296 := by unfold crcOf; omega

/-- Bytes as one number, the lowest first. -/
def low : List UInt8 → Nat
  | [] => 0
  | b :: l => low l * 256 + b.toNat
theorem raw_low : ∀ (l : List UInt8) (x : Nat), crcRaw x l = stepsC (8 * l.length) (x ^^^ low l)
  | [], x => by simp [crcRaw, low, stepsC]
  | b :: l, x => by
    have hb := b.toNat_lt
    rw [raw_cons, raw_low l, List.length_cons, show 8 * (l.length + 1) = 8 + 8 * l.length by omega, steps_add]
    congr 1
    rw [low, ← xor_low _ _ hb, Nat.xor_comm (low l * 256), ← Nat.xor_assoc, steps_xor]
    congr 1
    exact (eight_high _).symm
theorem raw_diff (x : Nat) {l m : List UInt8} (h : l.length = m.length) : crcRaw x l ^^^ crcRaw x m = stepsC (8 * l.length) (low l ^^^ low m) := by
  rw [raw_low, raw_low, ← h, ← steps_xor]
  congr 1
  rw [Nat.xor_comm x (low l), Nat.xor_assoc, ← Nat.xor_assoc x x, Nat.xor_self, Nat.zero_xor]
theorem low_set : ∀ (l : List UInt8) (i j : Nat) (x : UInt8), l[i]? = some x → j < 8 → low (l.set i (UInt8.ofNat (x.toNat ^^^ 2 ^ j))) = low l ^^^ 2 ^ (8 * i + j)
  | [], _, _, _, h, _ => by simp at h
  | b :: l, 0, j, x, h, hj => by
    simp only [List.getElem?_cons_zero, Option.some.injEq] at h
    subst h
    have hp : 2 ^ j < 256 := Nat.lt_of_lt_of_le (Nat.pow_lt_pow_right (by decide) hj) (by decide)
    have hx : b.toNat ^^^ 2 ^ j < 256 := Nat.xor_lt_two_pow (n := 8) b.toNat_lt hp
    simp only [List.set_cons_zero, low]
    have ex : (UInt8.ofNat (b.toNat ^^^ 2 ^ j)).toNat = b.toNat ^^^ 2 ^ j := by rw [UInt8.toNat_ofNat']; exact Nat.mod_eq_of_lt hx
    rw [ex, ← xor_low _ _ hx, ← xor_low _ _ b.toNat_lt, Nat.xor_assoc]
    simp
  | b :: l, i + 1, j, x, h, hj => by
    simp only [List.getElem?_cons_succ] at h
    simp only [List.set_cons_succ, low]
    rw [low_set l i j x h hj, ← xor_low _ _ b.toNat_lt, ← xor_low _ _ b.toNat_lt]
    have e : (low l ^^^ 2 ^ (8 * i + j)) * 256 = low l * 256 ^^^ 2 ^ (8 * (i + 1) + j) := by
      have h1 : ∀ a b : Nat, (a ^^^ b) * 256 = a * 256 ^^^ b * 256 := fun a b => by
        have := Nat.shiftLeft_xor_distrib (a := a) (b := b) (i := 8)
        simpa only [Nat.shiftLeft_eq] using this
      rw [h1, show 8 * (i + 1) + j = (8 * i + j) + 8 by omega, Nat.pow_add 2 (8 * i + j) 8]
    rw [e, Nat.xor_assoc, Nat.xor_comm (2 ^ (8 * (i + 1) + j)), ← Nat.xor_assoc]
end Go.Proofs.Ytcjiecclmepboaa


/-
  Walks over the sum's steps, its table and its bitwise answer.
-/
namespace Go.Proofs.Ytcjiecclmepboaa
open Go.RowKit

theorem fill_upV {α : Type} {l : List α} {z x : α} {k m : Nat} (h : l[k]? = some x) : (l.take k ++ List.replicate (m + 1) z).set k x = l.take (k + 1) ++ List.replicate m z := by
  have hk := (List.getElem?_eq_some_iff.1 h).1
  have e : (l.take k).length = k := by simp; omega
  rw [List.set_append_right _ _ (by omega), e, Nat.sub_self, List.replicate_succ, List.set_cons_zero, List.take_add_one, h]
  simp

/-- The table's cells. -/
def tabC : List Value := (List.range 256).map fun i => .int .u32 (eightC i : Nat)
theorem tabC_length : tabC.length = 256 := by simp [tabC]
theorem tabC_get {k : Nat} (h : k < 256) : tabC[k]? = some (.int .u32 (eightC k : Nat)) := by
  rw [tabC, List.getElem?_map, List.getElem?_range h]; rfl
theorem tabC_one : ∀ v ∈ tabC, v.oneCell' = true := by
  intro v hv
  simp only [tabC, List.mem_map] at hv
  obtain ⟨_, _, rfl⟩ := hv; rfl
theorem tyU : Cell1 Try.prog 153 := ⟨by kernel_rfl, by rw [Try.underlying153]⟩
end Go.Proofs.Ytcjiecclmepboaa


/-
  Walks over the fixed fact of layer 1's statements, and over the law CodecNumbers.
-/
namespace Go.Proofs.Ytcjiecclmepboaa
open Go.RowKit

/-- A call that answers true and changes nothing that was there. -/
def RetTrue (w : World) (v : Value) (w' : World) : Prop := v = .bool true ∧ Below w.heap.size w w'

theorem putU_300 : putU 300 = [172, 2] := by simp [putU]
end Go.Proofs.Ytcjiecclmepboaa


/-
  Walks over the sum of the program and of the reference, and over what the statements use.
-/
namespace Go.Proofs.Ytcjiecclmepboaa
open Go.RowKit

theorem xor_ones {n x : Nat} (hx : x < 2 ^ n) : (2 ^ n - 1) ^^^ x = 2 ^ n - 1 - x := by
  apply Nat.eq_of_testBit_eq
  intro i
  rw [Nat.testBit_xor, Nat.testBit_two_pow_sub_one, show 2 ^ n - 1 - x = 2 ^ n - (x + 1) by omega, Nat.testBit_two_pow_sub_succ hx]
  by_cases h : i < n
  · simp [h]
  · have : x.testBit i = false := Nat.testBit_lt_two_pow (Nat.lt_of_lt_of_le hx (Nat.pow_le_pow_right (by decide) (by omega)))
    simp [h, this]
theorem opv_com {P : Program} {L : FL} {w : World} {x : Operand} {t ty : TypeId} {n : Nat} (hx : look L x = some (.int .u32 (n : Int))) (hn : n < 4294967296) : OpV P (.unOp .xor t x) ty L w (.int .u32 ((4294967295 - n : Nat) : Int)) w := fun ρ o hρ ho _ => by
  have h := (bin_xor (P := P) (t := t) (k := .u32) (a := 4294967295) (b := n) rfl (by decide) hn).run x x w
  have e := xor_ones (n := 32) hn
  simp only [eqGuard, binOp] at h
  rw [show (4294967295 ^^^ n) = 4294967295 - n from e] at h
  have hm : (if IntKind.u32.signed = true then (-1 : Int) else IntKind.u32.max) = (4294967295 : Int) := rfl
  unfold execOp
  simp only [ho, hρ x _ hx, Op.unary, hm, Sem.run_bind]
  simp at h
  rw [h]; simp

end Go.Proofs.Ytcjiecclmepboaa


/-
  The fixed fact of layer 3's statements, and the walk over the law CrcSums.
-/
namespace Go.Proofs.Ytcjiecclmepboaa
open Go.RowKit

theorem RdBB.one {w : World} {A A1 : Option Addr} {c1 : Nat} {r : List UInt8} (h : Rd w A 1 [.slice A1 r.length c1]) (h1 : RdB w A1 r) (hc : r.length ≤ c1) : RdBB w A [r] :=
  ⟨_, h, fun i q hi => by
    cases i with
    | zero => simp only [List.getElem?_cons_zero, Option.some.injEq] at hi; subst hi; exact ⟨A1, c1, rfl, h1, hc⟩
    | succ i => simp at hi⟩
theorem RdBB.two {w : World} {A A1 A2 : Option Addr} {c1 c2 : Nat} {r s : List UInt8} (h : Rd w A 2 [.slice A1 r.length c1, .slice A2 s.length c2]) (h1 : RdB w A1 r) (hc : r.length ≤ c1) (h2 : RdB w A2 s) (hc2 : s.length ≤ c2) : RdBB w A [r, s] :=
  ⟨_, h, fun i q hi => by
    cases i with
    | zero => simp only [List.getElem?_cons_zero, Option.some.injEq] at hi; subst hi; exact ⟨A1, c1, rfl, h1, hc⟩
    | succ i => cases i with
      | zero => simp only [List.getElem?_cons_succ, List.getElem?_cons_zero, Option.some.injEq] at hi; subst hi; exact ⟨A2, c2, rfl, h2, hc2⟩
      | succ i => simp at hi⟩
theorem RdBB.three {w : World} {A A1 A2 A3 : Option Addr} {c1 c2 c3 : Nat} {r s t : List UInt8} (h : Rd w A 3 [.slice A1 r.length c1, .slice A2 s.length c2, .slice A3 t.length c3]) (h1 : RdB w A1 r) (hc : r.length ≤ c1) (h2 : RdB w A2 s) (hc2 : s.length ≤ c2) (h3 : RdB w A3 t) (hc3 : t.length ≤ c3) : RdBB w A [r, s, t] :=
  ⟨_, h, fun i q hi => by
    cases i with
    | zero => simp only [List.getElem?_cons_zero, Option.some.injEq] at hi; subst hi; exact ⟨A1, c1, rfl, h1, hc⟩
    | succ i => cases i with
      | zero => simp only [List.getElem?_cons_succ, List.getElem?_cons_zero, Option.some.injEq] at hi; subst hi; exact ⟨A2, c2, rfl, h2, hc2⟩
      | succ i => cases i with
        | zero => simp only [List.getElem?_cons_succ, List.getElem?_cons_zero, Option.some.injEq] at hi; subst hi; exact ⟨A3, c3, rfl, h3, hc3⟩
        | succ i => simp at hi⟩
theorem cell_freeze (w : World) (a : Addr) (n : Nat) (x : Addr) : (w.freeze a n).cell? x = w.cell? x := by
  unfold World.freeze
  split
  · rfl
  · simp only [World.cell?, Array.getElem?_modify]
    by_cases h : a.block = x.block
    · rw [if_pos h]
      cases w.heap[x.block]? with
      | none => rfl
      | some o => cases o <;> rfl
    · rw [if_neg h]
theorem below_freeze {B : Nat} (w : World) (a : Addr) (n : Nat) (h : B ≤ a.block) : Below B w (w.freeze a n) := by
  unfold World.freeze
  split
  · exact Below.refl _ _
  · refine ⟨rfl, rfl, rfl, by simp, fun j hj => ?_⟩
    simp only [Array.getElem?_modify]
    rw [if_neg (by omega)]
/-- The bytes of a constant string as a slice: its block is marked. -/
theorem wl_frz {P : Program} {N : Nat} {ops : Array Oper} {Q : Exit → Act → World → Prop} {rest : List Oper} {L : FL} {w : World} {d : Nat} {x : Operand} {t e ty : TypeId} {pos : String} {aft : Array Edge} {A : Option Addr} {n c : Nat} {xs : List Value}
    (hx : look L x = some (.slice A n c)) (ht : P.underlying t = some (.slice e)) (he : P.underlying e = some (.int .u8)) (hr : Rd w A n xs) (hn : 0 < n) (hd : Nat.blt d N = true)
    (h : ∀ w', Rd w' A n xs → (∀ B a, A = some a → B ≤ a.block → Below B w w') → w'.heap.size = w.heap.size → WL P N ops Q rest ((d, .slice A n c) :: L) w') :
    WL P N ops Q (⟨some d, .convert t t x, ty, pos, aft, none⟩ :: rest) L w := by
  obtain ⟨b, o, rfl, hb, hc⟩ := hr.2 hn
  have hlen : 0 < xs.length := by rw [hr.1]; exact hn
  have h0 := hc 0 xs[0] (List.getElem?_eq_getElem hlen)
  obtain ⟨k, hk⟩ : ∃ k, w.shape? b = some k := by
    unfold World.cell? at h0
    unfold World.shape?
    simp only at h0
    cases hh : w.heap[b]? with
    | none => rw [hh] at h0; cases h0
    | some ob => cases ob <;> first | exact ⟨_, rfl⟩ | (rw [hh] at h0; cases h0)
  refine wl_val (v := .slice (some ⟨b, o, none⟩) n c) (w' := w.freeze ⟨b, k.2, none⟩ 1) (fun ρ op hρ ho _ => ?_) hd (h _ ⟨hr.1, fun _ => ⟨b, o, rfl, ?_, fun j u hu => by rw [cell_freeze]; exact hc j u hu⟩⟩ (fun B a ha hB => ?_) ?_)
  · unfold execOp
    simp only [ho, hρ x _ hx, convert, Sem.run_bind, run_underlying ht, Result.andThen_ok]
    simp [run_underlying he, markStringish, hk]
  · unfold World.freeze; simp; exact hb
  · cases ha; exact below_freeze _ _ _ hB
  · unfold World.freeze; simp
theorem crc_fact : crcOf [49, 50, 51, 52, 53, 54, 55, 56, 57] = 3421780262 := by decide +kernel
end Go.Proofs.Ytcjiecclmepboaa


/-
  Plain laws of sealed records. No program in sight.
-/
namespace Go.Proofs.Ytcjiecclmepboaa

/-- Four bytes, the greatest first. -/
def four (n : Nat) : List UInt8 := ordK 4 n
theorem four_length (n : Nat) : (four n).length = 4 := ordK_length 4 n
theorem ordU_four (n : Nat) : (ordU n).drop 4 = four n := by
  have e : ordU n = ordK 4 (n / 256 / 256 / 256 / 256) ++ four n := by
    show ordK 8 n = _
    simp [ordK, four]
  rw [e, List.drop_append_of_le_length (by rw [ordK_length]; omega), List.drop_of_length_le (by rw [ordK_length]; omega)]
  rfl
theorem four_list (n : Nat) : four n = [UInt8.ofNat (n / 16777216), UInt8.ofNat (n / 65536), UInt8.ofNat (n / 256), UInt8.ofNat n] := by
  simp [four, ordK, Nat.div_div_eq_div_mul]
theorem numB_four {n : Nat} (h : n < 4294967296) : numB (four n) = n := by
  rw [four, numB_ordK]; exact Nat.mod_eq_of_lt h
theorem four_numB {l : List UInt8} (h : l.length = 4) : four (numB l) = l := ordK_numB 4 l h
theorem numB_lt4 {l : List UInt8} (h : l.length = 4) : numB l < 4294967296 := by
  have := numB_lt l; rw [h] at this; exact this

def crcRec (b : List UInt8) : List UInt8 := four b.length ++ (four (crcOf (four b.length ++ b)) ++ b)
theorem crcRec_length (b : List UInt8) : (crcRec b).length = 8 + b.length := by simp [crcRec, four_length]; omega
def sealB (b : List UInt8) : List UInt8 × Nat := if 1048576 < b.length then ([], 2) else (crcRec b, 0)
/-- What is sealed at the head of a list: the body, and the error. -/
def openH (y : List UInt8) : List UInt8 × Nat :=
  if y.length < 8 then ([], 5)
  else if 1048576 < numB (y.take 4) then ([], 2)
  else if y.length < 8 + numB (y.take 4) then ([], 5)
  else if crcOf (y.take 4 ++ (y.take (8 + numB (y.take 4))).drop 8) = numB ((y.drop 4).take 4) then ((y.take (8 + numB (y.take 4))).drop 8, 0) else ([], 4)
/-- At a place: the body, what stands behind it, and the error. -/
def openB (xs : List UInt8) (p : Int) : List UInt8 × Nat × Nat :=
  if p < 0 ∨ (xs.length : Int) < p then ([], 0, 1)
  else if (openH (xs.drop p.toNat)).2 = 0 then ((openH (xs.drop p.toNat)).1, p.toNat + 8 + (openH (xs.drop p.toNat)).1.length, 0)
  else ([], 0, (openH (xs.drop p.toNat)).2)
theorem openH_short {y : List UInt8} (h : y.length < 8) : openH y = ([], 5) := by rw [openH, if_pos h]
theorem openH_size {y : List UInt8} (h : ¬ y.length < 8) (h2 : 1048576 < numB (y.take 4)) : openH y = ([], 2) := by rw [openH, if_neg h, if_pos h2]
theorem openH_end {y : List UInt8} (h : ¬ y.length < 8) (h2 : ¬ 1048576 < numB (y.take 4)) (h3 : y.length < 8 + numB (y.take 4)) : openH y = ([], 5) := by rw [openH, if_neg h, if_neg h2, if_pos h3]
theorem openH_sum {y : List UInt8} (h : ¬ y.length < 8) (h2 : ¬ 1048576 < numB (y.take 4)) (h3 : ¬ y.length < 8 + numB (y.take 4)) (h4 : ¬ crcOf (y.take 4 ++ (y.take (8 + numB (y.take 4))).drop 8) = numB ((y.drop 4).take 4)) : openH y = ([], 4) := by
  rw [openH, if_neg h, if_neg h2, if_neg h3, if_neg h4]
theorem openH_ok {y : List UInt8} (h : ¬ y.length < 8) (h2 : ¬ 1048576 < numB (y.take 4)) (h3 : ¬ y.length < 8 + numB (y.take 4)) (h4 : crcOf (y.take 4 ++ (y.take (8 + numB (y.take 4))).drop 8) = numB ((y.drop 4).take 4)) : openH y = ((y.take (8 + numB (y.take 4))).drop 8, 0) := by
  rw [openH, if_neg h, if_neg h2, if_neg h3, if_pos h4]
theorem openB_arg {xs : List UInt8} {p : Int} (h : ¬ (0 ≤ p ∧ p ≤ xs.length)) : openB xs p = ([], 0, 1) := by rw [openB, if_pos (by omega)]
theorem openB_at {xs : List UInt8} {q : Nat} (h : q ≤ xs.length) {r : List UInt8} {e : Nat} (ho : openH (xs.drop q) = (r, e)) : openB xs q = if e = 0 then (r, q + 8 + r.length, 0) else ([], 0, e) := by
  rw [openB, if_neg (by omega), Int.toNat_natCast, ho]
theorem openB_ok {xs : List UInt8} {q : Nat} (h : q ≤ xs.length) {r : List UInt8} (ho : openH (xs.drop q) = (r, 0)) : openB xs q = (r, q + 8 + r.length, 0) := by rw [openB_at h ho, if_pos rfl]
theorem openB_err {xs : List UInt8} {q : Nat} (h : q ≤ xs.length) {r : List UInt8} {e : Nat} (ho : openH (xs.drop q) = (r, e)) (he : ¬ e = 0) : openB xs q = ([], 0, e) := by rw [openB_at h ho, if_neg he]
theorem openH_len {y r : List UInt8} (h : openH y = (r, 0)) : 8 + r.length ≤ y.length ∧ r.length ≤ 1048576 := by
  unfold openH at h
  split at h
  · simp at h
  · split at h
    · simp at h
    · split at h
      · simp at h
      · split at h
        · simp only [Prod.mk.injEq, and_true] at h
          subst h
          simp; omega
        · simp at h
theorem openB_inv {xs r : List UInt8} {q x : Nat} (hq : q ≤ xs.length) (h : openB xs q = (r, x, 0)) : x = q + 8 + r.length ∧ x ≤ xs.length ∧ r.length ≤ 1048576 := by
  obtain ⟨s, e, ho⟩ : ∃ s e, openH (xs.drop q) = (s, e) := ⟨_, _, rfl⟩
  rw [openB_at hq ho] at h
  split at h
  · rename_i he
    subst he
    simp only [Prod.mk.injEq, and_true] at h
    obtain ⟨rfl, rfl⟩ := h
    have := openH_len ho
    rw [List.length_drop] at this
    omega
  · simp only [Prod.mk.injEq] at h
    omega
theorem openB_err' {xs r : List UInt8} {p : Int} {x e : Nat} (h : openB xs p = (r, x, e)) (he : ¬ e = 0) : r = [] ∧ x = 0 := by
  unfold openB at h
  split at h
  · simp only [Prod.mk.injEq] at h; exact ⟨h.1.symm, h.2.1.symm⟩
  · split at h
    · simp only [Prod.mk.injEq] at h; omega
    · simp only [Prod.mk.injEq] at h; exact ⟨h.1.symm, h.2.1.symm⟩
/-- What is sealed opens to what it was. -/
theorem openH_rec {b : List UInt8} (h : b.length ≤ 1048576) (rest : List UInt8) : openH (crcRec b ++ rest) = (b, 0) := by
  have e1 : (crcRec b ++ rest).take 4 = four b.length := by
    unfold crcRec; rw [List.append_assoc, List.take_append_of_le_length (by rw [four_length]; omega), List.take_of_length_le (by rw [four_length]; omega)]
  have e2 : numB ((crcRec b ++ rest).take 4) = b.length := by rw [e1, numB_four (by omega)]
  have e3 : ((crcRec b ++ rest).drop 4).take 4 = four (crcOf (four b.length ++ b)) := by
    unfold crcRec
    rw [List.append_assoc, List.drop_append_of_le_length (by rw [four_length]; omega), List.drop_of_length_le (by rw [four_length]; omega), List.nil_append, List.append_assoc,
      List.take_append_of_le_length (by rw [four_length]; omega), List.take_of_length_le (by rw [four_length]; omega)]
  have e4 : ((crcRec b ++ rest).take (8 + b.length)).drop 8 = b := by
    rw [List.take_append_of_le_length (by rw [crcRec_length]; omega), List.take_of_length_le (by rw [crcRec_length]; omega)]
    unfold crcRec
    rw [← List.append_assoc, List.drop_append_of_le_length (by simp [four_length]), List.drop_of_length_le (by simp [four_length]), List.nil_append]
  have hl : (crcRec b ++ rest).length = 8 + b.length + rest.length := by rw [List.length_append, crcRec_length]
  rw [openH_ok (by omega) (by omega) (by omega) (by rw [e2, e3, e4, e1, numB_four (crcOf_lt _)]), e2, e4]
theorem openB_rec {b : List UInt8} (h : b.length ≤ 1048576) : openB (crcRec b) 0 = (b, (crcRec b).length, 0) := by
  have := openH_rec h []
  rw [List.append_nil] at this
  have := openB_ok (q := 0) (xs := crcRec b) (by omega) this
  rw [crcRec_length]
  simpa using this
/-- The reference's test: a record is what would be sealed of its body. -/
theorem rec_iff {y : List UInt8} (h : ¬ y.length < 8) (h3 : ¬ y.length < 8 + numB (y.take 4)) :
    (crcRec ((y.take (8 + numB (y.take 4))).drop 8) = y.take (8 + numB (y.take 4))) = (crcOf (y.take 4 ++ (y.take (8 + numB (y.take 4))).drop 8) = numB ((y.drop 4).take 4)) := by
  obtain ⟨n, hn⟩ : ∃ n, numB (y.take 4) = n := ⟨_, rfl⟩
  rw [hn] at h3 ⊢
  have hl : ((y.take (8 + n)).drop 8).length = n := by simp; omega
  have h4 : (y.take 4).length = 4 := by simp; omega
  have e4 : four n = y.take 4 := by rw [← hn, four_numB h4]
  have es : y.take (8 + n) = y.take 4 ++ ((y.drop 4).take 4 ++ (y.take (8 + n)).drop 8) := by
    have a1 : y.take (8 + n) = (y.take (8 + n)).take 4 ++ ((y.take (8 + n)).drop 4) := (List.take_append_drop 4 _).symm
    have a2 : (y.take (8 + n)).drop 4 = ((y.take (8 + n)).drop 4).take 4 ++ ((y.take (8 + n)).drop 4).drop 4 := (List.take_append_drop 4 _).symm
    rw [List.drop_drop] at a2
    rw [a2] at a1
    rw [List.take_take, Nat.min_eq_left (by omega)] at a1
    rw [show ((y.take (8 + n)).drop 4).take 4 = (y.drop 4).take 4 by rw [List.drop_take, List.take_take, Nat.min_eq_left (by omega)]] at a1
    exact a1
  unfold crcRec
  rw [hl, e4]
  apply propext
  constructor
  · intro h
    rw [es] at h
    have h1 := (List.append_inj h rfl).2
    have h2 := (List.append_inj h1 (by simp [four_length]; omega)).1
    have := congrArg numB h2
    rw [← es] at this
    rw [numB_four (crcOf_lt _)] at this
    exact this
  · intro h
    rw [h, four_numB (by simp; omega)]
    exact es.symm

/-- All records, up to the first that doesn't open. -/
def openAllF : Nat → List UInt8 → Nat → List (List UInt8) → List (List UInt8) × Nat
  | 0, _, q, out => (out, q)
  | f + 1, b, q, out =>
    if b.length ≤ q then (out, q)
    else if (openB b q).2.2 = 0 then openAllF f b (openB b q).2.1 (out ++ [(openB b q).1])
    else (out, q)
def openAll (b : List UInt8) : List (List UInt8) × Nat := openAllF b.length b 0 []
theorem openAllF_end {f : Nat} {b : List UInt8} {q : Nat} {out : List (List UInt8)} (h : b.length ≤ q) : openAllF f b q out = (out, q) := by
  cases f with
  | zero => rfl
  | succ f => rw [openAllF, if_pos h]
theorem openAllF_err {f : Nat} {b r : List UInt8} {q x e : Nat} {out : List (List UInt8)} (hu : openB b q = (r, x, e)) (he : ¬ e = 0) : openAllF f b q out = (out, q) := by
  cases f with
  | zero => rfl
  | succ f =>
    by_cases h : b.length ≤ q
    · exact openAllF_end h
    · rw [openAllF, if_neg h, hu, if_neg he]
theorem openAllF_step {f : Nat} {b r : List UInt8} {q x : Nat} {out : List (List UInt8)} (h : ¬ b.length ≤ q) (hu : openB b q = (r, x, 0)) : openAllF (f + 1) b q out = openAllF f b x (out ++ [r]) := by
  rw [openAllF, if_neg h, hu, if_pos rfl]
theorem openAllF_size : ∀ (f : Nat) (b : List UInt8) (q : Nat) (out : List (List UInt8)), q ≤ b.length → out.length * 8 + out.flatten.length ≤ q → (openAllF f b q out).2 ≤ b.length ∧ (openAllF f b q out).1.length * 8 + (openAllF f b q out).1.flatten.length ≤ b.length
  | 0, b, q, out, hq, h => by simp only [openAllF]; omega
  | f + 1, b, q, out, hq, h => by
    by_cases h1 : b.length ≤ q
    · rw [openAllF_end h1]; exact ⟨hq, Nat.le_trans h hq⟩
    · obtain ⟨r, x, e, hu⟩ : ∃ r x e, openB b q = (r, x, e) := ⟨_, _, _, rfl⟩
      by_cases he : e = 0
      · subst he
        obtain ⟨h2, h3, _⟩ := openB_inv hq hu
        rw [openAllF_step h1 hu]
        refine openAllF_size f b _ _ h3 ?_
        simp only [List.flatten_append, List.flatten_cons, List.flatten_nil, List.length_append, List.length_cons, List.length_nil]
        omega
      · rw [openAllF_err hu he]; exact ⟨hq, Nat.le_trans h hq⟩
end Go.Proofs.Ytcjiecclmepboaa


/-
  Walks over the opening of sealed records, of the program and of the reference.
-/
namespace Go.Proofs.Ytcjiecclmepboaa
open Go.RowKit

theorem or_add {x y i : Nat} (h : y < 2 ^ i) : x * 2 ^ i ||| y = x * 2 ^ i + y := by
  have := Nat.shiftLeft_add_eq_or_of_lt h x
  rw [Nat.shiftLeft_eq] at this
  exact this.symm
theorem or4 {a b c d : Nat} (hb : b < 256) (hc : c < 256) (hd : d < 256) : a * 2 ^ 24 ||| b * 2 ^ 16 ||| c * 2 ^ 8 ||| d = ((a * 256 + b) * 256 + c) * 256 + d := by
  rw [or_add (show b * 2 ^ 16 < 2 ^ 24 by omega), show a * 2 ^ 24 + b * 2 ^ 16 = (a * 256 + b) * 2 ^ 16 by omega, or_add (show c * 2 ^ 8 < 2 ^ 16 by omega), show (a * 256 + b) * 2 ^ 16 + c * 2 ^ 8 = ((a * 256 + b) * 256 + c) * 2 ^ 8 by omega, or_add (show d < 2 ^ 8 by omega)]
theorem openB_errY {xs y : List UInt8} {q : Nat} (h : q ≤ xs.length) (hy : xs.drop q = y) {r : List UInt8} {e : Nat} (ho : openH y = (r, e)) (he : ¬ e = 0) : openB xs q = ([], 0, e) := openB_err h (hy.symm ▸ ho) he
theorem openB_okY {xs y : List UInt8} {q : Nat} (h : q ≤ xs.length) (hy : xs.drop q = y) {r : List UInt8} (ho : openH y = (r, 0)) : openB xs q = (r, q + 8 + r.length, 0) := openB_ok h (hy.symm ▸ ho)
/-- A body, a place and an error are handed back. -/
def RetO (w : World) (x : List UInt8 × Nat × Nat) (v : Value) (w' : World) : Prop :=
  ∃ (A : Option Addr) (c : Nat), v = .tuple #[.slice A x.1.length c, .int .i64 (x.2.1 : Int), .int .i64 (x.2.2 : Int)] ∧ OwB w' w.heap.size A c x.1 ∧ Below w.heap.size w w'
theorem RetO.err {w w' : World} {x : List UInt8 × Nat × Nat} {e : Nat} {k : Int} (h : x = ([], 0, e)) (hk : k = e) (hb : Below w.heap.size w w') : RetO w x (.tuple #[.slice none 0 0, .int .i64 0, .int .i64 k]) w' := by
  subst h hk; exact ⟨none, 0, rfl, Ow.nil _ _ _, hb⟩
theorem RdBB.two' {w : World} {A A1 A2 : Option Addr} {n1 n2 c1 c2 : Nat} {r s : List UInt8} (h : Rd w A 2 [.slice A1 n1 c1, .slice A2 n2 c2]) (h1 : RdB w A1 r) (e1 : r.length = n1) (hc : r.length ≤ c1) (h2 : RdB w A2 s) (e2 : s.length = n2) (hc2 : s.length ≤ c2) : RdBB w A [r, s] := by
  subst e1 e2; exact RdBB.two h h1 hc h2 hc2

/-- Records and a place are handed back. -/
def RetOA (w : World) (x : List (List UInt8) × Nat) (v : Value) (w' : World) : Prop :=
  ∃ (A : Option Addr) (c : Nat), v = .tuple #[.slice A x.1.length c, .int .i64 (x.2 : Int)] ∧ OwBB w' w.heap.size A c x.1 ∧ Below w.heap.size w w'
end Go.Proofs.Ytcjiecclmepboaa


/-
  Walks over the reference's sealed records.
-/
namespace Go.Proofs.Ytcjiecclmepboaa
open Go.RowKit

theorem OwB.of {w : World} {base n c : Nat} {A : Option Addr} {vs : List Value} {ys : List UInt8} (h : Ow w base 5 A n c vs) (hn : ys.length = n) (hv : bvs ys = vs) : OwB w base A c ys := by subst hn hv; exact h
/-- Bytes and an error are handed back. -/
def RetS (w : World) (x : List UInt8 × Nat) (v : Value) (w' : World) : Prop :=
  ∃ (A : Option Addr) (c : Nat), v = .tuple #[.slice A x.1.length c, .int .i64 (x.2 : Int)] ∧ OwB w' w.heap.size A c x.1 ∧ Below w.heap.size w w'
theorem numB_lt4' {l : List UInt8} {k : Nat} (h : k ≤ 4) : numB (l.take k) < 4294967296 := by
  have h1 := numB_lt (l.take k)
  have h2 : 256 ^ (l.take k).length ≤ 256 ^ 4 := Nat.pow_le_pow_right (by decide) (by simp; omega)
  exact Nat.lt_of_lt_of_le h1 h2
theorem sealB_ok {l : List UInt8} (h : l.length ≤ 1048576) : sealB l = (crcRec l, 0) := by rw [sealB, if_neg (by omega)]
end Go.Proofs.Ytcjiecclmepboaa


/-
  New memory of the library's: rules for copy and for its fresh bytes; walks over bytes.Join without a separator and over the sealing of records.
-/
namespace Go.Proofs.Ytcjiecclmepboaa
open Go.RowKit

section
variable {P : Program} {N : Nat} {ops : Array Oper} {Q : Exit → Act → World → Prop} {rest : List Oper} {L : FL} {w : World} {t e : TypeId} {z : Value} {bytes : Nat}
/-- copy into a block that is known whole: all of the source fits. -/
theorem wl_copy {d : Nat} {x y : Operand} {ty : TypeId} {pos : String} {aft : Array Edge} {g off n c m c' : Nat} {A B : Option Addr} {cs ys : List Value} (T : Row1 P t e z bytes)
    (hx : look L x = some (.slice A n c)) (hy : look L y = some (.slice B m c')) (ha : Ar w g e cs) (hr : Rd w B m ys) (h1 : ∀ u ∈ ys, u.oneCell' = true)
    (hA : 0 < m → A = some ⟨g, off, none⟩) (hm : m ≤ n) (hfit : off + m ≤ cs.length) (hd : Nat.blt d N = true)
    (h : ∀ w', Ar w' g e (cs.take off ++ (ys ++ cs.drop (off + m))) → Below g w w' → WL P N ops Q rest ((d, .int .i64 (m : Int)) :: L) w') :
    WL P N ops Q (⟨some d, .call { callee := .builtin .copy, args := #[x, y], argTypes := #[t, t] }, ty, pos, aft, none⟩ :: rest) L w := fun a hH => by
  have hl : ys.length = m := hr.1
  obtain ⟨i, hi, _, hs, _⟩ := info_parts T.info
  refine wpList_copy_splice rfl x y t t rfl e T.sl (by simp [hi, hs]) A B n c m c' (hH.eval hx) (hH.eval hy) g off cs e ha ys (by rw [hl]; exact (Nat.min_eq_left hm).symm)
    (fun h0 => ?_) (by rw [hl]; exact hfit) h1 g w (Below.refl _ _) (Nat.le_refl _) fun w' hc hb => ?_
  · rw [hl] at h0
    obtain ⟨b, o, hB, _, hcell⟩ := hr.2 h0
    exact ⟨hA h0, ⟨b, o, none⟩, hB, fun j v hv => by rw [Addr.add_lit]; exact hcell j v hv⟩
  · have hc' : Ar w' g e (splice cs off ys) := hc
    unfold splice at hc'
    rw [hl] at hc'
    have := h w' hc' hb _ (hH.put hd (.int .i64 (m : Int)))
    simpa [goInt, hl] using this
theorem opv_ext {f : FuncId} {x : Operand} {ats : Array TypeId} {ty : TypeId} {u v : Value} {w' : World} (hx : look L x = some u) (hrun : (callFunc f #[u]).run P w = .ok (.value v) w') :
    OpV P (.call { callee := .value (.func f), args := #[x], argTypes := ats }) ty L w v w' := fun ρ o hρ ho _ => by
  have hf : ρ (.func f) = .func (.func f) #[] #[] := hρ _ _ rfl
  unfold execOp
  simp only [ho, resolve, Deferred.ofValue, hf, Sem.run_bind, Sem.run_pure, Result.andThen_ok, invoke]
  have : (#[] ++ Array.map ρ #[x] ++ #[]) = #[u] := by simp [hρ x u hx]
  rw [this]
  exact hrun
theorem opv_slice3 {x y y' : Operand} {ty : TypeId} {A : Option Addr} {n c h : Nat} {k k' : IntKind} (T : Row1 P t e z bytes) (hx : look L x = some (.slice A n c)) (hy : look L y = some (.int k (h : Int))) (hy' : look L y' = some (.int k' (h : Int))) (h2 : h ≤ c) :
    OpV P (.slice t x none (some y) (some y')) ty L w (.slice A h h) w := fun ρ o hρ ho _ => by
  unfold execOp
  simp only [ho, Instr.sliceAt, Instr.slice, Sem.run_bind, run_underlying T.sl, Result.andThen_ok, hρ x _ hx, Option.map_none, Option.map_some, T.size]
  have e1 : (Instr.sliceBounds true n c none (some (ρ y)) (some (ρ y'))).run P w = .ok (0, h, h) w := by
    simp [Instr.sliceBounds, Instr.sliceBound, hρ y _ hy, hρ y' _ hy', asIntOf, h2]
  rw [e1]
  by_cases h0 : h = 0
  · subst h0; simp
  · cases A with
    | none => simp
    | some a => simp [Addr.add]
end

/-- New bytes: at the head of a block from block base on (which may be longer than the slice), or nil. -/
def NwB (w : World) (base : Nat) (A : Option Addr) (c : Nat) (xs : List UInt8) : Prop :=
  (A = none ∧ c = 0 ∧ xs = []) ∨ ∃ (g : Nat) (cs : List Value), A = some ⟨g, 0, none⟩ ∧ base ≤ g ∧ Ar w g 5 cs ∧ xs.length ≤ c ∧ c ≤ cs.length ∧ cs.take xs.length = bvs xs
section
variable {w w' : World} {base c : Nat} {A : Option Addr} {xs : List UInt8}
theorem OwB.nw (h : OwB w base A c xs) : NwB w base A c xs := by
  rcases h.2 with ⟨hv, hn⟩ | ⟨g, cap, cur, hv, hb, hg, hnc, _, hs, ht⟩
  · injection hv with hA hn' hc
    exact .inl ⟨hA, hc, List.length_eq_zero_iff.1 hn'⟩
  · injection hv with hA hn' hc
    subst hc
    exact .inr ⟨g, cur.toList, hA, hb, by simpa [Ar] using hg, hnc, by simp; omega, by simpa using ht⟩
theorem NwB.cap (h : NwB w base A c xs) : xs.length ≤ c := by
  rcases h with ⟨_, rfl, rfl⟩ | ⟨_, _, _, _, _, h, _⟩
  · simp
  · exact h
theorem NwB.rd (h : NwB w base A c xs) : RdB w A xs := by
  rcases h with ⟨rfl, rfl, rfl⟩ | ⟨g, cs, rfl, hg, ha, h1, h2, h3⟩
  · exact Rd.nil _ _
  · refine ⟨bvs_length _, fun _ => ⟨g, 0, rfl, ha.lt, fun j u hu => ?_⟩⟩
    rw [← h3, List.getElem?_take] at hu
    split at hu
    · rw [ha.cell, Nat.zero_add]; exact hu
    · cases hu
theorem NwB.below (h : NwB w base A c xs) (hb : Below w.heap.size w w') : NwB w' base A c xs := by
  rcases h with h | ⟨g, cs, hA, hg, ha, h1⟩
  · exact .inl h
  · exact .inr ⟨g, cs, hA, hg, ha.bel hb, h1⟩
theorem NwB.mono {base' : Nat} (h : NwB w base A c xs) (hb : base' ≤ base) : NwB w base' A c xs := by
  rcases h with h | ⟨g, cs, hA, hg, h1⟩
  · exact .inl h
  · exact .inr ⟨g, cs, hA, Nat.le_trans hb hg, h1⟩
end
def RetN' (w : World) (xs : List UInt8) (v : Value) (w' : World) : Prop :=
  ∃ (A : Option Addr) (c : Nat), v = .slice A xs.length c ∧ NwB w' w.heap.size A c xs ∧ Below w.heap.size w w'

theorem take_flat {rows : List (List UInt8)} {k : Nat} {x : List UInt8} (hx : rows[k]? = some x) : (rows.take (k + 1)).flatten = (rows.take k).flatten ++ x := by
  rw [List.take_add_one, hx]; simp
theorem take_flat_le (rows : List (List UInt8)) (k : Nat) : (rows.take k).flatten.length ≤ rows.flatten.length := by
  have : rows.flatten = (rows.take k).flatten ++ (rows.drop k).flatten := by rw [← List.flatten_append, List.take_append_drop]
  rw [this, List.length_append]; omega
end Go.Proofs.Ytcjiecclmepboaa


/-
  Blocks that hold a list's marks: append onto a slice at the head of a block that is known whole, and what a step may change of such blocks.
-/
namespace Go.Proofs.Ytcjiecclmepboaa
open Go.RowKit

section
variable {P : Program} {N : Nat} {ops : Array Oper} {Q : Exit → Act → World → Prop} {rest : List Oper} {L : FL} {w : World} {t e : TypeId} {z : Value} {bytes : Nat}
theorem opv_app {s x : Operand} {ty : TypeId} {u v r : Value} {w' : World} (hs : look L s = some u) (hx : look L x = some v) (hrun : ∀ ty, (Builtin.append_ #[t, t] ty #[u, v]).run P w = .ok r w') :
    OpV P (.call { callee := .builtin .append, args := #[s, x], argTypes := #[t, t] }) ty L w r w' := fun ρ o hρ ho _ => by
  unfold execOp
  simp only [ho, resolve, invoke, builtin, Sem.run_bind, Sem.run_pure, Result.andThen_ok, List.map_toArray, List.map_cons, List.map_nil, hρ s _ hs, hρ x _ hx, hrun]
/-- append onto a slice at the head of a block that is known whole. -/
theorem wl_appA {d : Nat} {s x : Operand} {ty : TypeId} {pos : String} {aft : Array Edge} {g n c m c' : Nat} {cs ys : List Value} {B : Option Addr} (T : Row1 P t e z bytes)
    (hs : look L s = some (.slice (some ⟨g, 0, none⟩) n c)) (ha : Ar w g e cs) (hnc : n ≤ c) (hc : c ≤ cs.length) (hx : look L x = some (.slice B m c')) (hr : Rd w B m ys) (hm : 0 < m) (h1 : ∀ u ∈ ys, u.oneCell' = true)
    (hbytes : (n + m) * bytes ≤ 140737488355328) (hmax : n + m ≤ maxLen) (hd : Nat.blt d N = true)
    (hA : n + m ≤ c → ∀ w', Ar w' g e (cs.take n ++ (ys ++ cs.drop (n + m))) → Gr w w' (some ⟨g, 0, none⟩) → WL P N ops Q rest ((d, .slice (some ⟨g, 0, none⟩) (n + m) c) :: L) w')
    (hB : ∀ A' c2 w', Ow w' w.heap.size e A' (n + m) c2 (cs.take n ++ ys) → Below w.heap.size w w' → WL P N ops Q rest ((d, .slice A' (n + m) c2) :: L) w') :
    WL P N ops Q (⟨some d, .call { callee := .builtin .append, args := #[s, x], argTypes := #[t, t] }, ty, pos, aft, none⟩ :: rest) L w := by
  obtain ⟨i, hi, hz, hsz, hby⟩ := info_parts T.info
  have hzs : z.cells.size = 1 := by rw [cells_one T.one]; rfl
  have hl : ys.length = m := hr.1
  obtain ⟨b, o, rfl, _, hcell⟩ := hr.2 hm
  have hnews : ∀ j u, ys[j]? = some u → w.cell? ((⟨b, o, none⟩ : Addr).add j) = some u := fun j u hu => by rw [Addr.add_lit]; exact hcell j u hu
  by_cases hroom : n + m ≤ c
  · refine wl_val (opv_app hs hx fun ty => run_append_room (P := P) w t ty e i T.sl hi g n c cs.toArray ha ⟨b, o, none⟩ m c' ys (by rw [hsz]; omega) hnews h1 hroom (by simp [hsz]; omega)) hd ?_
    have e1 : (cs.toArray.toList.take (n * i.size) ++ ys ++ cs.toArray.toList.drop (n * i.size + ys.length)) = cs.take n ++ (ys ++ cs.drop (n + m)) := by
      rw [hsz, hl, Nat.mul_one, List.append_assoc]
    rw [e1]
    exact hA hroom _ ha.setRow ⟨rfl, rfl, rfl, by simp [World.setRow], fun k _ hk => by
      simp only [World.setRow, Array.getElem?_modify]
      rw [if_neg (by simp at hk; exact fun h => hk h.symm)]⟩
  · have hol : (cs.take n).length = n := by simp; omega
    have hsmall : n + m ≤ 9223372036854775807 := by simp only [maxLen] at hmax; omega
    have hge := grownCap_ge w (n + m) c e
    have hcm : grownCap w (n + m) c e ≤ maxLen := grownCap_le_maxLen w (n + m) c e hmax
    refine wl_val (opv_app hs hx fun ty => run_append_grow (P := P) w t ty e i z T.sl hi hz ⟨g, 0, none⟩ n c (cs.take n) (by rw [hsz]; omega) (fun j u hu => by
      rw [Addr.add_lit, Nat.zero_add, ha.cell]
      rw [List.getElem?_take] at hu
      split at hu
      · exact hu
      · cases hu) ⟨b, o, none⟩ m c' ys (by rw [hsz]; omega) hnews (by omega) (by omega) (growslice_fits (by omega) (by rw [hby]; exact hbytes))) hd ?_
    refine hB _ _ _ ⟨by simp; omega, .inr ⟨w.heap.size, _, _, rfl, Nat.le_refl _, heap_alloc_new w.drew _, hge, hcm, ?_, ?_⟩⟩ ⟨rfl, rfl, rfl, by simp, fun k hk => heap_alloc_old w.drew _ hk⟩
    · simp only [Array.size_append, List.size_toArray, size_zeroCells, hzs, hol, hl]; omega
    · simp only [Array.toList_append, List.append_assoc]
      rw [← List.append_assoc]
      refine List.take_left' ?_
      simp; omega
end

/-- The byte that stands for place j of list i. -/
def mkb (i j : Nat) : UInt8 := UInt8.ofNat (17 * i + 3 * j + 1)
def mk (i j : Nat) : Value := bv (mkb i j)
def mkl (i n : Nat) : List UInt8 := (List.range n).map (mkb i)
theorem mkl_length (i n : Nat) : (mkl i n).length = n := by simp [mkl]
theorem mkl_get {i n j : Nat} (h : j < n) : (mkl i n)[j]? = some (mkb i j) := by simp [mkl, h]
/-- Block b holds the marks of list i, at its first n places. -/
def MkB (w : World) (b i n : Nat) : Prop := ∃ cs, Ar w b 5 cs ∧ n ≤ cs.length ∧ ∀ j, j < n → cs[j]? = some (mk i j)
/-- A step that may write marks of list i into block X, and changes no other block of bytes. -/
def St (w w' : World) (X : Option Nat) (i : Nat) : Prop :=
  ∀ b cs, Ar w b 5 cs → ∃ cs', Ar w' b 5 cs' ∧ cs'.length = cs.length ∧ (cs' = cs ∨ (X = some b ∧ ∀ j u, cs'[j]? = some u → cs[j]? = some u ∨ u = mk i j))
/-- A slice at the head of a block of the call's own, or nil. -/
def Hd (w : World) (base : Nat) (A : Option Addr) (n c : Nat) : Prop :=
  (A = none ∧ n = 0 ∧ c = 0) ∨ ∃ g cs, A = some ⟨g, 0, none⟩ ∧ base ≤ g ∧ Ar w g 5 cs ∧ n ≤ c ∧ c ≤ cs.length
section
variable {w w' w1 : World} {X : Option Nat} {A : Option Addr} {b i k n c base : Nat}
theorem MkB.rd (h : MkB w b i n) : RdB w (some ⟨b, 0, none⟩) (mkl i n) := by
  obtain ⟨cs, ha, hl, hm⟩ := h
  refine ⟨bvs_length _, fun _ => ⟨b, 0, rfl, ha.lt, fun j u hu => ?_⟩⟩
  rw [ha.cell, Nat.zero_add]
  have hj : j < n := by have := (List.getElem?_eq_some_iff.1 hu).1; rwa [bvs_length, mkl_length] at this
  rw [bvs, List.getElem?_map, mkl_get hj] at hu
  rw [hm j hj]; exact hu
theorem St.refl (w : World) (X : Option Nat) (i : Nat) : St w w X i := fun _ cs h => ⟨cs, h, rfl, .inl rfl⟩
theorem St.trans (h : St w w1 X i) (h2 : St w1 w' X i) : St w w' X i := fun b cs ha => by
  obtain ⟨c1, a1, l1, r1⟩ := h b cs ha
  obtain ⟨c2, a2, l2, r2⟩ := h2 b c1 a1
  refine ⟨c2, a2, l2.trans l1, ?_⟩
  rcases r2 with rfl | ⟨hX, r2⟩
  · exact r1
  · refine .inr ⟨hX, fun j u hu => ?_⟩
    rcases r2 j u hu with h | h
    · rcases r1 with rfl | ⟨_, r1⟩
      · exact .inl h
      · exact r1 j u h
    · exact .inr h
theorem St.bel (h : Below w.heap.size w w') : St w w' X i := fun _ cs ha => ⟨cs, ha.bel h, rfl, .inl rfl⟩
/-- A step that changes one block of another type alone. -/
theorem St.other {g : Nat} {t : TypeId} {cs : List Value} (h : Gr w w' A) (hA : ∀ a, A = some a → a.block = g) (ht : A = none ∨ Ar w g t cs) (hne : t ≠ 5) : St w w' X i := fun b ds hb => by
  refine ⟨ds, ?_, rfl, .inl rfl⟩
  unfold Ar
  rw [h.block b hb.lt fun hk => ?_]
  · exact hb
  · cases A with
    | none => simp at hk
    | some a =>
      simp only [Option.map_some, Option.some.injEq] at hk
      rcases ht with ht | ht
      · cases ht
      · rw [← hA a rfl, ← hk] at ht
        unfold Ar at ht hb
        rw [ht] at hb
        simp only [Option.some.injEq, Obj.cells.injEq] at hb
        exact hne hb.2.1
/-- A step that writes marks into block g. -/
theorem St.at {g : Nat} {cs cs' : List Value} (h : Gr w w' (some ⟨g, 0, none⟩)) (ha : Ar w g 5 cs) (ha' : Ar w' g 5 cs') (hl : cs'.length = cs.length) (hm : ∀ j u, cs'[j]? = some u → cs[j]? = some u ∨ u = mk i j) : St w w' (some g) i := fun b ds hb => by
  by_cases hbg : b = g
  · subst hbg
    have e : ds = cs := by
      unfold Ar at ha hb
      rw [ha] at hb
      simp only [Option.some.injEq, Obj.cells.injEq] at hb
      have := congrArg Array.toList hb.1
      simpa using this.symm
    subst e
    exact ⟨cs', ha', hl, .inr ⟨rfl, hm⟩⟩
  · refine ⟨ds, ?_, rfl, .inl rfl⟩
    unfold Ar
    rw [h.block b hb.lt (by simp; exact fun h => hbg h)]
    exact hb
theorem MkB.st (h : MkB w b i n) (s : St w w' X k) (hX : X = some b → k = i) : MkB w' b i n := by
  obtain ⟨cs, ha, hl, hm⟩ := h
  obtain ⟨cs', ha', hl', r⟩ := s b cs ha
  refine ⟨cs', ha', by omega, fun j hj => ?_⟩
  rcases r with rfl | ⟨hXb, r⟩
  · exact hm j hj
  · have hk := hX hXb
    subst hk
    rw [List.getElem?_eq_getElem (by omega)]
    rcases r j _ (List.getElem?_eq_getElem (by omega)) with h | h
    · rw [← h]; exact hm j hj
    · rw [h]
theorem Hd.st (h : Hd w base A n c) (s : St w w' X k) : Hd w' base A n c := by
  rcases h with h | ⟨g, cs, hA, hb, ha, h1, h2⟩
  · exact .inl h
  · obtain ⟨cs', ha', hl', _⟩ := s g cs ha
    exact .inr ⟨g, cs', hA, hb, ha', h1, by omega⟩
theorem NwB.hd {xs : List UInt8} (h : NwB w base A c xs) : Hd w base A xs.length c := by
  rcases h with ⟨hA, hc, rfl⟩ | ⟨g, cs, hA, hb, ha, h1, h2, _⟩
  · exact .inl ⟨hA, rfl, hc⟩
  · exact .inr ⟨g, cs, hA, hb, ha, h1, h2⟩
end

/-- All slices of a list lie at the heads of blocks of the call's own, each in another one. -/
def Own1 (w : World) (base : Nat) (vs : List Value) : Prop :=
  (∀ v ∈ vs, ∃ (A : Option Addr) (n c : Nat), v = .slice A n c ∧ Hd w base A n c ∧ n ≤ 1099511627776) ∧ vs.Pairwise fun v v' => ∀ g, v.ownBlock = some g → v'.ownBlock ≠ some g
section
variable {w w' w0 : World} {X : Option Nat} {vs : List Value} {base k : Nat}
theorem Own1.at (h : Own1 w base vs) {i : Nat} {v : Value} (hi : vs[i]? = some v) : ∃ (A : Option Addr) (n c : Nat), v = .slice A n c ∧ Hd w base A n c ∧ n ≤ 1099511627776 := h.1 v (List.mem_of_getElem? hi)
theorem Own1.inj (h : Own1 w base vs) {i j g : Nat} {v v' : Value} (hi : vs[i]? = some v) (hj : vs[j]? = some v') (hg : v.ownBlock = some g) (hg' : v'.ownBlock = some g) : i = j := by
  have hp := List.pairwise_iff_getElem.1 h.2
  obtain ⟨h1, e1⟩ := List.getElem?_eq_some_iff.1 hi
  obtain ⟨h2, e2⟩ := List.getElem?_eq_some_iff.1 hj
  rcases Nat.lt_trichotomy i j with hlt | heq | hgt
  · exact absurd (e2 ▸ hg') (hp i j h1 h2 hlt g (e1 ▸ hg))
  · exact heq
  · exact absurd (e1 ▸ hg) (hp j i h2 h1 hgt g (e2 ▸ hg'))
theorem Own1.st (h : Own1 w base vs) (s : St w w' X k) : Own1 w' base vs := ⟨fun v hv => by
  obtain ⟨A, n, c, e, hd, hn⟩ := h.1 v hv
  exact ⟨A, n, c, e, hd.st s, hn⟩, h.2⟩
/-- The marks of the first m lists stand. -/
def Mx (w : World) (vs : List Value) (m : Nat) : Prop := ∀ (k : Nat) (A : Addr) (n c : Nat), k < m → vs[k]? = some (.slice (some A) n c) → MkB w A.block k n
theorem Mx.st {i m : Nat} {A : Option Addr} {n c : Nat} (h : Mx w vs m) (ho : Own1 w base vs) (hi : vs[i]? = some (.slice A n c)) (s : St w w' (A.map (·.block)) i) : Mx w' vs m := fun k A' n' c' hk hv =>
  (h k A' n' c' hk hv).st s fun hX => ho.inj hi hv (by rw [ownBlock_slice]; exact hX) (by rw [ownBlock_slice]; rfl)
theorem Mx.bel {m : Nat} (h : Mx w vs m) (hb : Below w.heap.size w w') : Mx w' vs m := fun k A n c hk hv => (h k A n c hk hv).st (X := none) (k := 0) (St.bel hb) (by simp)
/-- A grown slice: marks of list i, in list i's own block or in another one. -/
def Gd (w : World) (vs : List Value) (i : Nat) (v : Value) : Prop := ∃ b n c, v = .slice (some ⟨b, 0, none⟩) n c ∧ n ≤ c ∧ n ≤ 2199023255552 ∧ MkB w b i n ∧ ∀ (k : Nat) (u : Value), vs[k]? = some u → u.ownBlock = some b → k = i
theorem Gd.st {i m : Nat} {A : Option Addr} {n c : Nat} {v : Value} (h : Gd w vs m v) (hi : vs[i]? = some (.slice A n c)) (s : St w w' (A.map (·.block)) i) : Gd w' vs m v := by
  obtain ⟨b, n', c', e, h1, h2, hm, ht⟩ := h
  exact ⟨b, n', c', e, h1, h2, hm.st s fun hX => ht i _ hi (by rw [ownBlock_slice]; exact hX), ht⟩
/-- Nothing below base changes, and of what stood at the start the lists' blocks alone. -/
def Kp (w0 w : World) (vs : List Value) : Prop := w.os = w0.os ∧ w.tape = w0.tape ∧ w.output = w0.output ∧ w0.heap.size ≤ w.heap.size ∧ ∀ k, k < w0.heap.size → (∀ v ∈ vs, v.ownBlock ≠ some k) → w.heap[k]? = w0.heap[k]?
theorem Kp.refl (w : World) (vs : List Value) : Kp w w vs := ⟨rfl, rfl, rfl, Nat.le_refl _, fun _ _ _ => rfl⟩
theorem Kp.gr {A : Option Addr} (h : Kp w0 w vs) (g : Gr w w' A) (hA : ∀ a, A = some a → a.block < w0.heap.size → ∃ v ∈ vs, v.ownBlock = some a.block) : Kp w0 w' vs := by
  obtain ⟨h1, h2, h3, h4, h5⟩ := h
  refine ⟨g.os.trans h1, g.tape.trans h2, g.output.trans h3, Nat.le_trans h4 g.size, fun k hk hv => ?_⟩
  rw [← h5 k hk hv]
  refine g.block k (by omega) fun hk' => ?_
  cases A with
  | none => simp at hk'
  | some a =>
    simp only [Option.map_some, Option.some.injEq] at hk'
    obtain ⟨v, hm, hv'⟩ := hA a rfl (by rw [← hk']; exact hk)
    exact hv v hm (by rw [hv', ← hk'])
theorem Kp.bel (h : Kp w0 w vs) (hb : Below w.heap.size w w') : Kp w0 w' vs := h.gr (Gr.of_below none hb (Nat.le_refl _)) (by simp)
theorem Kp.below (h : Kp w0 w vs) (ho : ∀ v ∈ vs, ∀ g, v.ownBlock = some g → base ≤ g) (hb : base ≤ w0.heap.size) : Below base w0 w :=
  ⟨h.1, h.2.1, h.2.2.1, h.2.2.2.1, fun j hj => h.2.2.2.2 j (by omega) fun v hv hc => by have := ho v hv j hc; omega⟩
theorem Kp.rd {A : Option Addr} {n : Nat} {xs : List Value} (h : Kp w0 w vs) (hr : Rd w0 A n xs) (hA : ∀ a, A = some a → ∀ v ∈ vs, v.ownBlock ≠ some a.block) : Rd w A n xs := ⟨hr.1, fun hn => by
  obtain ⟨b, o, rfl, hb, hc⟩ := hr.2 hn
  exact ⟨b, o, rfl, Nat.lt_of_lt_of_le hb h.2.2.2.1, fun j u hu => by
    rw [World.cell?_of_block (a := ⟨b, o + j, none⟩) (h.2.2.2.2 b hb (hA _ rfl))]; exact hc j u hu⟩⟩
end
end Go.Proofs.Ytcjiecclmepboaa


/-
  Walks over the reference's mark, Spare, Kept and Over.
-/
namespace Go.Proofs.Ytcjiecclmepboaa
open Go.RowKit

section
variable {P : Program} {N : Nat} {ops : Array Oper} {Q : Exit → Act → World → Prop} {rest : List Oper} {L : FL} {w : World} {t e : TypeId} {z : Value} {bytes : Nat}
/-- A row of the call's own as a block that is known whole. -/
theorem Ow.ar {base n : Nat} {A : Option Addr} {xs : List Value} (h : Ow w base e A n n xs) (hn : 0 < n) : ∃ g, A = some ⟨g, 0, none⟩ ∧ base ≤ g ∧ Ar w g e xs := by
  rcases h.2 with ⟨_, h0⟩ | ⟨g, cap, cur, hv, hb, hg, hnc, _, hs, ht⟩
  · omega
  · injection hv with hA hn' hc
    subst hc
    refine ⟨g, hA, hb, ?_⟩
    rw [List.take_of_length_le (by simp; omega)] at ht
    subst ht
    simpa [Ar] using hg
theorem Ar.rd {g n : Nat} {cs : List Value} (h : Ar w g e cs) (hn : n ≤ cs.length) : Rd w (some ⟨g, 0, none⟩) n (cs.take n) := ⟨by simp; omega, fun _ => ⟨g, 0, rfl, h.lt, fun j u hu => by
  rw [h.cell, Nat.zero_add]
  rw [List.getElem?_take] at hu
  split at hu
  · exact hu
  · cases hu⟩⟩
theorem gr_setCell {g k : Nat} {u : Value} : Gr w (w.setCell ⟨g, k, none⟩ u) (some ⟨g, 0, none⟩) := ⟨rfl, rfl, rfl, by simp [World.setCell], fun j _ hj => by
  simp only [World.setCell, Array.getElem?_modify]
  rw [if_neg (by simp at hj; exact fun h => hj h.symm)]⟩
/-- A store into a block that is known whole. -/
theorem wl_storeA {x y : Operand} {ty : TypeId} {pos : String} {aft : Array Edge} {g kk : Nat} {u : Value} {cs : List Value} (T : Row1 P t e z bytes) (ha : Ar w g e cs) (hk : kk < cs.length)
    (hx : look L x = some (.pointer (some ⟨g, 0 + kk, none⟩))) (hy : look L y = some u) (h1 : u.oneCell' = true)
    (h : ∀ w', Ar w' g e (cs.set kk u) → Gr w w' (some ⟨g, 0, none⟩) → w'.heap.size = w.heap.size → WL P N ops Q rest L w') :
    WL P N ops Q (⟨none, .store e x y, ty, pos, aft, none⟩ :: rest) L w := by
  rw [Nat.zero_add] at hx
  refine wl_unitN (opu_store T hx hy h1 (v := cs[kk]) (by rw [ha.cell]; exact List.getElem?_eq_getElem hk) (ha.frozen kk)) ?_
  exact h _ (ha.setCell kk u) gr_setCell (by simp [World.setCell])
theorem wl_setH {d1 : Nat} {x i y : Operand} {ty1 ty2 : TypeId} {p1 p2 : String} {f1 f2 : Array Edge} {g n c kk : Nat} {ik : IntKind} {q : Int} {u : Value} {cs : List Value} (T : Row1 P t e z bytes)
    (hx : look L x = some (.slice (some ⟨g, 0, none⟩) n c)) (hi : look L i = some (.int ik q)) (ha : Ar w g e cs) (hq : q = (kk : Int)) (hk : kk < n) (hc : n ≤ cs.length)
    (hy : ∀ p, look ((d1, p) :: L) y = some u) (h1 : u.oneCell' = true) (hd1 : Nat.blt d1 N = true)
    (h : ∀ p w', Ar w' g e (cs.set kk u) → Gr w w' (some ⟨g, 0, none⟩) → w'.heap.size = w.heap.size → WL P N ops Q rest ((d1, p) :: L) w') :
    WL P N ops Q (⟨some d1, .indexAddr t x i, ty1, p1, f1, none⟩ :: ⟨none, .store e (.tmp d1) y, ty2, p2, f2, none⟩ :: rest) L w :=
  wl_val (opv_idx T hx hi hq hk) hd1 (wl_storeA T ha (by omega) (by simp [look, lookT]) (hy _) h1 (h _))
theorem Gr.belowA {w0 w w' : World} {B g : Nat} (h : Gr w w' (some ⟨g, 0, none⟩)) (h0 : Below B w0 w) (hg : B ≤ g) (hB : B ≤ w.heap.size) : Below B w0 w' :=
  h0.grown h hB fun k hk => by simp at hk; omega
end

theorem mark_any (i j : Nat) (hi : i ≤ 1099511627776) (hj : j ≤ 4398046511104) (w : World) : CallsV Try.prog 93 #[.int .i64 i, .int .i64 j] w fun v w' => v = mk i j ∧ w = w' := by
  refine calls_in (N := _) Try.func93 rfl Try.ntmps93 rfl ?_; show WC _ _ _ _ _ _
  refine wc_sr ?_; refine wl_as rfl rfl ?_; refine wl_ns ?_; refine wc_sr ?_; refine wl_mv rfl rfl ?_; apply wl_val; apply opv_bin; exact rfl; exact rfl; exact bin_mul64 (by omega); exact rfl; refine wl_mv rfl rfl ?_; apply wl_val; apply opv_bin; exact rfl; exact rfl; exact bin_mul64 (by omega); exact rfl; apply wl_val; apply opv_bin; exact rfl; exact rfl; exact bin_add64 (by omega); exact rfl; apply wl_val; apply opv_bin; exact rfl; exact rfl; exact bin_add64 (by omega); exact rfl; apply wl_val; apply opv_convR; exact rfl; exact Try.underlying3; exact Try.underlying5; exact wrap_nat rfl _; exact rfl; refine wl_as rfl rfl ?_; refine wl_ns ?_; refine wc_ret ?_
  exact we_ret1 rfl rfl ⟨_, rfl, by rw [mk, mkb, ← byte_of], rfl⟩

/-- Bytes with forty marked ones behind them. -/
def spareL (b : List UInt8) : List UInt8 := b ++ (List.range 40).map fun k => UInt8.ofNat (160 + (b.length + k) % 31)
theorem spareL_length (b : List UInt8) : (spareL b).length = b.length + 40 := by simp [spareL]
theorem spareL_take (b : List UInt8) : (spareL b).take b.length = b := by simp [spareL]
theorem spareL_low {b : List UInt8} {i : Nat} (h : i < b.length) : (spareL b)[i]? = b[i]? := by rw [spareL, List.getElem?_append_left h]
theorem spareL_high {b : List UInt8} {i : Nat} (h : ¬ i < b.length) (h2 : i < b.length + 40) : (spareL b)[i]? = some (UInt8.ofNat (160 + i % 31)) := by
  rw [spareL, List.getElem?_append_right (by omega)]
  simp [show i - b.length < 40 by omega, show b.length + (i - b.length) = i by omega]
theorem take_set_next {α : Type} {l m : List α} {i : Nat} {x : α} (hl : i < l.length) (h : l.take i = m.take i) (hx : m[i]? = some x) : (l.set i x).take (i + 1) = m.take (i + 1) := by
  rw [List.take_add_one, List.take_add_one, List.take_set_of_le (by omega), h, hx]
  simp [hl]
/-- A copy with spare room, and the whole of it. -/
def RetSp (w : World) (xs : List UInt8) (v : Value) (w' : World) : Prop :=
  ∃ g, v = .tuple #[.slice (some ⟨g, 0, none⟩) xs.length (xs.length + 40), .slice (some ⟨g, 0, none⟩) (xs.length + 40) (xs.length + 40)] ∧ w.heap.size ≤ g ∧ Ar w' g 5 (bvs (spareL xs)) ∧ Below w.heap.size w w'
theorem spare_any {A : Option Addr} {n c : Nat} {xs : List UInt8} {w : World} (hr : RdB w A xs) (hn : xs.length = n) (hl : xs.length ≤ 1099511627776) :
    CallsV Try.prog 59 #[.slice A n c] w (RetSp w xs) := by
  subst hn
  refine calls_in (N := _) Try.func59 rfl Try.ntmps59 rfl ?_; show WC _ _ _ _ _ _
  refine wc_sr ?_; refine wl_as rfl rfl ?_; refine wl_as rfl rfl ?_; refine wl_ns ?_; refine wc_sr ?_; refine wl_mv rfl rfl ?_; apply wl_val; apply opv_len; exact rfl; exact tyB.sl; exact rfl; apply wl_val; apply opv_bin; exact rfl; exact rfl; exact bin_add64 (by omega); exact rfl
  refine wl_mk (n := xs.length + 40) (c := xs.length + 40) tyB rfl rfl rfl rfl (by omega) (by omega) (by simp only [maxLen]; omega) rfl fun A1 w1 o1 hb1 _ => ?_
  obtain ⟨g, rfl, hg, a1⟩ := o1.ar (by omega)
  refine wl_as rfl rfl ?_; refine wl_ns ?_; refine wc_sr ?_; refine wl_mv rfl rfl ?_; refine wl_mv rfl rfl ?_
  refine wl_copy (g := g) (off := 0) tyB rfl rfl a1 (RdB.below hr hb1) (bvs_one _) (fun _ => rfl) (by omega) (by simp) rfl fun w2 a2 hb2 => ?_
  have hb := hb1.trans (hb2.mono hg)
  rw [List.take_zero, List.nil_append, Nat.zero_add] at a2
  refine wl_ns ?_; refine wc_seq ?_; refine wc_sr ?_; refine wl_mv rfl rfl ?_; apply wl_val; apply opv_len; exact rfl; exact tyB.sl; exact rfl; refine wl_as rfl rfl ?_; refine wl_ns ?_; refine wc_block ?_
  refine wc_loop (fun L wr m => ∃ (i : Nat) (cs : List Value), L = [(0, .slice A xs.length c), (4, .slice (some ⟨g, 0, none⟩) (xs.length + 40) (xs.length + 40)), (5, .int .i64 (i : Int))] ∧ xs.length ≤ i ∧ i ≤ xs.length + 40 ∧ cs.length = xs.length + 40 ∧ cs.take i = (bvs (spareL xs)).take i ∧ Ar wr g 5 cs ∧ Below w.heap.size w wr ∧ m = xs.length + 40 - i)
    [(0, .slice A xs.length c), (4, .slice (some ⟨g, 0, none⟩) (xs.length + 40) (xs.length + 40)), (5, .int .i64 (xs.length : Int))] 40 ⟨xs.length, _, rfl, by omega, by omega, by simp [bvs_length], ?_, a2, hb, by omega⟩ ⟨rfl, rfl, rfl, trivial⟩ ?_
  · rw [spareL, bvs_append, List.take_append_of_le_length (by rw [bvs_length]; omega), List.take_append_of_le_length (by rw [bvs_length]; omega)]
  rintro _ w3 m ⟨i, cs, rfl, hi, hi2, hcl, hct, a3, hb3, rfl⟩
  refine wc_seq ?_; refine wc_sr ?_; refine wl_mv rfl rfl ?_; refine wl_mv rfl rfl ?_; apply wl_val; apply opv_len; exact rfl; exact tyB.sl; exact rfl; refine wl_bin rfl rfl bin_lss rfl ?_; refine wl_ns ?_
  refine wc_cond rfl (fun h1 => ?_) (fun h1 => ?_)
  · have hx := spareL_high (b := xs) (i := i) (by omega) (by omega)
    have eu : Value.int .u8 (160 + ((i % 31 : Nat) : Int)) = bv (UInt8.ofNat (160 + i % 31)) := by
      unfold bv; rw [UInt8.toNat_ofNat', Nat.mod_eq_of_lt (show 160 + i % 31 < 2 ^ 8 by omega)]; rfl
    refine wc_skip ?_; refine we_seq ?_; refine wc_seq ?_; refine wc_block ?_; refine wc_region ?_; refine wl_mv rfl rfl ?_; refine wl_mv rfl rfl ?_; refine wl_mv rfl rfl ?_; apply wl_val; apply opv_bin; exact rfl; exact rfl; exact bin_rem (b := 31) (by decide); exact rfl; apply wl_val; apply opv_bin; exact rfl; exact rfl; exact bin_add64 (by omega); exact rfl; apply wl_val; apply opv_convR; exact rfl; exact Try.underlying3; exact Try.underlying5; exact IntWalk.u8_in _ (by omega); exact rfl
    refine wl_setH (n := xs.length + 40) (kk := i) tyB rfl rfl a3 rfl (by omega) (by omega) (fun _ => rfl) rfl rfl fun p w4 a4 g4 _ => ?_
    rw [eu] at a4
    have hb4 := g4.belowA hb3 hg hb3.size
    refine wl_nil ?_; refine we_block_norm ?_; refine we_seq ?_; refine wc_region ?_; refine wl_mv rfl rfl ?_; apply wl_val; apply opv_bin; exact rfl; exact rfl; exact bin_add64 (by omega); exact rfl; refine wl_as rfl rfl ?_; refine wl_nil ?_
    refine we_loop [(0, .slice A xs.length c), (4, .slice (some ⟨g, 0, none⟩) (xs.length + 40) (xs.length + 40)), (5, .int .i64 ((i + 1 : Nat) : Int))] (xs.length + 40 - (i + 1)) ⟨i + 1, _, rfl, by omega, by omega, by simpa using hcl, take_set_next (by omega) hct (by rw [bvs, List.getElem?_map, hx]; rfl), a4, hb4, rfl⟩ (by omega) ⟨rfl, rfl, by simp [lookT], trivial⟩
  · obtain rfl : i = xs.length + 40 := by omega
    rw [List.take_of_length_le (by omega), List.take_of_length_le (by rw [bvs_length, spareL_length]; omega)] at hct
    subst hct
    refine wc_exit ?_; refine we_seq_exit ?_; refine we_loop_exit ?_; refine we_block_exit ?_; refine we_seq ?_; refine wc_sr ?_; refine wl_mv rfl rfl ?_; refine wl_mv rfl rfl ?_; apply wl_val; apply opv_len; exact rfl; exact tyB.sl; exact rfl
    refine wl_sl (l := 0) (h := xs.length) tyB rfl rfl ⟨_, rfl⟩ (by omega) (by omega) rfl ?_
    refine wl_mv rfl rfl ?_; refine wl_as rfl rfl ?_; refine wl_as rfl rfl ?_; refine wl_ns ?_; refine wc_ret ?_
    refine we_ret2 rfl rfl rfl ⟨_, rfl, g, ?_, hg, a3, hb3⟩
    rw [cutA_zero]; rfl

theorem kept_yes {A B : Option Addr} {n m c d : Nat} {xs : List UInt8} {w : World} (hx : RdB w A (spareL xs)) (hy : RdB w B xs) (hn : xs.length + 40 = n) (hm : xs.length = m) (hl : xs.length ≤ 1099511627776) :
    CallsV Try.prog 60 #[.slice A n c, .slice B m d] w fun v w' => v = .bool true ∧ Below w.heap.size w w' := by
  subst hn hm
  have hsl := spareL_length xs
  refine calls_in (N := _) Try.func60 rfl Try.ntmps60 rfl ?_; show WC _ _ _ _ _ _
  refine wc_sr ?_; refine wl_as rfl rfl ?_; refine wl_ns ?_; refine wc_seq ?_; refine wc_sr ?_; refine wl_mv rfl rfl ?_; apply wl_val; apply opv_len; exact rfl; exact tyB.sl; exact rfl; refine wl_mv rfl rfl ?_; apply wl_val; apply opv_len; exact rfl; exact tyB.sl; exact rfl; apply wl_val; apply opv_bin; exact rfl; exact rfl; exact bin_add64 (by omega); exact rfl; refine wl_bin rfl rfl bin_neq rfl ?_; refine wl_ns ?_
  refine wc_cond rfl (fun h => absurd h (by omega)) (fun _ => ?_)
  refine wc_skip ?_; refine we_seq ?_; refine wc_seq ?_; refine wc_sr ?_; refine wl_as rfl rfl ?_; refine wl_ns ?_; refine wc_block ?_
  refine wc_loop (fun L wr m => ∃ i : Nat, L = [(0, .slice A (xs.length + 40) c), (1, .slice B xs.length d), (5, .int .i64 (i : Int))] ∧ i ≤ xs.length + 40 ∧ Below w.heap.size w wr ∧ m = xs.length + 40 - i)
    [(0, .slice A (xs.length + 40) c), (1, .slice B xs.length d), (5, .int .i64 (0 : Nat))] (xs.length + 40) ⟨0, rfl, by omega, Below.refl _ _, by omega⟩ ⟨rfl, rfl, rfl, trivial⟩ ?_
  rintro _ w1 m ⟨i, rfl, hi, hb1, rfl⟩
  have rx : Rd w1 A (xs.length + 40) (bvs (spareL xs)) := by have := RdB.below hx hb1; unfold RdB at this; rw [hsl] at this; exact this
  have ry := RdB.below hy hb1
  refine wc_seq ?_; refine wc_sr ?_; refine wl_mv rfl rfl ?_; refine wl_mv rfl rfl ?_; apply wl_val; apply opv_len; exact rfl; exact tyB.sl; exact rfl; refine wl_bin rfl rfl bin_lss rfl ?_; refine wl_ns ?_
  refine wc_cond rfl (fun h1 => ?_) (fun h1 => ?_)
  · by_cases hlow : i < xs.length
    · obtain ⟨x, hxi⟩ : ∃ x, xs[i]? = some x := ⟨_, List.getElem?_eq_getElem hlow⟩
      have hsi := (spareL_low hlow).trans hxi
      refine wc_skip ?_; refine we_seq ?_; refine wc_seq ?_; refine wc_block ?_; refine wc_seq ?_
      refine wc_drawB mixed (by kernel_rfl) ?_
      apply wq_val; intro _ hw_; apply opv_move; exact rfl; exact rfl; apply wq_val; intro _ hw_; apply opv_move; exact rfl; exact rfl; apply wq_val; intro _ hw_; apply opv_len; exact rfl; exact tyB.sl; exact rfl; apply wq_val; intro _ hw_; apply opv_bin; exact rfl; exact rfl; exact bin_lss; exact rfl; apply wq_val; intro _ hw_; apply opv_move; exact rfl; exact rfl; apply wq_take; exact rfl; exact rfl; exact rfl; refine bT ?_; omega; apply wq_val; intro _ hw_; apply opv_move; exact rfl; exact rfl; apply wq_take; exact rfl; exact rfl; exact rfl; refine bT ?_; omega; apply wq_val; intro _ hw_; apply opv_move; exact rfl; exact rfl; apply wq_byTK (T := tyB) (hr := rx) (hb := hsi); exact rfl; exact rfl; exact rfl; refine bT ?_; omega; exact rfl; exact rfl; exact rfl; exact rfl; refine bT ?_; omega; exact rfl; exact rfl; exact rfl; exact rfl; exact rfl; intro _; apply wq_take; exact rfl; exact rfl; exact rfl; refine bT ?_; omega; apply wq_val; intro _ hw_; apply opv_move; exact rfl; exact rfl; apply wq_take; exact rfl; exact rfl; exact rfl; refine bT ?_; omega; apply wq_val; intro _ hw_; apply opv_move; exact rfl; exact rfl; apply wq_byTK (T := tyB) (hr := ry) (hb := hxi); exact rfl; exact rfl; exact rfl; refine bT ?_; omega; exact rfl; exact rfl; exact rfl; exact rfl; refine bT ?_; omega; exact rfl; exact rfl; exact rfl; exact rfl; exact rfl; intro _; apply wq_take; exact rfl; exact rfl; exact rfl; refine bT ?_; omega; apply wq_val; intro _ hw_; apply opv_bin; exact rfl; exact rfl; exact bin_neq; exact rfl; apply wq_val; intro _ hw_; apply opv_pickT; exact rfl; refine bT ?_; omega; exact rfl; exact rfl; apply wq_val; intro _ hw_; apply opv_move; exact rfl; exact rfl; apply wq_take; exact rfl; exact rfl; exact rfl; refine bF ?_; (with_reducible exact nne); apply wq_val; intro _ hw_; apply opv_move; exact rfl; exact rfl; apply wq_take; exact rfl; exact rfl; exact rfl; refine bF ?_; (with_reducible exact nne); apply wq_val; intro _ hw_; apply opv_move; exact rfl; exact rfl; apply wq_take; exact rfl; exact rfl; exact rfl; refine bF ?_; (with_reducible exact nne); apply wq_val; intro _ hw_; apply opv_len; exact rfl; exact tyB.sl; exact rfl; apply wq_take; exact rfl; exact rfl; exact rfl; refine bF ?_; (with_reducible exact nne); apply wq_val; intro _ hw_; apply opv_bin; exact rfl; exact rfl; exact bin_geq; exact rfl; apply wq_take; exact rfl; exact rfl; exact rfl; refine bF ?_; (with_reducible exact nne); apply wq_val; intro _ hw_; apply opv_move; exact rfl; exact rfl; apply wq_skip; exact rfl; exact rfl; exact rfl; refine bFn ?_; omega; exact rfl; apply wq_skip; exact rfl; exact rfl; exact rfl; refine bFn ?_; omega; exact rfl; apply wq_skip; exact rfl; exact rfl; exact rfl; refine bFn ?_; omega; exact rfl; apply wq_skip; exact rfl; exact rfl; exact rfl; refine bFn ?_; omega; exact rfl; apply wq_skip; exact rfl; exact rfl; exact rfl; refine bFn ?_; omega; exact rfl; apply wq_skip; exact rfl; exact rfl; exact rfl; refine bFn ?_; omega; exact rfl; apply wq_skip; exact rfl; exact rfl; exact rfl; refine bFn ?_; omega; exact rfl; apply wq_skip; exact rfl; exact rfl; exact rfl; refine bFn ?_; omega; exact rfl; apply wq_skip; exact rfl; exact rfl; exact rfl; refine bFn ?_; omega; exact rfl; apply wq_take; exact rfl; exact rfl; exact rfl; refine bF ?_; (with_reducible exact nne); apply wq_val; intro _ hw_; apply opv_pickF; exact rfl; refine bF ?_; omega; exact rfl; exact rfl; apply wq_val; intro _ hw_; apply opv_pickF; exact rfl; refine bF ?_; (with_reducible exact nne); exact rfl; exact rfl; refine wq_nil fun w1 hw1 => ?_
      refine we_seq ?_
      refine wc_condF rfl ?_
      refine wc_skip ?_; refine we_block_norm ?_; refine we_seq ?_; refine wc_region ?_; refine wl_mv rfl rfl ?_; apply wl_val; apply opv_bin; exact rfl; exact rfl; exact bin_add64 (by omega); exact rfl; refine wl_as rfl rfl ?_; refine wl_nil ?_
      refine we_loop [(0, .slice A (xs.length + 40) c), (1, .slice B xs.length d), (5, .int .i64 ((i + 1 : Nat) : Int))] (xs.length + 40 - (i + 1)) ⟨i + 1, rfl, by omega, hb1.trans (hw1.mono hb1.size), rfl⟩ (by omega) ⟨rfl, rfl, by simp [lookT], trivial⟩
    · have hsi := spareL_high (b := xs) (i := i) hlow (by omega)
      obtain ⟨y, hy0⟩ : ∃ y, UInt8.ofNat (160 + i % 31) = y := ⟨_, rfl⟩
      have hyn : y.toNat = 160 + i % 31 := by rw [← hy0, UInt8.toNat_ofNat', Nat.mod_eq_of_lt (show 160 + i % 31 < 2 ^ 8 by omega)]
      rw [hy0] at hsi
      refine wc_skip ?_; refine we_seq ?_; refine wc_seq ?_; refine wc_block ?_; refine wc_seq ?_
      refine wc_drawB mixed (by kernel_rfl) ?_
      apply wq_val; intro _ hw_; apply opv_move; exact rfl; exact rfl; apply wq_val; intro _ hw_; apply opv_move; exact rfl; exact rfl; apply wq_val; intro _ hw_; apply opv_len; exact rfl; exact tyB.sl; exact rfl; apply wq_val; intro _ hw_; apply opv_bin; exact rfl; exact rfl; exact bin_lss; exact rfl; apply wq_val; intro _ hw_; apply opv_move; exact rfl; exact rfl; apply wq_skip; exact rfl; exact rfl; exact rfl; refine bFn ?_; omega; exact rfl; apply wq_skip; exact rfl; exact rfl; exact rfl; refine bFn ?_; omega; exact rfl; apply wq_skip; exact rfl; exact rfl; exact rfl; refine bFn ?_; omega; exact rfl; apply wq_skip; exact rfl; exact rfl; exact rfl; refine bFn ?_; omega; exact rfl; apply wq_skip; exact rfl; exact rfl; exact rfl; refine bFn ?_; omega; exact rfl; apply wq_skip; exact rfl; exact rfl; exact rfl; refine bFn ?_; omega; exact rfl; apply wq_skip; exact rfl; exact rfl; exact rfl; refine bFn ?_; omega; exact rfl; apply wq_skip; exact rfl; exact rfl; exact rfl; refine bFn ?_; omega; exact rfl; apply wq_skip; exact rfl; exact rfl; exact rfl; refine bFn ?_; omega; exact rfl; apply wq_val; intro _ hw_; apply opv_pickF; exact rfl; refine bF ?_; omega; exact rfl; exact rfl; apply wq_val; intro _ hw_; apply opv_move; exact rfl; exact rfl; apply wq_take; exact rfl; exact rfl; exact rfl; exact rfl; apply wq_val; intro _ hw_; apply opv_move; exact rfl; exact rfl; apply wq_take; exact rfl; exact rfl; exact rfl; exact rfl; apply wq_val; intro _ hw_; apply opv_move; exact rfl; exact rfl; apply wq_take; exact rfl; exact rfl; exact rfl; exact rfl; apply wq_val; intro _ hw_; apply opv_len; exact rfl; exact tyB.sl; exact rfl; apply wq_take; exact rfl; exact rfl; exact rfl; exact rfl; apply wq_val; intro _ hw_; apply opv_bin; exact rfl; exact rfl; exact bin_geq; exact rfl; apply wq_take; exact rfl; exact rfl; exact rfl; exact rfl; apply wq_val; intro _ hw_; apply opv_move; exact rfl; exact rfl; apply wq_take; exact rfl; exact rfl; exact rfl; refine bT ?_; omega; apply wq_val; intro _ hw_; apply opv_move; exact rfl; exact rfl; apply wq_take; exact rfl; exact rfl; exact rfl; refine bT ?_; omega; apply wq_val; intro _ hw_; apply opv_move; exact rfl; exact rfl; apply wq_byTK (T := tyB) (hr := rx) (hb := hsi); exact rfl; exact rfl; exact rfl; refine bT ?_; omega; exact rfl; exact rfl; exact rfl; exact rfl; refine bT ?_; omega; exact rfl; exact rfl; exact rfl; exact rfl; exact rfl; intro _; apply wq_take; exact rfl; exact rfl; exact rfl; refine bT ?_; omega; apply wq_val; intro _ hw_; apply opv_move; exact rfl; exact rfl; apply wq_take; exact rfl; exact rfl; exact rfl; refine bT ?_; omega; apply wq_val; intro _ hw_; apply opv_bin; exact rfl; exact rfl; exact bin_rem (b := 31) (by decide); exact rfl; apply wq_take; exact rfl; exact rfl; exact rfl; refine bT ?_; omega; apply wq_val; intro _ hw_; apply opv_bin; exact rfl; exact rfl; exact bin_add64 (by omega); exact rfl; apply wq_take; exact rfl; exact rfl; exact rfl; refine bT ?_; omega; apply wq_val; intro _ hw_; apply opv_convR; exact rfl; exact Try.underlying3; exact Try.underlying5; exact IntWalk.u8_in _ (by omega); exact rfl; apply wq_take; exact rfl; exact rfl; exact rfl; refine bT ?_; omega; apply wq_val; intro _ hw_; apply opv_bin; exact rfl; exact rfl; exact bin_neq; exact rfl; apply wq_take; exact rfl; exact rfl; exact rfl; exact rfl; apply wq_val; intro _ hw_; apply opv_pickT; exact rfl; refine bT ?_; omega; exact rfl; exact rfl; apply wq_val; intro _ hw_; apply opv_pickF; exact rfl; exact rfl; exact rfl; exact rfl; refine wq_nil fun w1 hw1 => ?_
      refine we_seq ?_
      refine wc_cond rfl (fun h => absurd h (by omega)) (fun _ => ?_)
      refine wc_skip ?_; refine we_block_norm ?_; refine we_seq ?_; refine wc_region ?_; refine wl_mv rfl rfl ?_; apply wl_val; apply opv_bin; exact rfl; exact rfl; exact bin_add64 (by omega); exact rfl; refine wl_as rfl rfl ?_; refine wl_nil ?_
      refine we_loop [(0, .slice A (xs.length + 40) c), (1, .slice B xs.length d), (5, .int .i64 ((i + 1 : Nat) : Int))] (xs.length + 40 - (i + 1)) ⟨i + 1, rfl, by omega, hb1.trans (hw1.mono hb1.size), rfl⟩ (by omega) ⟨rfl, rfl, by simp [lookT], trivial⟩
  · refine wc_exit ?_; refine we_seq_exit ?_; refine we_loop_exit ?_; refine we_block_exit ?_; refine we_seq ?_; refine wc_sr ?_; refine wl_as rfl rfl ?_; refine wl_ns ?_; refine wc_ret ?_
    exact we_ret1 rfl rfl ⟨_, rfl, rfl, hb1⟩

theorem over_any {g n c : Nat} {l : List UInt8} {w : World} (ha : Ar w g 5 (bvs l)) (hn : n ≤ l.length) (hl : l.length ≤ 2199023255552) :
    CallsV Try.prog 37 #[.slice (some ⟨g, 0, none⟩) n c] w fun _ w' => ∃ l' : List UInt8, l'.length = l.length ∧ Ar w' g 5 (bvs l') ∧ Gr w w' (some ⟨g, 0, none⟩) := by
  refine calls_in (N := _) Try.func37 rfl Try.ntmps37 rfl ?_; show WC _ _ _ _ _ _
  refine wc_sr ?_; refine wl_as rfl rfl ?_; refine wl_ns ?_; refine wc_block ?_
  refine wc_loop (fun L wr m => ∃ (i : Nat) (l' : List UInt8), L = [(0, .slice (some ⟨g, 0, none⟩) n c), (2, .int .i64 (i : Int))] ∧ i ≤ n ∧ l'.length = l.length ∧ Ar wr g 5 (bvs l') ∧ Gr w wr (some ⟨g, 0, none⟩) ∧ m = n - i)
    [(0, .slice (some ⟨g, 0, none⟩) n c), (2, .int .i64 (0 : Nat))] n ⟨0, l, rfl, by omega, rfl, ha, Gr.refl _ _, rfl⟩ ⟨rfl, rfl, trivial⟩ ?_
  rintro _ w1 m ⟨i, l', rfl, hi, hl', a1, g1, rfl⟩
  have hbl := bvs_length l'
  have r1 : Rd w1 (some ⟨g, 0, none⟩) n (bvs (l'.take n)) := by have := a1.rd (n := n) (by omega); rw [bvs, ← List.map_take] at this; exact this
  refine wc_seq ?_; refine wc_sr ?_; refine wl_mv rfl rfl ?_; refine wl_mv rfl rfl ?_; apply wl_val; apply opv_len; exact rfl; exact tyB.sl; exact rfl; refine wl_bin rfl rfl bin_lss rfl ?_; refine wl_ns ?_
  refine wc_cond rfl (fun h1 => ?_) (fun h1 => ?_)
  · obtain ⟨x, hx⟩ : ∃ x, (l'.take n)[i]? = some x := ⟨_, List.getElem?_eq_getElem (by simp; omega)⟩
    have hxl := x.toNat_lt
    have hxx : x.toNat ^^^ 90 < 256 := Nat.xor_lt_two_pow (n := 8) hxl (by decide)
    refine wc_skip ?_; refine we_seq ?_; refine wc_seq ?_; refine wc_block ?_; refine wc_region ?_; refine wl_mv rfl rfl ?_; refine wl_mv rfl rfl ?_; refine wl_mv rfl rfl ?_; refine wl_mv rfl rfl ?_; apply wl_byK (T := tyB) (hr := r1) (hb := hx); exact rfl; exact rfl; exact rfl; exact rfl; exact rfl; intro _
    refine wl_val (opv_bin (b := .int .u8 (90 : Nat)) rfl rfl (bin_xor rfl hxl (by decide))) rfl ?_
    refine wl_setH (n := n) (kk := i) tyB rfl rfl a1 rfl (by omega) (by omega) (fun _ => rfl) rfl rfl fun p w2 a2 g2 _ => ?_
    have eu : Value.int .u8 ((x.toNat ^^^ 90 : Nat) : Int) = bv (UInt8.ofNat (x.toNat ^^^ 90)) := by
      unfold bv; rw [UInt8.toNat_ofNat', Nat.mod_eq_of_lt hxx]
    rw [eu, bvs_set] at a2
    refine wl_nil ?_; refine we_block_norm ?_; refine we_seq ?_; refine wc_region ?_; refine wl_mv rfl rfl ?_; apply wl_val; apply opv_bin; exact rfl; exact rfl; exact bin_add64 (by omega); exact rfl; refine wl_as rfl rfl ?_; refine wl_nil ?_
    refine we_loop [(0, .slice (some ⟨g, 0, none⟩) n c), (2, .int .i64 ((i + 1 : Nat) : Int))] (n - (i + 1)) ⟨i + 1, _, rfl, by omega, by rw [List.length_set]; exact hl', a2, g1.trans g2, rfl⟩ (by omega) ⟨rfl, by simp [lookT], trivial⟩
  · refine wc_exit ?_; refine we_seq_exit ?_; refine we_loop_exit ?_; refine we_block_exit ?_
    exact we_end0 rfl ⟨_, rfl, l', hl', a1, g1⟩
end Go.Proofs.Ytcjiecclmepboaa


/-
  The walk over the reference's Apart: lists that each lie at the head of a block of their own are told to be apart.
-/
namespace Go.Proofs.Ytcjiecclmepboaa
open Go.RowKit

section
variable {w w' w0 w1 : World} {A A' : Option Addr} {vs : List Value} {base n c i j : Nat}
theorem Own1.hd (h : Own1 w base vs) (hv : vs[i]? = some (.slice A n c)) : Hd w base A n c ∧ n ≤ 1099511627776 := by
  obtain ⟨A', n', c', e, h1, h2⟩ := h.at hv
  injection e with hA hn hc
  subst hA hn hc
  exact ⟨h1, h2⟩
theorem Own1.lt (h : Own1 w base vs) {v : Value} {g : Nat} (hv : v ∈ vs) (hg : v.ownBlock = some g) : g < w.heap.size ∧ base ≤ g := by
  obtain ⟨A, n, c, rfl, hd, _⟩ := h.1 v hv
  rw [ownBlock_slice] at hg
  rcases hd with ⟨rfl, _⟩ | ⟨g', cs, rfl, hb, ha, _⟩
  · simp at hg
  · simp at hg; subst hg; exact ⟨ha.lt, hb⟩
theorem Rd.cellAt {b o N : Nat} {v : Value} (h : Rd w (some ⟨b, o, none⟩) N vs) (hv : vs[i]? = some v) : w.cell? ⟨b, o + i, none⟩ = some v := by
  have hl := (List.getElem?_eq_some_iff.1 hv).1
  obtain ⟨b', o', e, _, hc⟩ := h.2 (by have := h.1; omega)
  injection e with e
  injection e with e1 e2
  subst e1 e2
  exact hc i v hv
theorem MkB.cs {b : Nat} {cs : List Value} (h : MkB w b i n) (ha : Ar w b 5 cs) : n ≤ cs.length ∧ ∀ j, j < n → cs[j]? = some (mk i j) := by
  obtain ⟨ds, hd, h1, h2⟩ := h
  have e : ds = cs := by
    unfold Ar at ha hd
    rw [ha] at hd
    simp only [Option.some.injEq, Obj.cells.injEq] at hd
    have := congrArg Array.toList hd.1
    simpa using this.symm
  subst e
  exact ⟨h1, h2⟩
theorem MkB.take {b : Nat} {cs : List Value} (h : MkB w b i n) (ha : Ar w b 5 cs) : cs.take n = bvs (mkl i n) := by
  obtain ⟨h1, h2⟩ := h.cs ha
  refine List.ext_getElem? fun j => ?_
  rw [List.getElem?_take, bvs, List.getElem?_map]
  by_cases hj : j < n
  · rw [if_pos hj, mkl_get hj, h2 j hj]; rfl
  · rw [if_neg hj, List.getElem?_eq_none (by rw [mkl_length]; omega)]; rfl
theorem set_marks {cs : List Value} : ∀ j' u, (cs.set j (mk i j))[j']? = some u → cs[j']? = some u ∨ u = mk i j' := fun j' u hu => by
  rw [List.getElem?_set] at hu
  split at hu
  · rename_i h
    subst h
    split at hu
    · simp at hu; exact .inr hu.symm
    · cases hu
  · exact .inl hu
theorem MkB.set {b : Nat} {cs : List Value} (h : MkB w b i j) (ha : Ar w b 5 cs) (hj : j < cs.length) (ha' : Ar w' b 5 (cs.set j (mk i j))) : MkB w' b i (j + 1) := by
  obtain ⟨_, h2⟩ := h.cs ha
  refine ⟨_, ha', by simp; omega, fun j' hj' => ?_⟩
  rw [List.getElem?_set]
  by_cases he : j = j'
  · subst he; simp [hj]
  · rw [if_neg he]; exact h2 j' (by omega)
/-- Marks from place n on. -/
def mkt (i n m : Nat) : List UInt8 := (List.range m).map fun k => mkb i (n + k)
theorem mkt_length {m : Nat} : (mkt i n m).length = m := by simp [mkt]
theorem mkt_get {m k : Nat} (h : k < m) : (mkt i n m)[k]? = some (mkb i (n + k)) := by simp [mkt, h]
theorem mkl_add {m : Nat} : mkl i (n + m) = mkl i n ++ mkt i n m := by
  refine List.ext_getElem? fun j => ?_
  by_cases h : j < n
  · rw [List.getElem?_append_left (by rw [mkl_length]; exact h), mkl_get h, mkl_get (by omega)]
  · rw [List.getElem?_append_right (by rw [mkl_length]; omega), mkl_length]
    by_cases h2 : j < n + m
    · rw [mkl_get h2, mkt_get (by omega)]; congr 2; omega
    · rw [List.getElem?_eq_none (by rw [mkl_length]; omega), List.getElem?_eq_none (by rw [mkt_length]; omega)]
theorem MkB.app {b m : Nat} {cs : List Value} (h : MkB w b i n) (ha : Ar w b 5 cs) (hm : n + m ≤ cs.length) (ha' : Ar w' b 5 (cs.take n ++ (bvs (mkt i n m) ++ cs.drop (n + m)))) : MkB w' b i (n + m) := by
  obtain ⟨h1, h2⟩ := h.cs ha
  refine ⟨_, ha', by simp [bvs_length, mkt_length]; omega, fun j hj => ?_⟩
  have hl : (cs.take n).length = n := by simp; omega
  by_cases h : j < n
  · rw [List.getElem?_append_left (by omega), List.getElem?_take, if_pos h]; exact h2 j h
  · rw [List.getElem?_append_right (by omega), hl, List.getElem?_append_left (by rw [bvs_length, mkt_length]; omega), bvs, List.getElem?_map, mkt_get (by omega), show n + (j - n) = j by omega]; rfl
theorem app_marks {m : Nat} {cs : List Value} (hm : n + m ≤ cs.length) : ∀ j u, (cs.take n ++ (bvs (mkt i n m) ++ cs.drop (n + m)))[j]? = some u → cs[j]? = some u ∨ u = mk i j := fun j u hu => by
  have hl : (cs.take n).length = n := by simp; omega
  by_cases h : j < n
  · rw [List.getElem?_append_left (by omega), List.getElem?_take, if_pos h] at hu; exact .inl hu
  · rw [List.getElem?_append_right (by omega), hl] at hu
    by_cases h2 : j < n + m
    · rw [List.getElem?_append_left (by rw [bvs_length, mkt_length]; omega), bvs, List.getElem?_map, mkt_get (by omega), show n + (j - n) = j by omega] at hu
      simp at hu; exact .inr hu.symm
    · rw [List.getElem?_append_right (by rw [bvs_length, mkt_length]; omega), bvs_length, mkt_length, List.getElem?_drop, show n + m + (j - n - m) = j by omega] at hu
      exact .inl hu
theorem Mx.succ (h : Mx w vs i) (hv : vs[i]? = some (.slice A n c)) (hm : ∀ a, A = some a → MkB w a.block i n) : Mx w vs (i + 1) := fun k A' n' c' hk hv' => by
  by_cases he : k = i
  · subst he
    rw [hv] at hv'
    simp only [Option.some.injEq] at hv'
    injection hv' with hA hn hc
    subst hn
    exact hm A' hA
  · exact h k A' n' c' (by omega) hv'
theorem St.far {X : Option Nat} (h : St w w1 X i) (hs : w.heap.size ≤ w1.heap.size) (g : Gr w1 w' A') (hA : ∀ a, A' = some a → w.heap.size ≤ a.block) : St w w' X i := fun b cs ha => by
  obtain ⟨cs', a1, l1, r⟩ := h b cs ha
  refine ⟨cs', ?_, l1, r⟩
  unfold Ar
  rw [g.block b a1.lt fun hk => ?_]
  · exact a1
  · cases A' with
    | none => simp at hk
    | some a => simp at hk; have := hA a rfl; have := ha.lt; omega
theorem Gr.far (h : Gr w w1 A) (g : Gr w1 w' A') (hA : ∀ a, A' = some a → w.heap.size ≤ a.block) : Gr w w' A :=
  ⟨g.os.trans h.os, g.tape.trans h.tape, g.output.trans h.output, Nat.le_trans h.size g.size, fun k hk hne => by
    rw [← h.block k hk hne]
    refine g.block k (Nat.lt_of_lt_of_le hk h.size) fun hk' => ?_
    cases A' with
    | none => simp at hk'
    | some a => simp at hk'; have := hA a rfl; omega⟩
theorem Gr.bel (h : Gr w w1 A) (g : Below w1.heap.size w1 w') : Gr w w' A := h.far (Gr.of_below none g (Nat.le_refl _)) (by simp)
/-- What stands of all that is followed. -/
def Sd (w0 w : World) (base : Nat) (vs : List Value) (N : Nat) (P : Option Addr) (cp : Nat) (gs : List Value) : Prop :=
  Own1 w base vs ∧ Mx w vs N ∧ Kp w0 w vs ∧ Ow w w0.heap.size 30 P gs.length cp gs ∧ ∀ k v, gs[k]? = some v → Gd w vs (k % N) v
variable {N cp : Nat} {P : Option Addr} {gs : List Value}
theorem Sd.bel (h : Sd w0 w base vs N P cp gs) (hb : Below w.heap.size w w') : Sd w0 w' base vs N P cp gs := by
  obtain ⟨h1, h2, h3, h4, h5⟩ := h
  refine ⟨h1.st (X := none) (k := 0) (St.bel hb), h2.bel hb, h3.bel hb, Ow.below h4 hb (Nat.le_refl _), fun k v hv => ?_⟩
  obtain ⟨b, n, c, e, hn, hn2, hm, ht⟩ := h5 k v hv
  exact ⟨b, n, c, e, hn, hn2, hm.st (X := none) (k := 0) (St.bel hb) (by simp), ht⟩
/-- A step that writes marks of list i into its own block alone. -/
theorem Sd.gr (h : Sd w0 w base vs N P cp gs) (hv : vs[i]? = some (.slice A n c)) (s : St w w' (A.map (·.block)) i) (g : Gr w w' A) (hv0 : ∀ a, A = some a → a.block < w0.heap.size) : Sd w0 w' base vs N P cp gs := by
  obtain ⟨h1, h2, h3, h4, h5⟩ := h
  refine ⟨h1.st s, h2.st h1 hv s, h3.gr g fun a ha _ => ⟨_, List.mem_of_getElem? hv, by rw [ha]; rfl⟩, Ow.gr (base' := 0) (e' := 0) h4 g fun a b ha hb => ?_, fun k v hk => (h5 k v hk).st hv s⟩
  have := (Ow.lt h4 a ha).1
  have := hv0 b hb
  omega
/-- A grown slice that has come to lie in a block of its own. -/
theorem gd_new {b0 : Nat} (h : Ow w b0 5 A' n c (bvs (mkl i n))) (hn : 0 < n) (hn2 : n ≤ 2199023255552) (hb : w0.heap.size ≤ b0) (ho : Own1 w0 base vs) : Gd w vs i (.slice A' n c) := by
  rcases h.2 with ⟨_, h0⟩ | ⟨g, cap, cur, hv, hbg, hg, hnc, _, hs, ht⟩
  · omega
  · injection hv with hA hn' hc
    subst hA hc
    refine ⟨g, n, c, rfl, hnc, hn2, ⟨cur.toList, by simpa [Ar] using hg, by simp; omega, fun j hj => ?_⟩, fun k u hu hub => ?_⟩
    · have e : (cur.toList.take n)[j]? = some (mk i j) := by
        rw [show cur.toList.take n = bvs (mkl i n) by simpa using ht, bvs, List.getElem?_map, mkl_get hj]; rfl
      rw [List.getElem?_take, if_pos hj] at e
      exact e
    · have := (ho.lt (List.mem_of_getElem? hu) hub).1
      omega
/-- A grown slice that lies in its list's own block. -/
theorem gd_own {g : Nat} (h : MkB w g i n) (hn : n ≤ c) (hn2 : n ≤ 2199023255552) {n0 c0 : Nat} (hv : vs[i]? = some (.slice (some ⟨g, 0, none⟩) n0 c0)) (ho : Own1 w base vs) : Gd w vs i (.slice (some ⟨g, 0, none⟩) n c) :=
  ⟨g, n, c, rfl, hn, hn2, h, fun k u hu hub => ho.inj hu hv hub rfl⟩
theorem Sd.push {cp' : Nat} {P' : Option Addr} {v : Value} (h : Sd w0 w base vs N P cp gs) (ho : Ow w' w0.heap.size 30 P' (gs.length + 1) cp' (gs ++ [v])) (g : Gr w w' P) (hg : Gd w vs (gs.length % N) v) : Sd w0 w' base vs N P' cp' (gs ++ [v]) := by
  obtain ⟨h1, h2, h3, h4, h5⟩ := h
  have s : ∀ k, St w w' none k := fun k => by
    rcases h4.2 with ⟨hv, _⟩ | ⟨g', cap, cur, hv, _, hg', _⟩
    · injection hv with hA
      subst hA
      exact St.other (g := 0) (t := 30) (cs := []) g (by simp) (.inl rfl) (by decide)
    · injection hv with hA
      subst hA
      exact St.other (g := g') (t := 30) (cs := cur.toList) g (by intro a ha; cases ha; rfl) (.inr (by simpa [Ar] using hg')) (by decide)
  have hk : ∀ {m : Nat} {u : Value}, Gd w vs m u → Gd w' vs m u := fun {m u} hgd => by
    obtain ⟨b, n, c, e, hn, hn2, hm, ht⟩ := hgd
    exact ⟨b, n, c, e, hn, hn2, hm.st (s 0) (by simp), ht⟩
  refine ⟨h1.st (s 0), fun k A n c hk hv => (h2 k A n c hk hv).st (s 0) (by simp), h3.gr g fun a ha hlt => ?_, by rw [List.length_append]; exact ho, fun k u hu => ?_⟩
  · have := (Ow.lt h4 a ha).1; omega
  · rw [List.getElem?_append] at hu
    split at hu
    · exact hk (h5 k u hu)
    · have hk0 : k = gs.length := by
        have := (List.getElem?_eq_some_iff.1 hu).1
        simp at this; omega
      subst hk0
      simp at hu
      subst hu
      exact hk hg
end
end Go.Proofs.Ytcjiecclmepboaa


/-
  The walk over the reference's Apart.
-/
namespace Go.Proofs.Ytcjiecclmepboaa
open Go.RowKit

/-- Phase 1: every list is filled with its marks. -/
def Ap1 (w0 w : World) (base : Nat) (vs : List Value) (i : Nat) : Prop := Own1 w base vs ∧ Mx w vs i ∧ Kp w0 w vs
theorem apart_any {Lp : Option Addr} {N c base : Nat} {vs : List Value} {w : World} (hr : Rd w Lp N vs) (hL : ∀ a, Lp = some a → ∀ v ∈ vs, v.ownBlock ≠ some a.block) (ho : Own1 w base vs) (hb : base ≤ w.heap.size) (hN : N ≤ 4194304) :
    CallsV Try.prog 61 #[.slice Lp N c] w fun v w' => v = .bool true ∧ Below base w w' := by
  have hvl : vs.length = N := hr.1
  have hlt0 : ∀ {A : Option Addr} {n c i : Nat}, vs[i]? = some (.slice A n c) → ∀ a, A = some a → a.block < w.heap.size := fun hv a ha => (ho.lt (List.mem_of_getElem? hv) (by rw [ownBlock_slice, ha]; rfl)).1
  refine calls_in (N := _) Try.func61 rfl Try.ntmps61 rfl ?_; show WC _ _ _ _ _ _
  refine wc_sr ?_; refine wl_as rfl rfl ?_; refine wl_ns ?_; refine wc_seq ?_; refine wc_sr ?_; refine wl_as rfl rfl ?_; refine wl_ns ?_; refine wc_block ?_
  refine wc_loop (fun L wr m => ∃ i : Nat, L = [(0, .slice Lp N c), (3, .int .i64 (i : Int))] ∧ i ≤ N ∧ Ap1 w wr base vs i ∧ m = N - i)
    [(0, .slice Lp N c), (3, .int .i64 (0 : Nat))] N ⟨0, rfl, by omega, ⟨ho, fun k A n c hk => by omega, Kp.refl _ _⟩, rfl⟩ ⟨rfl, rfl, trivial⟩ ?_
  rintro _ w1 m ⟨i, rfl, hi, ⟨o1, m1, k1⟩, rfl⟩
  refine wc_seq ?_; refine wc_sr ?_; refine wl_mv rfl rfl ?_; refine wl_mv rfl rfl ?_; apply wl_val; apply opv_len; exact rfl; exact tyBB.sl; exact rfl; refine wl_bin rfl rfl bin_lss rfl ?_; refine wl_ns ?_
  refine wc_cond rfl (fun h1 => ?_) (fun h1 => ?_)
  · obtain ⟨v, hv⟩ : ∃ v, vs[i]? = some v := ⟨_, List.getElem?_eq_getElem (by omega)⟩
    obtain ⟨A, n, cc, rfl, hd1, hnl⟩ := o1.at hv
    refine wc_skip ?_; refine we_seq ?_; refine wc_seq ?_; refine wc_block ?_; refine wc_sr ?_; refine wl_as rfl rfl ?_; refine wl_ns ?_; refine wc_block ?_
    refine wc_loop (fun L wr m => ∃ j : Nat, L = [(0, .slice Lp N c), (3, .int .i64 (i : Int)), (4, .int .i64 (j : Int))] ∧ j ≤ n ∧ Ap1 w wr base vs i ∧ (∀ a, A = some a → MkB wr a.block i j) ∧ m = n - j)
      [(0, .slice Lp N c), (3, .int .i64 (i : Int)), (4, .int .i64 (0 : Nat))] n ⟨0, rfl, by omega, ⟨o1, m1, k1⟩, ?_, rfl⟩ ⟨rfl, rfl, rfl, trivial⟩ ?_
    · intro a ha
      rcases hd1 with ⟨h, _⟩ | ⟨g, cs, h, _, ha1, _⟩
      · rw [h] at ha; cases ha
      · rw [h] at ha; cases ha
        exact ⟨cs, ha1, by omega, by omega⟩
    rintro _ w2 m ⟨j, rfl, hj, ⟨o2, m2, k2⟩, b2, rfl⟩
    have r2 := k2.rd hr hL
    refine wc_seq ?_; refine wc_sr ?_; refine wl_mv rfl rfl ?_; refine wl_mv rfl rfl ?_; refine wl_mv rfl rfl ?_; apply wl_elK (T := tyBB) (hr := r2) (hb := hv); exact rfl; exact rfl; exact rfl; exact rfl; exact rfl; intro _; apply wl_val; apply opv_len; exact rfl; exact tyB.sl; exact rfl; refine wl_bin rfl rfl bin_lss rfl ?_; refine wl_ns ?_
    refine wc_cond rfl (fun h2 => ?_) (fun h2 => ?_)
    · have hd2 := (o2.hd hv).1
      rcases hd2 with ⟨_, h0, _⟩ | ⟨g, cs, rfl, hg, ha, hnc, hcc⟩
      · omega
      obtain ⟨bl, ol, rfl, _, _⟩ := hr.2 (by omega)
      have mb := b2 _ rfl
      have hgr := (Gr.of_below (some ⟨g, 0, none⟩) ((Below.refl w2.heap.size w2).drew) (Nat.le_refl _))
      refine wc_skip ?_; refine we_seq ?_; refine wc_seq ?_; refine wc_block ?_
      refine wc_held (fun w' => Rd w' (some ⟨bl, ol, none⟩) N vs) mixed ?_
      apply wh_take 0; exact rfl; kernel_rfl; kernel_rfl; kernel_rfl; exact r2; intro _ hw_; apply opv_move; exact rfl; exact rfl; apply wh_take 1; exact rfl; kernel_rfl; kernel_rfl; kernel_rfl; exact r2; intro _ hw_; apply opv_move; exact rfl; exact rfl
      refine wh_take 2 rfl (by kernel_rfl) (by kernel_rfl) (by kernel_rfl) r2 (fun _ _ => opv_idx (kk := i) tyBB rfl rfl rfl (by omega)) rfl ?_
      refine wh_take 3 rfl (by kernel_rfl) (by kernel_rfl) (by kernel_rfl) r2 (fun _ hw => opv_load tyBB rfl (hw.cellAt hv)) rfl ?_
      apply wh_take 4; exact rfl; kernel_rfl; kernel_rfl; kernel_rfl; exact r2; intro _ hw_; apply opv_move; exact rfl; exact rfl; apply wh_take 5; exact rfl; kernel_rfl; kernel_rfl; kernel_rfl; exact r2; intro _ hw_; apply opv_move; exact rfl; exact rfl; apply wh_take 6; exact rfl; kernel_rfl; kernel_rfl; kernel_rfl; exact r2; intro _ hw_; apply opv_move; exact rfl; exact rfl
      refine wh_one 7 (o := ⟨_, _, _, _, _, _⟩) (by kernel_rfl) rfl ?_
      refine wl_call ok_caissonref01_mark (mark_any i j (by omega) (by omega) _) ⟨rfl, rfl, trivial⟩ rfl ?_
      rintro _ _ ⟨rfl, rfl⟩
      refine wl_nil ?_
      refine we_held r2 ?_
      refine wh_take 8 rfl (by kernel_rfl) (by kernel_rfl) (by kernel_rfl) r2 (fun _ _ => opv_idx (kk := j) tyB rfl rfl rfl (by omega)) rfl ?_
      refine wh_one 9 (o := ⟨_, _, _, _, _, _⟩) (by kernel_rfl) rfl ?_
      refine wl_storeA (w := w2.drew) (kk := j) tyB ha (by omega) rfl rfl rfl fun w3 a3 g3 _ => ?_
      have g3' := hgr.trans g3
      have s3 : St w2 w3 (some g) i := St.at g3' ha a3 (by simp) set_marks
      have o3 := o2.st s3
      have m3 := m2.st o2 hv s3
      have k3 := k2.gr g3' fun a ha' _ => ⟨_, List.mem_of_getElem? hv, by rw [ownBlock_slice, ha']; rfl⟩
      have b3 := mb.set ha (by omega) a3
      have r3 := k3.rd hr hL
      refine wl_nil ?_
      refine we_held r3 ?_
      refine wh_done (by kernel_rfl) ?_
      refine we_block_norm ?_; refine we_seq ?_; refine wc_region ?_; refine wl_mv rfl rfl ?_; apply wl_val; apply opv_bin; exact rfl; exact rfl; exact bin_add64 (by omega); exact rfl; refine wl_as rfl rfl ?_; refine wl_nil ?_
      refine we_loop [(0, .slice (some ⟨bl, ol, none⟩) N c), (3, .int .i64 (i : Int)), (4, .int .i64 ((j + 1 : Nat) : Int))] (n - (j + 1)) ⟨j + 1, rfl, by omega, ⟨o3, m3, k3⟩, by intro a ha; cases ha; exact b3, rfl⟩ (by omega) ⟨rfl, rfl, by simp [lookT], trivial⟩
    · obtain rfl : j = n := by omega
      have m2' := m2.succ hv b2
      refine wc_exit ?_; refine we_seq_exit ?_; refine we_loop_exit ?_; refine we_block_exit ?_; refine we_block_norm ?_; refine we_seq ?_; refine wc_region ?_; refine wl_mv rfl rfl ?_; apply wl_val; apply opv_bin; exact rfl; exact rfl; exact bin_add64 (by omega); exact rfl; refine wl_as rfl rfl ?_; refine wl_nil ?_
      refine we_loop [(0, .slice Lp N c), (3, .int .i64 ((i + 1 : Nat) : Int))] (N - (i + 1)) ⟨i + 1, rfl, by omega, ⟨o2, m2', k2⟩, rfl⟩ (by omega) ⟨rfl, by simp [lookT], trivial⟩
  · obtain rfl : i = N := by omega
    clear h1 hi
    refine wc_exit ?_; refine we_seq_exit ?_; refine we_loop_exit ?_; refine we_block_exit ?_; refine we_seq ?_; refine wc_sr ?_; refine wl_as rfl rfl ?_; refine wl_ns ?_; refine wc_seq ?_; refine wc_sr ?_; refine wl_as rfl rfl ?_; refine wl_ns ?_; refine wc_block ?_
    refine wc_loop (fun L wr m => ∃ (j : Nat) (P : Option Addr) (cp : Nat) (gs : List Value), L = [(0, .slice Lp i c), (5, .slice P gs.length cp), (6, .int .i64 (j : Int))] ∧ j ≤ i ∧ gs.length = j ∧ Sd w wr base vs i P cp gs ∧ m = i - j)
      [(0, .slice Lp i c), (5, .slice none 0 0), (6, .int .i64 (0 : Nat))] i ⟨0, none, 0, [], rfl, by omega, rfl, ⟨o1, m1, k1, Ow.nil _ _ _, by simp⟩, rfl⟩ ⟨rfl, rfl, rfl, trivial⟩ ?_
    rintro _ w2 m ⟨j, P, cp, gs, rfl, hj, hgl, s2, rfl⟩
    refine wc_seq ?_; refine wc_sr ?_; refine wl_mv rfl rfl ?_; refine wl_mv rfl rfl ?_; apply wl_val; apply opv_len; exact rfl; exact tyBB.sl; exact rfl; refine wl_bin rfl rfl bin_lss rfl ?_; refine wl_ns ?_
    refine wc_cond rfl (fun h1 => ?_) (fun h1 => ?_)
    · obtain ⟨v, hv⟩ : ∃ v, vs[j]? = some v := ⟨_, List.getElem?_eq_getElem (by omega)⟩
      obtain ⟨A, n, cc, rfl, hd2, hnl⟩ := s2.1.at hv
      have hv0 := hlt0 hv
      have r2 := s2.2.2.1.rd hr hL
      have hs20 := s2.2.2.1.2.2.2.1
      refine wc_skip ?_; refine we_seq ?_; refine wc_seq ?_; refine wc_block ?_; refine wc_sr ?_; refine wl_mv rfl rfl ?_; refine wl_mv rfl rfl ?_; apply wl_elK (T := tyBB) (hr := r2) (hb := hv); exact rfl; exact rfl; exact rfl; exact rfl; exact rfl; intro _; refine wl_as rfl rfl ?_; refine wl_ns ?_; refine wc_seq ?_; refine wc_sr ?_; refine wl_as rfl rfl ?_; refine wl_ns ?_; refine wc_block ?_
      refine wc_loop (fun L wr m => ∃ (k : Nat) (A' : Option Addr) (c' : Nat), L = [(0, .slice Lp i c), (5, .slice P gs.length cp), (6, .int .i64 (j : Int)), (7, .slice A' (n + k) c'), (8, .int .i64 (k : Int))] ∧ k ≤ 16 ∧ St w2 wr (A.map (·.block)) j ∧ Gr w2 wr A ∧ ((∃ g, A = some ⟨g, 0, none⟩ ∧ A' = some ⟨g, 0, none⟩ ∧ c' = cc ∧ n + k ≤ cc ∧ MkB wr g j (n + k)) ∨ Ow wr w2.heap.size 5 A' (n + k) c' (bvs (mkl j (n + k)))) ∧ m = 16 - k)
        [(0, .slice Lp i c), (5, .slice P gs.length cp), (6, .int .i64 (j : Int)), (7, .slice A n cc), (8, .int .i64 (0 : Nat))] 16 ⟨0, A, cc, rfl, by omega, St.refl _ _ _, Gr.refl _ _, ?_, rfl⟩ ⟨rfl, rfl, rfl, rfl, rfl, trivial⟩ ?_
      · rcases hd2 with ⟨rfl, rfl, rfl⟩ | ⟨g, cs, rfl, _, _, hnc, _⟩
        · exact .inr (Ow.nil _ _ _)
        · exact .inl ⟨g, rfl, rfl, rfl, hnc, s2.2.1 j _ n cc (by omega) hv⟩
      rintro _ w3 m ⟨k, A', c', rfl, hk, t3, g3, hg3, rfl⟩
      have r3 := (s2.2.2.1.gr g3 fun a ha' _ => ⟨_, List.mem_of_getElem? hv, by rw [ownBlock_slice, ha']; rfl⟩).rd hr hL
      refine wc_seq ?_; refine wc_sr ?_; refine wl_mv rfl rfl ?_; refine wl_bin rfl rfl bin_lss rfl ?_; refine wl_ns ?_
      refine wc_cond rfl (fun h2 => ?_) (fun h2 => ?_)
      · refine wc_skip ?_; refine we_seq ?_; refine wc_seq ?_; refine wc_block ?_; refine wc_region ?_; refine wl_mv rfl rfl ?_; refine wl_mv rfl rfl ?_; refine wl_mv rfl rfl ?_; refine wl_mv rfl rfl ?_; apply wl_elK (T := tyBB) (hr := r3) (hb := hv); exact rfl; exact rfl; exact rfl; exact rfl; exact rfl; intro _; apply wl_val; apply opv_len; exact rfl; exact tyB.sl; exact rfl; refine wl_mv rfl rfl ?_; apply wl_val; apply opv_bin; exact rfl; exact rfl; exact bin_add64 (by omega); exact rfl
        refine wl_call ok_caissonref01_mark (mark_any j (n + k) (by omega) (by omega) _) ⟨rfl, rfl, trivial⟩ rfl ?_
        rintro _ _ ⟨rfl, rfl⟩
        have hmk : [mk j (n + k)] = bvs (mkt j (n + k) 1) := rfl
        have hs3 := g3.size
        refine wl_bs (vs := [_]) tyB ⟨rfl, rfl, rfl, trivial⟩ rfl (by decide) rfl fun A4 w4 o4 hb4 _ => ?_
        rw [hmk] at o4
        rcases hg3 with ⟨g, rfl, rfl, rfl, hle, mb⟩ | hown
        · rcases hd2.st t3 with ⟨h, _⟩ | ⟨g', cs, he, _, ha, _, hcc⟩
          · cases h
          cases he
          have ha4 := ha.bel hb4
          have mb4 := mb.st (X := none) (k := j) (St.bel hb4) (by simp)
          have t4 := t3.trans (St.bel hb4)
          have g4 := g3.bel hb4
          refine wl_appA (n := n + k) tyB rfl ha4 hle hcc rfl o4.rd (by decide) (bvs_one _) (by omega) (by simp only [maxLen]; omega) rfl (fun hfit w5 a5 g5 => ?_) (fun A5 c5 w5 o5 hb5 => ?_)
          · have t5 : St w4 w5 (some g) j := St.at g5 ha4 a5 (by simp [bvs_length, mkt_length]; omega) (app_marks (by omega))
            refine wl_as rfl rfl ?_; refine wl_nil ?_; refine we_block_norm ?_; refine we_seq ?_; refine wc_region ?_; refine wl_mv rfl rfl ?_; apply wl_val; apply opv_bin; exact rfl; exact rfl; exact bin_add64 (by omega); exact rfl; refine wl_as rfl rfl ?_; refine wl_nil ?_
            refine we_loop [(0, .slice Lp i c), (5, .slice P gs.length cp), (6, .int .i64 (j : Int)), (7, .slice (some ⟨g, 0, none⟩) (n + (k + 1)) _), (8, .int .i64 ((k + 1 : Nat) : Int))] (16 - (k + 1)) ⟨k + 1, _, _, rfl, by omega, t4.trans t5, g4.trans g5, .inl ⟨g, rfl, rfl, rfl, by omega, mb4.app ha4 (by omega) a5⟩, rfl⟩ (by omega) ⟨rfl, rfl, rfl, rfl, by simp [lookT], trivial⟩
          · rw [mb4.take ha4, ← bvs_append, ← mkl_add] at o5
            refine wl_as rfl rfl ?_; refine wl_nil ?_; refine we_block_norm ?_; refine we_seq ?_; refine wc_region ?_; refine wl_mv rfl rfl ?_; apply wl_val; apply opv_bin; exact rfl; exact rfl; exact bin_add64 (by omega); exact rfl; refine wl_as rfl rfl ?_; refine wl_nil ?_
            refine we_loop [(0, .slice Lp i c), (5, .slice P gs.length cp), (6, .int .i64 (j : Int)), (7, .slice A5 (n + (k + 1)) c5), (8, .int .i64 ((k + 1 : Nat) : Int))] (16 - (k + 1)) ⟨k + 1, A5, c5, rfl, by omega, t4.trans (St.bel hb5), g4.bel hb5, .inr (Ow.mono o5 (by have := hb4.size; omega)), rfl⟩ (by omega) ⟨rfl, rfl, rfl, rfl, by simp [lookT], trivial⟩
        · have hown4 := Ow.below hown hb4 (Nat.le_refl _)
          have hs4 := hb4.size
          refine wl_app (n := n + k) tyB rfl hown4 rfl o4.rd (bvs_one _) (by omega) (by simp only [maxLen]; omega) (by omega) rfl fun A5 c5 w5 o5 g5 _ => ?_
          rw [← bvs_append, ← mkl_add] at o5
          have hfar : ∀ a, A' = some a → w2.heap.size ≤ a.block := fun a ha => (Ow.lt hown a ha).1
          refine wl_as rfl rfl ?_; refine wl_nil ?_; refine we_block_norm ?_; refine we_seq ?_; refine wc_region ?_; refine wl_mv rfl rfl ?_; apply wl_val; apply opv_bin; exact rfl; exact rfl; exact bin_add64 (by omega); exact rfl; refine wl_as rfl rfl ?_; refine wl_nil ?_
          refine we_loop [(0, .slice Lp i c), (5, .slice P gs.length cp), (6, .int .i64 (j : Int)), (7, .slice A5 (n + (k + 1)) c5), (8, .int .i64 ((k + 1 : Nat) : Int))] (16 - (k + 1)) ⟨k + 1, A5, c5, rfl, by omega, (t3.trans (St.bel hb4)).far (by omega) g5 hfar, (g3.bel hb4).far g5 hfar, .inr o5, rfl⟩ (by omega) ⟨rfl, rfl, rfl, rfl, by simp [lookT], trivial⟩
      · obtain rfl : k = 16 := by omega
        have s3 := s2.gr hv t3 g3 hv0
        have hgd : Gd w3 vs (gs.length % i) (.slice A' (n + 16) c') := by
          rw [hgl, Nat.mod_eq_of_lt (by omega)]
          rcases hg3 with ⟨g, rfl, rfl, rfl, hle, mb⟩ | hown
          · exact gd_own mb hle (by omega) hv s3.1
          · exact gd_new hown (by omega) (by omega) hs20 ho
        refine wc_exit ?_; refine we_seq_exit ?_; refine we_loop_exit ?_; refine we_block_exit ?_; refine we_seq ?_; refine wc_region ?_; refine wl_mv rfl rfl ?_; refine wl_mv rfl rfl ?_
        refine wl_push (vs := [.slice A' (n + 16) c']) tyBB rfl s3.2.2.2.1 ⟨rfl, rfl, rfl, trivial⟩ rfl (by decide) rfl (by omega) (by simp only [maxLen]; omega) s3.2.2.1.2.2.2.1 rfl rfl fun p P4 cp4 w4 o4 g4 _ => ?_
        refine wl_as rfl rfl ?_; refine wl_nil ?_; refine we_block_norm ?_; refine we_seq ?_; refine wc_region ?_; refine wl_mv rfl rfl ?_; apply wl_val; apply opv_bin; exact rfl; exact rfl; exact bin_add64 (by omega); exact rfl; refine wl_as rfl rfl ?_; refine wl_nil ?_
        refine we_loop [(0, .slice Lp i c), (5, .slice P4 (gs ++ [Value.slice A' (n + 16) c']).length cp4), (6, .int .i64 ((j + 1 : Nat) : Int))] (i - (j + 1)) ⟨j + 1, P4, cp4, _, rfl, by omega, by simp [hgl], s3.push o4 g4 hgd, rfl⟩ (by omega) ⟨rfl, by rw [List.length_append]; rfl, by simp [lookT], trivial⟩
    · obtain rfl : j = i := by omega
      clear h1 hj o1 m1 k1
      refine wc_exit ?_; refine we_seq_exit ?_; refine we_loop_exit ?_; refine we_block_exit ?_; refine we_seq ?_; refine wc_seq ?_; refine wc_sr ?_; refine wl_as rfl rfl ?_; refine wl_ns ?_; refine wc_block ?_
      refine wc_loop (fun L wr m => ∃ (q : Nat) (P : Option Addr) (cp : Nat) (gs : List Value), L = [(0, .slice Lp j c), (5, .slice P gs.length cp), (9, .int .i64 (q : Int))] ∧ q ≤ j ∧ gs.length = j + q ∧ Sd w wr base vs j P cp gs ∧ m = j - q)
        [(0, .slice Lp j c), (5, .slice P gs.length cp), (9, .int .i64 (0 : Nat))] j ⟨0, P, cp, gs, rfl, by omega, hgl, s2, rfl⟩ ⟨rfl, rfl, rfl, trivial⟩ ?_
      clear s2 hgl
      rintro _ w3 m ⟨q, P, cp, gs, rfl, hq, hgl, s3, rfl⟩
      refine wc_seq ?_; refine wc_sr ?_; refine wl_mv rfl rfl ?_; refine wl_mv rfl rfl ?_; apply wl_val; apply opv_len; exact rfl; exact tyBB.sl; exact rfl; refine wl_bin rfl rfl bin_lss rfl ?_; refine wl_ns ?_
      refine wc_cond rfl (fun h1 => ?_) (fun h1 => ?_)
      · obtain ⟨v, hv⟩ : ∃ v, vs[q]? = some v := ⟨_, List.getElem?_eq_getElem (by omega)⟩
        obtain ⟨A, n, cc, rfl, hd3, hnl⟩ := s3.1.at hv
        have hv0 := hlt0 hv
        have hs30 := s3.2.2.1.2.2.2.1
        refine wc_skip ?_; refine we_seq ?_; refine wc_seq ?_; refine wc_block ?_; refine wc_sr ?_
        refine wl_mk (n := 40) (c := 40) tyB rfl rfl rfl rfl (by omega) (by omega) (by simp only [maxLen]; omega) rfl fun A4 w4 o4 hb4 _ => ?_
        refine wl_as rfl rfl ?_; refine wl_ns ?_; refine wc_seq ?_; refine wc_sr ?_; refine wl_as rfl rfl ?_; refine wl_ns ?_; refine wc_block ?_
        refine wc_loop (fun L wr m => ∃ k : Nat, L = [(0, .slice Lp j c), (5, .slice P gs.length cp), (9, .int .i64 (q : Int)), (10, .slice A4 40 40), (11, .int .i64 (k : Int))] ∧ k ≤ 40 ∧ Ow wr w3.heap.size 5 A4 40 40 (bvs (mkt q n k ++ List.replicate (40 - k) 0)) ∧ Below w3.heap.size w3 wr ∧ m = 40 - k)
          [(0, .slice Lp j c), (5, .slice P gs.length cp), (9, .int .i64 (q : Int)), (10, .slice A4 40 40), (11, .int .i64 (0 : Nat))] 40 ⟨0, rfl, by omega, by simpa [bvs, bv, mkt] using o4, hb4, rfl⟩ ⟨rfl, rfl, rfl, rfl, rfl, trivial⟩ ?_
        rintro _ w5 m ⟨k, rfl, hk, o5, hb5, rfl⟩
        have s5 := s3.bel hb5
        have r5 := s5.2.2.1.rd hr hL
        have hs5 := hb5.size
        refine wc_seq ?_; refine wc_sr ?_; refine wl_mv rfl rfl ?_; refine wl_bin rfl rfl bin_lss rfl ?_; refine wl_ns ?_
        refine wc_cond rfl (fun h2 => ?_) (fun h2 => ?_)
        · refine wc_skip ?_; refine we_seq ?_; refine wc_seq ?_; refine wc_block ?_; refine wc_region ?_; refine wl_mv rfl rfl ?_; refine wl_mv rfl rfl ?_; refine wl_mv rfl rfl ?_; refine wl_mv rfl rfl ?_; refine wl_mv rfl rfl ?_; apply wl_elK (T := tyBB) (hr := r5) (hb := hv); exact rfl; exact rfl; exact rfl; exact rfl; exact rfl; intro _; apply wl_val; apply opv_len; exact rfl; exact tyB.sl; exact rfl; refine wl_mv rfl rfl ?_; apply wl_val; apply opv_bin; exact rfl; exact rfl; exact bin_add64 (by omega); exact rfl
          refine wl_call ok_caissonref01_mark (mark_any q (n + k) (by omega) (by omega) _) ⟨rfl, rfl, trivial⟩ rfl ?_
          rintro _ _ ⟨rfl, rfl⟩
          refine wl_set (n := 40) (kk := k) tyB rfl rfl o5 rfl (by omega) (fun _ => rfl) rfl rfl fun p w6 o6 g6 _ => ?_
          have hb6 := g6.below hb5 o5 (Nat.le_refl _) hs5
          have e6 : (bvs (mkt q n k ++ List.replicate (40 - k) 0)).set k (mk q (n + k)) = bvs (mkt q n (k + 1) ++ List.replicate (40 - (k + 1)) 0) := by
            rw [mk, bvs_set]
            congr 1
            rw [List.set_append_right _ _ (by rw [mkt_length]; omega), mkt_length, Nat.sub_self, show 40 - k = (40 - (k + 1)) + 1 by omega, List.replicate_succ, List.set_cons_zero]
            simp [mkt, List.range_succ]
          rw [e6] at o6
          refine wl_nil ?_; refine we_block_norm ?_; refine we_seq ?_; refine wc_region ?_; refine wl_mv rfl rfl ?_; apply wl_val; apply opv_bin; exact rfl; exact rfl; exact bin_add64 (by omega); exact rfl; refine wl_as rfl rfl ?_; refine wl_nil ?_
          refine we_loop [(0, .slice Lp j c), (5, .slice P gs.length cp), (9, .int .i64 (q : Int)), (10, .slice A4 40 40), (11, .int .i64 ((k + 1 : Nat) : Int))] (40 - (k + 1)) ⟨k + 1, rfl, by omega, o6, hb6, rfl⟩ (by omega) ⟨rfl, rfl, rfl, rfl, by simp [lookT], trivial⟩
        · obtain rfl : k = 40 := by omega
          rw [Nat.sub_self, List.replicate_zero, List.append_nil] at o5
          refine wc_exit ?_; refine we_seq_exit ?_; refine we_loop_exit ?_; refine we_block_exit ?_; refine we_seq ?_; refine wc_region ?_; refine wl_mv rfl rfl ?_; refine wl_mv rfl rfl ?_; refine wl_mv rfl rfl ?_; apply wl_elK (T := tyBB) (hr := r5) (hb := hv); exact rfl; exact rfl; exact rfl; exact rfl; exact rfl; intro _; refine wl_mv rfl rfl ?_
          rcases (s5.1.hd hv).1 with ⟨rfl, rfl, rfl⟩ | ⟨g, cs, rfl, _, ha, hnc, hcc⟩
          · refine wl_app tyB rfl (Ow.nil w5 w5.heap.size _) rfl o5.rd (bvs_one _) (by omega) (by simp only [maxLen]; omega) (Nat.le_refl _) rfl fun A7 c7 w7 o7 g7 _ => ?_
            have hb7 := g7.below (Below.refl w5.heap.size w5) (Ow.nil w5 w5.heap.size 5) (Nat.le_refl _) (Nat.le_refl _)
            have em : mkl q (0 + 40) = mkt q 0 40 := by rw [mkl_add]; rfl
            rw [List.nil_append, ← em] at o7
            have s7 := s5.bel hb7
            have hgd : Gd w7 vs (gs.length % j) (.slice A7 (0 + 40) c7) := by
              rw [hgl, Nat.add_mod_left, Nat.mod_eq_of_lt (by omega)]
              exact gd_new o7 (by omega) (by omega) (by omega) ho
            refine wl_push (vs := [.slice A7 (0 + 40) c7]) tyBB rfl s7.2.2.2.1 ⟨rfl, rfl, rfl, trivial⟩ rfl (by decide) rfl (by omega) (by simp only [maxLen]; omega) s7.2.2.1.2.2.2.1 rfl rfl fun p P8 cp8 w8 o8 g8 _ => ?_
            refine wl_as rfl rfl ?_; refine wl_nil ?_; refine we_block_norm ?_; refine we_seq ?_; refine wc_region ?_; refine wl_mv rfl rfl ?_; apply wl_val; apply opv_bin; exact rfl; exact rfl; exact bin_add64 (by omega); exact rfl; refine wl_as rfl rfl ?_; refine wl_nil ?_
            refine we_loop [(0, .slice Lp j c), (5, .slice P8 (gs ++ [Value.slice A7 (0 + 40) c7]).length cp8), (9, .int .i64 ((q + 1 : Nat) : Int))] (j - (q + 1)) ⟨q + 1, P8, cp8, _, rfl, by omega, by simp [hgl]; omega, s7.push o8 g8 hgd, rfl⟩ (by omega) ⟨rfl, by rw [List.length_append]; rfl, by simp [lookT], trivial⟩
          · have mb := s5.2.1 q _ n cc (by omega) hv
            refine wl_appA tyB rfl ha hnc hcc rfl o5.rd (by decide) (bvs_one _) (by omega) (by simp only [maxLen]; omega) rfl (fun hfit w7 a7 g7 => ?_) (fun A7 c7 w7 o7 hb7 => ?_)
            · have t7 : St w5 w7 (some g) q := St.at g7 ha a7 (by simp [bvs_length, mkt_length]; omega) (app_marks (by omega))
              have s7 := s5.gr hv t7 g7 hv0
              have hgd : Gd w7 vs (gs.length % j) (.slice (some ⟨g, 0, none⟩) (n + 40) cc) := by
                rw [hgl, Nat.add_mod_left, Nat.mod_eq_of_lt (by omega)]
                exact gd_own (mb.app ha (by omega) a7) hfit (by omega) hv s7.1
              refine wl_push (vs := [.slice (some ⟨g, 0, none⟩) (n + 40) cc]) tyBB rfl s7.2.2.2.1 ⟨rfl, rfl, rfl, trivial⟩ rfl (by decide) rfl (by omega) (by simp only [maxLen]; omega) s7.2.2.1.2.2.2.1 rfl rfl fun p P8 cp8 w8 o8 g8 _ => ?_
              refine wl_as rfl rfl ?_; refine wl_nil ?_; refine we_block_norm ?_; refine we_seq ?_; refine wc_region ?_; refine wl_mv rfl rfl ?_; apply wl_val; apply opv_bin; exact rfl; exact rfl; exact bin_add64 (by omega); exact rfl; refine wl_as rfl rfl ?_; refine wl_nil ?_
              refine we_loop [(0, .slice Lp j c), (5, .slice P8 (gs ++ [Value.slice (some ⟨g, 0, none⟩) (n + 40) cc]).length cp8), (9, .int .i64 ((q + 1 : Nat) : Int))] (j - (q + 1)) ⟨q + 1, P8, cp8, _, rfl, by omega, by simp [hgl]; omega, s7.push o8 g8 hgd, rfl⟩ (by omega) ⟨rfl, by rw [List.length_append]; rfl, by simp [lookT], trivial⟩
            · rw [mb.take ha, ← bvs_append, ← mkl_add] at o7
              have s7 := s5.bel hb7
              have hgd : Gd w7 vs (gs.length % j) (.slice A7 (n + 40) c7) := by
                rw [hgl, Nat.add_mod_left, Nat.mod_eq_of_lt (by omega)]
                exact gd_new o7 (by omega) (by omega) (by omega) ho
              refine wl_push (vs := [.slice A7 (n + 40) c7]) tyBB rfl s7.2.2.2.1 ⟨rfl, rfl, rfl, trivial⟩ rfl (by decide) rfl (by omega) (by simp only [maxLen]; omega) s7.2.2.1.2.2.2.1 rfl rfl fun p P8 cp8 w8 o8 g8 _ => ?_
              refine wl_as rfl rfl ?_; refine wl_nil ?_; refine we_block_norm ?_; refine we_seq ?_; refine wc_region ?_; refine wl_mv rfl rfl ?_; apply wl_val; apply opv_bin; exact rfl; exact rfl; exact bin_add64 (by omega); exact rfl; refine wl_as rfl rfl ?_; refine wl_nil ?_
              refine we_loop [(0, .slice Lp j c), (5, .slice P8 (gs ++ [Value.slice A7 (n + 40) c7]).length cp8), (9, .int .i64 ((q + 1 : Nat) : Int))] (j - (q + 1)) ⟨q + 1, P8, cp8, _, rfl, by omega, by simp [hgl]; omega, s7.push o8 g8 hgd, rfl⟩ (by omega) ⟨rfl, by rw [List.length_append]; rfl, by simp [lookT], trivial⟩
      · obtain rfl : q = j := by omega
        clear h1 hq
        have rg := Ow.rd s3.2.2.2.1
        have rv := s3.2.2.1.rd hr hL
        refine wc_exit ?_; refine we_seq_exit ?_; refine we_loop_exit ?_; refine we_block_exit ?_; refine we_seq ?_; refine wc_seq ?_; refine wc_sr ?_; refine wl_as rfl rfl ?_; refine wl_ns ?_; refine wc_block ?_
        refine wc_loop (fun L wr m => ∃ t : Nat, L = [(0, .slice Lp q c), (5, .slice P gs.length cp), (12, .int .i64 (t : Int))] ∧ t ≤ gs.length ∧ Below w3.heap.size w3 wr ∧ m = gs.length - t)
          [(0, .slice Lp q c), (5, .slice P gs.length cp), (12, .int .i64 (0 : Nat))] gs.length ⟨0, rfl, by omega, Below.refl _ _, rfl⟩ ⟨rfl, rfl, rfl, trivial⟩ ?_
        rintro _ w4 m ⟨t, rfl, ht, hb4, rfl⟩
        have rg4 := rg.below hb4
        refine wc_seq ?_; refine wc_sr ?_; refine wl_mv rfl rfl ?_; refine wl_mv rfl rfl ?_; apply wl_val; apply opv_len; exact rfl; exact tyBB.sl; exact rfl; refine wl_bin rfl rfl bin_lss rfl ?_; refine wl_ns ?_
        refine wc_cond rfl (fun h1 => ?_) (fun h1 => ?_)
        · obtain ⟨v, hv⟩ : ∃ v, gs[t]? = some v := ⟨_, List.getElem?_eq_getElem (by omega)⟩
          obtain ⟨b, n, cc, rfl, hnc, hn2, mb, _⟩ := s3.2.2.2.2 t v hv
          have rb : Rd w3 (some ⟨b, 0, none⟩) n (bvs (mkl (t % q) n)) := by have := mb.rd; unfold RdB at this; rw [mkl_length] at this; exact this
          have hq0 : 0 < q := by omega
          have htq : t % q < q := Nat.mod_lt _ hq0
          refine wc_skip ?_; refine we_seq ?_; refine wc_seq ?_; refine wc_block ?_; refine wc_sr ?_; refine wl_as rfl rfl ?_; refine wl_ns ?_; refine wc_block ?_
          refine wc_loop (fun L wr m => ∃ k : Nat, L = [(0, .slice Lp q c), (5, .slice P gs.length cp), (12, .int .i64 (t : Int)), (13, .int .i64 (k : Int))] ∧ k ≤ n ∧ Below w3.heap.size w3 wr ∧ m = n - k)
            [(0, .slice Lp q c), (5, .slice P gs.length cp), (12, .int .i64 (t : Int)), (13, .int .i64 (0 : Nat))] n ⟨0, rfl, by omega, hb4, rfl⟩ ⟨rfl, rfl, rfl, rfl, trivial⟩ ?_
          rintro _ w5 m ⟨k, rfl, hk, hb5, rfl⟩
          have rg5 := rg.below hb5
          have rb5 := rb.below hb5
          refine wc_seq ?_; refine wc_sr ?_; refine wl_mv rfl rfl ?_; refine wl_mv rfl rfl ?_; refine wl_mv rfl rfl ?_; apply wl_elK (T := tyBB) (hr := rg5) (hb := hv); exact rfl; exact rfl; exact rfl; exact rfl; exact rfl; intro _; apply wl_val; apply opv_len; exact rfl; exact tyB.sl; exact rfl; refine wl_bin rfl rfl bin_lss rfl ?_; refine wl_ns ?_
          refine wc_cond rfl (fun h2 => ?_) (fun h2 => ?_)
          · have hx := mkl_get (i := t % q) (show k < n by omega)
            refine wc_skip ?_; refine we_seq ?_; refine wc_seq ?_; refine wc_block ?_; refine wc_seq ?_
            refine wc_drawB mixed (by kernel_rfl) ?_
            apply wq_val; intro _ hw_; apply opv_move; exact rfl; exact rfl; apply wq_val; intro _ hw_; apply opv_move; exact rfl; exact rfl; apply wq_elK (T := tyBB) (hr := rg5) (hb := hv); exact rfl; exact rfl; exact rfl; exact rfl; exact rfl; intro _; apply wq_val; intro _ hw_; apply opv_move; exact rfl; exact rfl; apply wq_byK (T := tyB) (hr := rb5) (hb := hx); exact rfl; exact rfl; exact rfl; exact rfl; exact rfl; intro _; apply wq_val; intro _ hw_; apply opv_move; exact rfl; exact rfl; apply wq_val; intro _ hw_; apply opv_move; exact rfl; exact rfl; apply wq_val; intro _ hw_; apply opv_len; exact rfl; exact tyBB.sl; exact rfl; apply wq_val; intro _ hw_; apply opv_bin; exact rfl; exact rfl; exact bin_rem (by omega); exact rfl; apply wq_val; intro _ hw_; apply opv_move; exact rfl; exact rfl
            refine wq_call ok_caissonref01_mark (fun w hw => (mark_any (t % q) k (by omega) (by omega) w).mono (fun v w' h => ⟨(show v = Value.int .u8 ((mkb (t % q) k).toNat : Int) from h.1), h.2 ▸ hw⟩)) ⟨rfl, rfl, trivial⟩ rfl ?_
            apply wq_val; intro _ hw_; apply opv_bin; exact rfl; exact rfl; exact bin_neq; exact rfl; refine wq_nil fun w1 hw1 => ?_
            refine we_seq ?_
            refine wc_cond rfl (fun h => absurd rfl h) (fun _ => ?_)
            refine wc_skip ?_; refine we_block_norm ?_; refine we_seq ?_; refine wc_region ?_; refine wl_mv rfl rfl ?_; apply wl_val; apply opv_bin; exact rfl; exact rfl; exact bin_add64 (by omega); exact rfl; refine wl_as rfl rfl ?_; refine wl_nil ?_
            refine we_loop [(0, .slice Lp q c), (5, .slice P gs.length cp), (12, .int .i64 (t : Int)), (13, .int .i64 ((k + 1 : Nat) : Int))] (n - (k + 1)) ⟨k + 1, rfl, by omega, hb5.trans (hw1.mono hb5.size), rfl⟩ (by omega) ⟨rfl, rfl, rfl, by simp [lookT], trivial⟩
          · refine wc_exit ?_; refine we_seq_exit ?_; refine we_loop_exit ?_; refine we_block_exit ?_; refine we_block_norm ?_; refine we_seq ?_; refine wc_region ?_; refine wl_mv rfl rfl ?_; apply wl_val; apply opv_bin; exact rfl; exact rfl; exact bin_add64 (by omega); exact rfl; refine wl_as rfl rfl ?_; refine wl_nil ?_
            refine we_loop [(0, .slice Lp q c), (5, .slice P gs.length cp), (12, .int .i64 ((t + 1 : Nat) : Int))] (gs.length - (t + 1)) ⟨t + 1, rfl, by omega, hb5, rfl⟩ (by omega) ⟨rfl, rfl, by simp [lookT], trivial⟩
        · clear h1 ht
          refine wc_exit ?_; refine we_seq_exit ?_; refine we_loop_exit ?_; refine we_block_exit ?_; refine we_seq ?_; refine wc_seq ?_; refine wc_sr ?_; refine wl_as rfl rfl ?_; refine wl_ns ?_; refine wc_block ?_
          refine wc_loop (fun L wr m => ∃ t : Nat, L = [(0, .slice Lp q c), (14, .int .i64 (t : Int))] ∧ t ≤ q ∧ Below w3.heap.size w3 wr ∧ m = q - t)
            [(0, .slice Lp q c), (14, .int .i64 (0 : Nat))] q ⟨0, rfl, by omega, hb4, rfl⟩ ⟨rfl, rfl, trivial⟩ ?_
          rintro _ w4 m ⟨t, rfl, ht, hb4, rfl⟩
          refine wc_seq ?_; refine wc_sr ?_; refine wl_mv rfl rfl ?_; refine wl_mv rfl rfl ?_; apply wl_val; apply opv_len; exact rfl; exact tyBB.sl; exact rfl; refine wl_bin rfl rfl bin_lss rfl ?_; refine wl_ns ?_
          refine wc_cond rfl (fun h1 => ?_) (fun h1 => ?_)
          · obtain ⟨v, hv⟩ : ∃ v, vs[t]? = some v := ⟨_, List.getElem?_eq_getElem (by omega)⟩
            obtain ⟨A, n, cc, rfl, hd, hn2⟩ := s3.1.at hv
            refine wc_skip ?_; refine we_seq ?_; refine wc_seq ?_; refine wc_block ?_; refine wc_sr ?_; refine wl_as rfl rfl ?_; refine wl_ns ?_; refine wc_block ?_
            refine wc_loop (fun L wr m => ∃ k : Nat, L = [(0, .slice Lp q c), (14, .int .i64 (t : Int)), (15, .int .i64 (k : Int))] ∧ k ≤ n ∧ Below w3.heap.size w3 wr ∧ m = n - k)
              [(0, .slice Lp q c), (14, .int .i64 (t : Int)), (15, .int .i64 (0 : Nat))] n ⟨0, rfl, by omega, hb4, rfl⟩ ⟨rfl, rfl, rfl, trivial⟩ ?_
            rintro _ w5 m ⟨k, rfl, hk, hb5, rfl⟩
            have rv5 := rv.below hb5
            refine wc_seq ?_; refine wc_sr ?_; refine wl_mv rfl rfl ?_; refine wl_mv rfl rfl ?_; refine wl_mv rfl rfl ?_; apply wl_elK (T := tyBB) (hr := rv5) (hb := hv); exact rfl; exact rfl; exact rfl; exact rfl; exact rfl; intro _; apply wl_val; apply opv_len; exact rfl; exact tyB.sl; exact rfl; refine wl_bin rfl rfl bin_lss rfl ?_; refine wl_ns ?_
            refine wc_cond rfl (fun h2 => ?_) (fun h2 => ?_)
            · rcases hd with ⟨_, h0, _⟩ | ⟨g, cs, rfl, _, _, _, _⟩
              · omega
              have mb := s3.2.1 t _ n cc (by omega) hv
              have rb5 : Rd w5 (some ⟨g, 0, none⟩) n (bvs (mkl t n)) := by have := RdB.below mb.rd hb5; unfold RdB at this; rw [mkl_length] at this; exact this
              have hx := mkl_get (i := t) (show k < n by omega)
              refine wc_skip ?_; refine we_seq ?_; refine wc_seq ?_; refine wc_block ?_; refine wc_seq ?_
              refine wc_drawB mixed (by kernel_rfl) ?_
              apply wq_val; intro _ hw_; apply opv_move; exact rfl; exact rfl; apply wq_val; intro _ hw_; apply opv_move; exact rfl; exact rfl; apply wq_elK (T := tyBB) (hr := rv5) (hb := hv); exact rfl; exact rfl; exact rfl; exact rfl; exact rfl; intro _; apply wq_val; intro _ hw_; apply opv_move; exact rfl; exact rfl; apply wq_byK (T := tyB) (hr := rb5) (hb := hx); exact rfl; exact rfl; exact rfl; exact rfl; exact rfl; intro _; apply wq_val; intro _ hw_; apply opv_move; exact rfl; exact rfl; apply wq_val; intro _ hw_; apply opv_move; exact rfl; exact rfl
              refine wq_call ok_caissonref01_mark (fun w hw => (mark_any t k (by omega) (by omega) w).mono (fun v w' h => ⟨(show v = Value.int .u8 ((mkb t k).toNat : Int) from h.1), h.2 ▸ hw⟩)) ⟨rfl, rfl, trivial⟩ rfl ?_
              apply wq_val; intro _ hw_; apply opv_bin; exact rfl; exact rfl; exact bin_neq; exact rfl; refine wq_nil fun w1 hw1 => ?_
              refine we_seq ?_
              refine wc_cond rfl (fun h => absurd rfl h) (fun _ => ?_)
              refine wc_skip ?_; refine we_block_norm ?_; refine we_seq ?_; refine wc_region ?_; refine wl_mv rfl rfl ?_; apply wl_val; apply opv_bin; exact rfl; exact rfl; exact bin_add64 (by omega); exact rfl; refine wl_as rfl rfl ?_; refine wl_nil ?_
              refine we_loop [(0, .slice Lp q c), (14, .int .i64 (t : Int)), (15, .int .i64 ((k + 1 : Nat) : Int))] (n - (k + 1)) ⟨k + 1, rfl, by omega, hb5.trans (hw1.mono hb5.size), rfl⟩ (by omega) ⟨rfl, rfl, by simp [lookT], trivial⟩
            · refine wc_exit ?_; refine we_seq_exit ?_; refine we_loop_exit ?_; refine we_block_exit ?_; refine we_block_norm ?_; refine we_seq ?_; refine wc_region ?_; refine wl_mv rfl rfl ?_; apply wl_val; apply opv_bin; exact rfl; exact rfl; exact bin_add64 (by omega); exact rfl; refine wl_as rfl rfl ?_; refine wl_nil ?_
              refine we_loop [(0, .slice Lp q c), (14, .int .i64 ((t + 1 : Nat) : Int))] (q - (t + 1)) ⟨t + 1, rfl, by omega, hb5, rfl⟩ (by omega) ⟨rfl, by simp [lookT], trivial⟩
          · refine wc_exit ?_; refine we_seq_exit ?_; refine we_loop_exit ?_; refine we_block_exit ?_; refine we_seq ?_; refine wc_sr ?_; refine wl_as rfl rfl ?_; refine wl_ns ?_; refine wc_ret ?_
            exact we_ret1 rfl rfl ⟨_, rfl, rfl, (s3.2.2.1.bel hb4).below (fun v hv g hg => (ho.lt hv hg).2) hb⟩

end Go.Proofs.Ytcjiecclmepboaa


/-
  Words for the laws that say that answers are memory of their own: what is answered is gathered in a list, each in a block of its own, and stays so.
-/
namespace Go.Proofs.Ytcjiecclmepboaa
open Go.RowKit

/-- The slices of a list read as these rows. -/
def RdV (w : World) (vs : List Value) (rows : List (List UInt8)) : Prop :=
  vs.length = rows.length ∧ ∀ (i : Nat) (r : List UInt8), rows[i]? = some r → ∃ (A' : Option Addr) (c' : Nat), vs[i]? = some (Value.slice A' r.length c') ∧ RdB w A' r ∧ r.length ≤ c'
section
variable {w w' w0 : World} {A B : Option Addr} {vs vs' l1 l2 : List Value} {rows rows' : List (List UInt8)} {base b n c m : Nat}
theorem RdV.rd (h : RdV w vs rows) (hr : Rd w A n vs) (hn : rows.length = n) : RdBB w A rows := by subst hn; exact ⟨vs, hr, h.2⟩
theorem RdV.nil : RdV w [] [] := ⟨rfl, by simp⟩
theorem RdV.cons {r : List UInt8} (h : RdV w vs rows) (hr : RdB w A r) (hn : r.length = n) (hc : r.length ≤ c) : RdV w (.slice A n c :: vs) (r :: rows) := by
  subst hn
  refine ⟨by simp [h.1], fun i q hi => ?_⟩
  cases i with
  | zero => simp only [List.getElem?_cons_zero, Option.some.injEq] at hi; subst hi; exact ⟨A, c, rfl, hr, hc⟩
  | succ i => simpa using h.2 i q (by simpa using hi)
theorem RdV.append (h : RdV w vs rows) (h' : RdV w vs' rows') : RdV w (vs ++ vs') (rows ++ rows') := by
  refine ⟨by simp [h.1, h'.1], fun i q hi => ?_⟩
  rw [List.getElem?_append] at hi
  split at hi
  · rename_i hl
    rw [List.getElem?_append_left (by rw [h.1]; exact hl)]; exact h.2 i q hi
  · rename_i hl
    rw [List.getElem?_append_right (by rw [h.1]; omega), h.1]; exact h'.2 _ q hi
theorem RdV.bel (h : RdV w vs rows) (hb : Below w.heap.size w w') : RdV w' vs rows := ⟨h.1, fun i r hi => by
  obtain ⟨A', c', h1, h2, h3⟩ := h.2 i r hi
  exact ⟨A', c', h1, h2.below hb, h3⟩⟩
theorem RdV.gr (h : RdV w vs rows) (g : Gr w w' B) (hne : ∀ b, B = some b → ∀ v ∈ vs, v.ownBlock ≠ some b.block) : RdV w' vs rows := ⟨h.1, fun i r hi => by
  obtain ⟨A', c', h1, h2, h3⟩ := h.2 i r hi
  refine ⟨A', c', h1, Rd.gr h2 g fun a b ha hb => ?_, h3⟩
  have := hne b hb _ (List.mem_of_getElem? h1)
  rw [ownBlock_slice, ha] at this
  simpa using this⟩
theorem OwBB.rdv (h : OwBB w base A c rows) : ∃ vs, Ow w base 30 A rows.length c vs ∧ RdV w vs rows := by
  obtain ⟨vs, ho, hr, _⟩ := h
  refine ⟨vs, ho, ho.len, fun i r hi => ?_⟩
  obtain ⟨A', c', h1, h2, _⟩ := hr i r hi
  exact ⟨A', c', h1, OwB.rd h2, h2.cap⟩

theorem Own1.nil : Own1 w base [] := ⟨by simp, List.Pairwise.nil⟩
theorem Own1.bel (h : Own1 w base vs) (hb : Below w.heap.size w w') : Own1 w' base vs := h.st (X := none) (k := 0) (St.bel hb)
theorem Own1.mono {base' : Nat} (h : Own1 w base vs) (hb : base' ≤ base) : Own1 w base' vs := ⟨fun v hv => by
  obtain ⟨A, n, c, e, hd, hn⟩ := h.1 v hv
  refine ⟨A, n, c, e, ?_, hn⟩
  rcases hd with hd | ⟨g, cs, e1, e2, e3⟩
  · exact .inl hd
  · exact .inr ⟨g, cs, e1, Nat.le_trans hb e2, e3⟩, h.2⟩
theorem Own1.one (h : Hd w base A n c) (hn : n ≤ 1099511627776) : Own1 w base [.slice A n c] := ⟨by intro v hv; simp at hv; subst hv; exact ⟨A, n, c, rfl, h, hn⟩, by simp⟩
theorem own_symm {v v' : Value} (h : ∀ g, v.ownBlock = some g → v'.ownBlock ≠ some g) : ∀ g, v'.ownBlock = some g → v.ownBlock ≠ some g := fun g h1 h2 => h g h2 h1
/-- New lists are put between the others. -/
theorem Own1.ins (h : Own1 w base (l1 ++ l2)) (hb : Below w.heap.size w w') (h' : Own1 w' w.heap.size vs) (hbase : base ≤ w.heap.size) : Own1 w' base (l1 ++ (vs ++ l2)) := by
  have hk := h.bel hb
  have hp : (vs ++ l2 ++ l1).Pairwise fun v v' => ∀ g, v.ownBlock = some g → v'.ownBlock ≠ some g := by
    rw [List.append_assoc, List.pairwise_append]
    refine ⟨h'.2, ?_, fun v hv v' hv' g hg hg' => ?_⟩
    · have := h.2
      rw [List.pairwise_append] at this ⊢
      exact ⟨this.2.1, this.1, fun a ha b hb' => own_symm (this.2.2 b hb' a ha)⟩
    · have h1 := (h'.lt hv hg).2
      have h2 := (h.lt (show v' ∈ l1 ++ l2 by simp at hv' ⊢; exact hv'.symm) hg').1
      omega
  refine ⟨fun v hv => ?_, ?_⟩
  · simp only [List.mem_append] at hv
    rcases hv with hv | hv | hv
    · exact hk.1 v (by simp [hv])
    · exact (h'.mono hbase).1 v hv
    · exact hk.1 v (by simp [hv])
  · rw [List.pairwise_append] at hp ⊢
    exact ⟨hp.2.1, hp.1, fun a ha b hb' => own_symm (hp.2.2 b hb' a ha)⟩
/-- One new list is put at place k of the others. -/
theorem Own1.add {l : List Value} (k : Nat) (h : Own1 w base l) (hb : Below w.heap.size w w') (h' : Hd w' w.heap.size A n c) (hn : n ≤ 1099511627776) (hbase : base ≤ w.heap.size) : Own1 w' base (l.take k ++ .slice A n c :: l.drop k) :=
  Own1.ins (l1 := l.take k) (l2 := l.drop k) (by rw [List.take_append_drop]; exact h) hb (Own1.one h' hn) hbase
theorem OwBB.own (h : OwBB w base A c rows) (hl : rows.flatten.length ≤ 1099511627776) : ∃ vs, Ow w base 30 A rows.length c vs ∧ RdV w vs rows ∧ Own1 w base vs := by
  obtain ⟨vs, ho, hr, hp⟩ := h
  refine ⟨vs, ho, ⟨ho.len, fun i r hi => ?_⟩, fun v hv => ?_, hp⟩
  · obtain ⟨A', c', h1, h2, _⟩ := hr i r hi
    exact ⟨A', c', h1, OwB.rd h2, h2.cap⟩
  · obtain ⟨i, hi, rfl⟩ := List.getElem_of_mem hv
    have hil : i < rows.length := by have := ho.len; omega
    obtain ⟨A', c', h1, h2, _⟩ := hr i _ (List.getElem?_eq_getElem hil)
    rw [List.getElem?_eq_getElem hi] at h1
    simp only [Option.some.injEq] at h1
    have hm : rows[i].length ≤ rows.flatten.length := flat_mem (List.getElem?_eq_getElem hil)
    exact ⟨A', _, c', h1, h2.nw.hd, by omega⟩
theorem Own1.slices (h : Own1 w base vs) : ∀ u ∈ vs, u.oneCell' = true := fun u hu => by
  obtain ⟨A, n, c, rfl, _⟩ := h.1 u hu
  rfl
theorem own_ar {xs : List Value} (h : Ow w b 30 A n c xs) {a : Addr} (ha : A = some a) : ∃ cs, Ar w a.block 30 cs := by
  rcases h.2 with ⟨hv, _⟩ | ⟨g', cap, cur, hv, _, hg', _⟩
  · injection hv with hA; rw [ha] at hA; cases hA
  · injection hv with hA; rw [ha] at hA; cases hA
    exact ⟨cur.toList, by simpa [Ar] using hg'⟩
theorem ar_type {g : Nat} {t t' : TypeId} {cs cs' : List Value} (h : Ar w g t cs) (h' : Ar w g t' cs') : t = t' := by
  unfold Ar at h h'
  rw [h] at h'
  simp only [Option.some.injEq, Obj.cells.injEq] at h'
  exact h'.2.1
theorem Own1.row_ne {xs : List Value} (h : Own1 w base vs) (ho : Ow w b 30 A n c xs) : ∀ a, A = some a → ∀ v ∈ vs, v.ownBlock ≠ some a.block := fun a ha v hv hg => by
  obtain ⟨ds, hd⟩ := own_ar ho ha
  obtain ⟨A', n', c', rfl, hh, _⟩ := h.1 v hv
  rw [ownBlock_slice] at hg
  rcases hh with ⟨rfl, _⟩ | ⟨g, cs, rfl, _, har, _⟩
  · simp at hg
  · simp at hg; subst hg
    exact absurd (ar_type har hd) (by decide)
theorem Own1.row {xs : List Value} (h : Own1 w base vs) (ho : Ow w b 30 A n c xs) (g : Gr w w' A) : Own1 w' base vs := by
  refine h.st (X := none) (k := 0) ?_
  cases A with
  | none => exact St.other (g := 0) (t := 30) (cs := []) g (by simp) (.inl rfl) (by decide)
  | some a =>
    obtain ⟨ds, hd⟩ := own_ar ho rfl
    exact St.other (g := a.block) (t := 30) (cs := ds) g (by intro a' ha; cases ha; rfl) (.inr hd) (by decide)
/-- Bytes of one block change, and none other. -/
theorem Own1.sz {g : Nat} {cs cs' : List Value} (h : Own1 w base vs) (hg : Gr w w' (some ⟨g, 0, none⟩)) (ha : Ar w g 5 cs) (ha' : Ar w' g 5 cs') (hl : cs'.length = cs.length) : Own1 w' base vs := ⟨fun v hv => by
  obtain ⟨A, n, c, e, hd, hn⟩ := h.1 v hv
  refine ⟨A, n, c, e, ?_, hn⟩
  rcases hd with hd | ⟨g', ds, e1, e2, e3, e4, e5⟩
  · exact .inl hd
  · by_cases hgg : g' = g
    · subst hgg
      have : ds = cs := by
        unfold Ar at ha e3
        rw [ha] at e3
        simp only [Option.some.injEq, Obj.cells.injEq] at e3
        have := congrArg Array.toList e3.1
        simpa using this.symm
      subst this
      exact .inr ⟨g', cs', e1, e2, ha', e4, by omega⟩
    · refine .inr ⟨g', ds, e1, e2, ?_, e4, e5⟩
      unfold Ar
      rw [hg.block g' e3.lt (by simp; exact hgg)]
      exact e3, h.2⟩
/-- Where another block has changed. -/
theorem Ar.gr {g g' : Nat} {t : TypeId} {cs : List Value} (h : Ar w g t cs) (hg : Gr w w' (some ⟨g', 0, none⟩)) (hne : g ≠ g') : Ar w' g t cs := by
  unfold Ar
  rw [hg.block g h.lt (by simp; exact hne)]
  exact h
theorem OwBB.gr {g : Nat} (h : OwBB w base A c rows) (hg : Gr w w' (some ⟨g, 0, none⟩)) (hlt : g < base) : OwBB w' base A c rows := by
  obtain ⟨vs, ho, hr, hp⟩ := h
  refine ⟨vs, Ow.gr (base' := 0) (e' := 0) ho hg fun a b ha hb => ?_, fun i r hi => ?_, hp⟩
  · have := (Ow.lt ho a ha).1; cases hb; simp; omega
  · obtain ⟨A', c', h1, h2, h3⟩ := hr i r hi
    refine ⟨A', c', h1, Ow.gr (base' := 0) (e' := 0) h2 hg fun a b ha hb => ?_, h3⟩
    have := (Ow.lt h2 a ha).1; cases hb; simp; omega
/-- What has been gathered, ahead of the last test. -/
def Fin (w : World) (base : Nat) (vs ts : List Value) (rows : List (List UInt8)) (bA : Nat) (A : Option Addr) (n c : Nat) (bW : Nat) (W : Option Addr) (cW : Nat) : Prop :=
  Own1 w base (vs ++ ts) ∧ RdV w vs rows ∧ Ow w bA 30 A n c vs ∧ OwBB w bW W cW rows
theorem Fin.bel {ts : List Value} {bA bW cW : Nat} {W : Option Addr} (h : Fin w base vs ts rows bA A n c bW W cW) (hb : Below w.heap.size w w') : Fin w' base vs ts rows bA A n c bW W cW :=
  ⟨h.1.bel hb, h.2.1.bel hb, Ow.below h.2.2.1 hb (Nat.le_refl _), h.2.2.2.below hb⟩
theorem Fin.over {ts : List Value} {bA bW cW g : Nat} {W : Option Addr} {cs cs' : List Value} {v : Value} (h : Fin w base vs ts rows bA A n c bW W cW) (hg : Gr w w' (some ⟨g, 0, none⟩)) (ha : Ar w g 5 cs) (ha' : Ar w' g 5 cs') (hl : cs'.length = cs.length)
    (hv : v ∈ ts) (hvb : v.ownBlock = some g) (h1 : g < bA) (h2 : g < bW) : Fin w' base vs ts rows bA A n c bW W cW := by
  obtain ⟨o, r, a, W⟩ := h
  have hp := o.2
  rw [List.pairwise_append] at hp
  refine ⟨o.sz hg ha ha' hl, r.gr hg fun b hb u hu hc => hp.2.2 u hu v hv g ?_ hvb, Ow.gr (base' := 0) (e' := 0) a hg fun a' b ha' hb => ?_, W.gr hg h2⟩
  · cases hb; exact hc
  · have := (Ow.lt a a' ha').1; cases hb; simp; omega
end
end Go.Proofs.Ytcjiecclmepboaa


/-
  The walk over CellKeeps.
-/
namespace Go.Proofs.Ytcjiecclmepboaa
open Go.RowKit

theorem ar_head {w : World} {g : Nat} {b : List UInt8} (h : Ar w g 5 (bvs (spareL b))) : RdB w (some ⟨g, 0, none⟩) b := by
  have := h.rd (n := b.length) (by rw [bvs_length, spareL_length]; omega)
  rw [bvs, ← List.map_take, spareL_take] at this
  exact this
theorem ar_full {w : World} {g : Nat} {b : List UInt8} (h : Ar w g 5 (bvs b)) : RdB w (some ⟨g, 0, none⟩) b := by
  have := h.rd (n := b.length) (by rw [bvs_length]; omega)
  rw [List.take_of_length_le (by rw [bvs_length]; omega)] at this
  exact this
theorem ar_hd {w : World} {base g n c : Nat} {l : List UInt8} (h : Ar w g 5 (bvs l)) (hb : base ≤ g) (h1 : n ≤ c) (h2 : c ≤ l.length) : Hd w base (some ⟨g, 0, none⟩) n c :=
  .inr ⟨g, _, rfl, hb, h, h1, by rw [bvs_length]; exact h2⟩
set_option maxHeartbeats 4000000 in
theorem cellKeeps_walk {A B : Option Addr} {n m c d : Nat} {xs ys : List UInt8} {w : World} (r1 : RdB w A xs) (hn : xs.length = n) (_hc : xs.length ≤ c) (hl : xs.length ≤ 1048576) (r2 : RdB w B ys) (hm : ys.length = m) (_hd : ys.length ≤ d) (hl2 : ys.length ≤ 1048576) :
    CallsV Try.prog 12 #[.slice A n c, .slice B m d] w (RetTr w) := by
  subst hn hm
  have hb := Below.refl w.heap.size w
  have r10 := r1
  have u1 : Own1 w w.heap.size [] := Own1.nil
  have hvok : VaOk (.bytes xs) := ⟨by simp [vaC], by simp [vaC], by simp [vaC]; omega⟩
  have hvo1 : ∀ u ∈ [Va.bytes xs], VaOk u := fun u hu => by simp at hu; subst hu; exact hvok
  have hkl : (keysB [.bytes xs]).length ≤ 4194304 := by
    have := keysB_length [.bytes xs]
    have e : sumB vaB [.bytes xs] = xs.length + 1 := by simp [sumB, vaB, vaC]
    have h2 := ordText_length xs
    simp [keysB, key1]; omega
  have hse : sumB vaB [Va.bytes xs] = xs.length + 1 := by simp [sumB, vaB, vaC]
  have hel := encV_length hvo1
  rw [hse] at hel
  refine calls_in (N := _) Try.func12 rfl Try.ntmps12 rfl ?_; show WC _ _ _ _ _ _
  refine wc_sr ?_; refine wl_as rfl rfl ?_; refine wl_ns ?_; refine wc_seq ?_; refine wc_sr ?_
  refine wl_call ok_caissonlaw06_awake (awake6_any _) trivial rfl ?_; rintro _ _ ⟨rfl, hbx⟩; replace r1 := RdB.below r1 hbx; replace r2 := RdB.below r2 hbx; replace u1 := Own1.bel u1 hbx; replace hb := hb.trans (hbx.mono hb.size); clear hbx
  apply wl_val; apply opv_not; exact rfl; exact rfl; refine wl_ns ?_; apply wc_condFb; exact rfl; exact Bool.not_true; refine wc_skip ?_; refine we_seq ?_; refine wc_sr ?_; refine wl_mv rfl rfl ?_
  refine wl_call ok_caissonref01_Spare (spare_any r1 rfl (by omega)) ⟨rfl, trivial⟩ rfl ?_
  rintro _ w1 ⟨g1, rfl, hg1, a1, hbx⟩
  replace u1 : Own1 w1 w.heap.size [_] := u1.add 0 hbx (ar_hd (n := xs.length + 40) (c := xs.length + 40) a1 hg1 (Nat.le_refl _) (by rw [spareL_length]; omega)) (by omega) hb.size
  have hw1 : w.heap.size ≤ g1 := Nat.le_trans hb.size hg1
  replace r1 := RdB.below r1 hbx
  replace r2 := RdB.below r2 hbx
  replace hb := hb.trans (hbx.mono hb.size)
  clear hbx
  refine wl_mv rfl rfl ?_; apply wl_val; apply opv_extract; exact rfl; exact rfl; exact rfl; apply wl_val; apply opv_extract; exact rfl; exact rfl; exact rfl; refine wl_as rfl rfl ?_; refine wl_as rfl rfl ?_; refine wl_ns ?_; refine wc_sr ?_; refine wl_mv rfl rfl ?_
  refine wl_call ok_caissonref01_Spare (spare_any r2 rfl (by omega)) ⟨rfl, trivial⟩ rfl ?_
  rintro _ w2 ⟨g2, rfl, hg2, a2, hbx⟩
  replace u1 : Own1 w2 w.heap.size [_, _] := u1.add 1 hbx (ar_hd (n := ys.length + 40) (c := ys.length + 40) a2 hg2 (Nat.le_refl _) (by rw [spareL_length]; omega)) (by omega) hb.size
  have hw2 : w.heap.size ≤ g2 := Nat.le_trans hb.size hg2
  have h12 : g1 < g2 := Nat.lt_of_lt_of_le a1.lt hg2
  replace a1 := a1.bel hbx
  replace r1 := RdB.below r1 hbx
  replace r2 := RdB.below r2 hbx
  replace hb := hb.trans (hbx.mono hb.size)
  clear hbx
  refine wl_mv rfl rfl ?_; apply wl_val; apply opv_extract; exact rfl; exact rfl; exact rfl; apply wl_val; apply opv_extract; exact rfl; exact rfl; exact rfl; refine wl_as rfl rfl ?_; refine wl_as rfl rfl ?_; refine wl_ns ?_; refine wc_sr ?_; refine wl_mv rfl rfl ?_
  refine wl_val (opv_build (vs := [(0, .int .i64 4), (4, .slice (some ⟨g1, 0, none⟩) xs.length (xs.length + 40))]) (cs := ceV ⟨4, false, 0, [], xs⟩ (some ⟨g1, 0, none⟩) (xs.length + 40)) ⟨rfl, rfl, rfl, rfl, trivial⟩ (by kernel_rfl)) rfl ?_
  have l1 := a1.lt
  refine wl_call ok_cell_Of (ofC_any (x := ⟨4, false, 0, [], xs⟩) (ar_head a1) (by simp only; omega)) ⟨rfl, trivial⟩ rfl ?_
  rintro _ w3 hof
  obtain ⟨_, B2, d2, rfl, o3, hbx⟩ | ⟨hbad, _⟩ := hof
  case inr => exact absurd hbad (by simp [goodC])
  have e1 : vaV (ceVa ⟨4, false, 0, [], xs⟩) B2 d2 = vaV (.bytes xs) B2 d2 := rfl
  rw [e1]
  replace u1 := u1.bel hbx
  replace a1 := a1.bel hbx
  replace a2 := a2.bel hbx
  replace r1 := RdB.below r1 hbx
  replace r2 := RdB.below r2 hbx
  replace hb := hb.trans (hbx.mono hb.size)
  clear hbx
  have l1' := l1
  refine wl_mv rfl rfl ?_; apply wl_val; apply opv_extract; exact rfl; exact rfl; exact rfl; apply wl_val; apply opv_extract; exact rfl; exact rfl; exact rfl; refine wl_as rfl rfl ?_; refine wl_as rfl rfl ?_; refine wl_ns ?_; refine wc_sr ?_; refine wl_mv rfl rfl ?_
  refine wl_bsG (css := [[vaV (.bytes xs) B2 d2]]) (S := All) (els := [vaEl (.bytes xs)]) tkA ⟨rfl, ⟨_, rfl, rfl⟩, rfl, trivial⟩ rfl (by decide) (by decide) (Grp.one ⟨B2, d2, rfl, byEl.own o3 fun _ _ _ _ => trivial⟩ rfl) rfl fun A4 w4 q4 hbx _ => ?_
  replace u1 := u1.bel hbx
  replace a1 := a1.bel hbx
  replace a2 := a2.bel hbx
  replace r1 := RdB.below r1 hbx
  replace r2 := RdB.below r2 hbx
  replace o3 := OwB.below o3 hbx
  replace hb := hb.trans (hbx.mono hb.size)
  clear hbx
  refine wl_call ok_cell_Key (cellKey_any (us := [.bytes xs]) (OwR.rd q4) rfl hvo1 (by omega) (by simp [maxLen])) ⟨rfl, trivial⟩ rfl ?_
  rintro _ w5 ⟨A5, c5, rfl, o5, hbx⟩
  replace u1 : Own1 w5 w.heap.size [_, _, _] := u1.add 2 hbx o5.nw.hd (by omega) hb.size
  have k5 := o5.cap
  replace a1 := a1.bel hbx
  replace a2 := a2.bel hbx
  replace r1 := RdB.below r1 hbx
  replace r2 := RdB.below r2 hbx
  replace o3 := OwB.below o3 hbx
  replace hb := hb.trans (hbx.mono hb.size)
  clear hbx q4 o5
  refine wl_mv rfl rfl ?_; apply wl_val; apply opv_extract; exact rfl; exact rfl; exact rfl; apply wl_val; apply opv_extract; exact rfl; exact rfl; exact rfl; refine wl_as rfl rfl ?_; refine wl_as rfl rfl ?_; refine wl_ns ?_; refine wc_sr ?_; refine wl_mv rfl rfl ?_
  refine wl_bsG (css := [[vaV (.bytes xs) B2 d2]]) (S := All) (els := [vaEl (.bytes xs)]) tkA ⟨rfl, ⟨_, rfl, rfl⟩, rfl, trivial⟩ rfl (by decide) (by decide) (Grp.one ⟨B2, d2, rfl, byEl.own o3 fun _ _ _ _ => trivial⟩ rfl) rfl fun A6 w6 q6 hbx _ => ?_
  replace u1 := u1.bel hbx
  replace a1 := a1.bel hbx
  replace a2 := a2.bel hbx
  replace r1 := RdB.below r1 hbx
  replace r2 := RdB.below r2 hbx
  replace o3 := OwB.below o3 hbx
  replace hb := hb.trans (hbx.mono hb.size)
  clear hbx
  refine wl_call ok_cell_Encode (encode_any (us := [.bytes xs]) (OwR.rd q6) rfl hvo1 (by omega)) ⟨rfl, trivial⟩ rfl ?_
  rintro _ w7 ⟨A7, c7, rfl, o7, hbx⟩
  replace u1 : Own1 w7 w.heap.size [_, _, _, _] := u1.add 3 hbx o7.nw.hd (by omega) hb.size
  have k7 := o7.cap
  replace a1 := a1.bel hbx
  replace a2 := a2.bel hbx
  replace r1 := RdB.below r1 hbx
  replace r2 := RdB.below r2 hbx
  replace o3 := OwB.below o3 hbx
  replace hb := hb.trans (hbx.mono hb.size)
  clear hbx q6 o7
  refine wl_mv rfl rfl ?_; apply wl_val; apply opv_extract; exact rfl; exact rfl; exact rfl; apply wl_val; apply opv_extract; exact rfl; exact rfl; exact rfl; refine wl_as rfl rfl ?_; refine wl_as rfl rfl ?_; refine wl_ns ?_; refine wc_sr ?_; refine wl_mv rfl rfl ?_
  refine wl_call ok_cell_Cell (cell_any (u := .bytes xs) o3.rd (by simp only [vaC]; omega)) ⟨rfl, trivial⟩ rfl ?_
  rintro _ w8 ⟨A8, c8, rfl, o8, hbx⟩
  replace u1 : Own1 w8 w.heap.size [_, _, _, _, _] := u1.add 4 hbx o8.nw.hd (by simp only [vaC]; omega) hb.size
  have k8 := o8.cap
  replace a1 := a1.bel hbx
  replace a2 := a2.bel hbx
  replace r1 := RdB.below r1 hbx
  replace r2 := RdB.below r2 hbx
  replace o3 := OwB.below o3 hbx
  replace hb := hb.trans (hbx.mono hb.size)
  clear hbx o8
  refine wl_mv rfl rfl ?_; apply wl_val; apply opv_extract; exact rfl; exact rfl; exact rfl; apply wl_val; apply opv_extract; exact rfl; exact rfl; exact rfl
  refine wl_var (cs := ceV (vaC (.bytes xs)) A8 c8) zeroC sC rfl (fun _ => rfl) (by simp [ceV, Value.oneCell']) rfl fun g15 w9 hg15 a15 hbx => ?_
  replace u1 := u1.bel hbx
  replace a1 := a1.bel hbx
  replace a2 := a2.bel hbx
  replace r1 := RdB.below r1 hbx
  replace r2 := RdB.below r2 hbx
  replace o3 := OwB.below o3 hbx
  replace hb := hb.trans (hbx.mono hb.size)
  clear hbx
  unfold ceV at a15
  refine wl_as rfl rfl ?_; refine wl_ns ?_; refine wc_sr ?_; refine wl_mv rfl rfl ?_
  refine wl_call ok_cell_BytesOf (bytesOf_any (u := .bytes xs) o3.rd (by simp only [vaC]; omega)) ⟨rfl, trivial⟩ rfl ?_
  rintro _ w10 ⟨A10, c10, rfl, o10, hbx⟩
  replace u1 : Own1 w10 w.heap.size [_, _, _, _, _, _] := u1.add 5 hbx o10.nw.hd (by simp only [vaC]; omega) hb.size
  have k10 := o10.cap
  replace a1 := a1.bel hbx
  replace a2 := a2.bel hbx
  replace a15 := a15.bel hbx
  replace r1 := RdB.below r1 hbx
  replace r2 := RdB.below r2 hbx
  replace o3 := OwB.below o3 hbx
  replace hb := hb.trans (hbx.mono hb.size)
  clear hbx o10
  refine wl_mv rfl rfl ?_; apply wl_val; apply opv_extract; exact rfl; exact rfl; exact rfl; apply wl_val; apply opv_extract; exact rfl; exact rfl; exact rfl; refine wl_as rfl rfl ?_; refine wl_as rfl rfl ?_; refine wl_ns ?_; refine wc_sr ?_; refine wl_mv rfl rfl ?_
  refine wl_call ok_cell_Decode (decode_any (ar_head a2) rfl (by omega) (by omega)) ⟨rfl, trivial⟩ rfl ?_
  rintro _ w11 ⟨A11, c11, rfl, _, hbx⟩
  replace u1 := Own1.bel u1 hbx; replace a1 := Ar.bel a1 hbx; replace a2 := Ar.bel a2 hbx; replace a15 := Ar.bel a15 hbx; replace r1 := RdB.below r1 hbx; replace r2 := RdB.below r2 hbx; replace o3 := OwB.below o3 hbx
  replace hb := hb.trans (hbx.mono hb.size)
  clear hbx
  refine wl_ns ?_; refine wc_sr ?_; refine wl_mv rfl rfl ?_
  refine wl_call ok_cell_FromKey (fromKeyP_any (ar_head a2) rfl (by omega) (by omega)) ⟨rfl, trivial⟩ rfl ?_
  rintro _ w12 ⟨A12, c12, rfl, _, hbx⟩
  replace u1 := Own1.bel u1 hbx; replace a1 := Ar.bel a1 hbx; replace a2 := Ar.bel a2 hbx; replace a15 := Ar.bel a15 hbx; replace r1 := RdB.below r1 hbx; replace r2 := RdB.below r2 hbx; replace o3 := OwB.below o3 hbx
  replace hb := hb.trans (hbx.mono hb.size)
  clear hbx
  refine wl_ns ?_; refine wc_seq ?_; refine wc_sr ?_; refine wl_mv rfl rfl ?_; refine wl_bin rfl rfl bin_neq rfl ?_; refine wl_mv rfl rfl ?_; apply wl_take; exact rfl; exact rfl; exact rfl; refine bF ?_; (with_reducible exact nne); refine wl_mv rfl rfl ?_; apply wl_take; exact rfl; exact rfl; exact rfl; refine bF ?_; (with_reducible exact nne); refine wl_mv rfl rfl ?_; apply wl_take; exact rfl; exact rfl; exact rfl; refine bF ?_; (with_reducible exact nne)
  refine wl_call ok_caissonref01_Kept (kept_yes (ar_full a1) r1 rfl rfl (by omega)) ⟨rfl, rfl, trivial⟩ rfl ?_
  rintro _ w13 ⟨rfl, hbx⟩
  replace u1 := Own1.bel u1 hbx; replace a1 := Ar.bel a1 hbx; replace a2 := Ar.bel a2 hbx; replace a15 := Ar.bel a15 hbx; replace r1 := RdB.below r1 hbx; replace r2 := RdB.below r2 hbx; replace o3 := OwB.below o3 hbx
  replace hb := hb.trans (hbx.mono hb.size)
  clear hbx
  apply wl_take; exact rfl; exact rfl; exact rfl; refine bF ?_; (with_reducible exact nne); apply wl_val; apply opv_not; exact rfl; exact rfl; apply wl_val; apply opv_pickF; exact rfl; refine bF ?_; (with_reducible exact nne); exact rfl; exact rfl; refine wl_mv rfl rfl ?_; apply wl_take; exact rfl; exact rfl; exact rfl; exact Bool.not_true; refine wl_mv rfl rfl ?_; apply wl_take; exact rfl; exact rfl; exact rfl; exact Bool.not_true; refine wl_mv rfl rfl ?_; apply wl_take; exact rfl; exact rfl; exact rfl; exact Bool.not_true
  refine wl_call ok_caissonref01_Kept (kept_yes (ar_full a2) r2 rfl rfl (by omega)) ⟨rfl, rfl, trivial⟩ rfl ?_
  rintro _ w14 ⟨rfl, hbx⟩
  replace u1 := Own1.bel u1 hbx; replace a1 := Ar.bel a1 hbx; replace a2 := Ar.bel a2 hbx; replace a15 := Ar.bel a15 hbx; replace r1 := RdB.below r1 hbx; replace r2 := RdB.below r2 hbx; replace o3 := OwB.below o3 hbx
  replace hb := hb.trans (hbx.mono hb.size)
  clear hbx r2
  apply wl_take; exact rfl; exact rfl; exact rfl; exact Bool.not_true; apply wl_val; apply opv_not; exact rfl; exact rfl; apply wl_val; apply opv_pickF; exact rfl; exact Bool.not_true; exact rfl; exact rfl; refine wl_ns ?_; apply wc_condFb; exact rfl; exact Bool.not_true; refine wc_skip ?_; refine we_seq ?_; refine wc_sr ?_; refine wl_mv rfl rfl ?_
  refine wl_call ok_caissonref01_Over (over_any a1 (by rw [spareL_length]; omega) (by rw [spareL_length]; omega)) ⟨rfl, trivial⟩ rfl ?_
  rintro _ w15 ⟨x1, hx1, b1, hG⟩
  rw [spareL_length] at hx1
  replace u1 := u1.sz hG a1 b1 (by rw [bvs_length, bvs_length, spareL_length, hx1])
  replace a15 := Ar.grA a15 hG (fun a ha => by cases ha; intro h; subst h; exact absurd (ar_type a15 a1) (by decide))
  replace o3 := Ow.gr2 o3 hG (fun b hb => by cases hb; exact l1)
  replace hb := hG.belowA hb hw1 hb.size
  have r11 := RdB.below r10 hb
  clear r1 a1 b1 a2
  refine wl_ns ?_; refine wc_sr ?_; refine wl_mv rfl rfl ?_
  refine wl_call ok_cell_Cell (cell_any (u := .bytes xs) o3.rd (by simp only [vaC]; omega)) ⟨rfl, trivial⟩ rfl ?_
  rintro _ w16 ⟨A16, c16, rfl, o16, hbx⟩
  replace u1 : Own1 w16 w.heap.size [_, _, _, _, _, _, _] := u1.add 6 hbx o16.nw.hd (by simp only [vaC]; omega) hb.size
  replace a15 := Ar.bel a15 hbx; replace r11 := RdB.below r11 hbx
  replace hb := hb.trans (hbx.mono hb.size)
  clear hbx
  refine wl_mv rfl rfl ?_; apply wl_val; apply opv_extract; exact rfl; exact rfl; exact rfl; apply wl_val; apply opv_extract; exact rfl; exact rfl; exact rfl
  refine wl_var (cs := ceV (vaC (.bytes xs)) A16 c16) zeroC sC rfl (fun _ => rfl) (by simp [ceV, Value.oneCell']) rfl fun g19 w17 hg19 a19 hbx => ?_
  replace u1 := Own1.bel u1 hbx; replace a15 := Ar.bel a15 hbx; replace r11 := RdB.below r11 hbx
  replace o16 := OwB.below o16 hbx
  replace hb := hb.trans (hbx.mono hb.size)
  clear hbx
  unfold ceV at a19
  refine wl_as rfl rfl ?_; refine wl_ns ?_; refine wc_sr ?_; apply wl_val; apply opv_fa; exact fa_sC (by decide); exact rfl; exact rfl; apply wl_val; apply opv_ldX; exact rfl; assumption; exact c1_by; exact rfl; exact rfl; refine wl_mv rfl rfl ?_
  refine wl_call ok_caissonref01_Equal (equal_yes (ys := xs) rfl o16.rd r11 rfl rfl (by simp only [vaC, maxLen]; omega)) ⟨rfl, rfl, trivial⟩ rfl ?_
  rintro _ w18 ⟨rfl, hbx⟩
  replace u1 := Own1.bel u1 hbx; replace a15 := Ar.bel a15 hbx; replace a19 := Ar.bel a19 hbx
  replace hb := hb.trans (hbx.mono hb.size)
  clear hbx o16 r11
  refine wl_mv rfl rfl ?_; apply wl_take; exact rfl; exact rfl; exact rfl; exact rfl; refine wl_mv rfl rfl ?_; apply wl_take; exact rfl; exact rfl; exact rfl; exact rfl; refine wl_mv rfl rfl ?_; apply wl_take; exact rfl; exact rfl; exact rfl; exact rfl; refine wl_mv rfl rfl ?_; apply wl_take; exact rfl; exact rfl; exact rfl; exact rfl; refine wl_mv rfl rfl ?_; apply wl_take; exact rfl; exact rfl; exact rfl; exact rfl; apply wl_val; apply opv_fa; exact fa_sC (by decide); exact rfl; exact rfl; apply wl_take; exact rfl; exact rfl; exact rfl; exact rfl; apply wl_val; apply opv_ldX; exact rfl; assumption; exact c1_by; exact rfl; exact rfl; apply wl_take; exact rfl; exact rfl; exact rfl; exact rfl; refine wl_mv rfl rfl ?_; apply wl_take; exact rfl; exact rfl; exact rfl; exact rfl; apply wl_val; apply opv_fa; exact fa_sC (by decide); exact rfl; exact rfl; apply wl_take; exact rfl; exact rfl; exact rfl; exact rfl; apply wl_val; apply opv_ldX; exact rfl; assumption; exact c1_by; exact rfl; exact rfl; apply wl_take; exact rfl; exact rfl; exact rfl; exact rfl
  refine wl_bs (vs := [_, _, _, _, _, _, _]) tyBB ⟨rfl, rfl, rfl, rfl, rfl, rfl, rfl, rfl, rfl, rfl, rfl, rfl, rfl, rfl, rfl, rfl, rfl, rfl, rfl, rfl, rfl, trivial⟩ rfl (by decide) rfl fun A20 w20 o20 hbx _ => ?_
  replace u1 := u1.bel hbx
  replace hb := hb.trans (hbx.mono hb.size)
  clear hbx
  apply wl_take; exact rfl; exact rfl; exact rfl; exact rfl
  refine wl_call ok_caissonref01_Apart (apart_any o20.rd (u1.row_ne o20) u1 hb.size (by decide)) ⟨rfl, trivial⟩ rfl ?_
  rintro _ w21 ⟨rfl, hbx⟩
  replace hb := hb.trans hbx
  clear hbx
  apply wl_val; apply opv_pickT; exact rfl; exact rfl; exact rfl; exact rfl; refine wl_as rfl rfl ?_; refine wl_ns ?_; refine wc_ret ?_
  exact we_ret1 rfl rfl ⟨_, rfl, rfl, hb⟩
end Go.Proofs.Ytcjiecclmepboaa
