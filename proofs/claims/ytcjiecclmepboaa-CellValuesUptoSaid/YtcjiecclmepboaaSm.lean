
/-
  The walk over Key.
-/
import Derived.Test.YtcjiecclmepboaaSl
namespace Go.Proofs.Ytcjiecclmepboaa
open Go.RowKit

theorem c1_any : Cell1 Try.prog 20 := ⟨by kernel_rfl, by rw [Try.underlying20]⟩
theorem truth_any {b : Bool} {w : World} : CallsV Try.prog 81 #[.bool b] w fun v w' => v = .int .i64 (if b then 1 else 0 : Nat) ∧ w = w' := by
  refine calls_in (N := _) Try.func81 rfl Try.ntmps81 rfl ?_; show WC _ _ _ _ _ _
  cases b with
  | true => (refine wc_sr ?_; refine wl_as rfl rfl ?_; refine wl_ns ?_; refine wc_seq ?_; refine wc_sr ?_; refine wl_mv rfl rfl ?_; refine wl_ns ?_; apply wc_condTb; exact rfl; exact rfl; refine wc_sr ?_; refine wl_as rfl rfl ?_; refine wl_ns ?_; refine wc_ret ?_; refine we_seq_ret ?_; exact we_ret1 rfl rfl ⟨_, rfl, rfl, rfl⟩)
  | false => (refine wc_sr ?_; refine wl_as rfl rfl ?_; refine wl_ns ?_; refine wc_seq ?_; refine wc_sr ?_; refine wl_mv rfl rfl ?_; refine wl_ns ?_; apply wc_condFb; exact rfl; exact rfl; refine wc_skip ?_; refine we_seq ?_; refine wc_sr ?_; refine wl_as rfl rfl ?_; refine wl_ns ?_; refine wc_ret ?_; exact we_ret1 rfl rfl ⟨_, rfl, rfl, rfl⟩)
def KeyI (w : World) (us : List Va) (A : Option Addr) (c : Nat) : FL → World → Nat → Prop := fun L wr m =>
  ∃ (k : Nat) (P : Option Addr) (cp : Nat), L = [(4, .slice P (keysB (us.take k)).length cp), (9, .slice A us.length c), (10, .int .i64 (us.length : Int)), (11, .int .i64 (k : Int))] ∧ k ≤ us.length ∧ OwB wr w.heap.size P cp (keysB (us.take k)) ∧ Below w.heap.size w wr ∧ m = us.length - k
theorem key_next {w w' : World} {us : List Va} {A : Option Addr} {c k : Nat} {P : Option Addr} {cp n : Nat} {vs : List Value} {u : Va} (hu : us[k]? = some u) (ho : Ow w' w.heap.size 5 P n cp vs) (hn : (keysB (us.take k)).length + (key1 u).length = n) (hv : bvs (keysB (us.take k)) ++ bvs (key1 u) = vs) (hb : Below w.heap.size w w') {m : Nat} (hm : m = us.length - k) :
    ∃ m', KeyI w us A c [(4, .slice P n cp), (9, .slice A us.length c), (10, .int .i64 (us.length : Int)), (11, .int .i64 ((k + 1 : Nat) : Int))] w' m' ∧ m' < m := by
  have hlt := (List.getElem?_eq_some_iff.1 hu).1
  have e := keysB_take hu
  have el : n = (keysB (us.take (k + 1))).length := by rw [e, List.length_append, hn]
  refine ⟨us.length - (k + 1), ⟨k + 1, P, cp, by rw [el], by omega, ?_, hb, rfl⟩, by omega⟩
  unfold OwB
  rw [← el, e, bvs_append, hv]
  exact ho
set_option maxHeartbeats 2000000 in
theorem cellKey_any {A : Option Addr} {n c : Nat} {us : List Va} {w : World} (hr : RdR 1 w All A (us.map vaEl)) (hn : us.length = n) (hok : ∀ u ∈ us, VaOk u) (hl : (keysB us).length ≤ 137438953472) (hl2 : us.length ≤ maxLen) :
    CallsV Try.prog 49 #[.slice A n c] w fun v w' => ∃ (B : Option Addr) (cB : Nat), v = .tuple #[.slice B (keysB us).length cB, .int .i64 0] ∧ OwB w' w.heap.size B cB (keysB us) ∧ Below w.heap.size w w' := by
  subst hn
  have hmax : maxLen = 9223372036854775807 := rfl
  refine calls_in (N := _) Try.func49 rfl Try.ntmps49 rfl ?_; show WC _ _ _ _ _ _
  refine wc_sr ?_; refine wl_as rfl rfl ?_; refine wl_as rfl rfl ?_; refine wl_ns ?_; refine wc_sr ?_; refine wl_as rfl rfl ?_; refine wl_ns ?_; refine wc_seq ?_; refine wc_sr ?_; refine wl_mv rfl rfl ?_; apply wl_val; apply opv_len; exact rfl; exact tkA.sl; exact rfl; refine wl_mv rfl rfl ?_; refine wl_ns ?_; refine wc_block ?_
  refine wc_loop (KeyI w us A c) [(4, .slice none 0 0), (9, .slice A us.length c), (10, .int .i64 (us.length : Int)), (11, .int .i64 (0 : Nat))] us.length ⟨0, none, 0, rfl, by omega, Ow.nil _ _ _, Below.refl _ _, rfl⟩ ⟨rfl, rfl, rfl, rfl, trivial⟩ ?_
  rintro _ w1 m ⟨k, P, cp, rfl, hk, o1, hb, hm⟩
  have hle := keysB_le us k
  refine wc_sr ?_; refine wl_bin rfl rfl bin_lss rfl ?_; refine wl_ns ?_; refine wc_seq ?_
  refine wc_cond rfl (fun h1 => ?_) (fun h1 => ?_)
  · obtain ⟨u, hu⟩ : ∃ u, us[k]? = some u := ⟨_, List.getElem?_eq_getElem (by omega)⟩
    have hle2 := keysB_le us (k + 1)
    rw [keysB_take hu, List.length_append] at hle2
    have hou := hok u (List.mem_of_getElem? hu)
    obtain ⟨b, o, cs, rfl, _, _, ⟨X, cx, rfl, hx⟩, hw⟩ := RdR.at (k := 1) (by decide) hr (E := vaEl u) (i := k) (by rw [List.getElem?_map, hu]; rfl)
    have i1 := hw.below hb
    have hP : ∀ a, P = some a → a.block < w1.heap.size := fun a ha => (Ow.lt o1 a ha).2
    have rx := (byEl.rd hx).1.below hb
    refine wc_skip ?_; refine we_seq ?_; refine wc_seq ?_; refine wc_block ?_; refine wc_sr ?_; apply wl_val; apply opv_idxG tkA; exact rfl; exact rfl; exact rfl; omega; exact rfl; apply wl_val; apply opv_ldW0; exact rfl; assumption; exact c1_any; exact rfl; exact rfl; refine wl_as rfl rfl ?_; refine wl_ns ?_; refine wc_sr ?_; refine wl_mv rfl rfl ?_
    refine wl_call ok_cell_Cell (cell_any rx (by have := hou.data; omega)) ⟨rfl, trivial⟩ rfl ?_; rintro _ _ ⟨B, cB, rfl, o2, hbx⟩; replace o1 := OwB.below o1 hbx; replace hb := hb.trans (hbx.mono hb.size); clear hbx
    refine wl_mv rfl rfl ?_; apply wl_val; apply opv_extract; exact rfl; exact rfl; exact rfl; apply wl_val; apply opv_extract; exact rfl; exact rfl; exact rfl
    refine wl_var (cs := ceV (vaC u) B cB) zeroC sC rfl (fun _ => rfl) (by first | rfl | simp [Value.oneCell'] | simp [ceV, Value.oneCell']) rfl fun g3 _ hg3 a3 hbx => ?_; replace o1 := OwB.below o1 hbx; replace o2 := OwB.below o2 hbx; replace hb := hb.trans (hbx.mono hb.size); clear hbx
    unfold ceV at a3
    obtain ⟨K, hK⟩ : ∃ K, (keysB (us.take k)).length = K := ⟨_, rfl⟩
    have q1 := Ow.re o1 hK
    rw [hK] at hle hle2 ⊢
    clear o1 i1 rx
    cases u with
    | nil =>
      simp only [vaC] at a3
      simp only [key1, List.length_cons, List.length_nil] at hle2
      refine wl_as rfl rfl ?_; refine wl_ns ?_; refine wc_seq ?_; refine wc_sr ?_; refine wl_mv rfl rfl ?_; refine wl_bin rfl rfl bin_neq rfl ?_; refine wl_ns ?_; apply wc_decF; exact rfl; (with_reducible exact nne); refine wc_skip ?_; refine we_seq ?_; refine wc_sr ?_; refine wl_mv rfl rfl ?_; apply wl_val; apply opv_fa; exact fa_sC (by decide); exact rfl; exact rfl; apply wl_val; apply opv_ldX; exact rfl; assumption; exact c1_int; exact rfl; exact rfl; apply wl_val; apply opv_convR; exact rfl; exact Try.underlying3; exact Try.underlying5; exact IntWalk.u8_in _ (by omega); exact rfl
      refine wl_push (vs := [_]) tyB rfl q1 ⟨rfl, rfl, rfl, trivial⟩ rfl (by decide) rfl (by omega) (by simp only [maxLen]; omega) hb.size rfl rfl fun _ _ _ _ hO hG _ => ?_; (try replace a3 := Ar.grA a3 hG (Ar.ne_ow a3 q1 rfl)); replace hb := hG.below hb q1 (Nat.le_refl _) hb.size; replace q1 := hO; clear hO hG
      refine wl_as rfl rfl ?_; refine wl_ns ?_; refine wc_sr ?_; apply wl_val; apply opv_fa; exact fa_sC (by decide); exact rfl; exact rfl; apply wl_val; apply opv_ldX; exact rfl; assumption; exact c1_int; exact rfl; exact rfl; refine wl_ns ?_; refine wc_block ?_; refine wc_sr ?_; refine wl_bin rfl rfl bin_eql rfl ?_; refine wl_as rfl rfl ?_; refine wl_ns ?_; apply wc_decF; exact rfl; omega; refine wc_sr ?_; refine wl_bin rfl rfl bin_eql rfl ?_; refine wl_as rfl rfl ?_; refine wl_ns ?_; apply wc_decF; exact rfl; omega; refine wc_sr ?_; refine wl_bin rfl rfl bin_eql rfl ?_; refine wl_as rfl rfl ?_; refine wl_ns ?_; apply wc_decF; exact rfl; omega; refine wc_sr ?_; refine wl_bin rfl rfl bin_eql rfl ?_; refine wl_as rfl rfl ?_; refine wl_ns ?_; apply wc_decF; exact rfl; omega; refine wc_skip ?_; refine we_block_norm ?_; refine we_block_norm ?_; refine we_seq ?_; refine wc_region ?_; apply wl_val; apply opv_bin; exact rfl; exact rfl; exact bin_add64 (by omega); exact rfl; refine wl_mv rfl rfl ?_; refine wl_nil ?_
      obtain ⟨m', hI, hlt⟩ := key_next (A := some ⟨b, o, none⟩) (c := c) hu q1 (by simp [key1, hK]) rfl hb hm
      exact we_loop _ m' hI hlt ⟨rfl, rfl, rfl, by simp [lookT], trivial⟩
    | bool t =>
      simp only [vaC] at a3
      simp only [key1, List.length_cons, List.length_nil] at hle2
      refine wl_as rfl rfl ?_; refine wl_ns ?_; refine wc_seq ?_; refine wc_sr ?_; refine wl_mv rfl rfl ?_; refine wl_bin rfl rfl bin_neq rfl ?_; refine wl_ns ?_; apply wc_decF; exact rfl; (with_reducible exact nne); refine wc_skip ?_; refine we_seq ?_; refine wc_sr ?_; refine wl_mv rfl rfl ?_; apply wl_val; apply opv_fa; exact fa_sC (by decide); exact rfl; exact rfl; apply wl_val; apply opv_ldX; exact rfl; assumption; exact c1_int; exact rfl; exact rfl; apply wl_val; apply opv_convR; exact rfl; exact Try.underlying3; exact Try.underlying5; exact IntWalk.u8_in _ (by omega); exact rfl
      refine wl_push (vs := [_]) tyB rfl q1 ⟨rfl, rfl, rfl, trivial⟩ rfl (by decide) rfl (by omega) (by simp only [maxLen]; omega) hb.size rfl rfl fun _ _ _ _ hO hG _ => ?_; replace a3 := Ar.grA a3 hG (Ar.ne_ow a3 q1 rfl); replace hb := hG.below hb q1 (Nat.le_refl _) hb.size; replace q1 := hO; clear hO hG
      refine wl_as rfl rfl ?_; refine wl_ns ?_; refine wc_sr ?_; apply wl_val; apply opv_fa; exact fa_sC (by decide); exact rfl; exact rfl; apply wl_val; apply opv_ldX; exact rfl; assumption; exact c1_int; exact rfl; exact rfl; refine wl_ns ?_; refine wc_block ?_; refine wc_sr ?_; refine wl_bin rfl rfl bin_eql rfl ?_; refine wl_as rfl rfl ?_; refine wl_ns ?_; apply wc_decT; exact rfl; (with_reducible rfl); refine wc_region ?_; refine wl_mv rfl rfl ?_; apply wl_val; apply opv_fa; exact fa_sC (by decide); exact rfl; exact rfl; apply wl_val; apply opv_ldX; exact rfl; assumption; exact c1_bool; exact rfl; exact rfl
      refine wl_call ok_cell_truth truth_any ⟨rfl, trivial⟩ rfl ?_
      rintro _ _ ⟨rfl, rfl⟩
      have hlt : (if t then 1 else 0 : Nat) < 256 := by cases t <;> decide
      apply wl_val; apply opv_convR; exact rfl; exact Try.underlying3; exact Try.underlying5; exact IntWalk.u8_in _ (by omega); exact rfl
      refine wl_push (vs := [_]) tyB rfl q1 ⟨rfl, rfl, rfl, trivial⟩ rfl (by decide) rfl (by omega) (by simp only [maxLen]; omega) hb.size rfl rfl fun _ _ _ _ hO hG _ => ?_; (try replace a3 := Ar.grA a3 hG (Ar.ne_ow a3 q1 rfl)); replace hb := hG.below hb q1 (Nat.le_refl _) hb.size; replace q1 := hO; clear hO hG
      refine wl_as rfl rfl ?_; refine wl_nil ?_; refine we_block_norm ?_; refine we_block_norm ?_; refine we_seq ?_; refine wc_region ?_; apply wl_val; apply opv_bin; exact rfl; exact rfl; exact bin_add64 (by omega); exact rfl; refine wl_mv rfl rfl ?_; refine wl_nil ?_
      obtain ⟨m', hI, hlt⟩ := key_next (A := some ⟨b, o, none⟩) (c := c) hu q1 (by simp [key1, hK]) (by cases t <;> simp [key1, bvs, bv]) hb hm
      exact we_loop _ m' hI hlt ⟨rfl, rfl, rfl, by simp [lookT], trivial⟩
    | int n =>
      simp only [vaC] at a3
      simp only [key1, List.length_cons, ordU_length] at hle2
      refine wl_as rfl rfl ?_; refine wl_ns ?_; refine wc_seq ?_; refine wc_sr ?_; refine wl_mv rfl rfl ?_; refine wl_bin rfl rfl bin_neq rfl ?_; refine wl_ns ?_; apply wc_decF; exact rfl; (with_reducible exact nne); refine wc_skip ?_; refine we_seq ?_; refine wc_sr ?_; refine wl_mv rfl rfl ?_; apply wl_val; apply opv_fa; exact fa_sC (by decide); exact rfl; exact rfl; apply wl_val; apply opv_ldX; exact rfl; assumption; exact c1_int; exact rfl; exact rfl; apply wl_val; apply opv_convR; exact rfl; exact Try.underlying3; exact Try.underlying5; exact IntWalk.u8_in _ (by omega); exact rfl
      refine wl_push (vs := [_]) tyB rfl q1 ⟨rfl, rfl, rfl, trivial⟩ rfl (by decide) rfl (by omega) (by simp only [maxLen]; omega) hb.size rfl rfl fun _ _ _ _ hO hG _ => ?_; replace a3 := Ar.grA a3 hG (Ar.ne_ow a3 q1 rfl); replace hb := hG.below hb q1 (Nat.le_refl _) hb.size; replace q1 := hO; clear hO hG
      refine wl_as rfl rfl ?_; refine wl_ns ?_; refine wc_sr ?_; apply wl_val; apply opv_fa; exact fa_sC (by decide); exact rfl; exact rfl; apply wl_val; apply opv_ldX; exact rfl; assumption; exact c1_int; exact rfl; exact rfl; refine wl_ns ?_; refine wc_block ?_; refine wc_sr ?_; refine wl_bin rfl rfl bin_eql rfl ?_; refine wl_as rfl rfl ?_; refine wl_ns ?_; apply wc_decF; exact rfl; omega; refine wc_sr ?_; refine wl_bin rfl rfl bin_eql rfl ?_; refine wl_as rfl rfl ?_; refine wl_ns ?_; apply wc_decT; exact rfl; (with_reducible rfl); refine wc_region ?_; refine wl_mv rfl rfl ?_; apply wl_val; apply opv_fa; exact fa_sC (by decide); exact rfl; exact rfl; apply wl_val; apply opv_ldX; exact rfl; assumption; exact c1_i64; exact rfl; exact rfl
      refine wl_call ok_codec_OrdI (ordI_any n hou.num _) ⟨rfl, trivial⟩ rfl ?_; rintro _ _ ⟨Y, cy, rfl, o3, hbx⟩; replace q1 := Ow.bel q1 hbx; replace hb := hb.trans (hbx.mono hb.size); clear hbx
      rw [ordU_length]
      refine wl_app tyB rfl q1 rfl (Ow.re o3 (ordU_length _)).rd (bvs_one _) (by omega) (by simp only [maxLen]; omega) hb.size rfl fun _ _ _ hO hG _ => ?_; (try replace a3 := Ar.grA a3 hG (Ar.ne_ow a3 q1 rfl)); replace hb := hG.below hb q1 (Nat.le_refl _) hb.size; replace q1 := hO; clear hO hG
      refine wl_as rfl rfl ?_; refine wl_nil ?_; refine we_block_norm ?_; refine we_block_norm ?_; refine we_seq ?_; refine wc_region ?_; apply wl_val; apply opv_bin; exact rfl; exact rfl; exact bin_add64 (by omega); exact rfl; refine wl_mv rfl rfl ?_; refine wl_nil ?_
      obtain ⟨m', hI, hlt⟩ := key_next (A := some ⟨b, o, none⟩) (c := c) hu q1 (by simp [key1, hK, ordU_length]) (by simp [key1, bvs, bv]) hb hm
      exact we_loop _ m' hI hlt ⟨rfl, rfl, rfl, by simp [lookT], trivial⟩
    | text s =>
      simp only [vaC] at a3
      simp only [key1, List.length_cons] at hle2
      refine wl_as rfl rfl ?_; refine wl_ns ?_; refine wc_seq ?_; refine wc_sr ?_; refine wl_mv rfl rfl ?_; refine wl_bin rfl rfl bin_neq rfl ?_; refine wl_ns ?_; apply wc_decF; exact rfl; (with_reducible exact nne); refine wc_skip ?_; refine we_seq ?_; refine wc_sr ?_; refine wl_mv rfl rfl ?_; apply wl_val; apply opv_fa; exact fa_sC (by decide); exact rfl; exact rfl; apply wl_val; apply opv_ldX; exact rfl; assumption; exact c1_int; exact rfl; exact rfl; apply wl_val; apply opv_convR; exact rfl; exact Try.underlying3; exact Try.underlying5; exact IntWalk.u8_in _ (by omega); exact rfl
      refine wl_push (vs := [_]) tyB rfl q1 ⟨rfl, rfl, rfl, trivial⟩ rfl (by decide) rfl (by omega) (by simp only [maxLen]; omega) hb.size rfl rfl fun _ _ _ _ hO hG _ => ?_; replace a3 := Ar.grA a3 hG (Ar.ne_ow a3 q1 rfl); replace hb := hG.below hb q1 (Nat.le_refl _) hb.size; replace q1 := hO; clear hO hG
      refine wl_as rfl rfl ?_; refine wl_ns ?_; refine wc_sr ?_; apply wl_val; apply opv_fa; exact fa_sC (by decide); exact rfl; exact rfl; apply wl_val; apply opv_ldX; exact rfl; assumption; exact c1_int; exact rfl; exact rfl; refine wl_ns ?_; refine wc_block ?_; refine wc_sr ?_; refine wl_bin rfl rfl bin_eql rfl ?_; refine wl_as rfl rfl ?_; refine wl_ns ?_; apply wc_decF; exact rfl; omega; refine wc_sr ?_; refine wl_bin rfl rfl bin_eql rfl ?_; refine wl_as rfl rfl ?_; refine wl_ns ?_; apply wc_decF; exact rfl; omega; refine wc_sr ?_; refine wl_bin rfl rfl bin_eql rfl ?_; refine wl_as rfl rfl ?_; refine wl_ns ?_; apply wc_decT; exact rfl; (with_reducible rfl); refine wc_region ?_; refine wl_mv rfl rfl ?_; apply wl_val; apply opv_fa; exact fa_sC (by decide); exact rfl; exact rfl; apply wl_val; apply opv_ldX; exact rfl; assumption; exact c1_str; exact rfl; exact rfl
      refine wl_call ok_text_Key (key_any (l := s) hou.text _) ⟨rfl, trivial⟩ rfl ?_; rintro _ _ ⟨Y, cy, rfl, o3, hbx⟩; replace q1 := Ow.bel q1 hbx; replace hb := hb.trans (hbx.mono hb.size); clear hbx
      refine wl_app tyB rfl q1 rfl o3.rd (bvs_one _) (by omega) (by simp only [maxLen]; omega) hb.size rfl fun _ _ _ hO hG _ => ?_; (try replace a3 := Ar.grA a3 hG (Ar.ne_ow a3 q1 rfl)); replace hb := hG.below hb q1 (Nat.le_refl _) hb.size; replace q1 := hO; clear hO hG
      refine wl_as rfl rfl ?_; refine wl_nil ?_; refine we_block_norm ?_; refine we_block_norm ?_; refine we_seq ?_; refine wc_region ?_; apply wl_val; apply opv_bin; exact rfl; exact rfl; exact bin_add64 (by omega); exact rfl; refine wl_mv rfl rfl ?_; refine wl_nil ?_
      obtain ⟨m', hI, hlt⟩ := key_next (A := some ⟨b, o, none⟩) (c := c) hu q1 (by simp [key1, hK]; omega) (by simp [key1, bvs, bv]) hb hm
      exact we_loop _ m' hI hlt ⟨rfl, rfl, rfl, by simp [lookT], trivial⟩
    | bytes d =>
      simp only [vaC] at a3 o2
      simp only [key1, List.length_cons] at hle2
      refine wl_as rfl rfl ?_; refine wl_ns ?_; refine wc_seq ?_; refine wc_sr ?_; refine wl_mv rfl rfl ?_; refine wl_bin rfl rfl bin_neq rfl ?_; refine wl_ns ?_; apply wc_decF; exact rfl; (with_reducible exact nne); refine wc_skip ?_; refine we_seq ?_; refine wc_sr ?_; refine wl_mv rfl rfl ?_; apply wl_val; apply opv_fa; exact fa_sC (by decide); exact rfl; exact rfl; apply wl_val; apply opv_ldX; exact rfl; assumption; exact c1_int; exact rfl; exact rfl; apply wl_val; apply opv_convR; exact rfl; exact Try.underlying3; exact Try.underlying5; exact IntWalk.u8_in _ (by omega); exact rfl
      refine wl_push (vs := [_]) tyB rfl q1 ⟨rfl, rfl, rfl, trivial⟩ rfl (by decide) rfl (by omega) (by simp only [maxLen]; omega) hb.size rfl rfl fun _ _ _ _ hO hG _ => ?_; replace a3 := Ar.grA a3 hG (Ar.ne_ow a3 q1 rfl); replace o2 := Ow.gr2 o2 hG hP; replace hb := hG.below hb q1 (Nat.le_refl _) hb.size; replace q1 := hO; clear hO hG
      refine wl_as rfl rfl ?_; refine wl_ns ?_; refine wc_sr ?_; apply wl_val; apply opv_fa; exact fa_sC (by decide); exact rfl; exact rfl; apply wl_val; apply opv_ldX; exact rfl; assumption; exact c1_int; exact rfl; exact rfl; refine wl_ns ?_; refine wc_block ?_; refine wc_sr ?_; refine wl_bin rfl rfl bin_eql rfl ?_; refine wl_as rfl rfl ?_; refine wl_ns ?_; apply wc_decF; exact rfl; omega; refine wc_sr ?_; refine wl_bin rfl rfl bin_eql rfl ?_; refine wl_as rfl rfl ?_; refine wl_ns ?_; apply wc_decF; exact rfl; omega; refine wc_sr ?_; refine wl_bin rfl rfl bin_eql rfl ?_; refine wl_as rfl rfl ?_; refine wl_ns ?_; apply wc_decF; exact rfl; omega; refine wc_sr ?_; refine wl_bin rfl rfl bin_eql rfl ?_; refine wl_as rfl rfl ?_; refine wl_ns ?_; apply wc_decT; exact rfl; (with_reducible rfl); refine wc_region ?_; refine wl_mv rfl rfl ?_; apply wl_val; apply opv_fa; exact fa_sC (by decide); exact rfl; exact rfl; apply wl_val; apply opv_ldX; exact rfl; assumption; exact c1_by; exact rfl; exact rfl
      refine wl_call ok_codec_OrdText (ordText_any (OwB.rd o2) rfl (by have : d.length ≤ 68719476736 := hou.data; omega)) ⟨rfl, trivial⟩ rfl ?_; rintro _ _ ⟨Y, cy, rfl, o3, hbx⟩; replace q1 := Ow.bel q1 hbx; replace hb := hb.trans (hbx.mono hb.size); clear hbx
      refine wl_app tyB rfl q1 rfl o3.rd (bvs_one _) (by omega) (by simp only [maxLen]; omega) hb.size rfl fun _ _ _ hO hG _ => ?_; (try replace a3 := Ar.grA a3 hG (Ar.ne_ow a3 q1 rfl)); replace hb := hG.below hb q1 (Nat.le_refl _) hb.size; replace q1 := hO; clear hO hG
      refine wl_as rfl rfl ?_; refine wl_nil ?_; refine we_block_norm ?_; refine we_block_norm ?_; refine we_seq ?_; refine wc_region ?_; apply wl_val; apply opv_bin; exact rfl; exact rfl; exact bin_add64 (by omega); exact rfl; refine wl_mv rfl rfl ?_; refine wl_nil ?_
      obtain ⟨m', hI, hlt⟩ := key_next (A := some ⟨b, o, none⟩) (c := c) hu q1 (by simp [key1, hK]; omega) (by simp [key1, bvs, bv]) hb hm
      exact we_loop _ m' hI hlt ⟨rfl, rfl, rfl, by simp [lookT], trivial⟩
  · obtain rfl : k = us.length := by omega
    rw [List.take_length] at o1 ⊢
    refine wc_exit ?_; refine we_seq_exit ?_; refine we_loop_exit ?_; refine we_block_exit ?_; refine we_seq ?_; refine wc_sr ?_; refine wl_mv rfl rfl ?_; refine wl_as rfl rfl ?_; refine wl_as rfl rfl ?_; refine wl_ns ?_; refine wc_ret ?_
    exact we_ret2 rfl rfl rfl ⟨_, rfl, P, cp, rfl, o1, hb⟩
end Go.Proofs.Ytcjiecclmepboaa
