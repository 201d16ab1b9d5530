
/-
  The walk over the law TextRunes.
-/
import Derived.Test.YtcjiecclmepboaaDoorRa
namespace Go.Proofs.YtcjiecclmepboaaDoor
open Go.RowKit

/-- An int as a rune. -/
def w32 (z : Int) : Int := IntKind.i32.wrap z
theorem w32_in (z : Int) : -2147483648 ≤ w32 z ∧ w32 z ≤ 2147483647 := by rw [w32, IntKind.wrap_i32]; omega
def zv (z : Int) : Value := .int .i64 z
theorem encsZ_app (a b : List Int) : encsZ (a ++ b) = encsZ a ++ encsZ b := by simp [encsZ]
theorem encsZ_nat (cs : List Nat) : encsZ (cs.map fun c : Nat => (c : Int)) = encs cs := by
  rw [encsZ, List.flatMap_map]; rfl
theorem encsZ_len (cs : List Int) : (encsZ cs).length ≤ 4 * cs.length := by
  induction cs with
  | nil => simp [encsZ]
  | cons c cs ih =>
    have h : (Lib.encodeRune c).length ≤ 4 := by
      by_cases hv : (c < 0 ∨ 1114111 < c) ∨ (55296 ≤ c ∧ c ≤ 57343)
      · rw [enc_bad hv]; exact (enc_length _).2
      · obtain ⟨d, rfl⟩ := Int.eq_ofNat_of_zero_le (show 0 ≤ c by omega)
        exact (enc_length d).2
    rw [encsZ] at ih ⊢
    rw [List.flatMap_cons, List.length_append, List.length_cons]; omega
theorem of_any {A : Option Addr} {n c : Nat} {cs : List Int} {w : World} (h : Rd w A n (cs.map runeV)) :
    CallsV Tryd.prog 14 #[.slice A n c] w fun v w' => v = str (encsZ cs) ∧ w = w' := by
  refine calls_in (N := _) Tryd.func14 rfl Tryd.ntmps14 rfl ?_; show WC _ _ _ _ _ _
  refine wc_sr ?_; refine wl_as rfl rfl ?_; refine wl_ns ?_; refine wc_sr ?_; refine wl_mv rfl rfl ?_
  refine wl_val (opv_ofRunes Tryd.underlying29 Tryd.underlying21 tyStr rfl h) rfl ?_
  refine wl_as rfl rfl ?_; refine wl_ns ?_; refine wc_ret ?_
  exact we_ret1 rfl rfl ⟨_, rfl, rfl, rfl⟩
set_option maxHeartbeats 1000000 in
set_option maxRecDepth 10000 in
theorem textRunes_walk {w : World} {s : List UInt8} (hs : s.length ≤ 1048576) {A : Option Addr} {n c : Nat} {zs : List Int} (r0 : Rd w A n (zs.map zv)) (hn : zs.length = n) (hl : zs.length ≤ 1048576) (hT : Lib.Utf8Tabs 0 1 w) :
    CallsV Tryd.prog 4 #[str s, .slice A n c] w (RetTr w) := by
  subst hn
  have hrl := rs_length s
  refine calls_in (N := _) Tryd.func4 rfl Tryd.ntmps4 rfl ?_; show WC _ _ _ _ _ _
  refine wc_sr ?_; refine wl_as rfl rfl ?_; refine wl_ns ?_; refine wc_seq ?_; refine wc_sr ?_
  refine wl_call ok_caissonlaw02_awake (awake2_any w) trivial rfl ?_
  rintro _ w1 ⟨rfl, hb⟩
  apply wl_val; apply opv_not; exact rfl; exact rfl; refine wl_ns ?_; apply wc_condFb; exact rfl; exact Bool.not_true; refine wc_skip ?_; refine we_seq ?_; refine wc_sr ?_; refine wl_mv rfl rfl ?_
  refine wl_call ok_text_Runes (runes_any (l := s) (by omega) _) ⟨rfl, trivial⟩ rfl ?_
  rintro _ w2 ⟨B, d, rfl, o2, hbx⟩
  have hw2 := hb.size
  replace hb := hb.trans (hbx.mono hb.size); clear hbx
  have r2 := o2.rd
  refine wl_as rfl rfl ?_; refine wl_ns ?_; refine wc_sr ?_; refine wl_mv rfl rfl ?_
  refine wl_call ok_caissonref02_Runes (refRunes_any (l := s) (by omega) _) ⟨rfl, trivial⟩ rfl ?_
  rintro _ w3 ⟨C, D, e, g, rfl, o3, _, hbx⟩
  replace hb := hb.trans (hbx.mono hb.size)
  replace r2 := r2.below hbx; clear hbx
  have r3 := o3.rd
  obtain ⟨q, hq⟩ : ∃ q, (bad s).getD 0 = q := ⟨_, rfl⟩
  obtain ⟨bb, hbb⟩ : ∃ bb, (bad s).isSome = bb := ⟨_, rfl⟩
  have hpv : placeV (bad s) = .tuple #[.int .i64 (q : Int), .bool bb] := by rw [placeV, hq, hbb]
  refine wl_mv rfl rfl ?_; apply wl_val; apply opv_extract; exact rfl; exact rfl; exact rfl; apply wl_val; apply opv_extract; exact rfl; exact rfl; exact rfl; refine wl_as rfl rfl ?_; refine wl_as rfl rfl ?_; refine wl_ns ?_; refine wc_sr ?_; refine wl_mv rfl rfl ?_
  refine wl_call ok_text_Bad (bad_any (l := s) (by omega) (Utf8Tabs_below hT hb)) ⟨rfl, trivial⟩ rfl ?_
  rintro _ w4 ⟨rfl, hbx⟩
  rw [hpv]
  replace hb := hb.trans (hbx.mono hb.size)
  replace r2 := r2.below hbx
  replace r3 := r3.below hbx; clear hbx
  refine wl_mv rfl rfl ?_; apply wl_val; apply opv_extract; exact rfl; exact rfl; exact rfl; apply wl_val; apply opv_extract; exact rfl; exact rfl; exact rfl; refine wl_as rfl rfl ?_; refine wl_as rfl rfl ?_; refine wl_ns ?_; refine wc_sr ?_; refine wl_mv rfl rfl ?_
  refine wl_call ok_caissonref02_Wrong (wrong_any (l := s) (by omega) _) ⟨rfl, trivial⟩ rfl ?_
  rintro _ _ ⟨rfl, rfl⟩
  rw [hpv]
  refine wl_mv rfl rfl ?_; apply wl_val; apply opv_extract; exact rfl; exact rfl; exact rfl; apply wl_val; apply opv_extract; exact rfl; exact rfl; exact rfl; refine wl_as rfl rfl ?_; refine wl_as rfl rfl ?_; refine wl_ns ?_; refine wc_seq ?_; refine wc_sr ?_; refine wl_mv rfl rfl ?_; apply wl_val; apply opv_len; exact rfl; exact tyR.sl; exact rfl; refine wl_mv rfl rfl ?_; apply wl_val; apply opv_len; exact rfl; exact tyI.sl; exact rfl; refine wl_bin rfl rfl bin_neq rfl ?_; refine wl_mv rfl rfl ?_; apply wl_take; exact rfl; exact rfl; exact rfl; refine bF ?_; (with_reducible exact nne); refine wl_mv rfl rfl ?_; apply wl_take; exact rfl; exact rfl; exact rfl; refine bF ?_; (with_reducible exact nne)
  refine wl_call ok_text_Len (len_any (l := s) (by omega) _) ⟨rfl, trivial⟩ rfl ?_
  rintro _ w5 ⟨rfl, hbx⟩
  replace hb := hb.trans (hbx.mono hb.size)
  replace r2 := r2.below hbx
  replace r3 := r3.below hbx; clear hbx
  apply wl_take; exact rfl; exact rfl; exact rfl; refine bF ?_; (with_reducible exact nne); refine wl_mv rfl rfl ?_; apply wl_take; exact rfl; exact rfl; exact rfl; refine bF ?_; (with_reducible exact nne); apply wl_val; apply opv_len; exact rfl; exact tyI.sl; exact rfl; apply wl_take; exact rfl; exact rfl; exact rfl; refine bF ?_; (with_reducible exact nne); refine wl_bin rfl rfl bin_neq rfl ?_; apply wl_val; apply opv_pickF; exact rfl; refine bF ?_; (with_reducible exact nne); exact rfl; exact rfl; refine wl_mv rfl rfl ?_; apply wl_take; exact rfl; exact rfl; exact rfl; refine bF ?_; (with_reducible exact nne); refine wl_mv rfl rfl ?_; apply wl_take; exact rfl; exact rfl; exact rfl; refine bF ?_; (with_reducible exact nne); refine wl_mv rfl rfl ?_; apply wl_take; exact rfl; exact rfl; exact rfl; refine bF ?_; (with_reducible exact nne); refine wl_bin rfl rfl bin_neq rfl ?_; apply wl_val; apply opv_pickF; exact rfl; refine bF ?_; (with_reducible exact nne); exact rfl; exact rfl; refine wl_mv rfl rfl ?_; apply wl_take; exact rfl; exact rfl; exact rfl; refine bF ?_; (with_reducible exact nne); refine wl_mv rfl rfl ?_; apply wl_take; exact rfl; exact rfl; exact rfl; refine bF ?_; (with_reducible exact nne); refine wl_mv rfl rfl ?_; apply wl_take; exact rfl; exact rfl; exact rfl; refine bF ?_; (with_reducible exact nne); apply wl_val; apply opv_bin; exact rfl; exact rfl; exact bin_neqB tyBool; exact rfl; apply wl_val; apply opv_pickF; exact rfl; refine bF ?_; (with_reducible exact nne); exact rfl; exact rfl; refine wl_ns ?_; apply wc_decF; exact rfl; (with_reducible exact nne); refine wc_skip ?_; refine we_seq ?_; refine wc_seq ?_; refine wc_sr ?_; refine wl_mv rfl rfl ?_; apply wl_val; apply opv_len; exact rfl; exact tyR.sl; exact rfl; refine wl_mv rfl rfl ?_; refine wl_ns ?_; refine wc_block ?_
  refine wc_loop (fun L' wr m => ∃ i : Nat, L' = [(0, str s), (1, .slice A zs.length c), (5, .slice B (rs s).length d), (6, .slice C (rs s).length e), (11, .bool bb), (59, .int .i64 ((rs s).length : Int)), (60, .int .i64 (i : Int))] ∧ i ≤ (rs s).length ∧ Below w.heap.size w wr ∧ Rd wr B (rs s).length ((rs s).map fun c : Nat => runeV (c : Int)) ∧ Rd wr C (rs s).length ((rs s).map iv) ∧ m = (rs s).length - i)
    [(0, str s), (1, .slice A zs.length c), (5, .slice B (rs s).length d), (6, .slice C (rs s).length e), (11, .bool bb), (59, .int .i64 ((rs s).length : Int)), (60, .int .i64 (0 : Nat))] (rs s).length ⟨0, rfl, by omega, hb, r2, r3, rfl⟩ ⟨rfl, rfl, rfl, rfl, rfl, rfl, rfl, trivial⟩ ?_
  clear hb r2 r3
  rintro _ w6 m ⟨i, rfl, hi, hb, r2, r3, rfl⟩
  refine wc_sr ?_; refine wl_bin rfl rfl bin_lss rfl ?_; refine wl_ns ?_; refine wc_seq ?_
  refine wc_cond rfl (fun h1 => ?_) (fun h1 => ?_)
  · obtain ⟨x, hx⟩ : ∃ x, (rs s)[i]? = some x := ⟨_, List.getElem?_eq_getElem (by omega)⟩
    have hx2 : ((rs s).map fun c : Nat => runeV (c : Int))[i]? = some (.int .i32 (x : Int)) := by rw [List.getElem?_map, hx]; rfl
    have hx3 : ((rs s).map iv)[i]? = some (.int .i64 (x : Int)) := by rw [List.getElem?_map, hx]; rfl
    have hxv := rs_all s x (List.mem_of_getElem? hx)
    have hx1 : x ≤ 1114111 := by unfold Val at hxv; omega
    refine wc_skip ?_; refine we_seq ?_; refine wc_seq ?_; refine wc_block ?_; refine wc_sr ?_; refine wl_mv rfl rfl ?_; refine wl_as rfl rfl ?_; refine wl_ns ?_; refine wc_seq ?_
    refine wc_drawB mixed (by kernel_rfl) ?_
    apply wq_val; intro _ _; apply opv_move; exact rfl; exact rfl; apply wq_val; intro _ _; apply opv_move; exact rfl; exact rfl; apply wq_elK (T := tyR) (hr := r2) (hb := hx2); exact rfl; exact rfl; exact rfl; exact rfl; exact rfl; intro _; apply wq_val; intro _ _; apply opv_convR; exact rfl; exact Tryd.underlying21; exact Tryd.underlying3; exact IntWalk.i64_in _ (by omega); exact rfl; apply wq_val; intro _ _; apply opv_move; exact rfl; exact rfl; apply wq_val; intro _ _; apply opv_move; exact rfl; exact rfl; apply wq_elK (T := tyI) (hr := r3) (hb := hx3); exact rfl; exact rfl; exact rfl; exact rfl; exact rfl; intro _; apply wq_val; intro _ _; apply opv_bin; exact rfl; exact rfl; exact bin_neq; exact rfl; refine wq_nil fun w1 hw1 => ?_
    replace hb := hb.trans (hw1.mono hb.size)
    replace r2 := r2.below hw1
    replace r3 := r3.below hw1
    clear hw1
    refine we_seq ?_; apply wc_decF; exact rfl; (with_reducible exact nne); refine wc_skip ?_; refine we_block_norm ?_; refine we_seq ?_; refine wc_region ?_; apply wl_val; apply opv_bin; exact rfl; exact rfl; exact bin_add64 (by omega); exact rfl; refine wl_mv rfl rfl ?_; refine wl_nil ?_
    refine we_loop [(0, str s), (1, .slice A zs.length c), (5, .slice B (rs s).length d), (6, .slice C (rs s).length e), (11, .bool bb), (59, .int .i64 ((rs s).length : Int)), (60, .int .i64 ((i + 1 : Nat) : Int))] ((rs s).length - (i + 1)) ⟨i + 1, rfl, by omega, hb, r2, r3, rfl⟩ (by omega) ⟨rfl, rfl, rfl, rfl, rfl, rfl, by simp [lookT], trivial⟩
  obtain rfl : i = (rs s).length := by omega
  have hB6 := hb.size
  refine wc_exit ?_; refine we_seq_exit ?_; refine we_loop_exit ?_; refine we_block_exit ?_; refine we_seq ?_; refine wc_sr ?_; refine wl_as rfl rfl ?_; refine wl_ns ?_; refine wc_sr ?_; refine wl_as rfl rfl ?_; refine wl_ns ?_; refine wc_seq ?_; refine wc_sr ?_; refine wl_mv rfl rfl ?_; apply wl_val; apply opv_len; exact rfl; exact tyI.sl; exact rfl; refine wl_mv rfl rfl ?_; refine wl_ns ?_; refine wc_block ?_
  refine wc_loop (fun L' wr m => ∃ (j : Nat) (G E : Option Addr) (cg ce : Nat), L' = [(0, str s), (5, .slice B (rs s).length d), (11, .bool bb), (13, .slice G ((zs.take j).map w32).length cg), (14, .slice E (encsZ ((zs.take j).map w32)).length ce), (74, .slice A zs.length c), (75, .int .i64 (zs.length : Int)), (76, .int .i64 (j : Int))] ∧ j ≤ zs.length ∧ Below w6.heap.size w6 wr ∧ Ow wr w6.heap.size 21 G ((zs.take j).map w32).length cg (((zs.take j).map w32).map runeV) ∧ OwB wr w6.heap.size E ce (encsZ ((zs.take j).map w32)) ∧ (∀ a b, G = some a → E = some b → a.block ≠ b.block) ∧ m = zs.length - j)
    [(0, str s), (5, .slice B (rs s).length d), (11, .bool bb), (13, .slice none 0 0), (14, .slice none 0 0), (74, .slice A zs.length c), (75, .int .i64 (zs.length : Int)), (76, .int .i64 (0 : Nat))] zs.length ⟨0, none, none, 0, 0, rfl, by omega, Below.refl _ _, Ow.nil _ _ _, Ow.nil _ _ _, by simp, rfl⟩ ⟨rfl, rfl, rfl, rfl, rfl, rfl, rfl, rfl, trivial⟩ ?_
  rintro _ w7 m ⟨j, G, E, cg, ce, rfl, hj, hb7, o4, o5, hne, rfl⟩
  have htl : ((zs.take j).map w32).length ≤ j := by rw [List.length_map]; exact List.length_take_le _ _
  have hel := encsZ_len ((zs.take j).map w32)
  refine wc_sr ?_; refine wl_bin rfl rfl bin_lss rfl ?_; refine wl_ns ?_; refine wc_seq ?_
  refine wc_cond rfl (fun h1 => ?_) (fun h1 => ?_)
  · obtain ⟨z, hz⟩ : ∃ z, zs[j]? = some z := ⟨_, List.getElem?_eq_getElem (by omega)⟩
    have hzi : (zs.map zv)[j]? = some (.int .i64 z) := by rw [List.getElem?_map, hz]; rfl
    have hzw := w32_in z
    have r6 : Rd w7 A zs.length (zs.map zv) := (r0.below hb).below (hb7)
    refine wc_skip ?_; refine we_seq ?_; refine wc_seq ?_; refine wc_block ?_; refine wc_sr ?_; apply wl_elK (T := tyI) (hr := r6) (hb := hzi); exact rfl; exact rfl; exact rfl; exact rfl; exact rfl; intro _; refine wl_as rfl rfl ?_; refine wl_ns ?_; refine wc_sr ?_; refine wl_mv rfl rfl ?_; refine wl_mv rfl rfl ?_
    have et : (zs.take (j + 1)).map w32 = (zs.take j).map w32 ++ [w32 z] := by rw [take_snoc' hz, List.map_append]; rfl
    refine wl_val (opv_convR (r := w32 z) rfl Tryd.underlying3 Tryd.underlying21 rfl) rfl ?_
    refine wl_push (vs := [runeV (w32 z)]) tyR rfl o4 ⟨rfl, rfl, rfl, trivial⟩ rfl (by decide) rfl (by omega) (by simp only [maxLen]; omega) hb7.size rfl rfl fun q2 G2 c2 w8 o8 g8 hat8 => ?_
    have hne8 := ne_push hne hat8 fun b hb => (Ow.lt o5 b hb).2
    have hb8 := g8.below hb7 o4 (Nat.le_refl _) hb7.size
    have o58 : OwB w8 w6.heap.size E ce (encsZ ((zs.take j).map w32)) := Ow.gr (base' := 0) (e' := 0) o5 g8 (ne_comm hne)
    refine wl_as rfl rfl ?_; refine wl_ns ?_; refine wc_region ?_; refine wl_mv rfl rfl ?_; refine wl_mv rfl rfl ?_
    refine wl_val (opv_convR (r := w32 z) rfl Tryd.underlying3 Tryd.underlying21 rfl) rfl ?_
    refine wl_val (opv_convR (r := w32 z) rfl Tryd.underlying21 Tryd.underlying3 (IntWalk.i64_in _ (by omega))) rfl ?_
    refine wl_call ok_caissonref02_Put (put_any (c := w32 z) hzw _) ⟨rfl, trivial⟩ rfl ?_
    rintro _ w9 ⟨A9, c9, rfl, o9, hb9⟩
    have o59 := OwB.below o58 hb9
    have o89 := Ow.below o8 hb9 (Nat.le_refl _)
    have hb89 := hb8.trans (hb9.mono hb8.size)
    have hl9 := encsZ_len [w32 z]
    have hl9' : (Lib.encodeRune (w32 z)).length = (encsZ [w32 z]).length := by simp [encsZ]
    simp only [List.length_singleton] at hl9
    refine wl_app tyB rfl o59 rfl o9.rd (bvs_one _) (by omega) (by simp only [maxLen]; omega) hb89.size rfl fun E2 c10 w10 o10 g10 hat10 => ?_
    have hb10 := g10.below hb89 o59 (Nat.le_refl _) hb89.size
    have hne10 := ne_push (ne_comm hne8) (hat10.imp_right fun h a' ha => by subst ha; simp at h; omega) fun b hb => (Ow.lt o89 b hb).2
    have o810 := Ow.gr (base' := 0) (e' := 0) o89 g10 hne8
    replace o10 := OwB.app o10
    have e10 : encsZ ((zs.take j).map w32) ++ Lib.encodeRune (w32 z) = encsZ ((zs.take (j + 1)).map w32) := by
      rw [et, encsZ_app]; simp [encsZ]
    rw [e10] at o10
    have e8 : ((zs.take j).map w32).map runeV ++ [runeV (w32 z)] = ((zs.take (j + 1)).map w32).map runeV := by rw [et, List.map_append]; rfl
    have l8 : ((zs.take j).map w32).length + 1 = ((zs.take (j + 1)).map w32).length := by rw [et]; simp
    rw [e8] at o810
    refine wl_as rfl rfl ?_; refine wl_nil ?_; refine we_block_norm ?_; refine we_seq ?_; refine wc_region ?_; apply wl_val; apply opv_bin; exact rfl; exact rfl; exact bin_add64 (by omega); exact rfl; refine wl_mv rfl rfl ?_; refine wl_nil ?_
    refine we_loop [(0, str s), (5, .slice B (rs s).length d), (11, .bool bb), (13, .slice G2 ((zs.take (j + 1)).map w32).length c2), (14, .slice E2 (encsZ ((zs.take (j + 1)).map w32)).length c10), (74, .slice A zs.length c), (75, .int .i64 (zs.length : Int)), (76, .int .i64 ((j + 1 : Nat) : Int))] (zs.length - (j + 1))
      ⟨j + 1, G2, E2, c2, c10, rfl, by omega, hb10, l8 ▸ o810, o10, ne_comm hne10, rfl⟩ (by omega) ⟨rfl, rfl, rfl, by rw [← l8]; rfl, by rw [← e10, List.length_append]; rfl, rfl, rfl, by simp [lookT], trivial⟩
  obtain rfl : j = zs.length := by omega
  rw [List.take_of_length_le (Nat.le_refl _)] at o4 o5 ⊢
  have r4 := o4.rd
  have r5 := o5.rd
  have hb' := hb.trans (hb7.mono hb.size)
  replace r2 := r2.below hb7
  refine wc_exit ?_; refine we_seq_exit ?_; refine we_loop_exit ?_; refine we_block_exit ?_; refine we_seq ?_; refine wc_seq ?_
  have r2' : Rd w7 B (rs s).length (((rs s).map fun c : Nat => (c : Int)).map runeV) := by rw [List.map_map]; exact r2
  cases bb with
  | true =>
    refine wc_drawB mixed (by kernel_rfl) ?_
    apply wq_val; intro _ _; apply opv_move; exact rfl; exact rfl
    refine wq_call ok_text_Of (fun w hw => (of_any (r4.below hw)).mono (fun v w' h => ⟨h.1, h.2 ▸ hw⟩)) ⟨rfl, trivial⟩ rfl ?_
    apply wq_val; intro _ _; apply opv_move; exact rfl; exact rfl
    refine wq_val (fun w hw => opv_ofBytes Tryd.underlying33 Tryd.underlying5 tyStr rfl (Rd.below r5 hw)) rfl ?_
    apply wq_val; intro _ _; apply opv_bin; exact rfl; exact rfl; exact bin_eqlS; exact rfl; apply wq_val; intro _ _; apply opv_move; exact rfl; exact rfl; apply wq_take; exact rfl; exact rfl; exact rfl; refine bT ?_; (with_reducible rfl); apply wq_val; intro _ _; apply opv_move; exact rfl; exact rfl; apply wq_take; exact rfl; exact rfl; exact rfl; refine bT ?_; (with_reducible rfl); apply wq_val; intro _ _; apply opv_move; exact rfl; exact rfl; apply wq_skip; exact rfl; exact rfl; exact rfl; exact bR1; exact rfl; apply wq_skip; exact rfl; exact rfl; exact rfl; exact bR1; exact rfl; apply wq_skip; exact rfl; exact rfl; exact rfl; exact bR1; exact rfl; apply wq_skip; exact rfl; exact rfl; exact rfl; exact bR1; exact rfl; apply wq_take; exact rfl; exact rfl; exact rfl; refine bT ?_; (with_reducible rfl); apply wq_val; intro _ _; apply opv_pickT; exact rfl; exact rfl; exact rfl; exact rfl; apply wq_val; intro _ _; apply opv_pickT; exact rfl; refine bT ?_; (with_reducible rfl); exact rfl; exact rfl; apply wq_val; intro _ _; apply opv_assign; exact rfl; exact rfl; refine wq_nil fun w1 hw1 => ?_
    refine we_seq ?_; refine wc_ret ?_
    exact we_ret1 rfl rfl ⟨_, rfl, by simp, hb'.trans (hw1.mono hb'.size)⟩
  | false =>
    have hbn : bad s = none := by cases h : bad s with
      | none => rfl
      | some x => rw [h] at hbb; cases hbb
    have hes : encsZ ((rs s).map fun c : Nat => (c : Int)) = s := by rw [encsZ_nat]; exact encs_rs _ 0 s (Nat.le_refl _) hbn
    refine wc_drawB mixed (by kernel_rfl) ?_
    apply wq_val; intro _ _; apply opv_move; exact rfl; exact rfl
    refine wq_call ok_text_Of (fun w hw => (of_any (r4.below hw)).mono (fun v w' h => ⟨h.1, h.2 ▸ hw⟩)) ⟨rfl, trivial⟩ rfl ?_
    apply wq_val; intro _ _; apply opv_move; exact rfl; exact rfl
    refine wq_val (fun w hw => opv_ofBytes Tryd.underlying33 Tryd.underlying5 tyStr rfl (Rd.below r5 hw)) rfl ?_
    apply wq_val; intro _ _; apply opv_bin; exact rfl; exact rfl; exact bin_eqlS; exact rfl; apply wq_val; intro _ _; apply opv_move; exact rfl; exact rfl; apply wq_take; exact rfl; exact rfl; exact rfl; refine bT ?_; (with_reducible rfl); apply wq_val; intro _ _; apply opv_move; exact rfl; exact rfl; apply wq_take; exact rfl; exact rfl; exact rfl; refine bT ?_; (with_reducible rfl); apply wq_val; intro _ _; apply opv_move; exact rfl; exact rfl; apply wq_take; exact rfl; exact rfl; exact rfl; exact rfl; apply wq_val; intro _ _; apply opv_move; exact rfl; exact rfl; apply wq_take; exact rfl; exact rfl; exact rfl; exact rfl
    refine wq_call ok_text_Of (fun w hw => (of_any (r2'.below hw)).mono (fun v w' h => ⟨h.1, h.2 ▸ hw⟩)) ⟨rfl, trivial⟩ rfl ?_
    rw [hes]
    apply wq_take; exact rfl; exact rfl; exact rfl; exact rfl; apply wq_val; intro _ _; apply opv_move; exact rfl; exact rfl; apply wq_take; exact rfl; exact rfl; exact rfl; exact rfl; apply wq_val; intro _ _; apply opv_bin; exact rfl; exact rfl; exact bin_eqlS; exact rfl; apply wq_take; exact rfl; exact rfl; exact rfl; refine bT ?_; (with_reducible rfl); apply wq_val; intro _ _; apply opv_pickF; exact rfl; exact rfl; exact rfl; exact rfl; apply wq_val; intro _ _; apply opv_pickT; exact rfl; refine bT ?_; (with_reducible rfl); exact rfl; exact rfl; apply wq_val; intro _ _; apply opv_assign; exact rfl; exact rfl; refine wq_nil fun w1 hw1 => ?_
    refine we_seq ?_; refine wc_ret ?_
    exact we_ret1 rfl rfl ⟨_, rfl, by simp, hb'.trans (hw1.mono hb'.size)⟩
end Go.Proofs.YtcjiecclmepboaaDoor
