
/-
  The walk over the law TextLikes.
-/
import Derived.Test.YtcjiecclmepboaaTm
namespace Go.Proofs.Ytcjiecclmepboaa
open Go.RowKit

theorem colS_all (t : List Nat) (prev : Nat → Bool) (h : prev 0 = true) : ∀ i, colS prev 37 t i = true
  | 0 => by rw [colS_zero, h]; rfl
  | i + 1 => by rw [colS_any rfl, colS_all t prev h i, Bool.or_true]
theorem like_percent (t : List Nat) : likeN t [37] = true := colS_all t _ rfl t.length
theorem low_37 (q : Nat) : lowN q = 37 ↔ q = 37 := by
  unfold lowN
  (repeat' split) <;> omega
theorem low_95 (q : Nat) : lowN q = 95 ↔ q = 95 := by
  unfold lowN
  (repeat' split) <;> omega
theorem colS_low (prev : Nat → Bool) (q : Nat) (t : List Nat) : ∀ i, colS prev (lowN q) t i = colS prev q t i
  | 0 => by rw [colS_zero, colS_zero, decide_eq_decide.2 (low_37 q)]
  | i + 1 => by
    by_cases h : q = 37
    · rw [colS_any h, colS_any ((low_37 q).2 h), colS_low prev q t i]
    · rw [colS_one h, colS_one (fun h' => h ((low_37 q).1 h')), decide_eq_decide.2 (low_95 q), lowN_low]
theorem mm_low (t p : List Nat) : ∀ j, j ≤ p.length → mm t (p.map lowN) j = mm t p j
  | 0, _ => rfl
  | j + 1, h => by
    funext i
    rw [mm_row, mm_row, mm_low t p j (by omega)]
    have e : (p.map lowN).getD j 0 = lowN (p.getD j 0) := by simp [List.getD, List.getElem?_eq_getElem (show j < p.length by omega)]
    rw [e, colS_low]
theorem like_low (t p : List Nat) : likeN t (p.map lowN) = likeN t p := by
  rw [likeN, likeN, List.length_map, mm_low t p _ (Nat.le_refl _)]
theorem map_low (l : List Nat) : (l.map lowN).map lowN = l.map lowN := by
  rw [List.map_map]; exact List.map_congr_left fun c _ => lowN_low c
theorem rs_percent : rs [37] = [37] := by decide +kernel
theorem textLikes_walk {w : World} {s pat : List UInt8} (hs : s.length ≤ 1048576) (hp : pat.length ≤ 1048576) :
    CallsV Try.prog 4 #[str s, str pat] w (RetTr w) := by
  refine calls_in (N := _) Try.func4 rfl Try.ntmps4 rfl ?_; show WC _ _ _ _ _ _
  refine wc_sr ?_; refine wl_as rfl rfl ?_; refine wl_ns ?_; refine wc_seq ?_; refine wc_sr ?_
  refine wl_call ok_caissonlaw02_awake (awake2_any w) trivial rfl ?_
  rintro _ w1 ⟨rfl, hb⟩
  apply wl_val; apply opv_not; exact rfl; exact rfl; refine wl_ns ?_; apply wc_condFb; exact rfl; exact Bool.not_true; refine wc_skip ?_; refine we_seq ?_; refine wc_seq ?_; refine wc_sr ?_; refine wl_mv rfl rfl ?_; apply wl_val; apply opv_lenL; exact rfl; exact Try.underlying9; exact rfl; refine wl_bin rfl rfl bin_gtr rfl ?_; refine wl_ns ?_
  refine wc_cutE (fun L' w' => ∃ s' : List UInt8, L' = [(0, str s'), (1, str pat)] ∧ s'.length ≤ 400 ∧ w1 = w') ?_ ?_
  · refine wc_cond rfl (fun h => ?_) (fun h => ?_)
    · refine wc_region ?_; refine wl_mv rfl rfl ?_
      refine wl_val (opv_slS (a := 0) (b := 400) tyStr rfl rfl ⟨_, rfl⟩ (by omega) (by omega)) rfl ?_
      refine wl_as rfl rfl ?_; refine wl_nil ?_
      exact we_cut _ ⟨_, rfl, by simp; omega, rfl⟩ ⟨rfl, rfl, trivial⟩
    · refine wc_skip ?_
      exact we_cut _ ⟨s, rfl, by omega, rfl⟩ ⟨rfl, rfl, trivial⟩
  clear hs s
  rintro _ _ ⟨s, rfl, hs, rfl⟩
  refine we_seq ?_; refine wc_seq ?_; refine wc_sr ?_; refine wl_mv rfl rfl ?_; apply wl_val; apply opv_lenL; exact rfl; exact Try.underlying9; exact rfl; refine wl_bin rfl rfl bin_gtr rfl ?_; refine wl_ns ?_
  refine wc_cutE (fun L' w' => ∃ p' : List UInt8, L' = [(0, str s), (1, str p')] ∧ p'.length ≤ 400 ∧ w1 = w') ?_ ?_
  · refine wc_cond rfl (fun h => ?_) (fun h => ?_)
    · refine wc_region ?_; refine wl_mv rfl rfl ?_
      refine wl_val (opv_slS (a := 0) (b := 400) tyStr rfl rfl ⟨_, rfl⟩ (by omega) (by omega)) rfl ?_
      refine wl_as rfl rfl ?_; refine wl_nil ?_
      exact we_cut _ ⟨_, rfl, by simp; omega, rfl⟩ ⟨rfl, rfl, trivial⟩
    · refine wc_skip ?_
      exact we_cut _ ⟨pat, rfl, by omega, rfl⟩ ⟨rfl, rfl, trivial⟩
  clear hp pat
  rintro _ _ ⟨pat, rfl, hp, rfl⟩
  have hfs := foldB_length s
  have hfp := foldB_length pat
  obtain ⟨x, hx⟩ : ∃ x, likeN ((rs s).map lowN) (rs pat) = x := ⟨_, rfl⟩
  refine we_seq ?_; refine wc_sr ?_; refine wl_mv rfl rfl ?_; refine wl_mv rfl rfl ?_
  refine wl_call ok_text_Like (like_any (s := s) (pat := pat) (by omega) (by omega) _) ⟨rfl, rfl, trivial⟩ rfl ?_; rintro _ _ ⟨rfl, hbx⟩; replace hb := hb.trans (hbx.mono hb.size); clear hbx
  rw [hx]
  refine wl_mv rfl rfl ?_; refine wl_mv rfl rfl ?_
  refine wl_call ok_caissonref02_Like (refLike_any (s := s) (pat := pat) (by omega) (by omega) _) ⟨rfl, rfl, trivial⟩ rfl ?_; rintro _ _ ⟨rfl, hbx⟩; replace hb := hb.trans (hbx.mono hb.size); clear hbx
  rw [hx]
  apply wl_val; apply opv_bin; exact rfl; exact rfl; exact bin_eqlB tyBool; exact rfl; refine wl_mv rfl rfl ?_; apply wl_take; exact rfl; exact rfl; exact rfl; refine bT ?_; (with_reducible rfl); refine wl_mv rfl rfl ?_; apply wl_take; exact rfl; exact rfl; exact rfl; refine bT ?_; (with_reducible rfl)
  refine wl_call ok_text_Like (like_any (s := s) (pat := [37]) (by omega) (by decide) _) ⟨rfl, rfl, trivial⟩ rfl ?_; rintro _ _ ⟨rfl, hbx⟩; replace hb := hb.trans (hbx.mono hb.size); clear hbx
  rw [rs_percent, like_percent]
  apply wl_val; apply opv_pickT; exact rfl; refine bT ?_; (with_reducible rfl); exact rfl; exact rfl; refine wl_mv rfl rfl ?_; apply wl_take; exact rfl; exact rfl; exact rfl; exact rfl; refine wl_mv rfl rfl ?_; apply wl_take; exact rfl; exact rfl; exact rfl; exact rfl
  refine wl_call ok_text_Fold (fold_any (l := s) (by omega) _) ⟨rfl, trivial⟩ rfl ?_; rintro _ _ ⟨rfl, hbx⟩; replace hb := hb.trans (hbx.mono hb.size); clear hbx
  apply wl_take; exact rfl; exact rfl; exact rfl; exact rfl; refine wl_mv rfl rfl ?_; apply wl_take; exact rfl; exact rfl; exact rfl; exact rfl
  refine wl_call ok_text_Like (like_any (s := foldB s) (pat := pat) (by omega) (by omega) _) ⟨rfl, rfl, trivial⟩ rfl ?_; rintro _ _ ⟨rfl, hbx⟩; replace hb := hb.trans (hbx.mono hb.size); clear hbx
  rw [rs_fold, map_low, hx]
  apply wl_take; exact rfl; exact rfl; exact rfl; exact rfl; refine wl_mv rfl rfl ?_; apply wl_take; exact rfl; exact rfl; exact rfl; exact rfl; refine wl_mv rfl rfl ?_; apply wl_take; exact rfl; exact rfl; exact rfl; exact rfl
  refine wl_call ok_text_Fold (fold_any (l := pat) (by omega) _) ⟨rfl, trivial⟩ rfl ?_; rintro _ _ ⟨rfl, hbx⟩; replace hb := hb.trans (hbx.mono hb.size); clear hbx
  apply wl_take; exact rfl; exact rfl; exact rfl; exact rfl
  refine wl_call ok_text_Like (like_any (s := s) (pat := foldB pat) (by omega) (by omega) _) ⟨rfl, rfl, trivial⟩ rfl ?_; rintro _ _ ⟨rfl, hbx⟩; replace hb := hb.trans (hbx.mono hb.size); clear hbx
  rw [rs_fold, like_low, hx]
  apply wl_take; exact rfl; exact rfl; exact rfl; exact rfl; apply wl_val; apply opv_bin; exact rfl; exact rfl; exact bin_eqlB tyBool; exact rfl; apply wl_val; apply opv_pickT; exact rfl; exact rfl; exact rfl; exact rfl; refine wl_as rfl rfl ?_; refine wl_ns ?_; refine wc_ret ?_
  exact we_ret1 rfl rfl ⟨_, rfl, by simp, hb⟩
end Go.Proofs.Ytcjiecclmepboaa
