
/-
  The walk over the law TextFolds.
-/
import Derived.Test.YtcjiecclmepboaaDoorRa
namespace Go.Proofs.YtcjiecclmepboaaDoor
open Go.RowKit

theorem textFolds_walk {w : World} {s : List UInt8} (hs : s.length ≤ 1048576) (hT : Lib.Utf8Tabs 0 1 w) :
    CallsV Tryd.prog 3 #[str s] w (RetTr w) := by
  have hfs := foldB_length s
  refine calls_in (N := _) Tryd.func3 rfl Tryd.ntmps3 rfl ?_; show WC _ _ _ _ _ _
  refine wc_sr ?_; refine wl_as rfl rfl ?_; refine wl_ns ?_; refine wc_seq ?_; refine wc_sr ?_
  refine wl_call ok_caissonlaw02_awake (awake2_any w) trivial rfl ?_
  rintro _ w1 ⟨rfl, hb⟩
  apply wl_val; apply opv_not; exact rfl; exact rfl; refine wl_ns ?_; apply wc_condFb; exact rfl; exact Bool.not_true; refine wc_skip ?_; refine we_seq ?_; refine wc_sr ?_; refine wl_mv rfl rfl ?_
  refine wl_call ok_text_Fold (fold_any (l := s) (by omega) _) ⟨rfl, trivial⟩ rfl ?_; rintro _ _ ⟨rfl, hbx⟩; replace hb := hb.trans (hbx.mono hb.size); clear hbx
  refine wl_as rfl rfl ?_; refine wl_ns ?_; refine wc_sr ?_; refine wl_mv rfl rfl ?_
  refine wl_call ok_text_Bad (bad_any (l := foldB s) (by omega) (Utf8Tabs_below hT hb)) ⟨rfl, trivial⟩ rfl ?_; rintro _ _ ⟨rfl, hbx⟩; replace hb := hb.trans (hbx.mono hb.size); clear hbx
  rw [bad_fold, show placeV none = .tuple #[.int .i64 (0 : Nat), .bool false] from rfl]
  refine wl_mv rfl rfl ?_; apply wl_val; apply opv_extract; exact rfl; exact rfl; exact rfl; apply wl_val; apply opv_extract; exact rfl; exact rfl; exact rfl; refine wl_as rfl rfl ?_; refine wl_as rfl rfl ?_; refine wl_ns ?_; refine wc_sr ?_; refine wl_mv rfl rfl ?_; refine wl_mv rfl rfl ?_
  refine wl_call ok_caissonref02_Fold (refFold_any (l := s) (by omega) _) ⟨rfl, trivial⟩ rfl ?_; rintro _ _ ⟨rfl, hbx⟩; replace hb := hb.trans (hbx.mono hb.size); clear hbx
  refine wl_bin rfl rfl bin_eqlS rfl ?_; refine wl_mv rfl rfl ?_; apply wl_take; exact rfl; exact rfl; exact rfl; refine bT ?_; (with_reducible rfl); refine wl_mv rfl rfl ?_; apply wl_take; exact rfl; exact rfl; exact rfl; refine bT ?_; (with_reducible rfl)
  refine wl_call ok_text_Fold (fold_any (l := foldB s) (by omega) _) ⟨rfl, trivial⟩ rfl ?_; rintro _ _ ⟨rfl, hbx⟩; replace hb := hb.trans (hbx.mono hb.size); clear hbx
  rw [fold_fold]
  apply wl_take; exact rfl; exact rfl; exact rfl; refine bT ?_; (with_reducible rfl); refine wl_mv rfl rfl ?_; apply wl_take; exact rfl; exact rfl; exact rfl; refine bT ?_; (with_reducible rfl); refine wl_bin rfl rfl bin_eqlS rfl ?_; apply wl_val; apply opv_pickT; exact rfl; refine bT ?_; (with_reducible rfl); exact rfl; exact rfl; refine wl_mv rfl rfl ?_; apply wl_take; exact rfl; exact rfl; exact rfl; refine bT ?_; (with_reducible rfl); refine wl_mv rfl rfl ?_; apply wl_take; exact rfl; exact rfl; exact rfl; refine bT ?_; (with_reducible rfl); apply wl_val; apply opv_not; exact rfl; exact rfl; apply wl_val; apply opv_pickT; exact rfl; refine bT ?_; (with_reducible rfl); exact rfl; exact rfl; refine wl_mv rfl rfl ?_; apply wl_take; exact rfl; exact rfl; exact rfl; exact Bool.not_false; refine wl_mv rfl rfl ?_; apply wl_take; exact rfl; exact rfl; exact rfl; exact Bool.not_false
  refine wl_call ok_text_Len (len_any (l := foldB s) (by omega) _) ⟨rfl, trivial⟩ rfl ?_; rintro _ _ ⟨rfl, hbx⟩; replace hb := hb.trans (hbx.mono hb.size); clear hbx
  rw [rs_fold, List.length_map]
  apply wl_take; exact rfl; exact rfl; exact rfl; exact Bool.not_false; refine wl_mv rfl rfl ?_; apply wl_take; exact rfl; exact rfl; exact rfl; exact Bool.not_false
  refine wl_call ok_text_Len (len_any (l := s) (by omega) _) ⟨rfl, trivial⟩ rfl ?_; rintro _ _ ⟨rfl, hbx⟩; replace hb := hb.trans (hbx.mono hb.size); clear hbx
  apply wl_take; exact rfl; exact rfl; exact rfl; exact Bool.not_false; refine wl_bin rfl rfl bin_eql rfl ?_; apply wl_val; apply opv_pickT; exact rfl; exact Bool.not_false; exact rfl; exact rfl; refine wl_as rfl rfl ?_; refine wl_ns ?_; refine wc_ret ?_
  exact we_ret1 rfl rfl ⟨_, rfl, by simp, hb⟩
end Go.Proofs.YtcjiecclmepboaaDoor
