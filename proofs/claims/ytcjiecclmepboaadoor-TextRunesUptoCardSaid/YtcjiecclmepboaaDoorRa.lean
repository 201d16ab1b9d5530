
/-
  The first bad place of a text: plain, and walks over text.Bad and the reference's Wrong.
-/
import Derived.Test.YtcjiecclmepboaaDoorFq
namespace Go.Proofs.YtcjiecclmepboaaDoor
open Go.RowKit

theorem badF_fuel : ∀ (f g p : Nat) (l : List UInt8), l.length ≤ f → l.length ≤ g → badF f p l = badF g p l
  | 0, 0, _, _, _, _ => rfl
  | 0, g + 1, p, l, h, _ => by rw [badF, badF, if_pos (by omega)]
  | f + 1, 0, p, l, _, h => by rw [badF, badF, if_pos (by omega)]
  | f + 1, g + 1, p, l, h1, h2 => by
    rw [badF, badF]
    by_cases h0 : l = []
    · subst h0; rfl
    · have hw := dec_width h0
      rw [badF_fuel f g _ (l.drop (dec l).2) (by simp; omega) (by simp; omega)]
/-- The first bad place at p or behind it. -/
def bdAt (l : List UInt8) (p : Nat) : Option Nat := badF (l.drop p).length p (l.drop p)
theorem bdAt_zero (l : List UInt8) : bdAt l 0 = bad l := rfl
theorem bdAt_end {l : List UInt8} {p : Nat} (h : ¬ p < l.length) : bdAt l p = none := by
  rw [bdAt, List.drop_of_length_le (by omega)]; rfl
theorem bdAt_ok {l : List UInt8} {p : Nat} (h : p < l.length) (ho : Ok (l.drop p)) : bdAt l p = bdAt l (p + (dec (l.drop p)).2) := by
  have hw := dec_at h
  have hl : (l.drop p).length = (l.length - p - 1) + 1 := by rw [List.length_drop]; omega
  rw [bdAt, hl, badF, if_neg (by omega), if_pos ho, List.drop_drop]
  exact badF_fuel _ _ _ _ (by rw [List.length_drop]; omega) (Nat.le_refl _)
theorem bdAt_bad {l : List UInt8} {p : Nat} (h : p < l.length) (ho : ¬ Ok (l.drop p)) : bdAt l p = some p := by
  have hl : (l.drop p).length = (l.length - p - 1) + 1 := by rw [List.length_drop]; omega
  rw [bdAt, hl, badF, if_neg (by omega), if_neg ho]
def placeV (b : Option Nat) : Value := .tuple #[.int .i64 ((b.getD 0 : Nat) : Int), .bool b.isSome]
theorem goDec {l : List UInt8} {p : Nat} (h : p < l.length) : Lib.decodeGo ⟨(l.drop p).toArray⟩ = dec (l.drop p) := by
  have h1 : ¬ (⟨(l.drop p).toArray⟩ : ByteArray).size = 0 := by rw [size_list, List.length_drop]; omega
  rw [Lib.decodeGo, if_neg h1, decode_list]; rfl
theorem decode_any {l : List UInt8} {p : Nat} (h : p < l.length) {w : World} (hT : Lib.Utf8Tabs 0 1 w) :
    CallsV Tryd.prog 18 #[str (l.drop p)] w fun v w' => v = .tuple #[.int .i32 ((dec (l.drop p)).1 : Int), .int .i64 ((dec (l.drop p)).2 : Int)] ∧ Below w.heap.size w w' := by
  refine (Tryd.utf8_DecodeRuneInString _ w hT).mono fun e w' ⟨h1, h2⟩ => ⟨_, h1, ?_, h2⟩
  rw [goDec h]
theorem bad_any {l : List UInt8} (hl : l.length ≤ 1099511627776) {w : World} (hT : Lib.Utf8Tabs 0 1 w) :
    CallsV Tryd.prog 7 #[str l] w fun v w' => v = placeV (bad l) ∧ Below w.heap.size w w' := by
  refine calls_in (N := _) Tryd.func7 rfl Tryd.ntmps7 rfl ?_; show WC _ _ _ _ _ _
  refine wc_sr ?_; refine wl_as rfl rfl ?_; refine wl_as rfl rfl ?_; refine wl_ns ?_; refine wc_seq ?_; refine wc_sr ?_; refine wl_mv rfl rfl ?_
  refine wl_range tyStr rfl rfl fun k w1 hk i1 hb1 => ?_
  refine wl_ns ?_; refine wc_block ?_
  refine wc_loop (fun L wr m => ∃ p : Nat, L = [(0, str l), (9, .pointer (some ⟨k, 0, none⟩))] ∧ It wr k l p ∧ Below w.heap.size w wr ∧ p ≤ l.length ∧ bdAt l p = bad l ∧ m = l.length - p)
    [(0, str l), (9, .pointer (some ⟨k, 0, none⟩))] l.length ⟨0, rfl, i1, hb1, by omega, rfl, rfl⟩ ⟨rfl, rfl, trivial⟩ ?_
  rintro _ w2 m ⟨p, rfl, i2, hb2, hp, he, rfl⟩
  refine wc_sr ?_
  by_cases hlt : p < l.length
  · have hd := dec_at hlt
    refine wl_next rfl i2 hlt rfl fun w3 i3 g3 hs3 => ?_
    have hb3 := g3.belowI hb2 hk hb2.size
    apply wl_val; apply opv_extract; exact rfl; exact rfl; exact rfl; refine wl_ns ?_; refine wc_seq ?_; apply wc_condTb; exact rfl; exact rfl; refine wc_skip ?_; refine we_seq ?_; refine wc_block ?_; refine wc_sr ?_; apply wl_val; apply opv_extract; exact rfl; exact rfl; exact rfl; apply wl_val; apply opv_extract; exact rfl; exact rfl; exact rfl; refine wl_as rfl rfl ?_; refine wl_as rfl rfl ?_; refine wl_ns ?_; refine wc_seq ?_; refine wc_sr ?_; refine wl_mv rfl rfl ?_; refine wl_bin rfl rfl bin_neq rfl ?_; refine wl_ns ?_
    refine wc_cond rfl (fun h1 => ?_) (fun h1 => ?_)
    · rw [bdAt_ok hlt (.inr (by omega))] at he
      refine wc_exit ?_; refine we_seq_exit ?_; refine we_block_exit ?_
      refine we_loop [(0, str l), (9, .pointer (some ⟨k, 0, none⟩))] (l.length - (p + (dec (l.drop p)).2)) ⟨_, rfl, i3, hb3, hd.2.1, he, rfl⟩ (by omega) ⟨rfl, rfl, trivial⟩
    · refine wc_skip ?_; refine we_seq ?_; refine wc_sr ?_; refine wl_mv rfl rfl ?_; refine wl_mv rfl rfl ?_
      refine wl_val (opv_slS (a := p) (b := l.length) tyStr rfl ⟨_, rfl⟩ rfl (by omega) (Nat.le_refl _)) rfl ?_
      rw [List.take_of_length_le (Nat.le_refl l.length)]
      refine wl_call ok_unicode_utf8_DecodeRuneInString (decode_any hlt (Utf8Tabs_below hT hb3)) ⟨rfl, trivial⟩ rfl ?_
      rintro _ w4 ⟨rfl, hb4⟩
      have i4 := i3.bel hb4
      replace hb4 := hb3.trans (hb4.mono hb3.size)
      refine wl_mv rfl rfl ?_; apply wl_val; apply opv_extract; exact rfl; exact rfl; exact rfl; apply wl_val; apply opv_extract; exact rfl; exact rfl; exact rfl; refine wl_as rfl rfl ?_; refine wl_as rfl rfl ?_; refine wl_ns ?_; refine wc_sr ?_; refine wl_mv rfl rfl ?_; refine wl_bin rfl rfl bin_eql rfl ?_; refine wl_ns ?_
      refine wc_cond rfl (fun h2 => ?_) (fun h2 => ?_)
      · rw [bdAt_bad hlt (by unfold Ok; omega)] at he
        rw [← he]
        refine wc_sr ?_; refine wl_mv rfl rfl ?_; refine wl_as rfl rfl ?_; refine wl_as rfl rfl ?_; refine wl_ns ?_; refine wc_ret ?_; refine we_block_ret ?_; refine we_loop_ret ?_; refine we_block_ret ?_; refine we_seq_ret ?_
        exact we_ret2 rfl rfl rfl ⟨_, rfl, rfl, hb4⟩
      · rw [bdAt_ok hlt (.inl (by omega))] at he
        refine wc_skip ?_; refine we_block_norm ?_
        refine we_loop [(0, str l), (9, .pointer (some ⟨k, 0, none⟩))] (l.length - (p + (dec (l.drop p)).2)) ⟨_, rfl, i4, hb4, hd.2.1, he, rfl⟩ (by omega) ⟨rfl, rfl, trivial⟩
  · refine wl_nextE rfl i2 hlt rfl ?_
    rw [bdAt_end hlt] at he
    rw [← he]
    apply wl_val; apply opv_extract; exact rfl; exact rfl; exact rfl; refine wl_ns ?_; refine wc_seq ?_; apply wc_condFb; exact rfl; exact rfl; refine wc_exit ?_; refine we_seq_exit ?_; refine we_loop_exit ?_; refine we_block_exit ?_; refine we_seq ?_; refine wc_sr ?_; refine wl_as rfl rfl ?_; refine wl_as rfl rfl ?_; refine wl_ns ?_; refine wc_ret ?_
    exact we_ret2 rfl rfl rfl ⟨_, rfl, rfl, hb2⟩
theorem wrong_any {l : List UInt8} (hl : l.length ≤ 1099511627776) (w : World) : CallsV Tryd.prog 12 #[str l] w fun v w' => v = placeV (bad l) ∧ w = w' := by
  refine calls_in (N := _) Tryd.func12 rfl Tryd.ntmps12 rfl ?_; show WC _ _ _ _ _ _
  refine wc_sr ?_; refine wl_as rfl rfl ?_; refine wl_as rfl rfl ?_; refine wl_ns ?_; refine wc_sr ?_; refine wl_as rfl rfl ?_; refine wl_ns ?_; refine wc_seq ?_; refine wc_block ?_
  refine wc_loop (fun L wr m => ∃ p : Nat, L = [(0, str l), (4, .int .i64 (p : Int))] ∧ w = wr ∧ p ≤ l.length ∧ bdAt l p = bad l ∧ m = l.length - p)
    [(0, str l), (4, .int .i64 (0 : Nat))] l.length ⟨0, rfl, rfl, by omega, rfl, rfl⟩ ⟨rfl, rfl, trivial⟩ ?_
  rintro _ _ m ⟨p, rfl, rfl, hp, he, rfl⟩
  refine wc_seq ?_; refine wc_sr ?_; refine wl_mv rfl rfl ?_; refine wl_mv rfl rfl ?_; apply wl_val; apply opv_lenL; exact rfl; exact Tryd.underlying9; exact rfl; refine wl_bin rfl rfl bin_lss rfl ?_; refine wl_ns ?_
  refine wc_cond rfl (fun h1 => ?_) (fun h1 => ?_)
  · have hlt : p < l.length := by omega
    have hd := dec_at hlt
    refine wc_skip ?_; refine we_seq ?_; refine wc_block ?_; refine wc_sr ?_; refine wl_mv rfl rfl ?_; refine wl_mv rfl rfl ?_
    refine wl_call ok_caissonref02_First (first_any hlt hl _) ⟨rfl, rfl, trivial⟩ rfl ?_
    rintro _ _ ⟨rfl, rfl⟩
    by_cases ho : Ok (l.drop p)
    · rw [decide_eq_true ho]
      rw [bdAt_ok hlt ho] at he
      refine wl_mv rfl rfl ?_; apply wl_val; apply opv_extract; exact rfl; exact rfl; exact rfl; apply wl_val; apply opv_extract; exact rfl; exact rfl; exact rfl; apply wl_val; apply opv_extract; exact rfl; exact rfl; exact rfl; refine wl_as rfl rfl ?_; refine wl_as rfl rfl ?_; refine wl_as rfl rfl ?_; refine wl_ns ?_; refine wc_seq ?_; refine wc_sr ?_; refine wl_mv rfl rfl ?_; apply wl_val; apply opv_not; exact rfl; exact rfl; refine wl_ns ?_; apply wc_condFb; exact rfl; exact Bool.not_true; refine wc_skip ?_; refine we_seq ?_; refine wc_region ?_; refine wl_mv rfl rfl ?_; refine wl_mv rfl rfl ?_; apply wl_val; apply opv_bin; exact rfl; exact rfl; exact bin_add64 (by omega); exact rfl; refine wl_as rfl rfl ?_; refine wl_nil ?_; refine we_block_norm ?_
      refine we_loop [(0, str l), (4, .int .i64 ((p + (dec (l.drop p)).2 : Nat) : Int))] (l.length - (p + (dec (l.drop p)).2)) ⟨_, rfl, rfl, hd.2.1, he, rfl⟩ (by omega) ⟨rfl, by simp [lookT], trivial⟩
    · rw [decide_eq_false ho]
      rw [bdAt_bad hlt ho] at he
      rw [← he]
      refine wl_mv rfl rfl ?_; apply wl_val; apply opv_extract; exact rfl; exact rfl; exact rfl; apply wl_val; apply opv_extract; exact rfl; exact rfl; exact rfl; apply wl_val; apply opv_extract; exact rfl; exact rfl; exact rfl; refine wl_as rfl rfl ?_; refine wl_as rfl rfl ?_; refine wl_as rfl rfl ?_; refine wl_ns ?_; refine wc_seq ?_; refine wc_sr ?_; refine wl_mv rfl rfl ?_; apply wl_val; apply opv_not; exact rfl; exact rfl; refine wl_ns ?_; apply wc_condTb; exact rfl; exact Bool.not_false; refine wc_sr ?_; refine wl_mv rfl rfl ?_; refine wl_as rfl rfl ?_; refine wl_as rfl rfl ?_; refine wl_ns ?_; refine wc_ret ?_; refine we_seq_ret ?_; refine we_block_ret ?_; refine we_loop_ret ?_; refine we_block_ret ?_; refine we_seq_ret ?_
      exact we_ret2 rfl rfl rfl ⟨_, rfl, rfl, rfl⟩
  · rw [bdAt_end (by omega)] at he
    rw [← he]
    refine wc_exit ?_; refine we_seq_exit ?_; refine we_loop_exit ?_; refine we_block_exit ?_; refine we_seq ?_; refine wc_sr ?_; refine wl_as rfl rfl ?_; refine wl_as rfl rfl ?_; refine wl_ns ?_; refine wc_ret ?_
    exact we_ret2 rfl rfl rfl ⟨_, rfl, rfl, rfl⟩
end Go.Proofs.YtcjiecclmepboaaDoor
