
/-
  Walks over OrdText of the program and of the reference.
-/
import Derived.Test.YtcjiecclmepboaaTy
import Derived.Test.YtcjiecclmepboaaPa
namespace Go.Proofs.Ytcjiecclmepboaa
open Go.RowKit

theorem ordText_any {A : Option Addr} {n c : Nat} {xs : List UInt8} {w : World} (hr : RdB w A xs) (hn : xs.length = n) (hl : xs.length ≤ 1099511627776) : CallsV Try.prog 69 #[.slice A n c] w (RetB w (ordText xs)) := by
  subst hn
  refine calls_in (N := _) Try.func69 rfl Try.ntmps69 rfl ?_; show WC _ _ _ _ _ _
  refine wc_sr ?_; refine wl_as rfl rfl ?_; refine wl_ns ?_; refine wc_sr ?_; refine wl_mv rfl rfl ?_; apply wl_val; apply opv_len; exact rfl; exact tyB.sl; exact rfl; apply wl_val; apply opv_bin; exact rfl; exact rfl; exact bin_add64 (by omega); exact rfl
  refine wl_mk (n := 0) (c := xs.length + 2) tyB rfl rfl rfl (by simp) (by omega) (by omega) (by simp only [maxLen]; omega) rfl fun A1 w1 ho1 hb1 _ => ?_
  refine wl_as rfl rfl ?_; refine wl_ns ?_; refine wc_seq ?_; refine wc_sr ?_; refine wl_mv rfl rfl ?_; apply wl_val; apply opv_len; exact rfl; exact tyB.sl; exact rfl; refine wl_mv rfl rfl ?_; refine wl_ns ?_; refine wc_block ?_
  refine wc_loop (fun L wr m => ∃ (k : Nat) (A' : Option Addr) (c' : Nat), L = [(10, .slice A xs.length c), (11, .int .i64 (xs.length : Int)), (12, .int .i64 (k : Int)), (3, .slice A' (esc (xs.take k)).length c')] ∧ k ≤ xs.length ∧ OwB wr w.heap.size A' c' (esc (xs.take k)) ∧ Below w.heap.size w wr ∧ m = xs.length - k)
    [(10, .slice A xs.length c), (11, .int .i64 (xs.length : Int)), (12, .int .i64 (0 : Nat)), (3, .slice A1 0 (xs.length + 2))] xs.length ⟨0, A1, _, rfl, by omega, ho1, hb1, rfl⟩ ⟨rfl, rfl, rfl, rfl, trivial⟩ ?_
  rintro _ wr m ⟨k, A', c', rfl, hk, ho, hb, rfl⟩
  have hsz := hb.size
  have hrx := RdB.below hr hb
  have hel := esc_length (xs.take k)
  rw [List.length_take] at hel
  refine wc_sr ?_; refine wl_bin rfl rfl bin_lss rfl ?_; refine wl_ns ?_; refine wc_seq ?_
  refine wc_cond rfl (fun h1 => ?_) (fun h1 => ?_)
  · obtain ⟨x, hx⟩ : ∃ x, xs[k]? = some x := ⟨_, List.getElem?_eq_getElem (by omega)⟩
    have ht := esc_take hx
    refine wc_skip ?_; refine we_seq ?_; refine wc_seq ?_; refine wc_block ?_; refine wc_sr ?_; apply wl_byK (T := tyB) (hr := hrx) (hb := hx); exact rfl; exact rfl; exact rfl; exact rfl; exact rfl; intro _; refine wl_as rfl rfl ?_; refine wl_ns ?_; refine wc_sr ?_; refine wl_mv rfl rfl ?_; refine wl_mv rfl rfl ?_
    refine wl_push (vs := [_]) tyB rfl ho ⟨rfl, rfl, rfl, trivial⟩ rfl (by decide) rfl (by omega) (by simp only [maxLen]; omega) hsz rfl rfl fun p2 A2 c2 w2 ho2 hg2 hat2 => ?_
    have hb2 := hg2.below hb ho (Nat.le_refl _) hsz
    have hsz2 := hb2.size
    refine wl_as rfl rfl ?_; refine wl_ns ?_; refine wc_sr ?_; refine wl_mv rfl rfl ?_; refine wl_bin rfl rfl bin_eql rfl ?_; refine wl_ns ?_
    refine wc_cond rfl (fun h2 => ?_) (fun h2 => ?_)
    · have h0 := toNat_zero.1 h2
      rw [if_pos h0] at ht
      refine wc_region ?_; refine wl_mv rfl rfl ?_
      refine wl_push (vs := [_]) tyB rfl ho2 ⟨rfl, rfl, rfl, trivial⟩ rfl (by decide) rfl (by omega) (by simp only [maxLen]; omega) hsz2 rfl rfl fun p3 A3 c3 w3 ho3 hg3 hat3 => ?_
      have hb3 := hg3.below hb2 ho2 (Nat.le_refl _) hsz2
      refine wl_as rfl rfl ?_; refine wl_nil ?_; refine we_block_norm ?_; refine we_seq ?_; refine wc_region ?_; apply wl_val; apply opv_bin; exact rfl; exact rfl; exact bin_add64 (by omega); exact rfl; refine wl_mv rfl rfl ?_; refine wl_nil ?_
      refine we_loop [(10, .slice A xs.length c), (11, .int .i64 (xs.length : Int)), (12, .int .i64 ((k + 1 : Nat) : Int)), (3, .slice A3 (esc (xs.take (k + 1))).length c3)] (xs.length - (k + 1)) ⟨k + 1, A3, c3, rfl, by omega, ?_, hb3, rfl⟩ (by omega) ⟨rfl, rfl, rfl, ?_, trivial⟩
      · rw [ht, show esc (xs.take k) ++ [0, 255] = (esc (xs.take k) ++ [0]) ++ [255] by simp]
        have h4 : Ow w2 w.heap.size 5 A2 (esc (xs.take k) ++ [0]).length c2 (bvs (esc (xs.take k) ++ [0])) := OwB.snoc ho2 (by rw [h0]; rfl)
        refine OwB.snoc (v := .int .u8 255) ?_ rfl
        rw [bvs_append, List.length_append]
        rw [h0] at ho3
        simpa [bvs, bv] using ho3
      · rw [ht]; simp; rfl
    · have h0 : ¬ x = 0 := fun e => h2 (toNat_zero.2 e)
      rw [if_neg h0] at ht
      refine wc_skip ?_; refine we_block_norm ?_; refine we_seq ?_; refine wc_region ?_; apply wl_val; apply opv_bin; exact rfl; exact rfl; exact bin_add64 (by omega); exact rfl; refine wl_mv rfl rfl ?_; refine wl_nil ?_
      refine we_loop [(10, .slice A xs.length c), (11, .int .i64 (xs.length : Int)), (12, .int .i64 ((k + 1 : Nat) : Int)), (3, .slice A2 (esc (xs.take (k + 1))).length c2)] (xs.length - (k + 1)) ⟨k + 1, A2, c2, rfl, by omega, ?_, hb2, rfl⟩ (by omega) ⟨rfl, rfl, rfl, ?_, trivial⟩
      · rw [ht]; exact OwB.snoc ho2 rfl
      · rw [ht]; simp; rfl
  · have hke : k = xs.length := by omega
    subst hke
    rw [List.take_length] at ho hel ⊢
    rw [Nat.min_self] at hel
    refine wc_exit ?_; refine we_seq_exit ?_; refine we_loop_exit ?_; refine we_block_exit ?_; refine we_seq ?_; refine wc_sr ?_; refine wl_mv rfl rfl ?_
    refine wl_push (vs := [_, _]) tyB rfl ho ⟨rfl, rfl, rfl, rfl, rfl, rfl, trivial⟩ rfl (by decide) rfl (by omega) (by simp only [maxLen]; omega) hsz rfl rfl fun p2 A2 c2 w2 ho2 hg2 hat2 => ?_
    refine wl_as rfl rfl ?_; refine wl_ns ?_; refine wc_ret ?_
    refine we_ret1 rfl rfl ⟨_, rfl, A2, c2, ?_, OwB.snoc2 ho2 rfl rfl, hg2.below hb ho (Nat.le_refl _) hsz⟩
    simp [ordText]

theorem refOrdText_any {A : Option Addr} {n c : Nat} {xs : List UInt8} {w : World} (hr : RdB w A xs) (hn : xs.length = n) (hl : xs.length ≤ 1099511627776) : CallsV Try.prog 71 #[.slice A n c] w (RetB w (ordText xs)) := by
  subst hn
  refine calls_in (N := _) Try.func71 rfl Try.ntmps71 rfl ?_; show WC _ _ _ _ _ _
  refine wc_sr ?_; refine wl_as rfl rfl ?_; refine wl_ns ?_; refine wc_sr ?_; refine wl_as rfl rfl ?_; refine wl_ns ?_; refine wc_seq ?_; refine wc_sr ?_; refine wl_as rfl rfl ?_; refine wl_ns ?_; refine wc_block ?_
  refine wc_loop (fun L wr m => ∃ (k : Nat) (A' : Option Addr) (c' : Nat), L = [(0, .slice A xs.length c), (4, .int .i64 (k : Int)), (3, .slice A' (esc (xs.take k)).length c')] ∧ k ≤ xs.length ∧ OwB wr w.heap.size A' c' (esc (xs.take k)) ∧ Below w.heap.size w wr ∧ m = xs.length - k)
    [(0, .slice A xs.length c), (4, .int .i64 (0 : Nat)), (3, .slice none 0 0)] xs.length ⟨0, none, 0, rfl, by omega, Ow.nil _ _ _, Below.refl _ _, rfl⟩ ⟨rfl, rfl, rfl, trivial⟩ ?_
  rintro _ wr m ⟨k, A', c', rfl, hk, ho, hb, rfl⟩
  have hsz := hb.size
  have hrx := RdB.below hr hb
  have hel := esc_length (xs.take k)
  rw [List.length_take] at hel
  refine wc_seq ?_; refine wc_sr ?_; refine wl_mv rfl rfl ?_; refine wl_mv rfl rfl ?_; apply wl_val; apply opv_len; exact rfl; exact tyB.sl; exact rfl; refine wl_bin rfl rfl bin_lss rfl ?_; refine wl_ns ?_
  refine wc_cond rfl (fun h1 => ?_) (fun h1 => ?_)
  · obtain ⟨x, hx⟩ : ∃ x, xs[k]? = some x := ⟨_, List.getElem?_eq_getElem (by omega)⟩
    have ht := esc_take hx
    refine wc_skip ?_; refine we_seq ?_; refine wc_seq ?_; refine wc_block ?_; refine wc_sr ?_; refine wl_mv rfl rfl ?_; refine wl_mv rfl rfl ?_; apply wl_byK (T := tyB) (hr := hrx) (hb := hx); exact rfl; exact rfl; exact rfl; exact rfl; exact rfl; intro _; refine wl_bin rfl rfl bin_eql rfl ?_; refine wl_ns ?_
    refine wc_cond rfl (fun h2 => ?_) (fun h2 => ?_)
    · have h0 := toNat_zero.1 h2
      rw [if_pos h0] at ht
      refine wc_region ?_; refine wl_mv rfl rfl ?_
      refine wl_push (vs := [_, _]) tyB rfl ho ⟨rfl, rfl, rfl, rfl, rfl, rfl, trivial⟩ rfl (by decide) rfl (by omega) (by simp only [maxLen]; omega) hsz rfl rfl fun p2 A2 c2 w2 ho2 hg2 hat2 => ?_
      refine wl_as rfl rfl ?_; refine wl_nil ?_; refine we_block_norm ?_; refine we_seq ?_; refine wc_region ?_; refine wl_mv rfl rfl ?_; apply wl_val; apply opv_bin; exact rfl; exact rfl; exact bin_add64 (by omega); exact rfl; refine wl_as rfl rfl ?_; refine wl_nil ?_
      refine we_loop [(0, .slice A xs.length c), (4, .int .i64 ((k + 1 : Nat) : Int)), (3, .slice A2 (esc (xs.take (k + 1))).length c2)] (xs.length - (k + 1)) ⟨k + 1, A2, c2, rfl, by omega, ?_, hg2.below hb ho (Nat.le_refl _) hsz, rfl⟩ (by omega) ⟨rfl, rfl, ?_, trivial⟩
      · rw [ht]; exact OwB.snoc2 ho2 rfl rfl
      · rw [ht]; simp; rfl
    · have h0 : ¬ x = 0 := fun e => h2 (toNat_zero.2 e)
      rw [if_neg h0] at ht
      refine wc_region ?_; refine wl_mv rfl rfl ?_; refine wl_mv rfl rfl ?_; refine wl_mv rfl rfl ?_; apply wl_byK (T := tyB) (hr := hrx) (hb := hx); exact rfl; exact rfl; exact rfl; exact rfl; exact rfl; intro _
      refine wl_push (vs := [_]) tyB rfl ho ⟨rfl, rfl, rfl, trivial⟩ rfl (by decide) rfl (by omega) (by simp only [maxLen]; omega) hsz rfl rfl fun p2 A2 c2 w2 ho2 hg2 hat2 => ?_
      refine wl_as rfl rfl ?_; refine wl_nil ?_; refine we_block_norm ?_; refine we_seq ?_; refine wc_region ?_; refine wl_mv rfl rfl ?_; apply wl_val; apply opv_bin; exact rfl; exact rfl; exact bin_add64 (by omega); exact rfl; refine wl_as rfl rfl ?_; refine wl_nil ?_
      refine we_loop [(0, .slice A xs.length c), (4, .int .i64 ((k + 1 : Nat) : Int)), (3, .slice A2 (esc (xs.take (k + 1))).length c2)] (xs.length - (k + 1)) ⟨k + 1, A2, c2, rfl, by omega, ?_, hg2.below hb ho (Nat.le_refl _) hsz, rfl⟩ (by omega) ⟨rfl, rfl, ?_, trivial⟩
      · rw [ht]; exact OwB.snoc ho2 rfl
      · rw [ht]; simp; rfl
  · have hke : k = xs.length := by omega
    subst hke
    rw [List.take_length] at ho hel ⊢
    rw [Nat.min_self] at hel
    refine wc_exit ?_; refine we_seq_exit ?_; refine we_loop_exit ?_; refine we_block_exit ?_; refine we_seq ?_; refine wc_sr ?_; refine wl_mv rfl rfl ?_
    refine wl_push (vs := [_, _]) tyB rfl ho ⟨rfl, rfl, rfl, rfl, rfl, rfl, trivial⟩ rfl (by decide) rfl (by omega) (by simp only [maxLen]; omega) hsz rfl rfl fun p2 A2 c2 w2 ho2 hg2 hat2 => ?_
    refine wl_as rfl rfl ?_; refine wl_ns ?_; refine wc_ret ?_
    refine we_ret1 rfl rfl ⟨_, rfl, A2, c2, ?_, OwB.snoc2 ho2 rfl rfl, hg2.below hb ho (Nat.le_refl _) hsz⟩
    simp [ordText]
end Go.Proofs.Ytcjiecclmepboaa
