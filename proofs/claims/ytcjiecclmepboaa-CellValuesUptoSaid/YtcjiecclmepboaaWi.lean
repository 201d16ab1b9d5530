
/-
  Walks over Frame and Parts of the program and of the references.
-/
import Derived.Test.YtcjiecclmepboaaWg
import Derived.Test.YtcjiecclmepboaaWb
import Derived.Test.YtcjiecclmepboaaWh
import Derived.Test.YtcjiecclmepboaaPd
namespace Go.Proofs.Ytcjiecclmepboaa
open Go.RowKit

theorem frame_any {A : Option Addr} {n c : Nat} {rows : List (List UInt8)} {w : World} (hr : RdBB w A rows) (hn : rows.length = n) (hl : rows.flatten.length + 10 * rows.length ≤ 17592186044416) : CallsV Try.prog 88 #[.slice A n c] w (RetB w (framed rows)) := by
  subst hn
  have hfl := framed_length rows (fun r h => by have := mem_flat h; omega)
  refine calls_in (N := _) Try.func88 rfl Try.ntmps88 rfl ?_; show WC _ _ _ _ _ _
  refine wc_sr ?_; refine wl_as rfl rfl ?_; refine wl_ns ?_; refine wc_sr ?_; refine wl_as rfl rfl ?_; refine wl_ns ?_; refine wc_seq ?_; refine wc_sr ?_; refine wl_mv rfl rfl ?_; apply wl_val; apply opv_len; exact rfl; exact tyBB.sl; exact rfl; refine wl_mv rfl rfl ?_; refine wl_ns ?_; refine wc_block ?_
  refine wc_loop (fun L wr m => ∃ (k : Nat) (P : Option Addr) (cp : Nat), L = [(3, .slice P (framed (rows.take k)).length cp), (6, .slice A rows.length c), (7, .int .i64 (rows.length : Int)), (8, .int .i64 (k : Int))] ∧ k ≤ rows.length ∧ OwB wr w.heap.size P cp (framed (rows.take k)) ∧ Below w.heap.size w wr ∧ m = rows.length - k)
    [(3, .slice none 0 0), (6, .slice A rows.length c), (7, .int .i64 (rows.length : Int)), (8, .int .i64 (0 : Nat))] rows.length ⟨0, none, 0, rfl, by omega, Ow.nil _ _ _, Below.refl _ _, rfl⟩ ⟨rfl, rfl, rfl, rfl, trivial⟩ ?_
  rintro _ w1 m ⟨k, P, cp, rfl, hk, o1, hb1, rfl⟩
  have hle := framed_take_le rows k
  refine wc_sr ?_; refine wl_bin rfl rfl bin_lss rfl ?_; refine wl_ns ?_; refine wc_seq ?_
  refine wc_cond rfl (fun h1 => ?_) (fun h1 => ?_)
  · obtain ⟨x, hx⟩ : ∃ x, rows[k]? = some x := ⟨_, List.getElem?_eq_getElem (by omega)⟩
    obtain ⟨vs, X, cx, hv0, hvk, rx, hcx⟩ := hr.at hx
    have hv := hv0.below hb1
    have hxm := flat_mem hx
    have hpl := putU_le (n := x.length) (by omega)
    have hle2 := framed_take_le rows (k + 1)
    have e2 := framed_take hx
    have e3 := congrArg List.length e2
    simp only [List.length_append] at e3
    refine wc_skip ?_; refine we_seq ?_; refine wc_seq ?_; refine wc_block ?_; refine wc_sr ?_; apply wl_elK (T := tyBB) (hr := hv) (hb := hvk); exact rfl; exact rfl; exact rfl; exact rfl; exact rfl; intro _; refine wl_as rfl rfl ?_; refine wl_ns ?_; refine wc_region ?_; refine wl_mv rfl rfl ?_; refine wl_mv rfl rfl ?_; apply wl_val; apply opv_len; exact rfl; exact tyB.sl; exact rfl; apply wl_val; apply opv_convR; exact rfl; exact Try.underlying3; exact Try.underlying121; exact IntWalk.u64_in _ (by omega); exact rfl
    refine wl_call ok_codec_PutU (putU_any x.length (by omega) _) ⟨rfl, trivial⟩ rfl ?_
    rintro _ w2 ⟨A2, c2, rfl, o2, h2⟩
    have o1' := OwB.below o1 h2
    refine wl_app tyB rfl o1' rfl o2.rd (bvs_one _) (by omega) (by simp only [maxLen]; omega) (Nat.le_trans hb1.size h2.size) rfl fun A4 c4 w4 o4 g4 _ => ?_
    have hb4 := g4.below (hb1.trans (h2.mono hb1.size)) o1' (Nat.le_refl _) (Nat.le_trans hb1.size h2.size)
    have o5 := OwB.app o4
    refine wl_mv rfl rfl ?_
    refine wl_app tyB rfl o4 rfl (RdB.below rx hb4) (bvs_one _) (by omega) (by simp only [maxLen]; omega) hb4.size rfl fun A6 c6 w6 o6 g6 _ => ?_
    have hb6 := g6.below hb4 o4 (Nat.le_refl _) hb4.size
    have o7 : OwB w6 w.heap.size A6 c6 (framed (rows.take (k + 1))) := by
      rw [e2]; unfold OwB; rw [List.length_append, List.length_append, bvs_append, bvs_append]; exact o6
    refine wl_as rfl rfl ?_; refine wl_nil ?_; refine we_block_norm ?_; refine we_seq ?_; refine wc_region ?_; apply wl_val; apply opv_bin; exact rfl; exact rfl; exact bin_add64 (by omega); exact rfl; refine wl_mv rfl rfl ?_; refine wl_nil ?_
    refine we_loop [(3, .slice A6 (framed (rows.take (k + 1))).length c6), (6, .slice A rows.length c), (7, .int .i64 (rows.length : Int)), (8, .int .i64 ((k + 1 : Nat) : Int))] (rows.length - (k + 1)) ⟨k + 1, A6, c6, rfl, by omega, o7, hb6, rfl⟩ (by omega) ⟨by rw [e3]; rfl, rfl, rfl, by simp [lookT], trivial⟩
  · obtain rfl : k = rows.length := by omega
    rw [List.take_length] at o1 ⊢
    refine wc_exit ?_; refine we_seq_exit ?_; refine we_loop_exit ?_; refine we_block_exit ?_; refine we_seq ?_; refine wc_sr ?_; refine wl_mv rfl rfl ?_; refine wl_as rfl rfl ?_; refine wl_ns ?_; refine wc_ret ?_
    exact we_ret1 rfl rfl ⟨_, rfl, P, cp, rfl, o1, hb1⟩

theorem refFrame_any {A : Option Addr} {n c : Nat} {rows : List (List UInt8)} {w : World} (hr : RdBB w A rows) (hn : rows.length = n) (hl : rows.flatten.length + 10 * rows.length ≤ 17592186044416) : CallsV Try.prog 91 #[.slice A n c] w (RetB w (framed rows)) := by
  subst hn
  have hfl := framed_length rows (fun r h => by have := mem_flat h; omega)
  refine calls_in (N := _) Try.func91 rfl Try.ntmps91 rfl ?_; show WC _ _ _ _ _ _
  refine wc_sr ?_; refine wl_as rfl rfl ?_; refine wl_ns ?_; refine wc_sr ?_; refine wl_as rfl rfl ?_; refine wl_ns ?_; refine wc_seq ?_; refine wc_sr ?_; refine wl_as rfl rfl ?_; refine wl_ns ?_; refine wc_block ?_
  refine wc_loop (fun L wr m => ∃ (k : Nat) (P : Option Addr) (cp : Nat), L = [(0, .slice A rows.length c), (3, .slice P (framed (rows.take k)).length cp), (4, .int .i64 (k : Int))] ∧ k ≤ rows.length ∧ OwB wr w.heap.size P cp (framed (rows.take k)) ∧ Below w.heap.size w wr ∧ m = rows.length - k)
    [(0, .slice A rows.length c), (3, .slice none 0 0), (4, .int .i64 (0 : Nat))] rows.length ⟨0, none, 0, rfl, by omega, Ow.nil _ _ _, Below.refl _ _, rfl⟩ ⟨rfl, rfl, rfl, trivial⟩ ?_
  rintro _ w1 m ⟨k, P, cp, rfl, hk, o1, hb1, rfl⟩
  have hle := framed_take_le rows k
  refine wc_seq ?_; refine wc_sr ?_; refine wl_mv rfl rfl ?_; refine wl_mv rfl rfl ?_; apply wl_val; apply opv_len; exact rfl; exact tyBB.sl; exact rfl; refine wl_bin rfl rfl bin_lss rfl ?_; refine wl_ns ?_
  refine wc_cond rfl (fun h1 => ?_) (fun h1 => ?_)
  · obtain ⟨x, hx⟩ : ∃ x, rows[k]? = some x := ⟨_, List.getElem?_eq_getElem (by omega)⟩
    obtain ⟨vs, X, cx, hv0, hvk, rx, hcx⟩ := hr.at hx
    have hv := hv0.below hb1
    have hxm := flat_mem hx
    have hpl := putU_le (n := x.length) (by omega)
    have hle2 := framed_take_le rows (k + 1)
    have e2 := framed_take hx
    have e3 := congrArg List.length e2
    simp only [List.length_append] at e3
    refine wc_skip ?_; refine we_seq ?_; refine wc_seq ?_; refine wc_block ?_; refine wc_sr ?_; refine wl_mv rfl rfl ?_; refine wl_mv rfl rfl ?_; refine wl_mv rfl rfl ?_; apply wl_elK (T := tyBB) (hr := hv) (hb := hvk); exact rfl; exact rfl; exact rfl; exact rfl; exact rfl; intro _; apply wl_val; apply opv_len; exact rfl; exact tyB.sl; exact rfl; apply wl_val; apply opv_convR; exact rfl; exact Try.underlying3; exact Try.underlying121; exact IntWalk.u64_in _ (by omega); exact rfl
    refine wl_call ok_caissonref01_PutU (refPutU_any x.length (by omega) _) ⟨rfl, trivial⟩ rfl ?_
    rintro _ w2 ⟨A2, c2, rfl, o2, h2⟩
    have o1' := OwB.below o1 h2
    refine wl_app tyB rfl o1' rfl o2.rd (bvs_one _) (by omega) (by simp only [maxLen]; omega) (Nat.le_trans hb1.size h2.size) rfl fun A4 c4 w4 o4 g4 _ => ?_
    have hb4 := g4.below (hb1.trans (h2.mono hb1.size)) o1' (Nat.le_refl _) (Nat.le_trans hb1.size h2.size)
    have hv4 := hv0.below hb4
    refine wl_as rfl rfl ?_; refine wl_ns ?_; refine wc_region ?_; refine wl_mv rfl rfl ?_; refine wl_mv rfl rfl ?_; refine wl_mv rfl rfl ?_; apply wl_elK (T := tyBB) (hr := hv4) (hb := hvk); exact rfl; exact rfl; exact rfl; exact rfl; exact rfl; intro _
    refine wl_app tyB rfl o4 rfl (RdB.below rx hb4) (bvs_one _) (by omega) (by simp only [maxLen]; omega) hb4.size rfl fun A6 c6 w6 o6 g6 _ => ?_
    have hb6 := g6.below hb4 o4 (Nat.le_refl _) hb4.size
    have o7 : OwB w6 w.heap.size A6 c6 (framed (rows.take (k + 1))) := by
      rw [e2]; unfold OwB; rw [List.length_append, List.length_append, bvs_append, bvs_append]; exact o6
    refine wl_as rfl rfl ?_; refine wl_nil ?_; refine we_block_norm ?_; refine we_seq ?_; refine wc_region ?_; refine wl_mv rfl rfl ?_; apply wl_val; apply opv_bin; exact rfl; exact rfl; exact bin_add64 (by omega); exact rfl; refine wl_as rfl rfl ?_; refine wl_nil ?_
    refine we_loop [(0, .slice A rows.length c), (3, .slice A6 (framed (rows.take (k + 1))).length c6), (4, .int .i64 ((k + 1 : Nat) : Int))] (rows.length - (k + 1)) ⟨k + 1, A6, c6, rfl, by omega, o7, hb6, rfl⟩ (by omega) ⟨rfl, by rw [e3]; rfl, by simp [lookT], trivial⟩
  · obtain rfl : k = rows.length := by omega
    rw [List.take_length] at o1 ⊢
    refine wc_exit ?_; refine we_seq_exit ?_; refine we_loop_exit ?_; refine we_block_exit ?_; refine we_seq ?_; refine wc_sr ?_; refine wl_mv rfl rfl ?_; refine wl_as rfl rfl ?_; refine wl_ns ?_; refine wc_ret ?_
    exact we_ret1 rfl rfl ⟨_, rfl, P, cp, rfl, o1, hb1⟩
end Go.Proofs.Ytcjiecclmepboaa
