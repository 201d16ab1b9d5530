/-
  Walks over Copies and Equals of the references.
-/
import Derived.Test.YtdppekhnahnjjaaWa
import Derived.Test.YtdppekhnahnjjaaRow
import Derived.Test.YtdppekhnahnjjaaPc
namespace Go.Proofs.Ytdppekhnahnjjaa
open Go.RowKit

theorem copies_any {A : Option Addr} {n c : Nat} {rows : List (List UInt8)} {w : World} (hr : RdBB w A rows) (hn : rows.length = n) (hl : rows.flatten.length ≤ 140737488355328) (hl2 : rows.length ≤ 4294967296) : CallsV Try.prog 23 #[.slice A n c] w (RetBB w rows) := by
  subst hn
  refine calls_in (N := _) Try.func23 rfl Try.ntmps23 rfl ?_; show WC _ _ _ _ _ _
  refine wc_sr ?_; refine wl_as rfl rfl ?_; refine wl_ns ?_; refine wc_sr ?_; refine wl_mv rfl rfl ?_; apply wl_val; apply opv_len; exact rfl; exact tyBB.sl; exact rfl
  refine wl_mk (n := 0) (c := rows.length) tyBB rfl rfl rfl rfl (by omega) (by omega) (by simp only [maxLen]; omega) rfl fun A1 w1 o1 hb1 _ => ?_
  refine wl_as rfl rfl ?_; refine wl_ns ?_; refine wc_seq ?_; refine wc_sr ?_; refine wl_as rfl rfl ?_; refine wl_ns ?_; refine wc_block ?_
  refine wc_loop (fun L wr m => ∃ (k : Nat) (B : Option Addr) (cb : Nat), L = [(0, .slice A rows.length c), (3, .slice B k cb), (4, .int .i64 (k : Int))] ∧ k ≤ rows.length ∧ OwBB wr w.heap.size B cb (rows.take k) ∧ Below w.heap.size w wr ∧ m = rows.length - k)
    [(0, .slice A rows.length c), (3, .slice A1 0 rows.length), (4, .int .i64 (0 : Nat))] rows.length ⟨0, A1, _, rfl, by omega, OwBB.empty o1, hb1, rfl⟩ ⟨rfl, rfl, rfl, trivial⟩ ?_
  rintro _ w2 m ⟨k, B, cb, rfl, hk, o2, hb2, rfl⟩
  have r2 := RdBB.below hr hb2
  refine wc_seq ?_; refine wc_sr ?_; refine wl_mv rfl rfl ?_; refine wl_mv rfl rfl ?_; apply wl_val; apply opv_len; exact rfl; exact tyBB.sl; exact rfl; refine wl_bin rfl rfl bin_lss rfl ?_; refine wl_ns ?_
  refine wc_cond rfl (fun h1 => ?_) (fun h1 => ?_)
  · obtain ⟨x, hx⟩ : ∃ x, rows[k]? = some x := ⟨_, List.getElem?_eq_getElem (by omega)⟩
    obtain ⟨vs, X, cx, hv, hvk, rx, hcx⟩ := r2.at hx
    have hxm := flat_mem hx
    refine wc_skip ?_; refine we_seq ?_; refine wc_seq ?_; refine wc_block ?_; refine wc_region ?_; refine wl_mv rfl rfl ?_; refine wl_mv rfl rfl ?_; refine wl_mv rfl rfl ?_; apply wl_elK (T := tyBB) (hr := hv) (hb := hvk); exact rfl; exact rfl; exact rfl; exact rfl; exact rfl; intro _
    refine wl_call ok_caissonref01_Copy (copy_any rx rfl (by omega)) ⟨rfl, trivial⟩ rfl ?_
    rintro _ w3 ⟨A3, c3, rfl, o3, h3⟩
    refine wl_pushR o2 h3 hb2.size o3 (hb2.trans (h3.mono hb2.size)) (n := k) (by simp; omega) (by omega) rfl rfl rfl rfl rfl fun p A4 c4 w4 o4 hb4 => ?_
    rw [← take_getR hx] at o4
    refine wl_as rfl rfl ?_; refine wl_nil ?_; refine we_block_norm ?_; refine we_seq ?_; refine wc_region ?_; refine wl_mv rfl rfl ?_; apply wl_val; apply opv_bin; exact rfl; exact rfl; exact bin_add64 (by omega); exact rfl; refine wl_as rfl rfl ?_; refine wl_nil ?_
    refine we_loop [(0, .slice A rows.length c), (3, .slice A4 (k + 1) c4), (4, .int .i64 ((k + 1 : Nat) : Int))] (rows.length - (k + 1)) ⟨k + 1, A4, c4, rfl, by omega, o4, hb4, rfl⟩ (by omega) ⟨rfl, rfl, by simp [lookT], trivial⟩
  · obtain rfl : k = rows.length := by omega
    rw [List.take_length] at o2
    refine wc_exit ?_; refine we_seq_exit ?_; refine we_loop_exit ?_; refine we_block_exit ?_; refine we_seq ?_; refine wc_sr ?_; refine wl_mv rfl rfl ?_; refine wl_as rfl rfl ?_; refine wl_ns ?_; refine wc_ret ?_
    exact we_ret1 rfl rfl ⟨_, rfl, B, cb, rfl, o2, hb2⟩

theorem equals_any {A B : Option Addr} {n m c d : Nat} {xs ys : List (List UInt8)} {w : World} (hx : RdBB w A xs) (hy : RdBB w B ys) (hn : xs.length = n) (hm : ys.length = m) (hlx : xs.flatten.length ≤ maxLen) (hl2 : xs.length ≤ maxLen) :
    CallsV Try.prog 47 #[.slice A n c, .slice B m d] w fun v w' => v = .bool (decide (xs = ys)) ∧ Below w.heap.size w w' := by
  subst hn hm
  simp only [maxLen] at hlx hl2
  refine calls_in (N := _) Try.func47 rfl Try.ntmps47 rfl ?_; show WC _ _ _ _ _ _
  refine wc_sr ?_; refine wl_as rfl rfl ?_; refine wl_ns ?_; refine wc_seq ?_; refine wc_sr ?_; refine wl_mv rfl rfl ?_; apply wl_val; apply opv_len; exact rfl; exact tyBB.sl; exact rfl; refine wl_mv rfl rfl ?_; apply wl_val; apply opv_len; exact rfl; exact tyBB.sl; exact rfl; refine wl_bin rfl rfl bin_neq rfl ?_; refine wl_ns ?_
  refine wc_cond rfl (fun h => ?_) (fun h => ?_)
  · refine wc_sr ?_; refine wl_as rfl rfl ?_; refine wl_ns ?_; refine wc_ret ?_; refine we_seq_ret ?_
    refine we_ret1 rfl rfl ⟨_, rfl, ?_, Below.refl _ _⟩
    have hne : ¬ xs = ys := fun e => h (by rw [e])
    simp [hne]
  · have hlen : xs.length = ys.length := by omega
    refine wc_skip ?_; refine we_seq ?_; refine wc_seq ?_; refine wc_sr ?_; refine wl_as rfl rfl ?_; refine wl_ns ?_; refine wc_block ?_
    refine wc_loop (fun L wr m => ∃ k : Nat, L = [(0, .slice A xs.length c), (1, .slice B ys.length d), (5, .int .i64 k)] ∧ k ≤ xs.length ∧ xs.take k = ys.take k ∧ Below w.heap.size w wr ∧ m = xs.length - k)
      [(0, .slice A xs.length c), (1, .slice B ys.length d), (5, .int .i64 (0 : Nat))] xs.length ⟨0, rfl, by omega, rfl, Below.refl _ _, rfl⟩ ⟨rfl, rfl, rfl, trivial⟩ ?_
    rintro _ wr m ⟨k, rfl, hk, heq, hbel, rfl⟩
    have hrx := RdBB.below hx hbel
    have hry := RdBB.below hy hbel
    refine wc_seq ?_; refine wc_sr ?_; refine wl_mv rfl rfl ?_; refine wl_mv rfl rfl ?_; apply wl_val; apply opv_len; exact rfl; exact tyBB.sl; exact rfl; refine wl_bin rfl rfl bin_lss rfl ?_; refine wl_ns ?_
    refine wc_cond rfl (fun h1 => ?_) (fun h1 => ?_)
    · obtain ⟨x, hxk⟩ : ∃ x, xs[k]? = some x := ⟨_, List.getElem?_eq_getElem (by omega)⟩
      obtain ⟨y, hyk⟩ : ∃ y, ys[k]? = some y := ⟨_, List.getElem?_eq_getElem (by omega)⟩
      obtain ⟨vs, X, cx, hv, hvk, rx, hcx⟩ := hrx.at hxk
      obtain ⟨us, Y, cy, hu, huk, ry, hcy⟩ := hry.at hyk
      have hxm := flat_mem hxk
      refine wc_skip ?_; refine we_seq ?_; refine wc_seq ?_; refine wc_block ?_; refine wc_seq ?_
      refine wc_drawB mixed (by kernel_rfl) ?_
      apply wq_val; intro _ _; apply opv_move; exact rfl; exact rfl; apply wq_val; intro _ _; apply opv_move; exact rfl; exact rfl; apply wq_elK (T := tyBB) (hr := hv) (hb := hvk); exact rfl; exact rfl; exact rfl; exact rfl; exact rfl; intro _; apply wq_val; intro _ _; apply opv_move; exact rfl; exact rfl; apply wq_val; intro _ _; apply opv_move; exact rfl; exact rfl; apply wq_elK (T := tyBB) (hr := hu) (hb := huk); exact rfl; exact rfl; exact rfl; exact rfl; exact rfl; intro _
      refine wq_call ok_caissonref01_Equal (fun w hw => (equal_any (RdB.below rx hw) (RdB.below ry hw) rfl rfl (by simp only [maxLen]; omega)).mono (fun v w' h => ⟨h.1, hw.trans (h.2.mono hw.size)⟩)) ⟨rfl, rfl, trivial⟩ rfl ?_
      apply wq_val; intro _ _; apply opv_notD; exact rfl; exact rfl; refine wq_nil fun w1 hw1 => ?_
      have hb1 := hbel.trans (hw1.mono hbel.size)
      refine we_seq ?_
      refine wc_cond rfl (fun h2 => ?_) (fun h2 => ?_)
      · refine wc_sr ?_; refine wl_as rfl rfl ?_; refine wl_ns ?_; refine wc_ret ?_; refine we_block_ret ?_; refine we_seq_ret ?_; refine we_loop_ret ?_; refine we_block_ret ?_; refine we_seq_ret ?_
        refine we_ret1 rfl rfl ⟨_, rfl, ?_, hb1⟩
        have hne : ¬ xs = ys := fun e => by subst e; rw [hxk] at hyk; cases hyk; exact h2 rfl
        simp [hne]
      · refine wc_skip ?_; refine we_block_norm ?_; refine we_seq ?_; refine wc_region ?_; refine wl_mv rfl rfl ?_; apply wl_val; apply opv_bin; exact rfl; exact rfl; exact bin_add64 (by omega); exact rfl; refine wl_as rfl rfl ?_; refine wl_nil ?_
        refine we_loop [(0, .slice A xs.length c), (1, .slice B ys.length d), (5, .int .i64 (k + 1 : Nat))] (xs.length - (k + 1)) ⟨k + 1, rfl, by omega, ?_, hb1, rfl⟩ (by omega) ⟨rfl, rfl, by simp [lookT], trivial⟩
        have : x = y := Decidable.not_not.1 h2
        rw [take_getR hxk, take_getR hyk, heq, this]
    · refine wc_exit ?_; refine we_seq_exit ?_; refine we_loop_exit ?_; refine we_block_exit ?_; refine we_seq ?_; refine wc_sr ?_; refine wl_as rfl rfl ?_; refine wl_ns ?_; refine wc_ret ?_
      refine we_ret1 rfl rfl ⟨_, rfl, ?_, hbel⟩
      have hkl : k = xs.length := by omega
      rw [hkl, List.take_length, hlen, List.take_length] at heq
      simp [heq]
theorem equals_yes {A B : Option Addr} {n m c d : Nat} {xs ys : List (List UInt8)} {w : World} (he : xs = ys) (hx : RdBB w A xs) (hy : RdBB w B ys) (hn : xs.length = n) (hm : ys.length = m) (hlx : xs.flatten.length ≤ maxLen) (hl2 : xs.length ≤ maxLen) :
    CallsV Try.prog 47 #[.slice A n c, .slice B m d] w fun v w' => v = .bool true ∧ Below w.heap.size w w' :=
  (equals_any hx hy hn hm hlx hl2).mono fun v w' ⟨h, hb⟩ => ⟨by rw [h]; simp [he], hb⟩
end Go.Proofs.Ytdppekhnahnjjaa
