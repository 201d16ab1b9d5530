
/-
  Walks over the smallest functions of layer 1: Copy, Equal, Cmp of the references, PutU of both.
-/
import Derived.Test.YtcjiecclmepboaaTy
import Derived.Test.YtcjiecclmepboaaPa
namespace Go.Proofs.Ytcjiecclmepboaa
open Go.RowKit

theorem copy_any {A : Option Addr} {n c : Nat} {xs : List UInt8} {w : World} (hr : RdB w A xs) (hn : xs.length = n) (hl : xs.length ≤ 140737488355328) : CallsV Try.prog 25 #[.slice A n c] w (RetB w xs) := by
  subst hn
  refine calls_in (N := _) Try.func25 rfl Try.ntmps25 rfl ?_; show WC _ _ _ _ _ _
  refine wc_sr ?_; refine wl_as rfl rfl ?_; refine wl_ns ?_; refine wc_sr ?_
  refine wl_bs (vs := []) tyB trivial rfl (by decide) rfl fun A1 w1 ho hb _ => ?_
  refine wl_mv rfl rfl ?_
  refine wl_app tyB rfl ho rfl (RdB.below hr hb) (bvs_one _) (by omega) (by simp only [maxLen]; omega) hb.size rfl fun A' c' w' ho' hg _ => ?_
  refine wl_as rfl rfl ?_; refine wl_ns ?_; refine wc_ret ?_
  refine we_ret1 rfl rfl ⟨_, rfl, A', c', by simp, ?_, ?_⟩
  · have := ho'; simp only [Nat.zero_add, List.nil_append] at this; exact this
  · exact hg.below hb ho (Nat.le_refl _) hb.size

theorem equal_any {A B : Option Addr} {n m c d : Nat} {xs ys : List UInt8} {w : World} (hx : RdB w A xs) (hy : RdB w B ys) (hn : xs.length = n) (hm : ys.length = m) (hlx : xs.length ≤ maxLen) :
    CallsV Try.prog 21 #[.slice A n c, .slice B m d] w fun v w' => v = .bool (decide (xs = ys)) ∧ Below w.heap.size w w' := by
  subst hn hm
  simp only [maxLen] at hlx
  refine calls_in (N := _) Try.func21 rfl Try.ntmps21 rfl ?_; show WC _ _ _ _ _ _
  refine wc_sr ?_; refine wl_as rfl rfl ?_; refine wl_ns ?_; refine wc_seq ?_; refine wc_sr ?_; refine wl_mv rfl rfl ?_; apply wl_val; apply opv_len; exact rfl; exact tyB.sl; exact rfl; refine wl_mv rfl rfl ?_; apply wl_val; apply opv_len; exact rfl; exact tyB.sl; exact rfl; refine wl_bin rfl rfl bin_neq rfl ?_; refine wl_ns ?_
  refine wc_cond rfl (fun h => ?_) (fun h => ?_)
  · refine wc_sr ?_; refine wl_as rfl rfl ?_; refine wl_ns ?_; refine wc_ret ?_; refine we_seq_ret ?_
    refine we_ret1 rfl rfl ⟨_, rfl, ?_, Below.refl _ _⟩
    have hne : ¬ xs = ys := fun e => h (by rw [e])
    simp [hne]
  · have hlen : xs.length = ys.length := by omega
    refine wc_skip ?_; refine we_seq ?_; refine wc_seq ?_; refine wc_sr ?_; refine wl_as rfl rfl ?_; refine wl_ns ?_; refine wc_block ?_
    refine wc_loop (fun L wr m => ∃ k : Nat, L = [(0, .slice A xs.length c), (1, .slice B ys.length d), (5, .int .i64 k)] ∧ k ≤ xs.length ∧ xs.take k = ys.take k ∧ Below w.heap.size w wr ∧ m = xs.length - k)
      [(0, .slice A xs.length c), (1, .slice B ys.length d), (5, .int .i64 (0 : Nat))] xs.length ⟨0, rfl, by omega, rfl, Below.refl _ _, rfl⟩ ⟨rfl, rfl, rfl, trivial⟩ ?_
    rintro _ wr m ⟨k, rfl, hk, heq, hbel, rfl⟩
    have hrx := RdB.below hx hbel
    have hry := RdB.below hy hbel
    refine wc_seq ?_; refine wc_sr ?_; refine wl_mv rfl rfl ?_; refine wl_mv rfl rfl ?_; apply wl_val; apply opv_len; exact rfl; exact tyB.sl; exact rfl; refine wl_bin rfl rfl bin_lss rfl ?_; refine wl_ns ?_
    refine wc_cond rfl (fun h1 => ?_) (fun h1 => ?_)
    · refine wc_skip ?_; refine we_seq ?_; refine wc_seq ?_; refine wc_block ?_; refine wc_seq ?_
      refine wc_drawB mixed (by kernel_rfl) ?_
      apply wq_val; intro _ _; apply opv_move; exact rfl; exact rfl; apply wq_val; intro _ _; apply opv_move; exact rfl; exact rfl
      refine wq_by tyB rfl rfl hrx rfl (by omega) rfl rfl fun p1 x hxk => ?_
      apply wq_val; intro _ _; apply opv_move; exact rfl; exact rfl; apply wq_val; intro _ _; apply opv_move; exact rfl; exact rfl
      refine wq_by tyB rfl rfl hry rfl (by omega) rfl rfl fun p2 y hyk => ?_
      apply wq_val; intro _ _; apply opv_bin; exact rfl; exact rfl; exact bin_neq; exact rfl; refine wq_nil fun w1 hw1 => ?_
      have hb1 := hbel.trans (hw1.mono hbel.size)
      refine we_seq ?_
      refine wc_cond rfl (fun h2 => ?_) (fun h2 => ?_)
      · refine wc_sr ?_; refine wl_as rfl rfl ?_; refine wl_ns ?_; refine wc_ret ?_; refine we_block_ret ?_; refine we_seq_ret ?_; refine we_loop_ret ?_; refine we_block_ret ?_; refine we_seq_ret ?_
        refine we_ret1 rfl rfl ⟨_, rfl, ?_, hb1⟩
        have hne : ¬ xs = ys := fun e => by subst e; rw [hxk] at hyk; cases hyk; exact h2 rfl
        simp [hne]
      · refine wc_skip ?_; refine we_block_norm ?_; refine we_seq ?_; refine wc_region ?_; refine wl_mv rfl rfl ?_; apply wl_val; apply opv_bin; exact rfl; exact rfl; exact bin_add64 (by omega); exact rfl; refine wl_as rfl rfl ?_; refine wl_nil ?_
        refine we_loop [(0, .slice A xs.length c), (1, .slice B ys.length d), (5, .int .i64 (k + 1 : Nat))] (xs.length - (k + 1)) ⟨k + 1, rfl, by omega, ?_, hb1, rfl⟩ (by omega) ⟨rfl, rfl, by simp [lookT], trivial⟩
        have : x = y := UInt8.toNat_inj.1 (by omega)
        rw [take_get hxk, take_get hyk, heq, this]
    · refine wc_exit ?_; refine we_seq_exit ?_; refine we_loop_exit ?_; refine we_block_exit ?_; refine we_seq ?_; refine wc_sr ?_; refine wl_as rfl rfl ?_; refine wl_ns ?_; refine wc_ret ?_
      refine we_ret1 rfl rfl ⟨_, rfl, ?_, hbel⟩
      have hkl : k = xs.length := by omega
      rw [hkl, List.take_length, hlen, List.take_length] at heq
      simp [heq]
theorem equal_yes {A B : Option Addr} {n m c d : Nat} {xs ys : List UInt8} {w : World} (he : xs = ys) (hx : RdB w A xs) (hy : RdB w B ys) (hn : xs.length = n) (hm : ys.length = m) (hlx : xs.length ≤ maxLen) :
    CallsV Try.prog 21 #[.slice A n c, .slice B m d] w fun v w' => v = .bool true ∧ Below w.heap.size w w' :=
  (equal_any hx hy hn hm hlx).mono fun v w' ⟨h, hb⟩ => ⟨by rw [h]; simp [he], hb⟩
end Go.Proofs.Ytcjiecclmepboaa
