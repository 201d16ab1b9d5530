
/-
  Walks over the numbers of eight bytes of the program and of the references.
-/
import Derived.Test.YtcjiecclmepboaaWb
import Derived.Test.YtcjiecclmepboaaWj
import Derived.Test.YtcjiecclmepboaaPe
namespace Go.Proofs.Ytcjiecclmepboaa
open Go.RowKit

theorem fill_up {α : Type} {l : List α} {z x : α} {k m : Nat} (h : l[k]? = some x) : (l.take k ++ List.replicate (m + 1) z).set k x = l.take (k + 1) ++ List.replicate m z := by
  have hk := (List.getElem?_eq_some_iff.1 h).1
  have e : (l.take k).length = k := by simp; omega
  rw [List.set_append_right _ _ (by omega), e, Nat.sub_self, List.replicate_succ, List.set_cons_zero, take_getR h]
  simp
theorem fill_down {α : Type} {l : List α} {z x : α} {k : Nat} (h : l[k]? = some x) : (List.replicate (k + 1) z ++ l.drop (k + 1)).set k x = List.replicate k z ++ l.drop k := by
  obtain ⟨hk, e⟩ := List.getElem?_eq_some_iff.1 h
  rw [List.set_append_left _ _ (by simp), List.replicate_succ', List.set_append_right _ _ (by simp)]
  rw [List.drop_eq_getElem_cons hk, e]
  simp
theorem byte_of (m : Nat) : Value.int .u8 ((m % 2 ^ IntKind.u8.bits : Nat) : Int) = bv (UInt8.ofNat m) := by
  simp [bv, IntKind.bits]

theorem ordU_any (n : Nat) (hn : n < 2 ^ 64) (w : World) : CallsV Try.prog 102 #[.int .u64 n] w (RetB w (ordU n)) := by
  refine calls_in (N := _) Try.func102 rfl Try.ntmps102 rfl ?_; show WC _ _ _ _ _ _
  refine wc_sr ?_; refine wl_as rfl rfl ?_; refine wl_ns ?_; refine wc_sr ?_
  refine wl_mk (n := 8) (c := 8) tyB rfl rfl rfl rfl (by omega) (by omega) (by simp only [maxLen]; omega) rfl fun A1 w1 o1 hb1 _ => ?_
  refine wl_as rfl rfl ?_; refine wl_ns ?_; refine wc_seq ?_; refine wc_sr ?_; refine wl_mv rfl rfl ?_; apply wl_val; apply opv_len; exact rfl; exact tyB.sl; exact rfl; refine wl_mv rfl rfl ?_; refine wl_ns ?_; refine wc_block ?_
  refine wc_loop (fun L wr m => ∃ k : Nat, L = [(0, .int .u64 (n : Int)), (3, .slice A1 8 8), (7, .int .i64 (8 : Int)), (8, .int .i64 (k : Int))] ∧ k ≤ 8 ∧ Ow wr w.heap.size 5 A1 8 8 (bvs ((ordU n).take k ++ List.replicate (8 - k) 0)) ∧ Below w.heap.size w wr ∧ m = 8 - k)
    [(0, .int .u64 (n : Int)), (3, .slice A1 8 8), (7, .int .i64 (8 : Int)), (8, .int .i64 (0 : Nat))] 8 ⟨0, rfl, by omega, by simpa [bvs, bv] using o1, hb1, rfl⟩ ⟨rfl, rfl, rfl, rfl, trivial⟩ ?_
  rintro _ w2 m ⟨k, rfl, hk, o2, hb2, rfl⟩
  refine wc_sr ?_; refine wl_bin rfl rfl bin_lss rfl ?_; refine wl_ns ?_; refine wc_seq ?_
  refine wc_cond rfl (fun h1 => ?_) (fun h1 => ?_)
  · have hg := ordK_get 8 n k (by omega)
    have hk7 : k ≤ 7 := by omega
    refine wc_skip ?_; refine we_seq ?_; refine wc_seq ?_; refine wc_block ?_; refine wc_sr ?_; refine wl_mv rfl rfl ?_; refine wl_as rfl rfl ?_; refine wl_ns ?_; refine wc_region ?_; refine wl_mv rfl rfl ?_; refine wl_mv rfl rfl ?_; refine wl_mv rfl rfl ?_; refine wl_mv rfl rfl ?_; apply wl_val; apply opv_bin; exact rfl; exact rfl; exact bin_sub64 (by omega); exact rfl
    refine wl_val (opv_bin rfl rfl ((bin_mul64 (by omega)).to (show _ = Value.int .i64 ((8 * (7 - k) : Nat) : Int) from by congr 1; omega))) rfl ?_
    refine wl_val (opv_bin rfl rfl (bin_shr hn)) rfl ?_
    apply wl_val; apply opv_convR; exact rfl; exact Try.underlying121; exact Try.underlying5; exact wrap_nat rfl _; exact rfl
    refine wl_set (kk := k) tyB rfl rfl o2 rfl (by omega) (fun _ => rfl) rfl rfl fun p w3 o3 g3 _ => ?_
    have hb3 := g3.below hb2 o2 (Nat.le_refl _) hb2.size
    rw [byte_of, bvs_set, show 8 - k = (7 - k) + 1 by omega, Nat.pow_mul, fill_up (l := ordU n) (by rw [ordU, hg])] at o3
    refine wl_nil ?_; refine we_block_norm ?_; refine we_seq ?_; refine wc_region ?_; apply wl_val; apply opv_bin; exact rfl; exact rfl; exact bin_add64 (by omega); exact rfl; refine wl_mv rfl rfl ?_; refine wl_nil ?_
    refine we_loop [(0, .int .u64 (n : Int)), (3, .slice A1 8 8), (7, .int .i64 (8 : Int)), (8, .int .i64 ((k + 1 : Nat) : Int))] (8 - (k + 1)) ⟨k + 1, rfl, by omega, by rw [show 8 - (k + 1) = 7 - k by omega]; exact o3, hb3, rfl⟩ (by omega) ⟨rfl, rfl, rfl, rfl, trivial⟩
  · obtain rfl : k = 8 := by omega
    have e : (ordU n).take 8 ++ List.replicate (8 - 8) 0 = ordU n := by rw [List.take_of_length_le (by rw [ordU_length]; omega)]; simp
    rw [e] at o2
    refine wc_exit ?_; refine we_seq_exit ?_; refine we_loop_exit ?_; refine we_block_exit ?_; refine we_seq ?_; refine wc_sr ?_; refine wl_mv rfl rfl ?_; refine wl_as rfl rfl ?_; refine wl_ns ?_; refine wc_ret ?_
    exact we_ret1 rfl rfl ⟨_, rfl, A1, 8, by rw [ordU_length], by unfold OwB; rw [ordU_length]; exact o2, hb2⟩

theorem refOrdU_any (n : Nat) (hn : n < 2 ^ 64) (w : World) : CallsV Try.prog 106 #[.int .u64 n] w (RetB w (ordU n)) := by
  refine calls_in (N := _) Try.func106 rfl Try.ntmps106 rfl ?_; show WC _ _ _ _ _ _
  refine wc_sr ?_; refine wl_as rfl rfl ?_; refine wl_ns ?_; refine wc_sr ?_
  refine wl_mk (n := 8) (c := 8) tyB rfl rfl rfl rfl (by omega) (by omega) (by simp only [maxLen]; omega) rfl fun A1 w1 o1 hb1 _ => ?_
  refine wl_as rfl rfl ?_; refine wl_ns ?_; refine wc_seq ?_; refine wc_sr ?_; refine wl_as rfl rfl ?_; refine wl_ns ?_; refine wc_block ?_
  refine wc_loop (fun L wr m => ∃ k : Nat, L = [(0, .int .u64 ((n / 256 ^ (8 - k) : Nat) : Int)), (3, .slice A1 8 8), (4, .int .i64 ((k : Int) - 1))] ∧ k ≤ 8 ∧ Ow wr w.heap.size 5 A1 8 8 (bvs (List.replicate k 0 ++ (ordU n).drop k)) ∧ Below w.heap.size w wr ∧ m = k)
    [(0, .int .u64 (n : Int)), (3, .slice A1 8 8), (4, .int .i64 7)] 8 ⟨8, by simp, by omega, by rw [List.drop_of_length_le (by rw [ordU_length]; omega)]; simpa [bvs, bv] using o1, hb1, rfl⟩ ⟨rfl, rfl, rfl, trivial⟩ ?_
  rintro _ w2 m ⟨k, rfl, hk, o2, hb2, rfl⟩
  refine wc_seq ?_; refine wc_sr ?_; refine wl_mv rfl rfl ?_; refine wl_bin rfl rfl bin_geq rfl ?_; refine wl_ns ?_
  refine wc_cond rfl (fun h1 => ?_) (fun h1 => ?_)
  · obtain ⟨k, rfl⟩ : ∃ j, m = j + 1 := ⟨m - 1, by omega⟩
    have hg := ordK_get 8 n k (by omega)
    have ek : ((k + 1 : Nat) : Int) - 1 = (k : Int) := by omega
    rw [ek]
    refine wc_skip ?_; refine we_seq ?_; refine wc_seq ?_; refine wc_block ?_; refine wc_sr ?_; refine wl_mv rfl rfl ?_; refine wl_mv rfl rfl ?_; refine wl_mv rfl rfl ?_
    refine wl_val (opv_bin (b := .int .u64 (256 : Nat)) rfl rfl (bin_rem (by omega))) rfl ?_
    apply wl_val; apply opv_convR; exact rfl; exact Try.underlying121; exact Try.underlying5; exact IntWalk.u8_in _ (by omega); exact rfl
    refine wl_set (kk := k) tyB rfl rfl o2 rfl (by omega) (fun _ => rfl) rfl rfl fun p w3 o3 g3 _ => ?_
    have hb3 := g3.below hb2 o2 (Nat.le_refl _) hb2.size
    have ev : n / 256 ^ (8 - (k + 1)) % 256 = n / 256 ^ (8 - (k + 1)) % 2 ^ IntKind.u8.bits := rfl
    rw [ev, byte_of, bvs_set, show 8 - (k + 1) = 8 - 1 - k by omega, fill_down (l := ordU n) (by rw [ordU, hg])] at o3
    refine wl_ns ?_; refine wc_region ?_; refine wl_mv rfl rfl ?_
    refine wl_val (opv_bin (b := .int .u64 (256 : Nat)) rfl rfl (bin_quo (by omega) (wrap_small rfl (Nat.lt_of_le_of_lt (Nat.div_le_self _ _) (Nat.lt_of_le_of_lt (Nat.div_le_self _ _) hn))))) rfl ?_
    refine wl_as rfl rfl ?_; refine wl_nil ?_; refine we_block_norm ?_; refine we_seq ?_; refine wc_region ?_; refine wl_mv rfl rfl ?_; apply wl_val; apply opv_bin; exact rfl; exact rfl; exact bin_sub64 (by omega); exact rfl; refine wl_as rfl rfl ?_; refine wl_nil ?_
    refine we_loop [(0, .int .u64 ((n / 256 ^ (8 - k) : Nat) : Int)), (3, .slice A1 8 8), (4, .int .i64 ((k : Int) - 1))] k ⟨k, rfl, by omega, o3, hb3, rfl⟩ (by omega) ⟨?_, rfl, rfl, trivial⟩
    rw [show 8 - k = (8 - (k + 1)) + 1 by omega, Nat.pow_succ, ← Nat.div_div_eq_div_mul]; rfl
  · obtain rfl : m = 0 := by omega
    simp only [List.replicate_zero, List.drop_zero, List.nil_append] at o2
    refine wc_exit ?_; refine we_seq_exit ?_; refine we_loop_exit ?_; refine we_block_exit ?_; refine we_seq ?_; refine wc_sr ?_; refine wl_mv rfl rfl ?_; refine wl_as rfl rfl ?_; refine wl_ns ?_; refine wc_ret ?_
    exact we_ret1 rfl rfl ⟨_, rfl, A1, 8, by rw [ordU_length], by unfold OwB; rw [ordU_length]; exact o2, hb2⟩
end Go.Proofs.Ytcjiecclmepboaa
