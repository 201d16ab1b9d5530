/-
  Walks over the sum's steps, its table and its bitwise answer.
-/
import Derived.Test.YtdppekhnahnjjaaArr
import Derived.Test.YtdppekhnahnjjaaRow
import Derived.Test.YtdppekhnahnjjaaPf
namespace Go.Proofs.Ytdppekhnahnjjaa
open Go.RowKit

theorem fill_upV {α : Type} {l : List α} {z x : α} {k m : Nat} (h : l[k]? = some x) : (l.take k ++ List.replicate (m + 1) z).set k x = l.take (k + 1) ++ List.replicate m z := by
  have hk := (List.getElem?_eq_some_iff.1 h).1
  have e : (l.take k).length = k := by simp; omega
  rw [List.set_append_right _ _ (by omega), e, Nat.sub_self, List.replicate_succ, List.set_cons_zero, List.take_add_one, h]
  simp

theorem step_any (x : Nat) (hx : x < 4294967296) (w : World) : CallsV Try.prog 69 #[.int .u32 x] w fun v w' => v = .int .u32 (stepC x : Nat) ∧ w = w' := by
  refine calls_in (N := _) Try.func69 rfl Try.ntmps69 rfl ?_; show WC _ _ _ _ _ _
  refine wc_sr ?_; refine wl_as rfl rfl ?_; refine wl_ns ?_; refine wc_seq ?_; refine wc_sr ?_; refine wl_mv rfl rfl ?_
  refine wl_val (opv_bin (b := .int .u32 (1 : Nat)) rfl rfl (bin_and rfl hx (by decide))) rfl ?_
  refine wl_bin rfl rfl bin_eql rfl ?_; refine wl_ns ?_
  refine wc_cond rfl (fun h => ?_) (fun h => ?_)
  · have h1 : x % 2 = 1 := by rw [← Nat.and_one_is_mod]; omega
    refine wc_sr ?_; refine wl_mv rfl rfl ?_
    refine wl_val (opv_bin (b := .int .u64 (1 : Nat)) rfl rfl (bin_shr hx)) rfl ?_
    refine wl_val (opv_bin (b := .int .u32 (3988292384 : Nat)) rfl rfl (bin_xor rfl (by simp only [IntKind.bits]; omega) (by decide))) rfl ?_
    refine wl_as rfl rfl ?_; refine wl_ns ?_; refine wc_ret ?_; refine we_seq_ret ?_
    exact we_ret1 rfl rfl ⟨_, rfl, by rw [stepC_odd h1], rfl⟩
  · have h1 : ¬ x % 2 = 1 := by rw [← Nat.and_one_is_mod]; omega
    refine wc_skip ?_; refine we_seq ?_; refine wc_sr ?_; refine wl_mv rfl rfl ?_
    refine wl_val (opv_bin (b := .int .u64 (1 : Nat)) rfl rfl (bin_shr hx)) rfl ?_
    refine wl_as rfl rfl ?_; refine wl_ns ?_; refine wc_ret ?_
    exact we_ret1 rfl rfl ⟨_, rfl, by rw [stepC_even h1], rfl⟩
theorem eight_any (x : Nat) (hx : x < 4294967296) (w : World) : CallsV Try.prog 60 #[.int .u32 x] w fun v w' => v = .int .u32 (eightC x : Nat) ∧ w = w' := by
  refine calls_in (N := _) Try.func60 rfl Try.ntmps60 rfl ?_; show WC _ _ _ _ _ _
  refine wc_sr ?_; refine wl_as rfl rfl ?_; refine wl_ns ?_; refine wc_seq ?_; refine wc_sr ?_; refine wl_mv rfl rfl ?_; refine wl_ns ?_; refine wc_block ?_
  refine wc_loop (fun L wr m => ∃ (k y : Nat), L = [(0, .int .u32 (y : Int)), (3, .int .i64 (k : Int))] ∧ k ≤ 8 ∧ y < 4294967296 ∧ stepsC (8 - k) y = eightC x ∧ w = wr ∧ m = 8 - k)
    [(0, .int .u32 (x : Int)), (3, .int .i64 (0 : Nat))] 8 ⟨0, x, rfl, by omega, hx, rfl, rfl, rfl⟩ ⟨rfl, rfl, trivial⟩ ?_
  rintro _ _ m ⟨k, y, rfl, hk, hy, he, rfl, rfl⟩
  refine wc_sr ?_; refine wl_bin rfl rfl bin_lss rfl ?_; refine wl_ns ?_; refine wc_seq ?_
  refine wc_cond rfl (fun h1 => ?_) (fun h1 => ?_)
  · refine wc_skip ?_; refine we_seq ?_; refine wc_seq ?_; refine wc_block ?_; refine wc_region ?_; refine wl_mv rfl rfl ?_
    refine wl_call ok_crc_step (step_any y hy w) ⟨rfl, trivial⟩ rfl ?_
    rintro _ _ ⟨rfl, rfl⟩
    refine wl_as rfl rfl ?_; refine wl_nil ?_; refine we_block_norm ?_; refine we_seq ?_; refine wc_region ?_; apply wl_val; apply opv_bin; exact rfl; exact rfl; exact bin_add64 (by omega); exact rfl; refine wl_mv rfl rfl ?_; refine wl_nil ?_
    refine we_loop [(0, .int .u32 (stepC y : Nat)), (3, .int .i64 ((k + 1 : Nat) : Int))] (8 - (k + 1)) ⟨k + 1, stepC y, rfl, by omega, step_lt hy, ?_, rfl, rfl⟩ (by omega) ⟨rfl, rfl, trivial⟩
    rw [← he, show 8 - k = (8 - (k + 1)) + 1 by omega]; rfl
  · obtain rfl : k = 8 := by omega
    have e : y = eightC x := he
    refine wc_exit ?_; refine we_seq_exit ?_; refine we_loop_exit ?_; refine we_block_exit ?_; refine we_seq ?_; refine wc_sr ?_; refine wl_mv rfl rfl ?_; refine wl_as rfl rfl ?_; refine wl_ns ?_; refine wc_ret ?_
    exact we_ret1 rfl rfl ⟨_, rfl, by rw [e], rfl⟩

/-- The table's cells. -/
def tabC : List Value := (List.range 256).map fun i => .int .u32 (eightC i : Nat)
theorem tabC_length : tabC.length = 256 := by simp [tabC]
theorem tabC_get {k : Nat} (h : k < 256) : tabC[k]? = some (.int .u32 (eightC k : Nat)) := by
  rw [tabC, List.getElem?_map, List.getElem?_range h]; rfl
theorem tabC_one : ∀ v ∈ tabC, v.oneCell' = true := by
  intro v hv
  simp only [tabC, List.mem_map] at hv
  obtain ⟨_, _, rfl⟩ := hv; rfl
theorem tyU : Cell1 Try.prog 28 := ⟨by kernel_rfl, by rw [Try.underlying28]⟩
theorem tyA_zero : (Try.prog.info? 29).map (·.zero) = some (some (.agg (List.replicate 256 (Value.int .u32 0)).toArray)) := by kernel_rfl
theorem tyA_size : (Try.prog.info? 29).map (·.size) = some 256 := by kernel_rfl

theorem table_any (w : World) : CallsV Try.prog 21 #[] w fun v w' => v = .agg tabC.toArray ∧ Below w.heap.size w w' := by
  have hb0 := Below.refl w.heap.size w
  refine calls_in (N := _) Try.func21 rfl Try.ntmps21 rfl ?_; show WC _ _ _ _ _ _
  refine wc_sr ?_
  refine wl_alloc tyA_zero rfl fun w1 a0 hb1 hs1 => ?_
  refine wl_ns ?_; refine wc_sr ?_
  refine wl_alloc tyA_zero rfl fun w2 a1 hb2 hs2 => ?_
  replace a0 := a0.bel hb2
  have hb3 := hb1.trans (hb2.mono hb1.size)
  clear hb0 hb1 hb2
  obtain ⟨g1, hg1⟩ : ∃ g, w1.heap.size = g := ⟨_, rfl⟩
  rw [hg1] at a1 ⊢
  have hne : g1 ≠ w.heap.size := by omega
  refine wl_ns ?_; refine wc_seq ?_; refine wc_sr ?_; refine wl_mv rfl rfl ?_; refine wl_ns ?_; refine wc_block ?_
  refine wc_loop (fun L wr m => ∃ k : Nat, L = [(0, .pointer (some ⟨w.heap.size, 0, none⟩)), (1, .pointer (some ⟨g1, 0, none⟩)), (3, .int .i64 (k : Int))] ∧ k ≤ 256 ∧ Ar wr g1 29 (tabC.take k ++ List.replicate (256 - k) (Value.int .u32 0)) ∧ Ar wr w.heap.size 29 (List.replicate 256 (Value.int .u32 0)) ∧ Below w.heap.size w wr ∧ m = 256 - k)
    [(0, .pointer (some ⟨w.heap.size, 0, none⟩)), (1, .pointer (some ⟨g1, 0, none⟩)), (3, .int .i64 (0 : Nat))] 256 ⟨0, rfl, by omega, a1, a0, hb3, rfl⟩ ⟨rfl, rfl, rfl, trivial⟩ ?_
  rintro _ w4 m ⟨k, rfl, hk, b1, b0, hb4, rfl⟩
  refine wc_sr ?_; refine wl_bin rfl rfl bin_lss rfl ?_; refine wl_ns ?_; refine wc_seq ?_
  refine wc_cond rfl (fun h1 => ?_) (fun h1 => ?_)
  · refine wc_skip ?_; refine we_seq ?_; refine wc_seq ?_; refine wc_block ?_; refine wc_sr ?_; refine wl_mv rfl rfl ?_; refine wl_as rfl rfl ?_; refine wl_ns ?_; refine wc_region ?_; refine wl_mv rfl rfl ?_; refine wl_mv rfl rfl ?_; apply wl_val; apply opv_convR; exact rfl; exact Try.underlying3; exact Try.underlying28; exact IntWalk.u32_in _ (by omega); exact rfl
    refine wl_call ok_crc_eight (eight_any k (by omega) w4) ⟨rfl, trivial⟩ rfl ?_
    rintro _ _ ⟨rfl, rfl⟩
    refine wl_setA (kk := k) Try.underlying29 tyU rfl rfl b1 (by simp [tabC_length]; omega) rfl (by omega) (fun _ => rfl) rfl rfl fun p => ?_
    have c1 := b1.setCell k (.int .u32 (eightC k : Nat))
    have c0 := b0.ne k (.int .u32 (eightC k : Nat)) hne
    have hb5 := below_setCell (k := k) (v := .int .u32 (eightC k : Nat)) hb4 (show w.heap.size ≤ g1 by omega)
    have e : (tabC.take k ++ List.replicate (256 - k) (Value.int .u32 0)).set k (.int .u32 (eightC k : Nat)) = tabC.take (k + 1) ++ List.replicate (256 - (k + 1)) (Value.int .u32 0) := by
      rw [show 256 - k = (256 - (k + 1)) + 1 by omega]; exact fill_upV (tabC_get (by omega))
    rw [e] at c1
    refine wl_nil ?_; refine we_block_norm ?_; refine we_seq ?_; refine wc_region ?_; apply wl_val; apply opv_bin; exact rfl; exact rfl; exact bin_add64 (by omega); exact rfl; refine wl_mv rfl rfl ?_; refine wl_nil ?_
    refine we_loop [(0, .pointer (some ⟨w.heap.size, 0, none⟩)), (1, .pointer (some ⟨g1, 0, none⟩)), (3, .int .i64 ((k + 1 : Nat) : Int))] (256 - (k + 1)) ⟨k + 1, rfl, by omega, c1, c0, hb5, rfl⟩ (by omega) ⟨rfl, rfl, rfl, trivial⟩
  · obtain rfl : k = 256 := by omega
    have e : tabC.take 256 ++ List.replicate (256 - 256) (Value.int .u32 0) = tabC := by rw [List.take_of_length_le (by rw [tabC_length]; omega)]; simp
    rw [e] at b1
    refine wc_exit ?_; refine we_seq_exit ?_; refine we_loop_exit ?_; refine we_block_exit ?_; refine we_seq ?_; refine wc_sr ?_
    refine wl_val (opv_loadW Try.underlying29 (by rw [tabC_length]; exact tyA_size) rfl b1) rfl ?_
    refine wl_unitN (opu_storeW (by rw [List.length_replicate]; exact tyA_size) (by rw [tabC_length, List.length_replicate]) rfl rfl b0 tabC_one) ?_
    have d0 := b0.setRow (cs' := tabC)
    have hb6 := below_setRow (cs' := tabC.toArray) hb4 (Nat.le_refl _)
    refine wl_ns ?_; refine wc_ret ?_
    exact we_retA rfl rfl Try.underlying29 (by rw [tabC_length]; exact tyA_size) d0 ⟨_, rfl, rfl, hb6⟩
end Go.Proofs.Ytdppekhnahnjjaa
