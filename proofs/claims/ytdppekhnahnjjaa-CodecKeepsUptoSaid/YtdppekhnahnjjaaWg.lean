/-
  Walks over bytes.Clone and over Next of the program and of the reference.
-/
import Derived.Test.YtdppekhnahnjjaaWa
import Derived.Test.YtdppekhnahnjjaaPb
namespace Go.Proofs.Ytdppekhnahnjjaa
open Go.RowKit

theorem rd_none {w : World} {xs : List UInt8} (h : RdB w none xs) : xs = [] := by
  cases xs with
  | nil => rfl
  | cons x r => obtain ⟨_, _, h, _⟩ := h.2 (by simp); cases h

theorem clone_any {A : Option Addr} {n c : Nat} {xs : List UInt8} {w : World} (hr : RdB w A xs) (hn : xs.length = n) (hl : xs.length ≤ 140737488355328) : CallsV Try.prog 62 #[.slice A n c] w (RetB w xs) := by
  subst hn
  refine calls_in (N := _) Try.func62 rfl Try.ntmps62 rfl ?_; show WC _ _ _ _ _ _
  refine wc_sr ?_; refine wl_as rfl rfl ?_; refine wl_ns ?_; refine wc_seq ?_; refine wc_sr ?_; refine wl_mv rfl rfl ?_
  refine wl_val (opv_bin rfl rfl (bin_eqlSliceNil Try.underlying24)) rfl ?_
  refine wl_ns ?_
  refine wc_condB rfl (fun h => ?_) (fun h => ?_)
  · obtain rfl : A = none := by cases A <;> simp at h ⊢
    obtain rfl := rd_none hr
    refine wc_sr ?_; refine wl_as rfl rfl ?_; refine wl_ns ?_; refine wc_ret ?_; refine we_seq_ret ?_
    exact we_ret1 rfl rfl ⟨_, rfl, none, 0, rfl, Ow.nil _ _ _, Below.refl _ _⟩
  · refine wc_skip ?_; refine we_seq ?_; refine wc_sr ?_
    refine wl_bs (vs := []) tyB trivial rfl (by decide) rfl fun A1 w1 ho hb _ => ?_
    refine wl_mv rfl rfl ?_
    refine wl_app tyB rfl ho rfl (RdB.below hr hb) (bvs_one _) (by omega) (by simp only [maxLen]; omega) hb.size rfl fun A' c' w' ho' hg _ => ?_
    refine wl_as rfl rfl ?_; refine wl_ns ?_; refine wc_ret ?_
    refine we_ret1 rfl rfl ⟨_, rfl, A', c', by simp, ?_, ?_⟩
    · have := ho'; simp only [Nat.zero_add, List.nil_append] at this; exact this
    · exact hg.below hb ho (Nat.le_refl _) hb.size

theorem rd_pre {w : World} {A : Option Addr} {xs : List UInt8} {c h : Nat} (hr : RdB w A xs) (hh : h ≤ xs.length) (hc : xs.length ≤ c) : RdB w (cutA A c 0) (xs.take h) := by
  have := Rd.cut (l := 0) (h := h) hr (by omega) hh hc
  rw [bvs_cut] at this
  simp only [Nat.sub_zero, List.drop_zero] at this
  have e : (xs.take h).length = h := by simp; omega
  unfold RdB; rw [e]; exact this

theorem add1_val (x : UInt8) : Value.int .u8 (((x.toNat + 1) % 2 ^ IntKind.u8.bits : Nat) : Int) = bv (x + 1) := by
  rw [bv, UInt8.toNat_add]; rfl

theorem next_any {A : Option Addr} {n c : Nat} {xs : List UInt8} {w : World} (hr : RdB w A xs) (hn : xs.length = n) (hc : xs.length ≤ c) (hl : xs.length ≤ 140737488355328) : CallsV Try.prog 32 #[.slice A n c] w (RetB w (nextB xs)) := by
  subst hn
  refine calls_in (N := _) Try.func32 rfl Try.ntmps32 rfl ?_; show WC _ _ _ _ _ _
  refine wc_sr ?_; refine wl_as rfl rfl ?_; refine wl_ns ?_; refine wc_sr ?_; refine wl_mv rfl rfl ?_; apply wl_val; apply opv_len; exact rfl; exact tyB.sl; exact rfl; refine wl_as rfl rfl ?_; refine wl_ns ?_; refine wc_seq ?_; refine wc_block ?_
  refine wc_loop (fun L wr m => ∃ k : Nat, L = [(0, .slice A xs.length c), (3, .int .i64 (k : Int))] ∧ k ≤ xs.length ∧ (∀ y ∈ xs.drop k, y = 255) ∧ w = wr ∧ m = k)
    [(0, .slice A xs.length c), (3, .int .i64 (xs.length : Int))] xs.length ⟨xs.length, rfl, by omega, by simp, rfl, rfl⟩ ⟨rfl, rfl, trivial⟩ ?_
  rintro _ _ m ⟨k, rfl, hk, hall, rfl, rfl⟩
  refine wc_seq ?_; refine wc_sr ?_; refine wl_mv rfl rfl ?_; refine wl_bin rfl rfl bin_gtr rfl ?_; refine wl_mv rfl rfl ?_
  by_cases h0 : m = 0
  · subst h0
    apply wl_skip; exact rfl; exact rfl; exact rfl; exact rfl; exact rfl; apply wl_skip; exact rfl; exact rfl; exact rfl; exact rfl; exact rfl; apply wl_skip; exact rfl; exact rfl; exact rfl; exact rfl; exact rfl; apply wl_skip; exact rfl; exact rfl; exact rfl; exact rfl; exact rfl; apply wl_skip; exact rfl; exact rfl; exact rfl; exact rfl; exact rfl; apply wl_skip; exact rfl; exact rfl; exact rfl; exact rfl; exact rfl; apply wl_val; apply opv_pickF; exact rfl; exact rfl; exact rfl; exact rfl; refine wl_ns ?_
    refine wc_condF rfl ?_
    refine wc_exit ?_; refine we_seq_exit ?_; refine we_loop_exit ?_; refine we_block_exit ?_; refine we_seq ?_; refine wc_seq ?_; refine wc_sr ?_; refine wl_mv rfl rfl ?_; refine wl_bin rfl rfl bin_eql rfl ?_; refine wl_ns ?_
    refine wc_cond rfl (fun _ => ?_) (fun h => absurd rfl h)
    have e : nextB xs = [] := next_none (by simpa using hall)
    refine wc_sr ?_; refine wl_as rfl rfl ?_; refine wl_ns ?_; refine wc_ret ?_; refine we_seq_ret ?_
    exact we_ret1 rfl rfl ⟨_, rfl, by rw [e]; exact ⟨none, 0, rfl, Ow.nil _ _ _, Below.refl _ _⟩⟩
  · obtain ⟨x, hx⟩ : ∃ x, xs[m - 1]? = some x := ⟨_, List.getElem?_eq_getElem (by omega)⟩
    have hd := drop_get hx
    rw [show m - 1 + 1 = m by omega] at hd
    apply wl_take; exact rfl; exact rfl; exact rfl; exact decide_eq_true (by omega); refine wl_mv rfl rfl ?_; apply wl_take; exact rfl; exact rfl; exact rfl; exact decide_eq_true (by omega); refine wl_mv rfl rfl ?_; apply wl_take; exact rfl; exact rfl; exact rfl; exact decide_eq_true (by omega); apply wl_val; apply opv_bin; exact rfl; exact rfl; exact bin_sub64 (by omega); exact rfl; apply wl_byTK (T := tyB) (hr := hr) (hb := hx); exact rfl; exact rfl; exact rfl; exact decide_eq_true (by omega); exact rfl; exact rfl; exact rfl; exact rfl; exact decide_eq_true (by omega); exact rfl; exact rfl; omega; exact rfl; exact rfl; intro _; apply wl_take; exact rfl; exact rfl; exact rfl; exact decide_eq_true (by omega); refine wl_bin rfl rfl bin_eql rfl ?_; apply wl_val; apply opv_pickT; exact rfl; exact decide_eq_true (by omega); exact rfl; exact rfl; refine wl_ns ?_
    refine wc_cond rfl (fun h => ?_) (fun h => ?_)
    · have hx255 : x = 255 := UInt8.toNat_inj.1 (by simp; omega)
      refine wc_skip ?_; refine we_seq ?_; refine wc_block ?_; refine wc_region ?_; refine wl_mv rfl rfl ?_; apply wl_val; apply opv_bin; exact rfl; exact rfl; exact bin_sub64 (by omega); exact rfl; refine wl_as rfl rfl ?_; refine wl_nil ?_; refine we_block_norm ?_
      refine we_loop [(0, .slice A xs.length c), (3, .int .i64 ((m - 1 : Nat) : Int))] (m - 1) ⟨m - 1, rfl, by omega, ?_, rfl, rfl⟩ (by omega) ⟨rfl, ?_, trivial⟩
      · intro y hy
        rw [hd] at hy
        rcases List.mem_cons.1 hy with rfl | hy
        · exact hx255
        · exact hall y hy
      · rw [show ((m - 1 : Nat) : Int) = (m : Int) - 1 by omega]; rfl
    · have hx255 : ¬ x = 255 := fun e => h (by rw [e]; rfl)
      have e : nextB xs = xs.take (m - 1) ++ [x + 1] := next_some hx hx255 (by rw [show m - 1 + 1 = m by omega]; exact hall)
      refine wc_exit ?_; refine we_seq_exit ?_; refine we_loop_exit ?_; refine we_block_exit ?_; refine we_seq ?_; refine wc_seq ?_; refine wc_sr ?_; refine wl_mv rfl rfl ?_; refine wl_bin rfl rfl bin_eql rfl ?_; refine wl_ns ?_
      refine wc_cond rfl (fun h => absurd h (by omega)) (fun _ => ?_)
      refine wc_skip ?_; refine we_seq ?_; refine wc_sr ?_; refine wl_mv rfl rfl ?_; refine wl_mv rfl rfl ?_
      refine wl_sl (l := 0) (h := m) tyB rfl rfl ⟨_, rfl⟩ (by omega) (by omega) rfl ?_
      refine wl_call ok_bytes_Clone (clone_any (rd_pre hr hk hc) (by simp; omega) (by simp; omega)) ⟨rfl, trivial⟩ rfl ?_
      rintro _ w2 ⟨A2, c2, rfl, ho2, hb2⟩
      have hl2 : (xs.take m).length = m := by simp; omega
      have hx2 : (xs.take m)[m - 1]? = some x := by rw [List.getElem?_take, if_pos (by omega)]; exact hx
      have ho3 := ho2
      unfold OwB at ho3
      rw [hl2] at ho3 ⊢
      refine wl_as rfl rfl ?_; refine wl_ns ?_; refine wc_sr ?_; refine wl_mv rfl rfl ?_; refine wl_mv rfl rfl ?_; apply wl_val; apply opv_bin; exact rfl; exact rfl; exact bin_sub64 (by omega); exact rfl; apply wl_byK (T := tyB) (hr := ho3.rd) (hb := hx2); exact rfl; exact rfl; omega; exact rfl; exact rfl; intro _
      refine wl_val (opv_bin (b := .int .u8 (1 : Nat)) rfl rfl (bin_addU rfl)) rfl ?_
      refine wl_set (kk := m - 1) tyB rfl rfl ho3 (by omega) (by omega) (fun _ => rfl) rfl rfl fun p w3 ho4 hg4 _ => ?_
      refine wl_ns ?_; refine wc_sr ?_; refine wl_mv rfl rfl ?_; refine wl_as rfl rfl ?_; refine wl_ns ?_; refine wc_ret ?_
      have hb3 := hg4.below hb2 ho3 (Nat.le_refl _) hb2.size
      have es : (xs.take m).set (m - 1) (x + 1) = xs.take (m - 1) ++ [x + 1] := by
        have h1 : xs.take m = xs.take (m - 1) ++ [x] := by
          have := take_get hx; rwa [show m - 1 + 1 = m by omega] at this
        rw [h1, List.set_append_right _ _ (by simp; omega)]
        simp; rw [Nat.min_eq_left (by omega)]; simp
      refine we_ret1 rfl rfl ⟨_, rfl, ?_⟩
      rw [e]
      have hl3 : (xs.take (m - 1) ++ [x + 1]).length = m := by simp; omega
      refine ⟨A2, c2, by rw [hl3], ?_, hb3⟩
      unfold OwB
      rw [hl3, ← es, ← bvs_set, ← add1_val]
      exact ho4

theorem refNext_any {A : Option Addr} {n c : Nat} {xs : List UInt8} {w : World} (hr : RdB w A xs) (hn : xs.length = n) (hc : xs.length ≤ c) (hl : xs.length ≤ 140737488355328) : CallsV Try.prog 33 #[.slice A n c] w (RetB w (nextB xs)) := by
  subst hn
  refine calls_in (N := _) Try.func33 rfl Try.ntmps33 rfl ?_; show WC _ _ _ _ _ _
  refine wc_sr ?_; refine wl_as rfl rfl ?_; refine wl_ns ?_; refine wc_seq ?_; refine wc_sr ?_; refine wl_mv rfl rfl ?_; apply wl_val; apply opv_len; exact rfl; exact tyB.sl; exact rfl; apply wl_val; apply opv_bin; exact rfl; exact rfl; exact bin_sub64 (by omega); exact rfl; refine wl_as rfl rfl ?_; refine wl_ns ?_; refine wc_block ?_
  refine wc_loop (fun L wr m => ∃ k : Nat, L = [(0, .slice A xs.length c), (3, .int .i64 ((k : Int) - 1))] ∧ k ≤ xs.length ∧ (∀ y ∈ xs.drop k, y = 255) ∧ w = wr ∧ m = k)
    [(0, .slice A xs.length c), (3, .int .i64 ((xs.length : Int) - 1))] xs.length ⟨xs.length, rfl, by omega, by simp, rfl, rfl⟩ ⟨rfl, rfl, trivial⟩ ?_
  rintro _ _ m ⟨k, rfl, hk, hall, rfl, rfl⟩
  refine wc_seq ?_; refine wc_sr ?_; refine wl_mv rfl rfl ?_; refine wl_bin rfl rfl bin_geq rfl ?_; refine wl_ns ?_
  refine wc_cond rfl (fun h0 => ?_) (fun h0 => ?_)
  · obtain ⟨x, hx⟩ : ∃ x, xs[m - 1]? = some x := ⟨_, List.getElem?_eq_getElem (by omega)⟩
    have hd := drop_get hx
    rw [show m - 1 + 1 = m by omega] at hd
    refine wc_skip ?_; refine we_seq ?_; refine wc_seq ?_; refine wc_block ?_; refine wc_sr ?_; refine wl_mv rfl rfl ?_; refine wl_mv rfl rfl ?_; apply wl_byK (T := tyB) (hr := hr) (hb := hx); exact rfl; exact rfl; omega; exact rfl; exact rfl; intro _; refine wl_bin rfl rfl bin_lss rfl ?_; refine wl_ns ?_
    refine wc_cond rfl (fun h => ?_) (fun h => ?_)
    · have hx255 : ¬ x = 255 := fun e => by rw [e] at h; exact absurd h (by decide)
      have e : nextB xs = xs.take (m - 1) ++ [x + 1] := next_some hx hx255 (by rw [show m - 1 + 1 = m by omega]; exact hall)
      refine wc_sr ?_; refine wl_mv rfl rfl ?_; refine wl_mv rfl rfl ?_; apply wl_val; apply opv_bin; exact rfl; exact rfl; exact bin_add64 (by omega); exact rfl
      rw [show (m : Int) - 1 + 1 = (m : Int) by omega]
      refine wl_sl (l := 0) (h := m) tyB rfl rfl ⟨_, rfl⟩ (by omega) (by omega) rfl ?_
      refine wl_call ok_caissonref01_Copy (copy_any (rd_pre hr hk hc) (by simp; omega) (by simp; omega)) ⟨rfl, trivial⟩ rfl ?_
      rintro _ w2 ⟨A2, c2, rfl, ho2, hb2⟩
      have hl2 : (xs.take m).length = m := by simp; omega
      have hx2 : (xs.take m)[m - 1]? = some x := by rw [List.getElem?_take, if_pos (by omega)]; exact hx
      have ho3 := ho2
      unfold OwB at ho3
      rw [hl2] at ho3 ⊢
      refine wl_as rfl rfl ?_; refine wl_ns ?_; refine wc_sr ?_; refine wl_mv rfl rfl ?_; refine wl_mv rfl rfl ?_; refine wl_mv rfl rfl ?_; refine wl_mv rfl rfl ?_; apply wl_byK (T := tyB) (hr := ho3.rd) (hb := hx2); exact rfl; exact rfl; omega; exact rfl; exact rfl; intro _
      refine wl_val (opv_bin (b := .int .u8 (1 : Nat)) rfl rfl (bin_addU rfl)) rfl ?_
      refine wl_set (kk := m - 1) tyB rfl rfl ho3 (by omega) (by omega) (fun _ => rfl) rfl rfl fun p w3 ho4 hg4 _ => ?_
      refine wl_ns ?_; refine wc_sr ?_; refine wl_mv rfl rfl ?_; refine wl_as rfl rfl ?_; refine wl_ns ?_; refine wc_ret ?_; refine we_block_ret ?_; refine we_seq_ret ?_; refine we_loop_ret ?_; refine we_block_ret ?_; refine we_seq_ret ?_
      have hb3 := hg4.below hb2 ho3 (Nat.le_refl _) hb2.size
      have es : (xs.take m).set (m - 1) (x + 1) = xs.take (m - 1) ++ [x + 1] := by
        have h1 : xs.take m = xs.take (m - 1) ++ [x] := by
          have := take_get hx; rwa [show m - 1 + 1 = m by omega] at this
        rw [h1, List.set_append_right _ _ (by simp; omega)]
        simp; rw [Nat.min_eq_left (by omega)]; simp
      refine we_ret1 rfl rfl ⟨_, rfl, ?_⟩
      rw [e]
      have hl3 : (xs.take (m - 1) ++ [x + 1]).length = m := by simp; omega
      refine ⟨A2, c2, by rw [hl3], ?_, hb3⟩
      unfold OwB
      rw [hl3, ← es, ← bvs_set, ← add1_val]
      exact ho4
    · have hx255 : x = 255 := UInt8.toNat_inj.1 (by have := x.toNat_lt; simp; omega)
      refine wc_skip ?_; refine we_block_norm ?_; refine we_seq ?_; refine wc_region ?_; refine wl_mv rfl rfl ?_; apply wl_val; apply opv_bin; exact rfl; exact rfl; exact bin_sub64 (by omega); exact rfl; refine wl_as rfl rfl ?_; refine wl_nil ?_
      refine we_loop [(0, .slice A xs.length c), (3, .int .i64 (((m - 1 : Nat) : Int) - 1))] (m - 1) ⟨m - 1, rfl, by omega, ?_, rfl, rfl⟩ (by omega) ⟨rfl, ?_, trivial⟩
      · intro y hy
        rw [hd] at hy
        rcases List.mem_cons.1 hy with rfl | hy
        · exact hx255
        · exact hall y hy
      · rw [show (((m - 1 : Nat) : Int) - 1) = (m : Int) - 1 - 1 by omega]; rfl
  · obtain rfl : m = 0 := by omega
    have e : nextB xs = [] := next_none (by simpa using hall)
    refine wc_exit ?_; refine we_seq_exit ?_; refine we_loop_exit ?_; refine we_block_exit ?_; refine we_seq ?_; refine wc_sr ?_; refine wl_as rfl rfl ?_; refine wl_ns ?_; refine wc_ret ?_
    exact we_ret1 rfl rfl ⟨_, rfl, by rw [e]; exact ⟨none, 0, rfl, Ow.nil _ _ _, Below.refl _ _⟩⟩
end Go.Proofs.Ytdppekhnahnjjaa
