/-
  Walks over the opening of sealed records, of the program and of the reference.
-/
import Derived.Test.YtdppekhnahnjjaaVc
import Derived.Test.YtdppekhnahnjjaaPg
import Derived.Test.YtdppekhnahnjjaaWk
namespace Go.Proofs.Ytdppekhnahnjjaa
open Go.RowKit

theorem or_add {x y i : Nat} (h : y < 2 ^ i) : x * 2 ^ i ||| y = x * 2 ^ i + y := by
  have := Nat.shiftLeft_add_eq_or_of_lt h x
  rw [Nat.shiftLeft_eq] at this
  exact this.symm
theorem or4 {a b c d : Nat} (hb : b < 256) (hc : c < 256) (hd : d < 256) : a * 2 ^ 24 ||| b * 2 ^ 16 ||| c * 2 ^ 8 ||| d = ((a * 256 + b) * 256 + c) * 256 + d := by
  rw [or_add (show b * 2 ^ 16 < 2 ^ 24 by omega), show a * 2 ^ 24 + b * 2 ^ 16 = (a * 256 + b) * 2 ^ 16 by omega, or_add (show c * 2 ^ 8 < 2 ^ 16 by omega), show (a * 256 + b) * 2 ^ 16 + c * 2 ^ 8 = ((a * 256 + b) * 256 + c) * 2 ^ 8 by omega, or_add (show d < 2 ^ 8 by omega)]
theorem get_any {A : Option Addr} {n c : Nat} {xs : List UInt8} {w : World} (hr : RdB w A xs) (hn : xs.length = n) (h4 : 4 ≤ xs.length) :
    CallsV Try.prog 66 #[.slice A n c] w fun v w' => v = .int .u32 (numB (xs.take 4) : Nat) ∧ Below w.heap.size w w' := by
  subst hn
  obtain ⟨x0, h0⟩ : ∃ x, xs[0]? = some x := ⟨_, List.getElem?_eq_getElem (by omega)⟩
  obtain ⟨x1, h1⟩ : ∃ x, xs[1]? = some x := ⟨_, List.getElem?_eq_getElem (by omega)⟩
  obtain ⟨x2, h2⟩ : ∃ x, xs[2]? = some x := ⟨_, List.getElem?_eq_getElem (by omega)⟩
  obtain ⟨x3, h3⟩ : ∃ x, xs[3]? = some x := ⟨_, List.getElem?_eq_getElem (by omega)⟩
  have l0 := x0.toNat_lt
  have l1 := x1.toNat_lt
  have l2 := x2.toNat_lt
  have l3 := x3.toNat_lt
  have q0 : x0.toNat * 2 ^ 24 < 2 ^ 32 := Nat.lt_of_lt_of_le ((Nat.mul_lt_mul_right (by decide)).2 l0) (by decide)
  have q1 : x1.toNat * 2 ^ 16 < 2 ^ 32 := Nat.lt_of_lt_of_le ((Nat.mul_lt_mul_right (by decide)).2 l1) (by decide)
  have q2 : x2.toNat * 2 ^ 8 < 2 ^ 32 := Nat.lt_of_lt_of_le ((Nat.mul_lt_mul_right (by decide)).2 l2) (by decide)
  have q3 : x3.toNat < 2 ^ 32 := Nat.lt_of_lt_of_le l3 (by decide)
  have e : numB (xs.take 4) = ((x0.toNat * 256 + x1.toNat) * 256 + x2.toNat) * 256 + x3.toNat := by
    rw [numB_step h3, numB_step h2, numB_step h1, numB_step h0]; simp [numB]
  rw [← or4 (a := x0.toNat) l1 l2 l3] at e
  rw [e]
  refine calls_in (N := _) Try.func66 rfl Try.ntmps66 rfl ?_; show WC _ _ _ _ _ _
  refine wc_sr ?_; refine wl_as rfl rfl ?_; refine wl_ns ?_; refine wc_seq ?_
  refine wc_drawB mixed (by kernel_rfl) ?_
  apply wq_val; intro _ _; apply opv_move; exact rfl; exact rfl; apply wq_byK (T := tyB) (hr := hr) (hb := h0); exact rfl; exact rfl; exact rfl; exact rfl; exact rfl; intro _; apply wq_val; intro _ _; apply opv_convR; exact rfl; exact Try.underlying5; exact Try.underlying28; exact IntWalk.u32_in _ (by omega); exact rfl
  refine wq_val (fun _ _ => opv_bin (b := .int .u64 (24 : Nat)) rfl rfl ((bin_shl rfl).to (congrArg (fun z : Nat => Value.int .u32 (z : Int)) (Nat.mod_eq_of_lt q0)))) rfl ?_
  apply wq_val; intro _ _; apply opv_move; exact rfl; exact rfl; apply wq_byK (T := tyB) (hr := hr) (hb := h1); exact rfl; exact rfl; exact rfl; exact rfl; exact rfl; intro _; apply wq_val; intro _ _; apply opv_convR; exact rfl; exact Try.underlying5; exact Try.underlying28; exact IntWalk.u32_in _ (by omega); exact rfl
  refine wq_val (fun _ _ => opv_bin (b := .int .u64 (16 : Nat)) rfl rfl ((bin_shl rfl).to (congrArg (fun z : Nat => Value.int .u32 (z : Int)) (Nat.mod_eq_of_lt q1)))) rfl ?_
  refine wq_val (fun _ _ => opv_bin rfl rfl (bin_or rfl q0 q1)) rfl ?_
  apply wq_val; intro _ _; apply opv_move; exact rfl; exact rfl; apply wq_byK (T := tyB) (hr := hr) (hb := h2); exact rfl; exact rfl; exact rfl; exact rfl; exact rfl; intro _; apply wq_val; intro _ _; apply opv_convR; exact rfl; exact Try.underlying5; exact Try.underlying28; exact IntWalk.u32_in _ (by omega); exact rfl
  refine wq_val (fun _ _ => opv_bin (b := .int .u64 (8 : Nat)) rfl rfl ((bin_shl rfl).to (congrArg (fun z : Nat => Value.int .u32 (z : Int)) (Nat.mod_eq_of_lt q2)))) rfl ?_
  refine wq_val (fun _ _ => opv_bin rfl rfl (bin_or rfl (Nat.or_lt_two_pow q0 q1) q2)) rfl ?_
  apply wq_val; intro _ _; apply opv_move; exact rfl; exact rfl; apply wq_byK (T := tyB) (hr := hr) (hb := h3); exact rfl; exact rfl; exact rfl; exact rfl; exact rfl; intro _; apply wq_val; intro _ _; apply opv_convR; exact rfl; exact Try.underlying5; exact Try.underlying28; exact IntWalk.u32_in _ (by omega); exact rfl
  refine wq_val (fun _ _ => opv_bin rfl rfl (bin_or rfl (Nat.or_lt_two_pow (Nat.or_lt_two_pow q0 q1) q2) q3)) rfl ?_
  apply wq_val; intro _ _; apply opv_assign; exact rfl; exact rfl; refine wq_nil fun w1 hw1 => ?_
  refine we_seq ?_; refine wc_ret ?_
  exact we_ret1 rfl rfl ⟨_, rfl, rfl, hw1⟩

theorem openB_errY {xs y : List UInt8} {q : Nat} (h : q ≤ xs.length) (hy : xs.drop q = y) {r : List UInt8} {e : Nat} (ho : openH y = (r, e)) (he : ¬ e = 0) : openB xs q = ([], 0, e) := openB_err h (hy.symm ▸ ho) he
theorem openB_okY {xs y : List UInt8} {q : Nat} (h : q ≤ xs.length) (hy : xs.drop q = y) {r : List UInt8} (ho : openH y = (r, 0)) : openB xs q = (r, q + 8 + r.length, 0) := openB_ok h (hy.symm ▸ ho)
/-- A body, a place and an error are handed back. -/
def RetO (w : World) (x : List UInt8 × Nat × Nat) (v : Value) (w' : World) : Prop :=
  ∃ (A : Option Addr) (c : Nat), v = .tuple #[.slice A x.1.length c, .int .i64 (x.2.1 : Int), .int .i64 (x.2.2 : Int)] ∧ OwB w' w.heap.size A c x.1 ∧ Below w.heap.size w w'
theorem RetO.err {w w' : World} {x : List UInt8 × Nat × Nat} {e : Nat} {k : Int} (h : x = ([], 0, e)) (hk : k = e) (hb : Below w.heap.size w w') : RetO w x (.tuple #[.slice none 0 0, .int .i64 0, .int .i64 k]) w' := by
  subst h hk; exact ⟨none, 0, rfl, Ow.nil _ _ _, hb⟩
theorem RdBB.two' {w : World} {A A1 A2 : Option Addr} {n1 n2 c1 c2 : Nat} {r s : List UInt8} (h : Rd w A 2 [.slice A1 n1 c1, .slice A2 n2 c2]) (h1 : RdB w A1 r) (e1 : r.length = n1) (hc : r.length ≤ c1) (h2 : RdB w A2 s) (e2 : s.length = n2) (hc2 : s.length ≤ c2) : RdBB w A [r, s] := by
  subst e1 e2; exact RdBB.two h h1 hc h2 hc2

theorem open_any {A : Option Addr} {n c : Nat} {xs : List UInt8} {p : Int} {w : World} (hr : RdB w A xs) (hn : xs.length = n) (hc : xs.length ≤ c) (hl : xs.length ≤ 140737488355328) :
    CallsV Try.prog 53 #[.slice A n c, .int .i64 p] w (RetO w (openB xs p)) := by
  subst hn
  refine calls_in (N := _) Try.func53 rfl Try.ntmps53 rfl ?_; show WC _ _ _ _ _ _
  refine wc_sr ?_; refine wl_as rfl rfl ?_; refine wl_as rfl rfl ?_; refine wl_as rfl rfl ?_; refine wl_ns ?_; refine wc_seq ?_; refine wc_sr ?_; refine wl_mv rfl rfl ?_; refine wl_bin rfl rfl bin_lss rfl ?_; refine wl_mv rfl rfl ?_
  refine wl_cutV 5 16 (.bool (decide ((p < 0) ∨ ((xs.length : Int) < p)))) ?c8 ?_; (case c8 => (dsimp only [List.take]; by_cases hc0 : (p < 0); (focus (apply wl_skip; exact rfl; exact rfl; exact rfl; exact decide_eq_true (by assumption); exact rfl; apply wl_skip; exact rfl; exact rfl; exact rfl; exact decide_eq_true (by assumption); exact rfl; apply wl_skip; exact rfl; exact rfl; exact rfl; exact decide_eq_true (by assumption); exact rfl; apply wl_skip; exact rfl; exact rfl; exact rfl; exact decide_eq_true (by assumption); exact rfl; apply wl_val; apply opv_pickT; exact rfl; exact decide_eq_true (by assumption); exact rfl; exact rfl; refine wl_nil ?_; refine we_cut _ ⟨rfl, rfl⟩ ⟨congrArg (fun b => some (Value.bool b)) ?e8_0, ?s8_0⟩; (case e8_0 => ((simp [hc0]; done))); (case s8_0 => (refine And.intro rfl ?_; refine And.intro rfl ?_; refine And.intro rfl ?_; refine And.intro rfl ?_; refine And.intro rfl ?_; refine And.intro rfl ?_; refine And.intro rfl ?_; refine And.intro rfl ?_; exact True.intro)))); (focus (apply wl_take; exact rfl; exact rfl; exact rfl; exact decide_eq_false (by assumption); refine wl_mv rfl rfl ?_; apply wl_take; exact rfl; exact rfl; exact rfl; exact decide_eq_false (by assumption); refine wl_mv rfl rfl ?_; apply wl_take; exact rfl; exact rfl; exact rfl; exact decide_eq_false (by assumption); apply wl_val; apply opv_len; exact rfl; exact tyB.sl; exact rfl; apply wl_take; exact rfl; exact rfl; exact rfl; exact decide_eq_false (by assumption); refine wl_bin rfl rfl bin_gtr rfl ?_; apply wl_val; apply opv_pickF; exact rfl; exact decide_eq_false (by assumption); exact rfl; exact rfl; refine wl_nil ?_; refine we_cut _ ⟨rfl, rfl⟩ ⟨congrArg (fun b => some (Value.bool b)) ?e8_1, ?s8_1⟩; (case e8_1 => ((simp [hc0]; done))); (case s8_1 => (refine And.intro rfl ?_; refine And.intro rfl ?_; refine And.intro rfl ?_; refine And.intro rfl ?_; refine And.intro rfl ?_; refine And.intro rfl ?_; refine And.intro rfl ?_; refine And.intro rfl ?_; exact True.intro)))))); dsimp only [List.drop]
  refine wl_ns ?_
  refine wc_cond rfl (fun h => ?_) (fun h => ?_)
  · refine wc_sr ?_; refine wl_as rfl rfl ?_; refine wl_as rfl rfl ?_; refine wl_as rfl rfl ?_; refine wl_ns ?_; refine wc_ret ?_; refine we_seq_ret ?_
    exact we_ret3 rfl rfl rfl rfl ⟨_, rfl, RetO.err (openB_arg (by omega)) rfl (Below.refl _ _)⟩
  · obtain ⟨q, rfl⟩ := Int.eq_ofNat_of_zero_le (show 0 ≤ p by omega)
    have hq : q ≤ xs.length := by omega
    refine wc_skip ?_; refine we_seq ?_; refine wc_sr ?_; refine wl_mv rfl rfl ?_; refine wl_mv rfl rfl ?_
    refine wl_sl (l := q) (h := xs.length) tyB rfl ⟨_, rfl⟩ rfl hq (by omega) rfl ?_
    obtain ⟨y, hy⟩ : ∃ y, xs.drop q = y := ⟨_, rfl⟩
    have ry : RdB w (cutA A c q) y := by have := rd_cut hr hq (Nat.le_refl _) hc; rw [List.take_length, hy] at this; exact this
    have hyl : xs.length - q = y.length := by rw [← hy, List.length_drop]
    obtain ⟨Y, hY⟩ : ∃ Y, cutA A c q = Y := ⟨_, rfl⟩
    obtain ⟨d, hd⟩ : ∃ d, c - q = d := ⟨_, rfl⟩
    have hyd : y.length ≤ d := by omega
    rw [hY] at ry
    rw [hyl, hY, hd]
    refine wl_as rfl rfl ?_; refine wl_ns ?_; refine wc_seq ?_; refine wc_sr ?_; refine wl_mv rfl rfl ?_; apply wl_val; apply opv_len; exact rfl; exact tyB.sl; exact rfl; refine wl_bin rfl rfl bin_lss rfl ?_; refine wl_ns ?_
    refine wc_cond rfl (fun h8 => ?_) (fun h8 => ?_)
    · refine wc_sr ?_; refine wl_as rfl rfl ?_; refine wl_as rfl rfl ?_; refine wl_as rfl rfl ?_; refine wl_ns ?_; refine wc_ret ?_; refine we_seq_ret ?_
      exact we_ret3 rfl rfl rfl rfl ⟨_, rfl, RetO.err (openB_errY hq hy (openH_short (by omega)) (by decide)) rfl (Below.refl _ _)⟩
    · refine wc_skip ?_; refine we_seq ?_; refine wc_sr ?_; refine wl_mv rfl rfl ?_
      refine wl_call ok_crc_get (get_any ry rfl (by omega)) ⟨rfl, trivial⟩ rfl ?_
      rintro _ w1 ⟨rfl, hb1⟩
      obtain ⟨n, hn⟩ : ∃ n, numB (y.take 4) = n := ⟨_, rfl⟩
      have hnl : n < 4294967296 := by rw [← hn]; exact numB_lt4 (by simp; omega)
      rw [hn]
      replace ry := RdB.below ry hb1
      refine wl_as rfl rfl ?_; refine wl_ns ?_; refine wc_seq ?_; refine wc_sr ?_; refine wl_mv rfl rfl ?_; refine wl_bin rfl rfl bin_gtr rfl ?_; refine wl_ns ?_
      refine wc_cond rfl (fun h2 => ?_) (fun h2 => ?_)
      · refine wc_sr ?_; refine wl_as rfl rfl ?_; refine wl_as rfl rfl ?_; refine wl_as rfl rfl ?_; refine wl_ns ?_; refine wc_ret ?_; refine we_seq_ret ?_
        exact we_ret3 rfl rfl rfl rfl ⟨_, rfl, RetO.err (openB_errY hq hy (openH_size (by omega) (by omega)) (by decide)) rfl hb1⟩
      · refine wc_skip ?_; refine we_seq ?_; refine wc_sr ?_; refine wl_mv rfl rfl ?_; apply wl_val; apply opv_convR; exact rfl; exact Try.underlying28; exact Try.underlying3; exact IntWalk.i64_in _ (by omega); exact rfl; apply wl_val; apply opv_bin; exact rfl; exact rfl; exact bin_add64 (by omega); exact rfl; refine wl_as rfl rfl ?_; refine wl_ns ?_; refine wc_seq ?_; refine wc_sr ?_; refine wl_mv rfl rfl ?_; apply wl_val; apply opv_len; exact rfl; exact tyB.sl; exact rfl; refine wl_mv rfl rfl ?_; refine wl_bin rfl rfl bin_lss rfl ?_; refine wl_ns ?_
        refine wc_cond rfl (fun h3 => ?_) (fun h3 => ?_)
        · refine wc_sr ?_; refine wl_as rfl rfl ?_; refine wl_as rfl rfl ?_; refine wl_as rfl rfl ?_; refine wl_ns ?_; refine wc_ret ?_; refine we_seq_ret ?_
          exact we_ret3 rfl rfl rfl rfl ⟨_, rfl, RetO.err (openB_errY hq hy (openH_end (by omega) (by omega) (by omega)) (by decide)) rfl hb1⟩
        · have hyn : 8 + n ≤ y.length := by omega
          have hbl : ((y.take (8 + n)).drop 8).length = n := by simp; omega
          refine wc_skip ?_; refine we_seq ?_; refine wc_seq ?_; refine wc_seq ?_
          refine wc_heldB mixed fun w2 hS => ?_
          apply wh_take 0; exact rfl; kernel_rfl; kernel_rfl; kernel_rfl; exact hS; intro _ _; apply opv_move; exact rfl; exact rfl
          refine wh_take 1 rfl (by kernel_rfl) (by kernel_rfl) (by kernel_rfl) hS (fun _ _ => opv_slice (l := 0) (h := 4) tyB rfl rfl ⟨_, rfl⟩ (by omega) (by omega)) rfl ?_
          apply wh_take 2; exact rfl; kernel_rfl; kernel_rfl; kernel_rfl; exact hS; intro _ _; apply opv_move; exact rfl; exact rfl; apply wh_take 3; exact rfl; kernel_rfl; kernel_rfl; kernel_rfl; exact hS; intro _ _; apply opv_move; exact rfl; exact rfl
          refine wh_take 4 rfl (by kernel_rfl) (by kernel_rfl) (by kernel_rfl) hS (fun _ _ => opv_slice (l := 8) (h := 8 + n) tyB rfl ⟨_, rfl⟩ ⟨_, by simp only [Int.natCast_add]; rfl⟩ (by omega) (by omega)) rfl ?_
          apply wh_take 7; exact rfl; kernel_rfl; kernel_rfl; kernel_rfl; exact hS; intro _ _; apply opv_move; exact rfl; exact rfl
          refine wh_take 8 rfl (by kernel_rfl) (by kernel_rfl) (by kernel_rfl) hS (fun _ _ => opv_slice (l := 4) (h := y.length) tyB rfl ⟨_, rfl⟩ rfl (by omega) (by omega)) rfl ?_
          refine wh_one 5 (o := ⟨_, _, _, _, _, _⟩) (by kernel_rfl) rfl ?_
          refine wl_bs (vs := [_, _]) tyBB ⟨rfl, rfl, rfl, rfl, rfl, rfl, trivial⟩ rfl (by decide) rfl fun A5 w5 o5 h5 _ => ?_
          have hS5 := hS.trans (h5.mono hS.size)
          replace ry := RdB.below ry hS5
          have rA : RdB w5 (cutA Y d 0) (y.take 4) := by have := rd_cut (l := 0) (h := 4) ry (by omega) (by omega) hyd; exact this
          have rB := rd_cut (l := 8) (h := 8 + n) ry (by omega) hyn hyd
          have rC := rd_cut (l := 4) (h := y.length) ry (by omega) (Nat.le_refl _) hyd
          rw [List.take_length] at rC
          have hrows := RdBB.two' o5.rd rA (by simp; omega) (by simp; omega) rB (by simp; omega) (by simp; omega)
          refine wl_nil ?_
          refine we_held hS5 ?_
          refine wh_one 6 (o := ⟨_, _, _, _, _, _⟩) (by kernel_rfl) rfl ?_
          refine wl_call ok_crc_Sum (sum_any hrows rfl (by simp only [maxLen]; simp; omega) (by simp only [maxLen]; simp)) ⟨rfl, trivial⟩ rfl ?_
          rintro _ w6 ⟨rfl, h6⟩
          have hS6 := hS5.trans (h6.mono hS5.size)
          refine wl_nil ?_
          refine we_held hS6 ?_
          refine wh_one 9 (o := ⟨_, _, _, _, _, _⟩) (by kernel_rfl) rfl ?_
          refine wl_call ok_crc_get (get_any (RdB.below rC h6) (by simp) (by simp; omega)) ⟨rfl, trivial⟩ rfl ?_
          rintro _ w7 ⟨rfl, h7⟩
          have hS7 := hS6.trans (h7.mono hS6.size)
          refine wl_nil ?_
          refine we_held hS7 ?_
          obtain ⟨s, hs⟩ : ∃ s, crcOf [y.take 4, (y.take (8 + n)).drop 8].flatten = s := ⟨_, rfl⟩
          obtain ⟨t, ht⟩ : ∃ t, numB ((y.drop 4).take 4) = t := ⟨_, rfl⟩
          rw [hs, ht]
          have hs' : crcOf (y.take 4 ++ (y.take (8 + n)).drop 8) = s := by rw [← hs]; simp
          apply wh_take 10; exact rfl; kernel_rfl; kernel_rfl; kernel_rfl; exact hS7; intro _ _; apply opv_bin; exact rfl; exact rfl; exact bin_neq; exact rfl
          refine wh_done (by kernel_rfl) ?_
          have hb7 := hb1.trans (hS7.mono hb1.size)
          refine we_seq ?_
          refine wc_cond rfl (fun h4 => ?_) (fun h4 => ?_)
          · refine wc_sr ?_; refine wl_as rfl rfl ?_; refine wl_as rfl rfl ?_; refine wl_as rfl rfl ?_; refine wl_ns ?_; refine wc_ret ?_; refine we_seq_ret ?_
            exact we_ret3 rfl rfl rfl rfl ⟨_, rfl, RetO.err (openB_errY hq hy (openH_sum (by omega) (by omega) (by omega) (by rw [hn, hs', ht]; omega)) (by decide)) rfl hb7⟩
          · refine wc_skip ?_; refine we_seq ?_; refine wc_sr ?_; refine wl_mv rfl rfl ?_; refine wl_mv rfl rfl ?_
            refine wl_sl (l := 8) (h := 8 + n) tyB rfl ⟨_, rfl⟩ ⟨_, by simp only [Int.natCast_add]; rfl⟩ (by omega) (by omega) rfl ?_
            have rD := RdB.below rB (h6.trans (h7.mono h6.size))
            refine wl_call ok_bytes_Clone (clone_any rD (by rw [hbl]; omega) (by rw [hbl]; omega)) ⟨rfl, trivial⟩ rfl ?_
            rintro _ w8 ⟨A8, c8, rfl, o8, h8'⟩
            have hb8 := hb7.trans (h8'.mono hb7.size)
            have eo := openB_okY hq hy (openH_ok (y := y) (by omega) (by omega) (by omega) (by rw [hn, hs', ht]; omega))
            rw [hn] at eo
            refine wl_mv rfl rfl ?_; refine wl_mv rfl rfl ?_; apply wl_val; apply opv_bin; exact rfl; exact rfl; exact bin_add64 (by omega); exact rfl; refine wl_as rfl rfl ?_; refine wl_as rfl rfl ?_; refine wl_as rfl rfl ?_; refine wl_ns ?_; refine wc_ret ?_
            refine we_ret3 rfl rfl rfl rfl ⟨_, rfl, ?_⟩
            rw [eo]
            refine ⟨A8, c8, ?_, Ow.mono o8 hb7.size, hb8⟩
            rw [hbl, show (q : Int) + (8 + (n : Int)) = ((q + 8 + n : Nat) : Int) by omega]; rfl

/-- Records and a place are handed back. -/
def RetOA (w : World) (x : List (List UInt8) × Nat) (v : Value) (w' : World) : Prop :=
  ∃ (A : Option Addr) (c : Nat), v = .tuple #[.slice A x.1.length c, .int .i64 (x.2 : Int)] ∧ OwBB w' w.heap.size A c x.1 ∧ Below w.heap.size w w'
theorem open_at {A : Option Addr} {n c : Nat} {xs : List UInt8} {p : Int} {w : World} {x : List UInt8 × Nat × Nat} (h : openB xs p = x) (hr : RdB w A xs) (hn : xs.length = n) (hc : xs.length ≤ c) (hl : xs.length ≤ 140737488355328) :
    CallsV Try.prog 53 #[.slice A n c, .int .i64 p] w (RetO w x) := h ▸ open_any hr hn hc hl

theorem openAll_any {A : Option Addr} {n c : Nat} {xs : List UInt8} {w : World} (hr : RdB w A xs) (hn : xs.length = n) (hc : xs.length ≤ c) (hl : xs.length ≤ 1099511627776) : CallsV Try.prog 49 #[.slice A n c] w (RetOA w (openAll xs)) := by
  subst hn
  refine calls_in (N := _) Try.func49 rfl Try.ntmps49 rfl ?_; show WC _ _ _ _ _ _
  refine wc_sr ?_; refine wl_as rfl rfl ?_; refine wl_as rfl rfl ?_; refine wl_ns ?_; refine wc_sr ?_; refine wl_as rfl rfl ?_; refine wl_ns ?_; refine wc_sr ?_; refine wl_as rfl rfl ?_; refine wl_ns ?_; refine wc_seq ?_; refine wc_block ?_
  refine wc_loop (fun L wr m => ∃ (q f : Nat) (out : List (List UInt8)) (P : Option Addr) (cp : Nat), L = [(0, .slice A xs.length c), (4, .slice P out.length cp), (5, .int .i64 (q : Int))] ∧ q ≤ xs.length ∧ xs.length - q ≤ f ∧ openAll xs = openAllF f xs q out ∧ out.length ≤ q ∧ OwBB wr w.heap.size P cp out ∧ Below w.heap.size w wr ∧ m = xs.length - q)
    [(0, .slice A xs.length c), (4, .slice none 0 0), (5, .int .i64 (0 : Nat))] xs.length ⟨0, xs.length, [], none, 0, rfl, by omega, by omega, rfl, by simp, OwBB.nil _ _, Below.refl _ _, rfl⟩ ⟨rfl, rfl, rfl, trivial⟩ ?_
  rintro _ w1 m ⟨q, f, out, P, cp, rfl, hq, hf, hp, hol, o1, hb1, rfl⟩
  refine wc_seq ?_; refine wc_sr ?_; refine wl_mv rfl rfl ?_; refine wl_mv rfl rfl ?_; apply wl_val; apply opv_len; exact rfl; exact tyB.sl; exact rfl; refine wl_bin rfl rfl bin_lss rfl ?_; refine wl_ns ?_
  refine wc_cond rfl (fun h1 => ?_) (fun h1 => ?_)
  · obtain ⟨f, rfl⟩ : ∃ g, f = g + 1 := ⟨f - 1, by omega⟩
    obtain ⟨r, x, e, hu⟩ : ∃ r x e, openB xs q = (r, x, e) := ⟨_, _, _, rfl⟩
    have r1 := RdB.below hr hb1
    refine wc_skip ?_; refine we_seq ?_; refine wc_block ?_; refine wc_sr ?_; refine wl_mv rfl rfl ?_; refine wl_mv rfl rfl ?_
    refine wl_call ok_crc_Open (open_at hu r1 rfl hc (by omega)) ⟨rfl, rfl, trivial⟩ rfl ?_
    rintro _ w2 ⟨A2, c2, rfl, o2, h2⟩
    have hb2 := hb1.trans (h2.mono hb1.size)
    dsimp only at o2
    refine wl_mv rfl rfl ?_; apply wl_val; apply opv_extract; exact rfl; exact rfl; exact rfl; apply wl_val; apply opv_extract; exact rfl; exact rfl; exact rfl; apply wl_val; apply opv_extract; exact rfl; exact rfl; exact rfl; refine wl_as rfl rfl ?_; refine wl_as rfl rfl ?_; refine wl_as rfl rfl ?_; refine wl_ns ?_; refine wc_seq ?_; refine wc_sr ?_; refine wl_mv rfl rfl ?_; refine wl_bin rfl rfl bin_neq rfl ?_; refine wl_ns ?_
    by_cases he : e = 0
    · subst he
      obtain ⟨rfl, hxl, _⟩ := openB_inv hq hu
      refine wc_cond rfl (fun h => absurd rfl h) (fun _ => ?_)
      refine wc_skip ?_; refine we_seq ?_; refine wc_region ?_; refine wl_mv rfl rfl ?_; refine wl_mv rfl rfl ?_
      refine wl_pushR o1 h2 hb1.size o2 hb2 rfl (by omega) rfl rfl rfl rfl rfl fun p A4 c4 w4 o4 hb4 => ?_
      refine wl_mv rfl rfl ?_; refine wl_as rfl rfl ?_; refine wl_as rfl rfl ?_; refine wl_nil ?_; refine we_block_norm ?_
      refine we_loop [(0, .slice A xs.length c), (4, .slice A4 (out ++ [r]).length c4), (5, .int .i64 ((q + 8 + r.length : Nat) : Int))] (xs.length - (q + 8 + r.length)) ⟨q + 8 + r.length, f, _, A4, c4, rfl, hxl, by omega, ?_, by simp; omega, o4, hb4, rfl⟩ (by omega) ⟨rfl, by rw [List.length_append]; rfl, rfl, trivial⟩
      rw [hp, openAllF_step (by omega) hu]
    · refine wc_cond rfl (fun _ => ?_) (fun h => absurd (fun h' => he (by exact_mod_cast h')) h)
      refine wc_exit ?_; refine we_seq_exit ?_; apply we_block_pass; exact rfl; refine we_loop_exit ?_; refine we_block_exit ?_; refine we_seq ?_; refine wc_sr ?_; refine wl_mv rfl rfl ?_; refine wl_mv rfl rfl ?_; refine wl_as rfl rfl ?_; refine wl_as rfl rfl ?_; refine wl_ns ?_; refine wc_ret ?_
      refine we_ret2 rfl rfl rfl ⟨_, rfl, ?_⟩
      rw [hp, openAllF_err hu he]
      exact ⟨P, cp, rfl, o1.below h2, hb2⟩
  · refine wc_exit ?_; refine we_seq_exit ?_; refine we_loop_exit ?_; refine we_block_exit ?_; refine we_seq ?_; refine wc_sr ?_; refine wl_mv rfl rfl ?_; refine wl_mv rfl rfl ?_; refine wl_as rfl rfl ?_; refine wl_as rfl rfl ?_; refine wl_ns ?_; refine wc_ret ?_
    refine we_ret2 rfl rfl rfl ⟨_, rfl, ?_⟩
    rw [hp, openAllF_end (by omega)]
    exact ⟨P, cp, rfl, o1, hb1⟩
end Go.Proofs.Ytdppekhnahnjjaa
