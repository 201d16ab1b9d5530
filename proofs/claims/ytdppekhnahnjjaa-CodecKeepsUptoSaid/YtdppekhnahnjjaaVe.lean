/-
  Walks over the reference's sealed records.
-/
import Derived.Test.YtdppekhnahnjjaaVd
namespace Go.Proofs.Ytdppekhnahnjjaa
open Go.RowKit

theorem OwB.of {w : World} {base n c : Nat} {A : Option Addr} {vs : List Value} {ys : List UInt8} (h : Ow w base 5 A n c vs) (hn : ys.length = n) (hv : bvs ys = vs) : OwB w base A c ys := by subst hn hv; exact h
theorem refFour_any (n : Nat) (hn : n < 4294967296) (w : World) : CallsV Try.prog 65 #[.int .u32 n] w fun v w' => ∃ (A : Option Addr) (c : Nat), v = .slice A 4 c ∧ RdB w' A (four n) ∧ Below w.heap.size w w' := by
  refine calls_in (N := _) Try.func65 rfl Try.ntmps65 rfl ?_; show WC _ _ _ _ _ _
  refine wc_sr ?_; refine wl_as rfl rfl ?_; refine wl_ns ?_; refine wc_sr ?_; refine wl_mv rfl rfl ?_; apply wl_val; apply opv_convR; exact rfl; exact Try.underlying28; exact Try.underlying37; exact IntWalk.u64_in _ (by omega); exact rfl
  refine wl_call ok_caissonref01_OrdU (refOrdU_any n (by omega) w) ⟨rfl, trivial⟩ rfl ?_
  rintro _ w1 ⟨A1, c1, rfl, o1, hb1⟩
  have hc := o1.cap
  have rc := rd_cut (l := 4) (h := 8) o1.rd (by omega) (by rw [ordU_length]; omega) hc
  rw [List.take_of_length_le (by rw [ordU_length]; omega), ordU_four] at rc
  rw [ordU_length] at hc ⊢
  refine wl_as rfl rfl ?_; refine wl_ns ?_; refine wc_sr ?_; refine wl_mv rfl rfl ?_
  refine wl_sl (l := 4) (h := 8) tyB rfl ⟨_, rfl⟩ rfl (by omega) (by omega) rfl ?_
  refine wl_as rfl rfl ?_; refine wl_ns ?_; refine wc_ret ?_
  exact we_ret1 rfl rfl ⟨_, rfl, _, _, rfl, rc, hb1⟩

/-- Bytes and an error are handed back. -/
def RetS (w : World) (x : List UInt8 × Nat) (v : Value) (w' : World) : Prop :=
  ∃ (A : Option Addr) (c : Nat), v = .tuple #[.slice A x.1.length c, .int .i64 (x.2 : Int)] ∧ OwB w' w.heap.size A c x.1 ∧ Below w.heap.size w w'
theorem refSeal_any {A : Option Addr} {n c : Nat} {xs : List UInt8} {w : World} (hr : RdB w A xs) (hn : xs.length = n) :
    CallsV Try.prog 52 #[.slice A n c] w (RetS w (sealB xs)) := by
  subst hn
  refine calls_in (N := _) Try.func52 rfl Try.ntmps52 rfl ?_; show WC _ _ _ _ _ _
  refine wc_sr ?_; refine wl_as rfl rfl ?_; refine wl_as rfl rfl ?_; refine wl_ns ?_; refine wc_seq ?_; refine wc_sr ?_; refine wl_mv rfl rfl ?_; apply wl_val; apply opv_len; exact rfl; exact tyB.sl; exact rfl; refine wl_bin rfl rfl bin_gtr rfl ?_; refine wl_ns ?_
  refine wc_cond rfl (fun h => ?_) (fun h => ?_)
  · refine wc_sr ?_; refine wl_as rfl rfl ?_; refine wl_as rfl rfl ?_; refine wl_ns ?_; refine wc_ret ?_; refine we_seq_ret ?_
    refine we_ret2 rfl rfl rfl ⟨_, rfl, ?_⟩
    rw [sealB, if_pos (by omega)]
    exact ⟨none, 0, rfl, Ow.nil _ _ _, Below.refl _ _⟩
  · have hl : xs.length ≤ 1048576 := by omega
    refine wc_skip ?_; refine we_seq ?_; refine wc_sr ?_; refine wl_mv rfl rfl ?_; apply wl_val; apply opv_len; exact rfl; exact tyB.sl; exact rfl; apply wl_val; apply opv_convR; exact rfl; exact Try.underlying3; exact Try.underlying28; exact IntWalk.u32_in _ (by omega); exact rfl
    refine wl_call ok_caissonref03_four (refFour_any xs.length (by omega) w) ⟨rfl, trivial⟩ rfl ?_
    rintro _ w1 ⟨A1, c1, rfl, r1, hb⟩
    replace hr := RdB.below hr hb
    refine wl_as rfl rfl ?_; refine wl_ns ?_; refine wc_sr ?_; refine wl_mv rfl rfl ?_
    refine wl_call ok_caissonref01_Copy (copy_any r1 (four_length _) (by rw [four_length]; decide)) ⟨rfl, trivial⟩ rfl ?_
    rintro _ w2 ⟨A2, c2, rfl, o2, h2⟩
    rw [four_length]
    unfold OwB at o2
    rw [four_length] at o2
    refine wl_mv rfl rfl ?_
    refine wl_app tyB rfl o2 rfl (RdB.below hr h2) (bvs_one _) (by omega) (by simp only [maxLen]; omega) h2.size rfl fun A3 c3 w3 o3 g3 _ => ?_
    have h3 : Below w1.heap.size w1 w3 := g3.below h2 o2 (Nat.le_refl _) h2.size
    have o3' : OwB w3 w1.heap.size A3 c3 (four xs.length ++ xs) := OwB.of o3 (by simp [four_length]) (bvs_append _ _)
    refine wl_call ok_caissonref03_Sum (refSum_any o3'.rd (by simp [four_length]) (by simp [four_length, maxLen]; omega)) ⟨rfl, trivial⟩ rfl ?_
    rintro _ _ ⟨rfl, rfl⟩
    obtain ⟨s, hs⟩ : ∃ s, crcOf (four xs.length ++ xs) = s := ⟨_, rfl⟩
    have hsl : s < 4294967296 := hs ▸ crcOf_lt _
    rw [hs]
    replace hb := hb.trans (h3.mono hb.size)
    replace r1 := RdB.below r1 h3
    replace hr := RdB.below hr h3
    clear h2 o2 o3 o3' g3 h3
    refine wl_as rfl rfl ?_; refine wl_ns ?_; refine wc_sr ?_; refine wl_mv rfl rfl ?_
    refine wl_call ok_caissonref01_Copy (copy_any r1 (four_length _) (by rw [four_length]; decide)) ⟨rfl, trivial⟩ rfl ?_
    rintro _ w4 ⟨A4, c4, rfl, o4, h4⟩
    rw [four_length]
    refine wl_mv rfl rfl ?_
    refine wl_call ok_caissonref03_four (refFour_any s hsl w4) ⟨rfl, trivial⟩ rfl ?_
    rintro _ w5 ⟨A5, c5, rfl, r5, h5⟩
    replace o4 := OwB.below o4 h5
    unfold OwB at o4
    rw [four_length] at o4
    have h45 := h4.trans (h5.mono h4.size)
    unfold RdB at r5
    rw [four_length] at r5
    refine wl_app tyB rfl o4 rfl r5 (bvs_one _) (by omega) (by simp only [maxLen]; omega) h45.size rfl fun A6 c6 w6 o6 g6 _ => ?_
    have h6 : Below w3.heap.size w3 w6 := g6.below h45 o4 (Nat.le_refl _) h45.size
    refine wl_mv rfl rfl ?_
    refine wl_app tyB rfl o6 rfl (RdB.below hr h6) (bvs_one _) (by omega) (by simp only [maxLen]; omega) h6.size rfl fun A7 c7 w7 o7 g7 _ => ?_
    have h7 : Below w3.heap.size w3 w7 := g7.below h6 o6 (Nat.le_refl _) h6.size
    have o7' : OwB w7 w3.heap.size A7 c7 (crcRec xs) := OwB.of o7 (by rw [crcRec_length]) (by rw [crcRec, hs]; simp [bvs_append])
    refine wl_as rfl rfl ?_; refine wl_as rfl rfl ?_; refine wl_ns ?_; refine wc_ret ?_
    refine we_ret2 rfl rfl rfl ⟨_, rfl, ?_⟩
    rw [sealB, if_neg (by omega)]
    exact ⟨A7, c7, by dsimp only; rw [crcRec_length]; rfl, Ow.mono o7' hb.size, hb.trans (h7.mono hb.size)⟩

theorem numB_lt4' {l : List UInt8} {k : Nat} (h : k ≤ 4) : numB (l.take k) < 4294967296 := by
  have h1 := numB_lt (l.take k)
  have h2 : 256 ^ (l.take k).length ≤ 256 ^ 4 := Nat.pow_le_pow_right (by decide) (by simp; omega)
  exact Nat.lt_of_lt_of_le h1 h2
theorem sealB_ok {l : List UInt8} (h : l.length ≤ 1048576) : sealB l = (crcRec l, 0) := by rw [sealB, if_neg (by omega)]
theorem refSeal_ok {A : Option Addr} {n c : Nat} {xs : List UInt8} {w : World} (h : xs.length ≤ 1048576) (hr : RdB w A xs) (hn : xs.length = n) :
    CallsV Try.prog 52 #[.slice A n c] w (RetS w (crcRec xs, 0)) := sealB_ok h ▸ refSeal_any hr hn
theorem refOpen_any {A : Option Addr} {n c : Nat} {xs : List UInt8} {p : Int} {w : World} (hr : RdB w A xs) (hn : xs.length = n) (hc : xs.length ≤ c) (hl : xs.length ≤ 140737488355328) (hp : -9223372036854775808 ≤ p ∧ p ≤ 9223372036854775807) :
    CallsV Try.prog 54 #[.slice A n c, .int .i64 p] w (RetO w (openB xs p)) := by
  subst hn
  refine calls_in (N := _) Try.func54 rfl Try.ntmps54 rfl ?_; show WC _ _ _ _ _ _
  refine wc_sr ?_; refine wl_as rfl rfl ?_; refine wl_as rfl rfl ?_; refine wl_as rfl rfl ?_; refine wl_ns ?_; refine wc_seq ?_; refine wc_sr ?_; refine wl_mv rfl rfl ?_; refine wl_bin rfl rfl bin_lss rfl ?_; refine wl_mv rfl rfl ?_
  refine wl_cutV 5 19 (.bool (decide ((p < 0) ∨ ((xs.length : Int) < p)))) ?c13 ?_; (case c13 => (dsimp only [List.take]; by_cases hc0 : (p < 0); (focus (apply wl_skip; exact rfl; exact rfl; exact rfl; exact decide_eq_true (by assumption); exact rfl; apply wl_skip; exact rfl; exact rfl; exact rfl; exact decide_eq_true (by assumption); exact rfl; apply wl_skip; exact rfl; exact rfl; exact rfl; exact decide_eq_true (by assumption); exact rfl; apply wl_skip; exact rfl; exact rfl; exact rfl; exact decide_eq_true (by assumption); exact rfl; apply wl_val; apply opv_pickT; exact rfl; exact decide_eq_true (by assumption); exact rfl; exact rfl; refine wl_nil ?_; refine we_cut _ ⟨rfl, rfl⟩ ⟨congrArg (fun b => some (Value.bool b)) ?e13_0, ?s13_0⟩; (case e13_0 => ((simp [hc0]; done))); (case s13_0 => (refine And.intro rfl ?_; refine And.intro rfl ?_; refine And.intro rfl ?_; refine And.intro rfl ?_; refine And.intro rfl ?_; refine And.intro rfl ?_; refine And.intro rfl ?_; refine And.intro rfl ?_; exact True.intro)))); (focus (apply wl_take; exact rfl; exact rfl; exact rfl; exact decide_eq_false (by assumption); refine wl_mv rfl rfl ?_; apply wl_take; exact rfl; exact rfl; exact rfl; exact decide_eq_false (by assumption); refine wl_mv rfl rfl ?_; apply wl_take; exact rfl; exact rfl; exact rfl; exact decide_eq_false (by assumption); apply wl_val; apply opv_len; exact rfl; exact tyB.sl; exact rfl; apply wl_take; exact rfl; exact rfl; exact rfl; exact decide_eq_false (by assumption); refine wl_bin rfl rfl bin_gtr rfl ?_; apply wl_val; apply opv_pickF; exact rfl; exact decide_eq_false (by assumption); exact rfl; exact rfl; refine wl_nil ?_; refine we_cut _ ⟨rfl, rfl⟩ ⟨congrArg (fun b => some (Value.bool b)) ?e13_1, ?s13_1⟩; (case e13_1 => ((simp [hc0]; done))); (case s13_1 => (refine And.intro rfl ?_; refine And.intro rfl ?_; refine And.intro rfl ?_; refine And.intro rfl ?_; refine And.intro rfl ?_; refine And.intro rfl ?_; refine And.intro rfl ?_; refine And.intro rfl ?_; exact True.intro)))))); dsimp only [List.drop]
  refine wl_ns ?_
  refine wc_cond rfl (fun h => ?_) (fun h => ?_)
  · refine wc_sr ?_; refine wl_as rfl rfl ?_; refine wl_as rfl rfl ?_; refine wl_as rfl rfl ?_; refine wl_ns ?_; refine wc_ret ?_; refine we_seq_ret ?_
    exact we_ret3 rfl rfl rfl rfl ⟨_, rfl, RetO.err (openB_arg (by omega)) rfl (Below.refl _ _)⟩
  · obtain ⟨q, rfl⟩ := Int.eq_ofNat_of_zero_le (show 0 ≤ p by omega)
    have hq : q ≤ xs.length := by omega
    obtain ⟨y, hy⟩ : ∃ y, xs.drop q = y := ⟨_, rfl⟩
    have hyl : xs.length - q = y.length := by rw [← hy, List.length_drop]
    have hget : ∀ k, y[k]? = xs[q + k]? := fun k => by rw [← hy, List.getElem?_drop]
    refine wc_skip ?_; refine we_seq ?_; refine wc_seq ?_; refine wc_sr ?_; refine wl_mv rfl rfl ?_; apply wl_val; apply opv_len; exact rfl; exact tyB.sl; exact rfl; refine wl_mv rfl rfl ?_; apply wl_val; apply opv_bin; exact rfl; exact rfl; exact bin_sub64 (by omega); exact rfl; refine wl_bin rfl rfl bin_lss rfl ?_; refine wl_ns ?_
    refine wc_cond rfl (fun h8 => ?_) (fun h8 => ?_)
    · refine wc_sr ?_; refine wl_as rfl rfl ?_; refine wl_as rfl rfl ?_; refine wl_as rfl rfl ?_; refine wl_ns ?_; refine wc_ret ?_; refine we_seq_ret ?_
      exact we_ret3 rfl rfl rfl rfl ⟨_, rfl, RetO.err (openB_errY hq hy (openH_short (by omega)) (by decide)) rfl (Below.refl _ _)⟩
    · refine wc_skip ?_; refine we_seq ?_; refine wc_sr ?_; refine wl_as rfl rfl ?_; refine wl_ns ?_; refine wc_seq ?_; refine wc_sr ?_; refine wl_as rfl rfl ?_; refine wl_ns ?_; refine wc_block ?_
      refine wc_loop (fun L wr m => ∃ k : Nat, L = [(0, .slice A xs.length c), (1, .int .i64 (q : Int)), (7, .int .i64 (numB (y.take k) : Nat)), (8, .int .i64 (k : Int))] ∧ k ≤ 4 ∧ w = wr ∧ m = 4 - k)
        [(0, .slice A xs.length c), (1, .int .i64 (q : Int)), (7, .int .i64 (0 : Nat)), (8, .int .i64 (0 : Nat))] 4 ⟨0, rfl, by omega, rfl, rfl⟩ ⟨rfl, rfl, rfl, rfl, trivial⟩ ?_
      rintro _ _ m ⟨k, rfl, hk, rfl, rfl⟩
      have hnl := numB_lt4' (l := y) hk
      refine wc_seq ?_; refine wc_sr ?_; refine wl_mv rfl rfl ?_; refine wl_bin rfl rfl bin_lss rfl ?_; refine wl_ns ?_
      refine wc_cond rfl (fun h1 => ?_) (fun h1 => ?_)
      · obtain ⟨x, hx⟩ : ∃ x, y[k]? = some x := ⟨_, List.getElem?_eq_getElem (by omega)⟩
        have hx2 := hx
        rw [hget] at hx2
        have hxl := x.toNat_lt
        refine wc_skip ?_; refine we_seq ?_; refine wc_seq ?_; refine wc_block ?_; refine wc_region ?_; refine wl_mv rfl rfl ?_
        refine wl_val (opv_bin (b := .int .i64 (256 : Nat)) rfl rfl (bin_mulN (by omega))) rfl ?_
        refine wl_mv rfl rfl ?_; refine wl_mv rfl rfl ?_; refine wl_mv rfl rfl ?_; apply wl_val; apply opv_bin; exact rfl; exact rfl; exact bin_add64 (by omega); exact rfl; apply wl_byK (T := tyB) (hr := hr) (hb := hx2); exact rfl; exact rfl; exact rfl; exact rfl; exact rfl; intro _; apply wl_val; apply opv_convR; exact rfl; exact Try.underlying5; exact Try.underlying3; exact IntWalk.i64_in _ (by omega); exact rfl; apply wl_val; apply opv_bin; exact rfl; exact rfl; exact bin_add64 (by omega); exact rfl; refine wl_as rfl rfl ?_; refine wl_nil ?_; refine we_block_norm ?_; refine we_seq ?_; refine wc_region ?_; refine wl_mv rfl rfl ?_; apply wl_val; apply opv_bin; exact rfl; exact rfl; exact bin_add64 (by omega); exact rfl; refine wl_as rfl rfl ?_; refine wl_nil ?_
        have en : ((numB (y.take k) * 256 : Nat) : Int) + (x.toNat : Int) = (numB (y.take (k + 1)) : Nat) := by rw [numB_step hx]; omega
        rw [en]
        skip
        refine we_loop [(0, .slice A xs.length c), (1, .int .i64 (q : Int)), (7, .int .i64 (numB (y.take (k + 1)) : Nat)), (8, .int .i64 ((k + 1 : Nat) : Int))] (4 - (k + 1)) ⟨k + 1, rfl, by omega, rfl, rfl⟩ (by omega) ⟨rfl, rfl, rfl, rfl, trivial⟩
      · obtain rfl : k = 4 := by omega
        obtain ⟨n, hn⟩ : ∃ n, numB (y.take 4) = n := ⟨_, rfl⟩
        rw [hn] at hnl ⊢
        refine wc_exit ?_; refine we_seq_exit ?_; refine we_loop_exit ?_; refine we_block_exit ?_; refine we_seq ?_; refine wc_seq ?_; refine wc_sr ?_; refine wl_mv rfl rfl ?_; refine wl_bin rfl rfl bin_gtr rfl ?_; refine wl_ns ?_
        refine wc_cond rfl (fun h2 => ?_) (fun h2 => ?_)
        · refine wc_sr ?_; refine wl_as rfl rfl ?_; refine wl_as rfl rfl ?_; refine wl_as rfl rfl ?_; refine wl_ns ?_; refine wc_ret ?_; refine we_seq_ret ?_
          exact we_ret3 rfl rfl rfl rfl ⟨_, rfl, RetO.err (openB_errY hq hy (openH_size (by omega) (by omega)) (by decide)) rfl (Below.refl _ _)⟩
        · refine wc_skip ?_; refine we_seq ?_; refine wc_seq ?_; refine wc_sr ?_; refine wl_mv rfl rfl ?_; apply wl_val; apply opv_len; exact rfl; exact tyB.sl; exact rfl; refine wl_mv rfl rfl ?_; apply wl_val; apply opv_bin; exact rfl; exact rfl; exact bin_sub64 (by omega); exact rfl; apply wl_val; apply opv_bin; exact rfl; exact rfl; exact bin_sub64 (by omega); exact rfl; refine wl_mv rfl rfl ?_; refine wl_bin rfl rfl bin_lss rfl ?_; refine wl_ns ?_
          refine wc_cond rfl (fun h3 => ?_) (fun h3 => ?_)
          · refine wc_sr ?_; refine wl_as rfl rfl ?_; refine wl_as rfl rfl ?_; refine wl_as rfl rfl ?_; refine wl_ns ?_; refine wc_ret ?_; refine we_seq_ret ?_
            exact we_ret3 rfl rfl rfl rfl ⟨_, rfl, RetO.err (openB_errY hq hy (openH_end (by omega) (by omega) (by omega)) (by decide)) rfl (Below.refl _ _)⟩
          · have hyn : 8 + n ≤ y.length := by omega
            have hbl : ((y.take (8 + n)).drop 8).length = n := by simp; omega
            have ec : (xs.take (q + 8 + n)).drop (q + 8) = (y.take (8 + n)).drop 8 := by
              rw [← hy, List.drop_take, List.drop_take, List.drop_drop]; congr 1; omega
            have ew : (xs.take (q + 8 + n)).drop q = y.take (8 + n) := by
              rw [← hy, List.drop_take]; congr 1; omega
            have rB := rd_cut (l := q + 8) (h := q + 8 + n) hr (by omega) (by omega) hc
            have rW := rd_cut (l := q) (h := q + 8 + n) hr (by omega) (by omega) hc
            rw [ec] at rB
            rw [ew] at rW
            have hb := Below.refl w.heap.size w
            refine wc_skip ?_; refine we_seq ?_; refine wc_sr ?_; refine wl_mv rfl rfl ?_; refine wl_mv rfl rfl ?_; apply wl_val; apply opv_bin; exact rfl; exact rfl; exact bin_add64 (by omega); exact rfl; refine wl_mv rfl rfl ?_; apply wl_val; apply opv_bin; exact rfl; exact rfl; exact bin_add64 (by omega); exact rfl; refine wl_mv rfl rfl ?_; apply wl_val; apply opv_bin; exact rfl; exact rfl; exact bin_add64 (by omega); exact rfl
            refine wl_sl (l := q + 8) (h := q + 8 + n) tyB rfl ⟨_, by simp only [Int.natCast_add]; rfl⟩ ⟨_, by simp only [Int.natCast_add]; rfl⟩ (by omega) (by omega) rfl ?_
            refine wl_call ok_caissonref01_Copy (copy_any rB (by rw [hbl]; omega) (by rw [hbl]; omega)) ⟨rfl, trivial⟩ rfl ?_
            rintro _ w1 ⟨A1, c1, rfl, o1, h1'⟩
            refine wl_as rfl rfl ?_; refine wl_ns ?_; refine wc_sr ?_; refine wl_mv rfl rfl ?_
            refine wl_call ok_caissonref03_Seal (refSeal_ok (by rw [hbl]; omega) o1.rd rfl) ⟨rfl, trivial⟩ rfl ?_
            rintro _ w2 ⟨A2, c2, rfl, o2, h2'⟩
            have h12 := h1'.trans (h2'.mono h1'.size)
            dsimp only at o2
            refine wl_mv rfl rfl ?_; apply wl_val; apply opv_extract; exact rfl; exact rfl; exact rfl; apply wl_val; apply opv_extract; exact rfl; exact rfl; exact rfl; refine wl_as rfl rfl ?_; refine wl_as rfl rfl ?_; refine wl_ns ?_; refine wc_seq ?_; refine wc_sr ?_; refine wl_mv rfl rfl ?_; refine wl_mv rfl rfl ?_; refine wl_mv rfl rfl ?_; refine wl_mv rfl rfl ?_; apply wl_val; apply opv_bin; exact rfl; exact rfl; exact bin_add64 (by omega); exact rfl; refine wl_mv rfl rfl ?_; apply wl_val; apply opv_bin; exact rfl; exact rfl; exact bin_add64 (by omega); exact rfl
            refine wl_sl (l := q) (h := q + 8 + n) tyB rfl ⟨_, rfl⟩ ⟨_, by simp only [Int.natCast_add]; rfl⟩ (by omega) (by omega) rfl ?_
            refine wl_call ok_caissonref01_Equal (equal_any o2.rd (RdB.below rW h12) rfl (by simp; omega) (by rw [crcRec_length, hbl]; simp only [maxLen]; omega)) ⟨rfl, rfl, trivial⟩ rfl ?_
            rintro _ w3 ⟨rfl, h3'⟩
            have h13 := h12.trans (h3'.mono h12.size)
            have hri := rec_iff (y := y) (by omega) (by omega)
            rw [hn] at hri
            apply wl_val; apply opv_notD; exact rfl; exact rfl; refine wl_ns ?_
            refine wc_cond rfl (fun h4 => ?_) (fun h4 => ?_)
            · refine wc_sr ?_; refine wl_as rfl rfl ?_; refine wl_as rfl rfl ?_; refine wl_as rfl rfl ?_; refine wl_ns ?_; refine wc_ret ?_; refine we_seq_ret ?_
              exact we_ret3 rfl rfl rfl rfl ⟨_, rfl, RetO.err (openB_errY hq hy (openH_sum (by omega) (by omega) (by omega) (by rw [hn, ← hri]; exact h4)) (by decide)) rfl h13⟩
            · have eo := openB_okY hq hy (openH_ok (y := y) (by omega) (by omega) (by omega) (by rw [hn, ← hri]; exact Decidable.not_not.1 h4))
              rw [hn] at eo
              replace o1 := OwB.below o1 (h2'.trans (h3'.mono h2'.size))
              refine wc_skip ?_; refine we_seq ?_; refine wc_sr ?_; refine wl_mv rfl rfl ?_; refine wl_mv rfl rfl ?_; apply wl_val; apply opv_bin; exact rfl; exact rfl; exact bin_add64 (by omega); exact rfl; refine wl_mv rfl rfl ?_; apply wl_val; apply opv_bin; exact rfl; exact rfl; exact bin_add64 (by omega); exact rfl; refine wl_as rfl rfl ?_; refine wl_as rfl rfl ?_; refine wl_as rfl rfl ?_; refine wl_ns ?_; refine wc_ret ?_
              refine we_ret3 rfl rfl rfl rfl ⟨_, rfl, ?_⟩
              rw [eo]
              refine ⟨A1, c1, ?_, o1, h13⟩
              rw [hbl, show (q : Int) + 8 + (n : Int) = ((q + 8 + n : Nat) : Int) by omega]; rfl
theorem refOpen_at {A : Option Addr} {n c : Nat} {xs : List UInt8} {p : Int} {w : World} {x : List UInt8 × Nat × Nat} (h : openB xs p = x) (hr : RdB w A xs) (hn : xs.length = n) (hc : xs.length ≤ c) (hl : xs.length ≤ 140737488355328) (hp : -9223372036854775808 ≤ p ∧ p ≤ 9223372036854775807) :
    CallsV Try.prog 54 #[.slice A n c, .int .i64 p] w (RetO w x) := h ▸ refOpen_any hr hn hc hl hp

theorem refOpenAll_any {A : Option Addr} {n c : Nat} {xs : List UInt8} {w : World} (hr : RdB w A xs) (hn : xs.length = n) (hc : xs.length ≤ c) (hl : xs.length ≤ 1099511627776) : CallsV Try.prog 50 #[.slice A n c] w (RetOA w (openAll xs)) := by
  subst hn
  refine calls_in (N := _) Try.func50 rfl Try.ntmps50 rfl ?_; show WC _ _ _ _ _ _
  refine wc_sr ?_; refine wl_as rfl rfl ?_; refine wl_as rfl rfl ?_; refine wl_ns ?_; refine wc_sr ?_; refine wl_as rfl rfl ?_; refine wl_ns ?_; refine wc_sr ?_; refine wl_as rfl rfl ?_; refine wl_ns ?_; refine wc_seq ?_; refine wc_block ?_
  refine wc_loop (fun L wr m => ∃ (q f : Nat) (out : List (List UInt8)) (P : Option Addr) (cp : Nat), L = [(0, .slice A xs.length c), (4, .slice P out.length cp), (5, .int .i64 (q : Int))] ∧ q ≤ xs.length ∧ xs.length - q ≤ f ∧ openAll xs = openAllF f xs q out ∧ out.length ≤ q ∧ OwBB wr w.heap.size P cp out ∧ Below w.heap.size w wr ∧ m = xs.length - q)
    [(0, .slice A xs.length c), (4, .slice none 0 0), (5, .int .i64 (0 : Nat))] xs.length ⟨0, xs.length, [], none, 0, rfl, by omega, by omega, rfl, by simp, OwBB.nil _ _, Below.refl _ _, rfl⟩ ⟨rfl, rfl, rfl, trivial⟩ ?_
  rintro _ w1 m ⟨q, f, out, P, cp, rfl, hq, hf, hp, hol, o1, hb1, rfl⟩
  refine wc_seq ?_; refine wc_sr ?_; refine wl_mv rfl rfl ?_; refine wl_mv rfl rfl ?_; apply wl_val; apply opv_len; exact rfl; exact tyB.sl; exact rfl; refine wl_bin rfl rfl bin_lss rfl ?_; refine wl_ns ?_
  refine wc_cond rfl (fun h1 => ?_) (fun h1 => ?_)
  · obtain ⟨f, rfl⟩ : ∃ g, f = g + 1 := ⟨f - 1, by omega⟩
    obtain ⟨r, x, e, hu⟩ : ∃ r x e, openB xs q = (r, x, e) := ⟨_, _, _, rfl⟩
    have r1 := RdB.below hr hb1
    refine wc_skip ?_; refine we_seq ?_; refine wc_block ?_; refine wc_sr ?_; refine wl_mv rfl rfl ?_; refine wl_mv rfl rfl ?_
    refine wl_call ok_caissonref03_Open (refOpen_at hu r1 rfl hc (by omega) (by omega)) ⟨rfl, rfl, trivial⟩ rfl ?_
    rintro _ w2 ⟨A2, c2, rfl, o2, h2⟩
    have hb2 := hb1.trans (h2.mono hb1.size)
    dsimp only at o2
    refine wl_mv rfl rfl ?_; apply wl_val; apply opv_extract; exact rfl; exact rfl; exact rfl; apply wl_val; apply opv_extract; exact rfl; exact rfl; exact rfl; apply wl_val; apply opv_extract; exact rfl; exact rfl; exact rfl; refine wl_as rfl rfl ?_; refine wl_as rfl rfl ?_; refine wl_as rfl rfl ?_; refine wl_ns ?_; refine wc_seq ?_; refine wc_sr ?_; refine wl_mv rfl rfl ?_; refine wl_bin rfl rfl bin_neq rfl ?_; refine wl_ns ?_
    by_cases he : e = 0
    · subst he
      obtain ⟨rfl, hxl, _⟩ := openB_inv hq hu
      refine wc_cond rfl (fun h => absurd rfl h) (fun _ => ?_)
      refine wc_skip ?_; refine we_seq ?_; refine wc_sr ?_; refine wl_mv rfl rfl ?_; refine wl_mv rfl rfl ?_
      refine wl_pushR o1 h2 hb1.size o2 hb2 rfl (by omega) rfl rfl rfl rfl rfl fun p A4 c4 w4 o4 hb4 => ?_
      refine wl_as rfl rfl ?_; refine wl_ns ?_; refine wc_region ?_; refine wl_mv rfl rfl ?_; refine wl_as rfl rfl ?_; refine wl_nil ?_; refine we_block_norm ?_
      refine we_loop [(0, .slice A xs.length c), (4, .slice A4 (out ++ [r]).length c4), (5, .int .i64 ((q + 8 + r.length : Nat) : Int))] (xs.length - (q + 8 + r.length)) ⟨q + 8 + r.length, f, _, A4, c4, rfl, hxl, by omega, ?_, by simp; omega, o4, hb4, rfl⟩ (by omega) ⟨rfl, by rw [List.length_append]; rfl, rfl, trivial⟩
      rw [hp, openAllF_step (by omega) hu]
    · refine wc_cond rfl (fun _ => ?_) (fun h => absurd (fun h' => he (by exact_mod_cast h')) h)
      refine wc_sr ?_; refine wl_mv rfl rfl ?_; refine wl_mv rfl rfl ?_; refine wl_as rfl rfl ?_; refine wl_as rfl rfl ?_; refine wl_ns ?_; refine wc_ret ?_; refine we_seq_ret ?_; refine we_block_ret ?_; refine we_loop_ret ?_; refine we_block_ret ?_; refine we_seq_ret ?_
      refine we_ret2 rfl rfl rfl ⟨_, rfl, ?_⟩
      rw [hp, openAllF_err hu he]
      exact ⟨P, cp, rfl, o1.below h2, hb2⟩
  · refine wc_exit ?_; refine we_seq_exit ?_; refine we_loop_exit ?_; refine we_block_exit ?_; refine we_seq ?_; refine wc_sr ?_; refine wl_mv rfl rfl ?_; refine wl_mv rfl rfl ?_; refine wl_as rfl rfl ?_; refine wl_as rfl rfl ?_; refine wl_ns ?_; refine wc_ret ?_
    refine we_ret2 rfl rfl rfl ⟨_, rfl, ?_⟩
    rw [hp, openAllF_end (by omega)]
    exact ⟨P, cp, rfl, o1, hb1⟩
end Go.Proofs.Ytdppekhnahnjjaa
