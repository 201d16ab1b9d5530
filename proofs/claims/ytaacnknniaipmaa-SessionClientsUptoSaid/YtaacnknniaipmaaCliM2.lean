/-
  The texts of this proof, joined: Wb, Wa, Wg, Row, Wh, Wi, Held, Zc, Arr, St, Sr, Ge, Ta, Str, Gf, Op, Za.
-/
import Derived.Test.YtaacnknniaipmaaCliM1
import Derived.OrdersHeld
import Derived.Deep.RegionHeld3
import Derived.Laws.Rows
import Derived.Laws.Tables
import Derived.Lib.Builder
import Derived.Laws.Build
import Derived.Stop.IfaceNil
import Derived.Deep.MidRow
import Derived.Lib.DecodeN
import Derived.Lib.RuneBytes
import Derived.Lib.Hide
import Derived.Laws.IdiomStrings
import Derived.Laws.Cover4
import Derived.Lib.OthersKept
import Derived.Lib.AppendStr
import Derived.Deep.Slices
import Derived.ChangeMaps5

/-
  Walks over PutU of the program and of the reference, inside, and GetU of both.
-/
namespace Go.Proofs.Ytaacnknniaipmaa
open Go.RowKit

def PutI (w : World) (n : Nat) (s : Nat) : FL → World → Nat → Prop := fun L wr m =>
  ∃ (pre : List UInt8) (A : Option Addr) (c : Nat), L = [(0, .int .u64 m), (s, .slice A pre.length c)] ∧ OwB wr w.heap.size A c pre ∧ putU n = pre ++ putU m ∧ Below w.heap.size w wr ∧ m < 2 ^ (64 - 7 * pre.length) ∧ 7 * pre.length ≤ 63
theorem PutI.start {w : World} {n s : Nat} (hn : n < 2 ^ 64) : PutI w n s [(0, .int .u64 n), (s, .slice none 0 0)] w n :=
  ⟨[], none, 0, rfl, Ow.nil _ _ _, rfl, Below.refl _ _, hn, by decide⟩
theorem PutI.next {w wr w' : World} {n m s : Nat} {pre : List UInt8} {A A' : Option Addr} {c c' : Nat} {v : Value} (hown : OwB wr w.heap.size A c pre) (heq : putU n = pre ++ putU m) (hbel : Below w.heap.size w wr) (hm : m < 2 ^ (64 - 7 * pre.length)) (hl : 7 * pre.length ≤ 63)
    (h : 128 ≤ m) (ho : Ow w' w.heap.size 5 A' (pre.length + 1) c' (bvs pre ++ [v])) (hg : Gr wr w' A) (hv : bv (UInt8.ofNat (m % 128 + 128)) = v) :
    PutI w n s [(0, .int .u64 (m / 128 : Nat)), (s, .slice A' (pre.length + 1) c')] w' (m / 128) := by
  have h7 : 8 ≤ 64 - 7 * pre.length := by
    rcases Nat.lt_or_ge 7 (64 - 7 * pre.length) with h' | h'
    · exact h'
    · have := Nat.lt_of_lt_of_le hm (Nat.pow_le_pow_right (by decide) h'); omega
  refine ⟨pre ++ [UInt8.ofNat (m % 128 + 128)], A', c', by simp, OwB.snoc ho hv, ?_, hg.below hbel hown (Nat.le_refl _) hbel.size, ?_, ?_⟩
  · rw [heq, putU, if_neg (by omega)]; simp
  · refine Nat.div_lt_of_lt_mul ?_
    rw [show 128 = 2 ^ 7 from rfl, ← Nat.pow_add]
    simp only [List.length_append, List.length_cons, List.length_nil]
    rw [show 7 + (64 - 7 * (pre.length + (0 + 1))) = 64 - 7 * pre.length by omega]
    exact hm
  · simp; omega
theorem PutI.last {w wr w' : World} {n m : Nat} {pre : List UInt8} {A A' : Option Addr} {c c' : Nat} {v : Value} (hown : OwB wr w.heap.size A c pre) (heq : putU n = pre ++ putU m) (hbel : Below w.heap.size w wr)
    (h : m < 128) (ho : Ow w' w.heap.size 5 A' (pre.length + 1) c' (bvs pre ++ [v])) (hg : Gr wr w' A) (hv : bv (UInt8.ofNat m) = v) :
    RetB w (putU n) (.slice A' (pre.length + 1) c') w' := by
  have e : putU n = pre ++ [UInt8.ofNat m] := by rw [heq, putU, if_pos h]
  rw [e]
  exact ⟨A', c', by simp, OwB.snoc ho hv, hg.below hbel hown (Nat.le_refl _) hbel.size⟩

theorem putU_any (n : Nat) (hn : n < 2 ^ 64) (w : World) : CallsV Try.prog 62 #[.int .u64 n] w (RetB w (putU n)) := by
  refine calls_in (N := _) Try.func62 rfl Try.ntmps62 rfl ?_; show WC _ _ _ _ _ _
  refine wc_sr ?_; refine wl_as rfl rfl ?_; refine wl_ns ?_; refine wc_sr ?_; refine wl_as rfl rfl ?_; refine wl_ns ?_; refine wc_seq ?_; refine wc_block ?_
  refine wc_loop (PutI w n 3) [(0, .int .u64 n), (3, .slice none 0 0)] n (PutI.start hn) ⟨rfl, rfl, trivial⟩ ?_
  rintro _ wr m ⟨pre, A, c, rfl, hown, heq, hbel, hm, hl⟩
  have hsz := hbel.size
  have hm64 : m < 2 ^ 64 := Nat.lt_of_lt_of_le hm (Nat.pow_le_pow_right (by decide) (by omega))
  refine wc_seq ?_; refine wc_sr ?_; refine wl_mv rfl rfl ?_; refine wl_bin rfl rfl bin_geq rfl ?_; refine wl_ns ?_
  refine wc_cond rfl (fun h => ?_) (fun h => ?_)
  · refine wc_skip ?_; refine we_seq ?_; refine wc_block ?_; refine wc_sr ?_; refine wl_mv rfl rfl ?_; refine wl_mv rfl rfl ?_; apply wl_val; apply opv_convR; exact rfl; exact Try.underlying22; exact Try.underlying5; exact wrap_nat rfl _; exact rfl
    refine wl_val (opv_bin (b := .int .u8 (128 : Nat)) rfl rfl (bin_or rfl (Nat.mod_lt _ (by decide)) (by decide))) rfl ?_
    refine wl_push (vs := [_]) tyB rfl hown ⟨rfl, rfl, rfl, trivial⟩ rfl (by decide) rfl (by omega) (by simp only [maxLen]; omega) hsz rfl rfl fun p A' c' w' ho hg hat => ?_
    refine wl_as rfl rfl ?_; refine wl_ns ?_; refine wc_region ?_; refine wl_mv rfl rfl ?_
    refine wl_val (opv_bin (b := .int .u64 (7 : Nat)) rfl rfl (bin_shr hm64)) rfl ?_
    refine wl_as rfl rfl ?_; refine wl_nil ?_; refine we_block_norm ?_
    refine we_loop _ (m / 128) (PutI.next hown heq hbel hm hl (by omega) ho hg ?_) (by omega) ⟨rfl, rfl, trivial⟩
    rw [bv_of (by omega), show IntKind.u8.bits = 8 from rfl, show 2 ^ 8 = 256 from rfl, or128]
  · refine wc_exit ?_; refine we_seq_exit ?_; refine we_loop_exit ?_; refine we_block_exit ?_; refine we_seq ?_; refine wc_sr ?_; refine wl_mv rfl rfl ?_; refine wl_mv rfl rfl ?_; apply wl_val; apply opv_convR; exact rfl; exact Try.underlying22; exact Try.underlying5; exact IntWalk.u8_in _ (by omega); exact rfl
    refine wl_push (vs := [_]) tyB rfl hown ⟨rfl, rfl, rfl, trivial⟩ rfl (by decide) rfl (by omega) (by simp only [maxLen]; omega) hsz rfl rfl fun p A' c' w' ho hg hat => ?_
    refine wl_as rfl rfl ?_; refine wl_ns ?_; refine wc_ret ?_
    exact we_ret1 rfl rfl ⟨_, rfl, PutI.last hown heq hbel (by omega) ho hg (bv_of (by omega))⟩
theorem inside_any {A : Option Addr} {n c : Nat} (p : Int) (w : World) : CallsV Try.prog 85 #[.slice A n c, .int .i64 p] w fun v w' => v = .bool (decide (0 ≤ p ∧ p ≤ n)) ∧ w = w' := by
  refine calls_in (N := _) Try.func85 rfl Try.ntmps85 rfl ?_; show WC _ _ _ _ _ _
  refine wc_sr ?_; refine wl_as rfl rfl ?_; refine wl_ns ?_; refine wc_sr ?_; refine wl_mv rfl rfl ?_; refine wl_bin rfl rfl bin_geq rfl ?_; refine wl_mv rfl rfl ?_
  refine wl_cutV 5 12 (.bool (decide ((0 ≤ p) ∧ (p ≤ n)))) ?c8 ?_; (case c8 => (dsimp only [List.take]; by_cases hc0 : (0 ≤ p); (focus (apply wl_take; exact rfl; exact rfl; exact rfl; refine bT ?_; (with_reducible assumption); refine wl_mv rfl rfl ?_; apply wl_take; exact rfl; exact rfl; exact rfl; refine bT ?_; (with_reducible assumption); refine wl_mv rfl rfl ?_; apply wl_take; exact rfl; exact rfl; exact rfl; refine bT ?_; (with_reducible assumption); apply wl_val; apply opv_len; exact rfl; exact tyB.sl; exact rfl; apply wl_take; exact rfl; exact rfl; exact rfl; refine bT ?_; (with_reducible assumption); refine wl_bin rfl rfl bin_leq rfl ?_; apply wl_val; apply opv_pickT; exact rfl; refine bT ?_; (with_reducible assumption); exact rfl; exact rfl; refine wl_nil ?_; refine we_cut _ ⟨rfl, rfl⟩ ⟨congrArg (fun b => some (Value.bool b)) ?e8_0, ?s8_0⟩; (case e8_0 => ((simp [hc0]; done))); (case s8_0 => (refine And.intro rfl ?_; refine And.intro rfl ?_; refine And.intro rfl ?_; refine And.intro rfl ?_; refine And.intro rfl ?_; refine And.intro rfl ?_; exact True.intro)))); (focus (apply wl_skip; exact rfl; exact rfl; exact rfl; refine bFn ?_; (with_reducible assumption); exact rfl; apply wl_skip; exact rfl; exact rfl; exact rfl; refine bFn ?_; (with_reducible assumption); exact rfl; apply wl_skip; exact rfl; exact rfl; exact rfl; refine bFn ?_; (with_reducible assumption); exact rfl; apply wl_skip; exact rfl; exact rfl; exact rfl; refine bFn ?_; (with_reducible assumption); exact rfl; apply wl_val; apply opv_pickF; exact rfl; refine bF ?_; (with_reducible assumption); exact rfl; exact rfl; refine wl_nil ?_; refine we_cut _ ⟨rfl, rfl⟩ ⟨congrArg (fun b => some (Value.bool b)) ?e8_1, ?s8_1⟩; (case e8_1 => ((simp [hc0]; done))); (case s8_1 => (refine And.intro rfl ?_; refine And.intro rfl ?_; refine And.intro rfl ?_; refine And.intro rfl ?_; refine And.intro rfl ?_; refine And.intro rfl ?_; exact True.intro)))))); dsimp only [List.drop]
  refine wl_as rfl rfl ?_; refine wl_ns ?_; refine wc_ret ?_
  exact we_ret1 rfl rfl ⟨_, rfl, rfl, rfl⟩
/-- A number, a place and an error are handed back. -/
def RetN (w : World) (r : Nat × Int × Nat) (v : Value) (w' : World) : Prop := v = .tuple #[.int .u64 (r.1 : Int), .int .i64 r.2.1, .int .i64 (r.2.2 : Int)] ∧ Below w.heap.size w w'

theorem getU_any {A : Option Addr} {n c : Nat} {xs : List UInt8} {p : Int} {w : World} (hr : RdB w A xs) (hn : xs.length = n) (hl : xs.length ≤ maxLen) (hp : -9223372036854775808 ≤ p ∧ p ≤ 9223372036854775807) :
    CallsV Try.prog 66 #[.slice A n c, .int .i64 p] w (RetN w (getU xs p)) := by
  subst hn
  have hmx : xs.length ≤ 9223372036854775807 := by simpa only [maxLen] using hl
  clear hl
  refine calls_in (N := _) Try.func66 rfl Try.ntmps66 rfl ?_; show WC _ _ _ _ _ _
  refine wc_sr ?_; refine wl_as rfl rfl ?_; refine wl_as rfl rfl ?_; refine wl_as rfl rfl ?_; refine wl_ns ?_; refine wc_seq ?_; refine wc_sr ?_; refine wl_mv rfl rfl ?_; refine wl_mv rfl rfl ?_
  refine wl_call ok_codec_inside (inside_any p w) ⟨rfl, rfl, trivial⟩ rfl ?_
  rintro _ _ ⟨rfl, rfl⟩
  apply wl_val; apply opv_notD; exact rfl; exact rfl; refine wl_ns ?_
  refine wc_cond rfl (fun h => ?_) (fun h => ?_)
  · refine wc_sr ?_; refine wl_as rfl rfl ?_; refine wl_as rfl rfl ?_; refine wl_as rfl rfl ?_; refine wl_ns ?_; refine wc_ret ?_; refine we_seq_ret ?_
    exact we_ret3 rfl rfl rfl rfl ⟨_, rfl, by rw [getU_arg h]; rfl, Below.refl _ _⟩
  · have h' : 0 ≤ p ∧ p ≤ xs.length := by simpa using h
    obtain ⟨q, rfl⟩ := Int.eq_ofNat_of_zero_le h'.1
    have hq : q ≤ xs.length := by omega
    refine wc_skip ?_; refine we_seq ?_; refine wc_sr ?_; refine wl_as rfl rfl ?_; refine wl_ns ?_; refine wc_seq ?_; refine wc_sr ?_; refine wl_as rfl rfl ?_; refine wl_ns ?_; refine wc_block ?_
    refine wc_loop (fun L wr m => ∃ i n : Nat, L = [(0, .slice A xs.length c), (1, .int .i64 (q : Int)), (7, .int .u64 (n : Int)), (8, .int .i64 (i : Int))] ∧ q + i ≤ xs.length ∧ i ≤ 9 ∧ n < 128 ^ i ∧ getAux 0 0 (xs.drop q) = getAux i n (xs.drop (q + i)) ∧ w = wr ∧ m = xs.length - i)
      [(0, .slice A xs.length c), (1, .int .i64 (q : Int)), (7, .int .u64 (0 : Nat)), (8, .int .i64 (0 : Nat))] xs.length ⟨0, 0, rfl, hq, by omega, by omega, rfl, rfl, rfl⟩ ⟨rfl, rfl, rfl, rfl, trivial⟩ ?_
    rintro _ _ m ⟨i, n, rfl, hqi, hi, hn, heq, rfl, rfl⟩
    refine wc_seq ?_; refine wc_sr ?_; refine wl_mv rfl rfl ?_; refine wl_mv rfl rfl ?_; apply wl_val; apply opv_bin; exact rfl; exact rfl; exact bin_add64 (by omega); exact rfl; refine wl_mv rfl rfl ?_; apply wl_val; apply opv_len; exact rfl; exact tyB.sl; exact rfl; refine wl_bin rfl rfl bin_lss rfl ?_; refine wl_ns ?_
    refine wc_cond rfl (fun h1 => ?_) (fun h1 => ?_)
    · have hlt : q + i < xs.length := by omega
      refine wc_skip ?_; refine we_seq ?_; refine wc_seq ?_; refine wc_block ?_; refine wc_sr ?_; refine wl_mv rfl rfl ?_; refine wl_mv rfl rfl ?_; refine wl_mv rfl rfl ?_; apply wl_val; apply opv_bin; exact rfl; exact rfl; exact bin_add64 (by omega); exact rfl
      refine wl_by (kk := q + i) tyB rfl rfl hr (by simp) hlt rfl rfl fun p1 x hx => ?_
      have hdrop := drop_get hx
      have hx256 := x.toNat_lt
      apply wl_val; apply opv_convR; exact rfl; exact Try.underlying5; exact Try.underlying22; exact IntWalk.u64_in _ (by omega); exact rfl; refine wl_as rfl rfl ?_; refine wl_ns ?_; refine wc_seq ?_; refine wc_sr ?_; refine wl_mv rfl rfl ?_; refine wl_bin rfl rfl bin_eql rfl ?_; refine wl_mv rfl rfl ?_
      refine wl_cutV 3 34 (.bool (decide ((i : Int) = 9 ∧ 1 < (x.toNat : Int)))) ?c22 ?_; (case c22 => (dsimp only [List.take]; by_cases hc0 : ((i : Int) = 9); (focus (by_cases hc1 : (1 < (x.toNat : Int)); (focus (apply wl_take; exact rfl; exact rfl; exact rfl; refine bT ?_; (with_reducible assumption); refine wl_mv rfl rfl ?_; apply wl_take; exact rfl; exact rfl; exact rfl; refine bT ?_; (with_reducible assumption); refine wl_bin rfl rfl bin_gtr rfl ?_; apply wl_val; apply opv_pickT; exact rfl; refine bT ?_; (with_reducible assumption); exact rfl; exact rfl; refine wl_nil ?_; refine we_cut _ ⟨rfl, rfl⟩ ⟨congrArg (fun b => some (Value.bool b)) ?e22_0, ?s22_0⟩; (case e22_0 => ((simp [hc0, hc1]; done))); (case s22_0 => (refine And.intro rfl ?_; refine And.intro rfl ?_; refine And.intro rfl ?_; refine And.intro rfl ?_; refine And.intro rfl ?_; refine And.intro rfl ?_; refine And.intro rfl ?_; refine And.intro rfl ?_; refine And.intro rfl ?_; refine And.intro rfl ?_; refine And.intro rfl ?_; refine And.intro rfl ?_; refine And.intro rfl ?_; refine And.intro rfl ?_; refine And.intro rfl ?_; refine And.intro rfl ?_; refine And.intro rfl ?_; refine And.intro rfl ?_; refine And.intro rfl ?_; refine And.intro rfl ?_; refine And.intro rfl ?_; exact True.intro)))); (focus (apply wl_take; exact rfl; exact rfl; exact rfl; refine bT ?_; (with_reducible assumption); refine wl_mv rfl rfl ?_; apply wl_take; exact rfl; exact rfl; exact rfl; refine bT ?_; (with_reducible assumption); refine wl_bin rfl rfl bin_gtr rfl ?_; apply wl_val; apply opv_pickT; exact rfl; refine bT ?_; (with_reducible assumption); exact rfl; exact rfl; refine wl_nil ?_; refine we_cut _ ⟨rfl, rfl⟩ ⟨congrArg (fun b => some (Value.bool b)) ?e22_1, ?s22_1⟩; (case e22_1 => ((simp [hc0, hc1]; done))); (case s22_1 => (refine And.intro rfl ?_; refine And.intro rfl ?_; refine And.intro rfl ?_; refine And.intro rfl ?_; refine And.intro rfl ?_; refine And.intro rfl ?_; refine And.intro rfl ?_; refine And.intro rfl ?_; refine And.intro rfl ?_; refine And.intro rfl ?_; refine And.intro rfl ?_; refine And.intro rfl ?_; refine And.intro rfl ?_; refine And.intro rfl ?_; refine And.intro rfl ?_; refine And.intro rfl ?_; refine And.intro rfl ?_; refine And.intro rfl ?_; refine And.intro rfl ?_; refine And.intro rfl ?_; refine And.intro rfl ?_; exact True.intro)))))); (focus (by_cases hc1 : (1 < (x.toNat : Int)); (focus (apply wl_skip; exact rfl; exact rfl; exact rfl; refine bFn ?_; (with_reducible assumption); exact rfl; apply wl_skip; exact rfl; exact rfl; exact rfl; refine bFn ?_; (with_reducible assumption); exact rfl; apply wl_val; apply opv_pickF; exact rfl; refine bF ?_; (with_reducible assumption); exact rfl; exact rfl; refine wl_nil ?_; refine we_cut _ ⟨rfl, rfl⟩ ⟨congrArg (fun b => some (Value.bool b)) ?e22_2, ?s22_2⟩; (case e22_2 => ((simp [hc0, hc1]; done))); (case s22_2 => (refine And.intro rfl ?_; refine And.intro rfl ?_; refine And.intro rfl ?_; refine And.intro rfl ?_; refine And.intro rfl ?_; refine And.intro rfl ?_; refine And.intro rfl ?_; refine And.intro rfl ?_; refine And.intro rfl ?_; refine And.intro rfl ?_; refine And.intro rfl ?_; refine And.intro rfl ?_; refine And.intro rfl ?_; refine And.intro rfl ?_; refine And.intro rfl ?_; refine And.intro rfl ?_; refine And.intro rfl ?_; refine And.intro rfl ?_; refine And.intro rfl ?_; refine And.intro rfl ?_; refine And.intro rfl ?_; exact True.intro)))); (focus (apply wl_skip; exact rfl; exact rfl; exact rfl; refine bFn ?_; (with_reducible assumption); exact rfl; apply wl_skip; exact rfl; exact rfl; exact rfl; refine bFn ?_; (with_reducible assumption); exact rfl; apply wl_val; apply opv_pickF; exact rfl; refine bF ?_; (with_reducible assumption); exact rfl; exact rfl; refine wl_nil ?_; refine we_cut _ ⟨rfl, rfl⟩ ⟨congrArg (fun b => some (Value.bool b)) ?e22_3, ?s22_3⟩; (case e22_3 => ((simp [hc0, hc1]; done))); (case s22_3 => (refine And.intro rfl ?_; refine And.intro rfl ?_; refine And.intro rfl ?_; refine And.intro rfl ?_; refine And.intro rfl ?_; refine And.intro rfl ?_; refine And.intro rfl ?_; refine And.intro rfl ?_; refine And.intro rfl ?_; refine And.intro rfl ?_; refine And.intro rfl ?_; refine And.intro rfl ?_; refine And.intro rfl ?_; refine And.intro rfl ?_; refine And.intro rfl ?_; refine And.intro rfl ?_; refine And.intro rfl ?_; refine And.intro rfl ?_; refine And.intro rfl ?_; refine And.intro rfl ?_; refine And.intro rfl ?_; exact True.intro)))))))); dsimp only [List.drop]
      refine wl_mv rfl rfl ?_
      refine wl_cutV 7 42 (.bool (decide (((i : Int) = 9 ∧ 1 < (x.toNat : Int)) ∨ ((x.toNat : Int) = 0 ∧ 0 < (i : Int))))) ?c35 ?_; (case c35 => (dsimp only [List.take]; by_cases hc0 : ((i : Int) = 9 ∧ 1 < (x.toNat : Int)); (focus (by_cases hc1 : ((x.toNat : Int) = 0); (focus (by_cases hc2 : (0 < (i : Int)); (focus (apply wl_take; exact rfl; exact rfl; exact rfl; refine bF ?_; omega; refine wl_mv rfl rfl ?_; apply wl_take; exact rfl; exact rfl; exact rfl; refine bF ?_; omega; refine wl_bin rfl rfl bin_eql rfl ?_; apply wl_take; exact rfl; exact rfl; exact rfl; refine bF ?_; omega; refine wl_mv rfl rfl ?_; apply wl_take; exact rfl; exact rfl; exact rfl; refine bT ?_; (with_reducible assumption); refine wl_mv rfl rfl ?_; apply wl_take; exact rfl; exact rfl; exact rfl; refine bT ?_; (with_reducible assumption); refine wl_bin rfl rfl bin_gtr rfl ?_; apply wl_take; exact rfl; exact rfl; exact rfl; refine bF ?_; omega; apply wl_val; apply opv_pickT; exact rfl; refine bT ?_; (with_reducible assumption); exact rfl; exact rfl; apply wl_val; apply opv_pickT; exact rfl; refine bT ?_; (with_reducible assumption); exact rfl; exact rfl; refine wl_nil ?_; refine we_cut _ ⟨rfl, rfl⟩ ⟨congrArg (fun b => some (Value.bool b)) ?e35_0, ?s35_0⟩; (case e35_0 => ((simp [hc0, hc1, hc2]; done))); (case s35_0 => (refine And.intro rfl ?_; refine And.intro rfl ?_; refine And.intro rfl ?_; refine And.intro rfl ?_; refine And.intro rfl ?_; refine And.intro rfl ?_; refine And.intro rfl ?_; refine And.intro rfl ?_; refine And.intro rfl ?_; refine And.intro rfl ?_; refine And.intro rfl ?_; refine And.intro rfl ?_; refine And.intro rfl ?_; refine And.intro rfl ?_; refine And.intro rfl ?_; refine And.intro rfl ?_; refine And.intro rfl ?_; refine And.intro rfl ?_; refine And.intro rfl ?_; refine And.intro rfl ?_; refine And.intro rfl ?_; refine And.intro rfl ?_; refine And.intro rfl ?_; exact True.intro)))); (focus (apply wl_take; exact rfl; exact rfl; exact rfl; refine bF ?_; omega; refine wl_mv rfl rfl ?_; apply wl_take; exact rfl; exact rfl; exact rfl; refine bF ?_; omega; refine wl_bin rfl rfl bin_eql rfl ?_; apply wl_take; exact rfl; exact rfl; exact rfl; refine bF ?_; omega; refine wl_mv rfl rfl ?_; apply wl_take; exact rfl; exact rfl; exact rfl; refine bT ?_; (with_reducible assumption); refine wl_mv rfl rfl ?_; apply wl_take; exact rfl; exact rfl; exact rfl; refine bT ?_; (with_reducible assumption); refine wl_bin rfl rfl bin_gtr rfl ?_; apply wl_take; exact rfl; exact rfl; exact rfl; refine bF ?_; omega; apply wl_val; apply opv_pickT; exact rfl; refine bT ?_; (with_reducible assumption); exact rfl; exact rfl; apply wl_val; apply opv_pickT; exact rfl; refine bT ?_; (with_reducible assumption); exact rfl; exact rfl; refine wl_nil ?_; refine we_cut _ ⟨rfl, rfl⟩ ⟨congrArg (fun b => some (Value.bool b)) ?e35_1, ?s35_1⟩; (case e35_1 => ((simp [hc0, hc1, hc2]; done))); (case s35_1 => (refine And.intro rfl ?_; refine And.intro rfl ?_; refine And.intro rfl ?_; refine And.intro rfl ?_; refine And.intro rfl ?_; refine And.intro rfl ?_; refine And.intro rfl ?_; refine And.intro rfl ?_; refine And.intro rfl ?_; refine And.intro rfl ?_; refine And.intro rfl ?_; refine And.intro rfl ?_; refine And.intro rfl ?_; refine And.intro rfl ?_; refine And.intro rfl ?_; refine And.intro rfl ?_; refine And.intro rfl ?_; refine And.intro rfl ?_; refine And.intro rfl ?_; refine And.intro rfl ?_; refine And.intro rfl ?_; refine And.intro rfl ?_; refine And.intro rfl ?_; exact True.intro)))))); (focus (by_cases hc2 : (0 < (i : Int)); (focus (apply wl_skip; exact rfl; exact rfl; exact rfl; refine bTn ?_; (with_reducible assumption); exact rfl; apply wl_skip; exact rfl; exact rfl; exact rfl; refine bTn ?_; (with_reducible assumption); exact rfl; apply wl_skip; exact rfl; exact rfl; exact rfl; refine bTn ?_; (with_reducible assumption); exact rfl; apply wl_skipU; exact rfl; exact rfl; exact rfl; exact rfl; apply wl_skipU; exact rfl; exact rfl; exact rfl; exact rfl; apply wl_skip; exact rfl; exact rfl; exact rfl; refine bTn ?_; (with_reducible assumption); exact rfl; apply wl_val; apply opv_pickT; exact rfl; refine bT ?_; (with_reducible assumption); exact rfl; exact rfl; refine wl_nil ?_; refine we_cut _ ⟨rfl, rfl⟩ ⟨congrArg (fun b => some (Value.bool b)) ?e35_2, ?s35_2⟩; (case e35_2 => ((simp [hc0, hc1, hc2]; done))); (case s35_2 => (refine And.intro rfl ?_; refine And.intro rfl ?_; refine And.intro rfl ?_; refine And.intro rfl ?_; refine And.intro rfl ?_; refine And.intro rfl ?_; refine And.intro rfl ?_; refine And.intro rfl ?_; refine And.intro rfl ?_; refine And.intro rfl ?_; refine And.intro rfl ?_; refine And.intro rfl ?_; refine And.intro rfl ?_; refine And.intro rfl ?_; refine And.intro rfl ?_; refine And.intro rfl ?_; refine And.intro rfl ?_; refine And.intro rfl ?_; refine And.intro rfl ?_; refine And.intro rfl ?_; refine And.intro rfl ?_; refine And.intro rfl ?_; refine And.intro rfl ?_; exact True.intro)))); (focus (apply wl_take; exact rfl; exact rfl; exact rfl; refine bF ?_; omega; refine wl_mv rfl rfl ?_; apply wl_take; exact rfl; exact rfl; exact rfl; refine bF ?_; omega; refine wl_bin rfl rfl bin_eql rfl ?_; apply wl_take; exact rfl; exact rfl; exact rfl; refine bF ?_; omega; refine wl_mv rfl rfl ?_; apply wl_take; exact rfl; exact rfl; exact rfl; refine bT ?_; omega; refine wl_mv rfl rfl ?_; apply wl_take; exact rfl; exact rfl; exact rfl; refine bT ?_; omega; refine wl_bin rfl rfl bin_gtr rfl ?_; apply wl_take; exact rfl; exact rfl; exact rfl; refine bF ?_; omega; apply wl_val; apply opv_pickT; exact rfl; refine bT ?_; omega; exact rfl; exact rfl; apply wl_val; apply opv_pickT; exact rfl; refine bT ?_; (with_reducible assumption); exact rfl; exact rfl; refine wl_nil ?_; refine we_cut _ ⟨rfl, rfl⟩ ⟨congrArg (fun b => some (Value.bool b)) ?e35_3, ?s35_3⟩; (case e35_3 => ((simp [hc0, hc1, hc2]; done))); (case s35_3 => (refine And.intro rfl ?_; refine And.intro rfl ?_; refine And.intro rfl ?_; refine And.intro rfl ?_; refine And.intro rfl ?_; refine And.intro rfl ?_; refine And.intro rfl ?_; refine And.intro rfl ?_; refine And.intro rfl ?_; refine And.intro rfl ?_; refine And.intro rfl ?_; refine And.intro rfl ?_; refine And.intro rfl ?_; refine And.intro rfl ?_; refine And.intro rfl ?_; refine And.intro rfl ?_; refine And.intro rfl ?_; refine And.intro rfl ?_; refine And.intro rfl ?_; refine And.intro rfl ?_; refine And.intro rfl ?_; refine And.intro rfl ?_; refine And.intro rfl ?_; exact True.intro)))))))); (focus (by_cases hc1 : ((x.toNat : Int) = 0); (focus (by_cases hc2 : (0 < (i : Int)); (focus (apply wl_take; exact rfl; exact rfl; exact rfl; refine bF ?_; (with_reducible assumption); refine wl_mv rfl rfl ?_; apply wl_take; exact rfl; exact rfl; exact rfl; refine bF ?_; (with_reducible assumption); refine wl_bin rfl rfl bin_eql rfl ?_; apply wl_take; exact rfl; exact rfl; exact rfl; refine bF ?_; (with_reducible assumption); refine wl_mv rfl rfl ?_; apply wl_take; exact rfl; exact rfl; exact rfl; refine bT ?_; (with_reducible assumption); refine wl_mv rfl rfl ?_; apply wl_take; exact rfl; exact rfl; exact rfl; refine bT ?_; (with_reducible assumption); refine wl_bin rfl rfl bin_gtr rfl ?_; apply wl_take; exact rfl; exact rfl; exact rfl; refine bF ?_; (with_reducible assumption); apply wl_val; apply opv_pickT; exact rfl; refine bT ?_; (with_reducible assumption); exact rfl; exact rfl; apply wl_val; apply opv_pickF; exact rfl; refine bF ?_; (with_reducible assumption); exact rfl; exact rfl; refine wl_nil ?_; refine we_cut _ ⟨rfl, rfl⟩ ⟨congrArg (fun b => some (Value.bool b)) ?e35_4, ?s35_4⟩; (case e35_4 => ((simp [hc0, hc1, hc2]; done))); (case s35_4 => (refine And.intro rfl ?_; refine And.intro rfl ?_; refine And.intro rfl ?_; refine And.intro rfl ?_; refine And.intro rfl ?_; refine And.intro rfl ?_; refine And.intro rfl ?_; refine And.intro rfl ?_; refine And.intro rfl ?_; refine And.intro rfl ?_; refine And.intro rfl ?_; refine And.intro rfl ?_; refine And.intro rfl ?_; refine And.intro rfl ?_; refine And.intro rfl ?_; refine And.intro rfl ?_; refine And.intro rfl ?_; refine And.intro rfl ?_; refine And.intro rfl ?_; refine And.intro rfl ?_; refine And.intro rfl ?_; refine And.intro rfl ?_; refine And.intro rfl ?_; exact True.intro)))); (focus (apply wl_take; exact rfl; exact rfl; exact rfl; refine bF ?_; (with_reducible assumption); refine wl_mv rfl rfl ?_; apply wl_take; exact rfl; exact rfl; exact rfl; refine bF ?_; (with_reducible assumption); refine wl_bin rfl rfl bin_eql rfl ?_; apply wl_take; exact rfl; exact rfl; exact rfl; refine bF ?_; (with_reducible assumption); refine wl_mv rfl rfl ?_; apply wl_take; exact rfl; exact rfl; exact rfl; refine bT ?_; (with_reducible assumption); refine wl_mv rfl rfl ?_; apply wl_take; exact rfl; exact rfl; exact rfl; refine bT ?_; (with_reducible assumption); refine wl_bin rfl rfl bin_gtr rfl ?_; apply wl_take; exact rfl; exact rfl; exact rfl; refine bF ?_; (with_reducible assumption); apply wl_val; apply opv_pickT; exact rfl; refine bT ?_; (with_reducible assumption); exact rfl; exact rfl; apply wl_val; apply opv_pickF; exact rfl; refine bF ?_; (with_reducible assumption); exact rfl; exact rfl; refine wl_nil ?_; refine we_cut _ ⟨rfl, rfl⟩ ⟨congrArg (fun b => some (Value.bool b)) ?e35_5, ?s35_5⟩; (case e35_5 => ((simp [hc0, hc1, hc2]; done))); (case s35_5 => (refine And.intro rfl ?_; refine And.intro rfl ?_; refine And.intro rfl ?_; refine And.intro rfl ?_; refine And.intro rfl ?_; refine And.intro rfl ?_; refine And.intro rfl ?_; refine And.intro rfl ?_; refine And.intro rfl ?_; refine And.intro rfl ?_; refine And.intro rfl ?_; refine And.intro rfl ?_; refine And.intro rfl ?_; refine And.intro rfl ?_; refine And.intro rfl ?_; refine And.intro rfl ?_; refine And.intro rfl ?_; refine And.intro rfl ?_; refine And.intro rfl ?_; refine And.intro rfl ?_; refine And.intro rfl ?_; refine And.intro rfl ?_; refine And.intro rfl ?_; exact True.intro)))))); (focus (by_cases hc2 : (0 < (i : Int)); (focus (apply wl_take; exact rfl; exact rfl; exact rfl; refine bF ?_; (with_reducible assumption); refine wl_mv rfl rfl ?_; apply wl_take; exact rfl; exact rfl; exact rfl; refine bF ?_; (with_reducible assumption); refine wl_bin rfl rfl bin_eql rfl ?_; apply wl_take; exact rfl; exact rfl; exact rfl; refine bF ?_; (with_reducible assumption); refine wl_mv rfl rfl ?_; apply wl_skip; exact rfl; exact rfl; exact rfl; refine bFn ?_; (with_reducible assumption); exact rfl; apply wl_skip; exact rfl; exact rfl; exact rfl; refine bFn ?_; (with_reducible assumption); exact rfl; apply wl_take; exact rfl; exact rfl; exact rfl; refine bF ?_; (with_reducible assumption); apply wl_val; apply opv_pickF; exact rfl; refine bF ?_; (with_reducible assumption); exact rfl; exact rfl; apply wl_val; apply opv_pickF; exact rfl; refine bF ?_; (with_reducible assumption); exact rfl; exact rfl; refine wl_nil ?_; refine we_cut _ ⟨rfl, rfl⟩ ⟨congrArg (fun b => some (Value.bool b)) ?e35_6, ?s35_6⟩; (case e35_6 => ((rw [Bool.eq_iff_iff]; simp only [decide_eq_true_eq, Bool.false_eq_true, true_iff, false_iff]; omega))); (case s35_6 => (refine And.intro rfl ?_; refine And.intro rfl ?_; refine And.intro rfl ?_; refine And.intro rfl ?_; refine And.intro rfl ?_; refine And.intro rfl ?_; refine And.intro rfl ?_; refine And.intro rfl ?_; refine And.intro rfl ?_; refine And.intro rfl ?_; refine And.intro rfl ?_; refine And.intro rfl ?_; refine And.intro rfl ?_; refine And.intro rfl ?_; refine And.intro rfl ?_; refine And.intro rfl ?_; refine And.intro rfl ?_; refine And.intro rfl ?_; refine And.intro rfl ?_; refine And.intro rfl ?_; refine And.intro rfl ?_; refine And.intro rfl ?_; refine And.intro rfl ?_; exact True.intro)))); (focus (apply wl_take; exact rfl; exact rfl; exact rfl; refine bF ?_; (with_reducible assumption); refine wl_mv rfl rfl ?_; apply wl_take; exact rfl; exact rfl; exact rfl; refine bF ?_; (with_reducible assumption); refine wl_bin rfl rfl bin_eql rfl ?_; apply wl_take; exact rfl; exact rfl; exact rfl; refine bF ?_; (with_reducible assumption); refine wl_mv rfl rfl ?_; apply wl_skip; exact rfl; exact rfl; exact rfl; refine bFn ?_; (with_reducible assumption); exact rfl; apply wl_skip; exact rfl; exact rfl; exact rfl; refine bFn ?_; (with_reducible assumption); exact rfl; apply wl_take; exact rfl; exact rfl; exact rfl; refine bF ?_; (with_reducible assumption); apply wl_val; apply opv_pickF; exact rfl; refine bF ?_; (with_reducible assumption); exact rfl; exact rfl; apply wl_val; apply opv_pickF; exact rfl; refine bF ?_; (with_reducible assumption); exact rfl; exact rfl; refine wl_nil ?_; refine we_cut _ ⟨rfl, rfl⟩ ⟨congrArg (fun b => some (Value.bool b)) ?e35_7, ?s35_7⟩; (case e35_7 => ((rw [Bool.eq_iff_iff]; simp only [decide_eq_true_eq, Bool.false_eq_true, true_iff, false_iff]; omega))); (case s35_7 => (refine And.intro rfl ?_; refine And.intro rfl ?_; refine And.intro rfl ?_; refine And.intro rfl ?_; refine And.intro rfl ?_; refine And.intro rfl ?_; refine And.intro rfl ?_; refine And.intro rfl ?_; refine And.intro rfl ?_; refine And.intro rfl ?_; refine And.intro rfl ?_; refine And.intro rfl ?_; refine And.intro rfl ?_; refine And.intro rfl ?_; refine And.intro rfl ?_; refine And.intro rfl ?_; refine And.intro rfl ?_; refine And.intro rfl ?_; refine And.intro rfl ?_; refine And.intro rfl ?_; refine And.intro rfl ?_; refine And.intro rfl ?_; refine And.intro rfl ?_; exact True.intro)))))))))); dsimp only [List.drop]
      refine wl_ns ?_
      refine wc_cond rfl (fun h2 => ?_) (fun h2 => ?_)
      · refine wc_sr ?_; refine wl_as rfl rfl ?_; refine wl_as rfl rfl ?_; refine wl_as rfl rfl ?_; refine wl_ns ?_; refine wc_ret ?_; refine we_seq_ret ?_; refine we_block_ret ?_; refine we_seq_ret ?_; refine we_loop_ret ?_; refine we_block_ret ?_; refine we_seq_ret ?_
        have e := getU_bad hq (heq.trans (by rw [hdrop]; exact getAux_form (by omega)))
        exact we_ret3 rfl rfl rfl rfl ⟨_, rfl, by rw [e]; rfl, Below.refl _ _⟩
      · have h3 : ¬ ((i = 9 ∧ 1 < x.toNat) ∨ (x.toNat = 0 ∧ 0 < i)) := by omega
        refine wc_skip ?_; refine we_seq ?_; refine wc_sr ?_; refine wl_mv rfl rfl ?_; refine wl_mv rfl rfl ?_
        refine wl_val (opv_bin (b := .int .u64 (128 : Nat)) rfl rfl (bin_andNot rfl (Nat.lt_trans hx256 (by decide)) (by decide))) rfl ?_
        refine wl_mv rfl rfl ?_
        refine wl_val (opv_bin (a := .int .i64 (7 : Nat)) rfl rfl (bin_mulN (by omega))) rfl ?_
        skip
        refine wl_val (opv_bin rfl rfl (bin_shl rfl)) rfl ?_
        have e9 : (128 : Nat) ^ i ≤ 128 ^ 9 := Nat.pow_le_pow_right (by decide) hi
        have hsum := sum_lt hn hi (x := x.toNat) (by omega)
        have hn64 : n < 2 ^ IntKind.u64.bits := by rw [pow128_9] at e9; simp only [IntKind.bits]; omega
        have hor : (n ||| (x.toNat &&& 2 ^ IntKind.u64.bits - 1 - 128) * 2 ^ (7 * i) % 2 ^ IntKind.u64.bits) = n + x.toNat % 128 * 128 ^ i := by
          rw [show 2 ^ IntKind.u64.bits - 1 - 128 = 18446744073709551615 - 128 from rfl, andNot128]
          have e : (128 : Nat) ^ i = 2 ^ (7 * i) := by rw [Nat.pow_mul]
          rw [← e, Nat.mod_eq_of_lt (by simp only [IntKind.bits]; omega), e, or_shift hn, e]
        refine wl_val (opv_bin rfl rfl ((bin_or rfl hn64 (Nat.mod_lt _ (by decide))).to (by rw [hor]))) rfl ?_
        refine wl_as rfl rfl ?_; refine wl_ns ?_; refine wc_sr ?_; refine wl_mv rfl rfl ?_; refine wl_bin rfl rfl bin_lss rfl ?_; refine wl_ns ?_
        refine wc_cond rfl (fun h4 => ?_) (fun h4 => ?_)
        · refine wc_sr ?_; refine wl_mv rfl rfl ?_; refine wl_mv rfl rfl ?_; refine wl_mv rfl rfl ?_; apply wl_val; apply opv_bin; exact rfl; exact rfl; exact bin_add64 (by omega); exact rfl; apply wl_val; apply opv_bin; exact rfl; exact rfl; exact bin_add64 (by omega); exact rfl; refine wl_as rfl rfl ?_; refine wl_as rfl rfl ?_; refine wl_as rfl rfl ?_; refine wl_ns ?_; refine wc_ret ?_; refine we_block_ret ?_; refine we_seq_ret ?_; refine we_loop_ret ?_; refine we_block_ret ?_; refine we_seq_ret ?_
          have e := getU_ok hq (heq.trans (by rw [hdrop]; exact getAux_last h3 (by omega)))
          refine we_ret3 rfl rfl rfl rfl ⟨_, rfl, ?_, Below.refl _ _⟩
          rw [e]
          have : ((q : Int) + ↑(i + 1)) = q + i + 1 := by omega
          rw [this]; rfl
        · have hi9 : i ≤ 8 := by omega
          refine wc_skip ?_; refine we_block_norm ?_; refine we_seq ?_; refine wc_region ?_; refine wl_mv rfl rfl ?_; apply wl_val; apply opv_bin; exact rfl; exact rfl; exact bin_add64 (by omega); exact rfl; refine wl_as rfl rfl ?_; refine wl_nil ?_
          refine we_loop [(0, .slice A xs.length c), (1, .int .i64 (q : Int)), (7, .int .u64 ((n + x.toNat % 128 * 128 ^ i : Nat) : Int)), (8, .int .i64 ((i + 1 : Nat) : Int))] (xs.length - (i + 1)) ⟨i + 1, _, rfl, by omega, by omega, group_lt hn (Nat.mod_lt _ (by decide)), ?_, rfl, rfl⟩ (by omega) ⟨rfl, rfl, rfl, rfl, trivial⟩
          rw [heq, hdrop, getAux_step h3 (by omega)]; rfl
    · refine wc_exit ?_; refine we_seq_exit ?_; refine we_loop_exit ?_; refine we_block_exit ?_; refine we_seq ?_; refine wc_sr ?_; refine wl_as rfl rfl ?_; refine wl_as rfl rfl ?_; refine wl_as rfl rfl ?_; refine wl_ns ?_; refine wc_ret ?_
      have hqe : q + i = xs.length := by omega
      have e := getU_bad hq (heq.trans (by rw [hqe, List.drop_length]; rfl))
      exact we_ret3 rfl rfl rfl rfl ⟨_, rfl, by rw [e]; rfl, Below.refl _ _⟩

theorem getU_at {A : Option Addr} {n c : Nat} {xs : List UInt8} {p : Int} {w : World} {v e : Nat} {x : Int} (h : getU xs p = (v, x, e)) (hr : RdB w A xs) (hn : xs.length = n) (hl : xs.length ≤ maxLen) (hp : -9223372036854775808 ≤ p ∧ p ≤ 9223372036854775807) :
    CallsV Try.prog 66 #[.slice A n c, .int .i64 p] w fun u w' => u = .tuple #[.int .u64 (v : Int), .int .i64 x, .int .i64 (e : Int)] ∧ Below w.heap.size w w' := by
  have := getU_any (c := c) hr hn hl hp
  rw [h] at this
  exact this
end Go.Proofs.Ytaacnknniaipmaa

/-
  Walks over the smallest functions of layer 1: Copy, Equal, Cmp of the references, PutU of both.
-/
namespace Go.Proofs.Ytaacnknniaipmaa
open Go.RowKit

theorem copy_any {A : Option Addr} {n c : Nat} {xs : List UInt8} {w : World} (hr : RdB w A xs) (hn : xs.length = n) (hl : xs.length ≤ 140737488355328) : CallsV Try.prog 15 #[.slice A n c] w (RetB w xs) := by
  subst hn
  refine calls_in (N := _) Try.func15 rfl Try.ntmps15 rfl ?_; show WC _ _ _ _ _ _
  refine wc_sr ?_; refine wl_as rfl rfl ?_; refine wl_ns ?_; refine wc_sr ?_
  refine wl_bs (vs := []) tyB trivial rfl (by decide) rfl fun A1 w1 ho hb _ => ?_
  refine wl_mv rfl rfl ?_
  refine wl_app tyB rfl ho rfl (RdB.below hr hb) (bvs_one _) (by omega) (by simp only [maxLen]; omega) hb.size rfl fun A' c' w' ho' hg _ => ?_
  refine wl_as rfl rfl ?_; refine wl_ns ?_; refine wc_ret ?_
  refine we_ret1 rfl rfl ⟨_, rfl, A', c', by simp, ?_, ?_⟩
  · have := ho'; simp only [Nat.zero_add, List.nil_append] at this; exact this
  · exact hg.below hb ho (Nat.le_refl _) hb.size

theorem equal_any {A B : Option Addr} {n m c d : Nat} {xs ys : List UInt8} {w : World} (hx : RdB w A xs) (hy : RdB w B ys) (hn : xs.length = n) (hm : ys.length = m) (hlx : xs.length ≤ maxLen) :
    CallsV Try.prog 13 #[.slice A n c, .slice B m d] w fun v w' => v = .bool (decide (xs = ys)) ∧ Below w.heap.size w w' := by
  subst hn hm
  simp only [maxLen] at hlx
  refine calls_in (N := _) Try.func13 rfl Try.ntmps13 rfl ?_; show WC _ _ _ _ _ _
  refine wc_sr ?_; refine wl_as rfl rfl ?_; refine wl_ns ?_; refine wc_seq ?_; refine wc_sr ?_; refine wl_mv rfl rfl ?_; apply wl_val; apply opv_len; exact rfl; exact tyB.sl; exact rfl; refine wl_mv rfl rfl ?_; apply wl_val; apply opv_len; exact rfl; exact tyB.sl; exact rfl; refine wl_bin rfl rfl bin_neq rfl ?_; refine wl_ns ?_
  refine wc_cond rfl (fun h => ?_) (fun h => ?_)
  · refine wc_sr ?_; refine wl_as rfl rfl ?_; refine wl_ns ?_; refine wc_ret ?_; refine we_seq_ret ?_
    refine we_ret1 rfl rfl ⟨_, rfl, ?_, Below.refl _ _⟩
    have hne : ¬ xs = ys := fun e => h (by rw [e])
    simp [hne]
  · have hlen : xs.length = ys.length := by omega
    refine wc_skip ?_; refine we_seq ?_; refine wc_seq ?_; refine wc_sr ?_; refine wl_as rfl rfl ?_; refine wl_ns ?_; refine wc_block ?_
    refine wc_loop (fun L wr m => ∃ k : Nat, L = [(0, .slice A xs.length c), (1, .slice B ys.length d), (5, .int .i64 k)] ∧ k ≤ xs.length ∧ xs.take k = ys.take k ∧ Below w.heap.size w wr ∧ m = xs.length - k)
      [(0, .slice A xs.length c), (1, .slice B ys.length d), (5, .int .i64 (0 : Nat))] xs.length ⟨0, rfl, by omega, rfl, Below.refl _ _, rfl⟩ ⟨rfl, rfl, rfl, trivial⟩ ?_
    rintro _ wr m ⟨k, rfl, hk, heq, hbel, rfl⟩
    have hrx := RdB.below hx hbel
    have hry := RdB.below hy hbel
    refine wc_seq ?_; refine wc_sr ?_; refine wl_mv rfl rfl ?_; refine wl_mv rfl rfl ?_; apply wl_val; apply opv_len; exact rfl; exact tyB.sl; exact rfl; refine wl_bin rfl rfl bin_lss rfl ?_; refine wl_ns ?_
    refine wc_cond rfl (fun h1 => ?_) (fun h1 => ?_)
    · refine wc_skip ?_; refine we_seq ?_; refine wc_seq ?_; refine wc_block ?_; refine wc_seq ?_
      refine wc_drawB mixed (by kernel_rfl) ?_
      apply wq_val; intro _ hw_; apply opv_move; exact rfl; exact rfl; apply wq_val; intro _ hw_; apply opv_move; exact rfl; exact rfl
      refine wq_by tyB rfl rfl hrx rfl (by omega) rfl rfl fun p1 x hxk => ?_
      apply wq_val; intro _ hw_; apply opv_move; exact rfl; exact rfl; apply wq_val; intro _ hw_; apply opv_move; exact rfl; exact rfl
      refine wq_by tyB rfl rfl hry rfl (by omega) rfl rfl fun p2 y hyk => ?_
      apply wq_val; intro _ hw_; apply opv_bin; exact rfl; exact rfl; exact bin_neq; exact rfl; refine wq_nil fun w1 hw1 => ?_
      have hb1 := hbel.trans (hw1.mono hbel.size)
      refine we_seq ?_
      refine wc_cond rfl (fun h2 => ?_) (fun h2 => ?_)
      · refine wc_sr ?_; refine wl_as rfl rfl ?_; refine wl_ns ?_; refine wc_ret ?_; refine we_block_ret ?_; refine we_seq_ret ?_; refine we_loop_ret ?_; refine we_block_ret ?_; refine we_seq_ret ?_
        refine we_ret1 rfl rfl ⟨_, rfl, ?_, hb1⟩
        have hne : ¬ xs = ys := fun e => by subst e; rw [hxk] at hyk; cases hyk; exact h2 rfl
        simp [hne]
      · refine wc_skip ?_; refine we_block_norm ?_; refine we_seq ?_; refine wc_region ?_; refine wl_mv rfl rfl ?_; apply wl_val; apply opv_bin; exact rfl; exact rfl; exact bin_add64 (by omega); exact rfl; refine wl_as rfl rfl ?_; refine wl_nil ?_
        refine we_loop [(0, .slice A xs.length c), (1, .slice B ys.length d), (5, .int .i64 (k + 1 : Nat))] (xs.length - (k + 1)) ⟨k + 1, rfl, by omega, ?_, hb1, rfl⟩ (by omega) ⟨rfl, rfl, by simp [lookT], trivial⟩
        have : x = y := UInt8.toNat_inj.1 (by omega)
        rw [take_get hxk, take_get hyk, heq, this]
    · refine wc_exit ?_; refine we_seq_exit ?_; refine we_loop_exit ?_; refine we_block_exit ?_; refine we_seq ?_; refine wc_sr ?_; refine wl_as rfl rfl ?_; refine wl_ns ?_; refine wc_ret ?_
      refine we_ret1 rfl rfl ⟨_, rfl, ?_, hbel⟩
      have hkl : k = xs.length := by omega
      rw [hkl, List.take_length, hlen, List.take_length] at heq
      simp [heq]
theorem equal_yes {A B : Option Addr} {n m c d : Nat} {xs ys : List UInt8} {w : World} (he : xs = ys) (hx : RdB w A xs) (hy : RdB w B ys) (hn : xs.length = n) (hm : ys.length = m) (hlx : xs.length ≤ maxLen) :
    CallsV Try.prog 13 #[.slice A n c, .slice B m d] w fun v w' => v = .bool true ∧ Below w.heap.size w w' :=
  (equal_any hx hy hn hm hlx).mono fun v w' ⟨h, hb⟩ => ⟨by rw [h]; simp [he], hb⟩
end Go.Proofs.Ytaacnknniaipmaa

/-
  Walks over bytes.Clone and over Next of the program and of the reference.
-/
namespace Go.Proofs.Ytaacnknniaipmaa
open Go.RowKit

theorem rd_none {w : World} {xs : List UInt8} (h : RdB w none xs) : xs = [] := by
  cases xs with
  | nil => rfl
  | cons x r => obtain ⟨_, _, h, _⟩ := h.2 (by simp); cases h

theorem clone_any {A : Option Addr} {n c : Nat} {xs : List UInt8} {w : World} (hr : RdB w A xs) (hn : xs.length = n) (hl : xs.length ≤ 140737488355328) : CallsV Try.prog 33 #[.slice A n c] w (RetB w xs) := by
  subst hn
  refine calls_in (N := _) Try.func33 rfl Try.ntmps33 rfl ?_; show WC _ _ _ _ _ _
  refine wc_sr ?_; refine wl_as rfl rfl ?_; refine wl_ns ?_; refine wc_seq ?_; refine wc_sr ?_; refine wl_mv rfl rfl ?_
  refine wl_val (opv_bin rfl rfl (bin_eqlSliceNil Try.underlying32)) rfl ?_
  refine wl_ns ?_
  refine wc_condB rfl (fun h => ?_) (fun h => ?_)
  · obtain rfl : A = none := by cases A <;> simp at h ⊢
    obtain rfl := rd_none hr
    refine wc_sr ?_; refine wl_as rfl rfl ?_; refine wl_ns ?_; refine wc_ret ?_; refine we_seq_ret ?_
    exact we_ret1 rfl rfl ⟨_, rfl, none, 0, rfl, Ow.nil _ _ _, Below.refl _ _⟩
  · refine wc_skip ?_; refine we_seq ?_; refine wc_sr ?_
    refine wl_bs (vs := []) tyB trivial rfl (by decide) rfl fun A1 w1 ho hb _ => ?_
    refine wl_mv rfl rfl ?_
    refine wl_app tyB rfl ho rfl (RdB.below hr hb) (bvs_one _) (by omega) (by simp only [maxLen]; omega) hb.size rfl fun A' c' w' ho' hg _ => ?_
    refine wl_as rfl rfl ?_; refine wl_ns ?_; refine wc_ret ?_
    refine we_ret1 rfl rfl ⟨_, rfl, A', c', by simp, ?_, ?_⟩
    · have := ho'; simp only [Nat.zero_add, List.nil_append] at this; exact this
    · exact hg.below hb ho (Nat.le_refl _) hb.size

end Go.Proofs.Ytaacnknniaipmaa

/-
  Lists of lists of bytes: read, or rows of the call's own that lie apart; and the rules to read one and to append one.
-/
namespace Go.Proofs.Ytaacnknniaipmaa
open Go.RowKit

section
variable {P : Program} {N : Nat} {ops : Array Oper} {Q : Exit → Act → World → Prop} {rest : List Oper} {L : FL} {w : World} {t e : TypeId} {z : Value} {bytes : Nat}
theorem Rd.in_len {A : Option Addr} {n k : Nat} {xs : List Value} {u : Value} (hr : Rd w A n xs) (h : xs[k]? = some u) : k < n := by
  have := (List.getElem?_eq_some_iff.1 h).1; have := hr.1; omega
theorem wl_elK {d1 d2 : Nat} {x i : Operand} {ty1 ty2 : TypeId} {p1 p2 : String} {f1 f2 : Array Edge} {A : Option Addr} {n c kk : Nat} {ik : IntKind} {q : Int} {xs : List Value} {u : Value} (T : Row1 P t e z bytes)
    (hx : look L x = some (Value.slice A n c)) (hi : look L i = some (.int ik q)) (hr : Rd w A n xs) (hq : q = (kk : Int)) (hb : xs[kk]? = some u) (hd1 : Nat.blt d1 N = true) (hd2 : Nat.blt d2 N = true)
    (h : ∀ p, WL P N ops Q rest ((d2, u) :: (d1, p) :: L) w) :
    WL P N ops Q (⟨some d1, .indexAddr t x i, ty1, p1, f1, none⟩ :: ⟨some d2, .load e (.tmp d1), ty2, p2, f2, none⟩ :: rest) L w :=
  wl_el T hx hi hr hq (hr.in_len hb) hd1 hd2 fun p u' hu => by rw [hb] at hu; cases hu; exact h p
end

/-- The slice reads as a list of lists of bytes. -/
def RdBB (w : World) (A : Option Addr) (rows : List (List UInt8)) : Prop :=
  ∃ vs : List Value, Rd w A rows.length vs ∧ ∀ (i : Nat) (r : List UInt8), rows[i]? = some r → ∃ (A' : Option Addr) (c' : Nat), vs[i]? = some (Value.slice A' r.length c') ∧ RdB w A' r ∧ r.length ≤ c'
/-- It is a row of the call's own, of rows of its own that all lie apart. -/
def OwBB (w : World) (base : Nat) (A : Option Addr) (c : Nat) (rows : List (List UInt8)) : Prop :=
  ∃ vs : List Value, Ow w base 32 A rows.length c vs ∧ (∀ (i : Nat) (r : List UInt8), rows[i]? = some r → ∃ (A' : Option Addr) (c' : Nat), vs[i]? = some (Value.slice A' r.length c') ∧ OwB w base A' c' r ∧ (∀ a a', A = some a → A' = some a' → a'.block ≠ a.block)) ∧
    vs.Pairwise fun v v' => ∀ g, v.ownBlock = some g → v'.ownBlock ≠ some g

section
variable {w w' : World} {A : Option Addr} {base c : Nat} {rows : List (List UInt8)}
theorem RdBB.below (h : RdBB w A rows) (hb : Below w.heap.size w w') : RdBB w' A rows := by
  obtain ⟨vs, hv, hr⟩ := h
  refine ⟨vs, hv.below hb, fun i r hi => ?_⟩
  obtain ⟨A', c', h1, h2, h3⟩ := hr i r hi
  exact ⟨A', c', h1, h2.below hb, h3⟩
theorem RdBB.at (h : RdBB w A rows) {k : Nat} {r : List UInt8} (hk : rows[k]? = some r) : ∃ (vs : List Value) (A' : Option Addr) (c' : Nat), Rd w A rows.length vs ∧ vs[k]? = some (Value.slice A' r.length c') ∧ RdB w A' r ∧ r.length ≤ c' := by
  obtain ⟨vs, hv, hr⟩ := h
  obtain ⟨A', c', h1, h2, h3⟩ := hr k r hk
  exact ⟨vs, A', c', hv, h1, h2, h3⟩
theorem OwBB.rd (h : OwBB w base A c rows) : RdBB w A rows := by
  obtain ⟨vs, ho, hr, _⟩ := h
  refine ⟨vs, ho.rd, fun i r hi => ?_⟩
  obtain ⟨A', c', h1, h2, _⟩ := hr i r hi
  exact ⟨A', c', h1, OwB.rd h2, h2.cap⟩
theorem OwBB.below (h : OwBB w base A c rows) (hb : Below w.heap.size w w') : OwBB w' base A c rows := by
  obtain ⟨vs, ho, hr, hs⟩ := h
  refine ⟨vs, Ow.below ho hb (Nat.le_refl _), fun i r hi => ?_, hs⟩
  obtain ⟨A', c', h1, h2, h3⟩ := hr i r hi
  exact ⟨A', c', h1, h2.below hb, h3⟩
theorem OwBB.nil (w : World) (base : Nat) : OwBB w base none 0 [] := ⟨[], Ow.nil _ _ _, by simp, List.Pairwise.nil⟩
theorem OwBB.mono {base' : Nat} (h : OwBB w base A c rows) (hb : base' ≤ base) : OwBB w base' A c rows := by
  obtain ⟨vs, ho, hr, hs⟩ := h
  refine ⟨vs, ho.mono hb, fun i r hi => ?_, hs⟩
  obtain ⟨A', c', h1, h2, h3⟩ := hr i r hi
  exact ⟨A', c', h1, Ow.mono h2 hb, h3⟩
theorem OwBB.cap (h : OwBB w base A c rows) : rows.length ≤ c := by
  obtain ⟨vs, h, _⟩ := h
  rcases h.2 with ⟨hv, hn⟩ | ⟨g, cap, cur, hv, _, _, hnc, _⟩
  · omega
  · injection hv with _ _ hc; omega
theorem OwBB.blocks {vs : List Value} (ho : Ow w base 32 A rows.length c vs) (hr : ∀ (i : Nat) (r : List UInt8), rows[i]? = some r → ∃ (A' : Option Addr) (c' : Nat), vs[i]? = some (Value.slice A' r.length c') ∧ OwB w base A' c' r ∧ (∀ a a', A = some a → A' = some a' → a'.block ≠ a.block)) :
    ∀ v ∈ vs, ∀ g, v.ownBlock = some g → g < w.heap.size := by
  intro v hv g hg
  obtain ⟨i, hi, rfl⟩ := List.getElem_of_mem hv
  have hl : i < rows.length := by have := ho.len; omega
  obtain ⟨A', c', h1, h2, _⟩ := hr i _ (List.getElem?_eq_getElem hl)
  rw [List.getElem?_eq_getElem hi] at h1
  simp only [Option.some.injEq] at h1
  rw [h1, ownBlock_slice] at hg
  cases A' with
  | none => simp at hg
  | some a' => have := (Ow.lt h2 a' rfl).2; simp at hg; omega
end

/-- append(rows, row): the row has been made behind the rows. -/
theorem wl_pushR {N : Nat} {ops : Array Oper} {Q : Exit → Act → World → Prop} {rest : List Oper} {L : FL} {w0 w wf : World} {d1 d2 : Nat} {s x : Operand} {ty1 ty2 : TypeId} {p1 p2 : String} {f1 f2 : Array Edge}
    {base n c c1 : Nat} {A A1 : Option Addr} {rows : List (List UInt8)} {r : List UInt8} (hown : OwBB w0 base A c rows) (hb : Below w0.heap.size w0 w) (hbase : base ≤ w0.heap.size) (hnew : OwB w w0.heap.size A1 c1 r) (hbel : Below base wf w)
    (hn : rows.length = n) (hbytes : (n + 1) * 24 ≤ 140737488355328) (hs : look L s = some (Value.slice A n c)) (hx : look L x = some (Value.slice A1 r.length c1))
    (hs1 : look ((d1, .slice (some ⟨w.heap.size, 0, none⟩) 1 1) :: L) s = some (Value.slice A n c)) (hd1 : Nat.blt d1 N = true) (hd2 : Nat.blt d2 N = true)
    (h : ∀ p A' c' w', OwBB w' base A' c' (rows ++ [r]) → Below base wf w' → WL Try.prog N ops Q rest ((d2, .slice A' (n + 1) c') :: (d1, p) :: L) w') :
    WL Try.prog N ops Q (⟨some d1, .buildSlice 95 1 #[(0, x)], ty1, p1, f1, none⟩ :: ⟨some d2, .call { callee := .builtin .append, args := #[s, .tmp d1], argTypes := #[95, 95] }, ty2, p2, f2, none⟩ :: rest) L w := by
  subst hn
  obtain ⟨vs, ho, hr, hsep⟩ := hown
  have hlt := OwBB.blocks ho hr
  have ho1 := Ow.below ho hb (Nat.le_refl _)
  have hsz := hb.size
  refine wl_push (vs := [.slice A1 r.length c1]) tyBB hs ho1 ⟨rfl, hx, rfl, trivial⟩ rfl (by decide) hs1 hbytes (by simp only [maxLen]; omega) (by omega) hd1 hd2 fun p A' c' w' ho' hg hat => ?_
  refine h p A' c' w' ⟨vs ++ [.slice A1 r.length c1], by rw [List.length_append]; exact ho', ?_, ?_⟩ ?_
  · intro i q hi
    have hlen := ho.len
    rw [List.getElem?_append] at hi
    by_cases hil : i < rows.length
    · rw [if_pos hil] at hi
      obtain ⟨A2, c2, h1, h2, h3⟩ := hr i q hi
      refine ⟨A2, c2, by rw [List.getElem?_append_left (by omega)]; exact h1, Ow.gr (base' := 0) (e' := 0) (Ow.below h2 hb (Nat.le_refl _)) hg (fun a b ha hb' => h3 _ _ hb' ha), ?_⟩
      rintro a a' rfl rfl
      have hl2 := (Ow.lt h2 a' rfl).2
      rcases hat with hat | hat
      · cases A with
        | none => simp at hat
        | some aa => simp only [Option.map_some, Option.some.injEq] at hat; rw [hat]; exact h3 aa a' rfl rfl
      · have := hat a rfl; omega
    · rw [if_neg hil] at hi
      have hi0 : i = rows.length := by
        have := (List.getElem?_eq_some_iff.1 hi).1
        simp at this; omega
      subst hi0
      simp at hi
      subst hi
      have hne : ∀ a b, A1 = some a → A = some b → a.block ≠ b.block := by
        rintro a b rfl rfl
        have := (Ow.lt hnew a rfl).1
        have := (Ow.lt ho b rfl).2
        omega
      refine ⟨A1, c1, by rw [← hlen]; simp, Ow.mono (Ow.gr (base' := 0) (e' := 0) hnew hg hne) hbase, ?_⟩
      rintro a a' rfl rfl
      have hl2 := (Ow.lt hnew a' rfl).2
      rcases hat with hat | hat
      · cases A with
        | none => simp at hat
        | some aa => simp only [Option.map_some, Option.some.injEq] at hat; rw [hat]; exact hne a' aa rfl rfl
      · have := hat a rfl; omega
  · rw [List.pairwise_append]
    refine ⟨hsep, List.pairwise_singleton _ _, fun v hv v' hv' g hg1 hg2 => ?_⟩
    simp only [List.mem_singleton] at hv'
    subst hv'
    have h1 := hlt v hv g hg1
    rw [ownBlock_slice] at hg2
    cases A1 with
    | none => simp at hg2
    | some a1 => have := (Ow.lt hnew a1 rfl).1; simp at hg2; omega
  · exact hg.below hbel ho1 (Nat.le_refl _) (by omega)
end Go.Proofs.Ytaacnknniaipmaa

/-
  Walks over Copies and Equals of the references.
-/
namespace Go.Proofs.Ytaacnknniaipmaa
open Go.RowKit

end Go.Proofs.Ytaacnknniaipmaa

/-
  Walks over Frame and Parts of the program and of the references.
-/
namespace Go.Proofs.Ytaacnknniaipmaa
open Go.RowKit

theorem frame_any {A : Option Addr} {n c : Nat} {rows : List (List UInt8)} {w : World} (hr : RdBB w A rows) (hn : rows.length = n) (hl : rows.flatten.length + 10 * rows.length ≤ 17592186044416) : CallsV Try.prog 32 #[.slice A n c] w (RetB w (framed rows)) := by
  subst hn
  have hfl := framed_length rows (fun r h => by have := mem_flat h; omega)
  refine calls_in (N := _) Try.func32 rfl Try.ntmps32 rfl ?_; show WC _ _ _ _ _ _
  refine wc_sr ?_; refine wl_as rfl rfl ?_; refine wl_ns ?_; refine wc_sr ?_; refine wl_as rfl rfl ?_; refine wl_ns ?_; refine wc_seq ?_; refine wc_sr ?_; refine wl_mv rfl rfl ?_; apply wl_val; apply opv_len; exact rfl; exact tyBB.sl; exact rfl; refine wl_mv rfl rfl ?_; refine wl_ns ?_; refine wc_block ?_
  refine wc_loop (fun L wr m => ∃ (k : Nat) (P : Option Addr) (cp : Nat), L = [(3, .slice P (framed (rows.take k)).length cp), (6, .slice A rows.length c), (7, .int .i64 (rows.length : Int)), (8, .int .i64 (k : Int))] ∧ k ≤ rows.length ∧ OwB wr w.heap.size P cp (framed (rows.take k)) ∧ Below w.heap.size w wr ∧ m = rows.length - k)
    [(3, .slice none 0 0), (6, .slice A rows.length c), (7, .int .i64 (rows.length : Int)), (8, .int .i64 (0 : Nat))] rows.length ⟨0, none, 0, rfl, by omega, Ow.nil _ _ _, Below.refl _ _, rfl⟩ ⟨rfl, rfl, rfl, rfl, trivial⟩ ?_
  rintro _ w1 m ⟨k, P, cp, rfl, hk, o1, hb1, rfl⟩
  have hle := framed_take_le rows k
  refine wc_sr ?_; refine wl_bin rfl rfl bin_lss rfl ?_; refine wl_ns ?_; refine wc_seq ?_
  refine wc_cond rfl (fun h1 => ?_) (fun h1 => ?_)
  · obtain ⟨x, hx⟩ : ∃ x, rows[k]? = some x := ⟨_, List.getElem?_eq_getElem (by omega)⟩
    obtain ⟨vs, X, cx, hv0, hvk, rx, hcx⟩ := hr.at hx
    have hv := hv0.below hb1
    have hxm := flat_mem hx
    have hpl := putU_le (n := x.length) (by omega)
    have hle2 := framed_take_le rows (k + 1)
    have e2 := framed_take hx
    have e3 := congrArg List.length e2
    simp only [List.length_append] at e3
    refine wc_skip ?_; refine we_seq ?_; refine wc_seq ?_; refine wc_block ?_; refine wc_sr ?_; apply wl_elK (T := tyBB) (hr := hv) (hb := hvk); exact rfl; exact rfl; exact rfl; exact rfl; exact rfl; intro _; refine wl_as rfl rfl ?_; refine wl_ns ?_; refine wc_region ?_; refine wl_mv rfl rfl ?_; refine wl_mv rfl rfl ?_; apply wl_val; apply opv_len; exact rfl; exact tyB.sl; exact rfl; apply wl_val; apply opv_convR; exact rfl; exact Try.underlying3; exact Try.underlying22; exact IntWalk.u64_in _ (by omega); exact rfl
    refine wl_call ok_codec_PutU (putU_any x.length (by omega) _) ⟨rfl, trivial⟩ rfl ?_
    rintro _ w2 ⟨A2, c2, rfl, o2, h2⟩
    have o1' := OwB.below o1 h2
    refine wl_app tyB rfl o1' rfl o2.rd (bvs_one _) (by omega) (by simp only [maxLen]; omega) (Nat.le_trans hb1.size h2.size) rfl fun A4 c4 w4 o4 g4 _ => ?_
    have hb4 := g4.below (hb1.trans (h2.mono hb1.size)) o1' (Nat.le_refl _) (Nat.le_trans hb1.size h2.size)
    have o5 := OwB.app o4
    refine wl_mv rfl rfl ?_
    refine wl_app tyB rfl o4 rfl (RdB.below rx hb4) (bvs_one _) (by omega) (by simp only [maxLen]; omega) hb4.size rfl fun A6 c6 w6 o6 g6 _ => ?_
    have hb6 := g6.below hb4 o4 (Nat.le_refl _) hb4.size
    have o7 : OwB w6 w.heap.size A6 c6 (framed (rows.take (k + 1))) := by
      rw [e2]; unfold OwB; rw [List.length_append, List.length_append, bvs_append, bvs_append]; exact o6
    refine wl_as rfl rfl ?_; refine wl_nil ?_; refine we_block_norm ?_; refine we_seq ?_; refine wc_region ?_; apply wl_val; apply opv_bin; exact rfl; exact rfl; exact bin_add64 (by omega); exact rfl; refine wl_mv rfl rfl ?_; refine wl_nil ?_
    refine we_loop [(3, .slice A6 (framed (rows.take (k + 1))).length c6), (6, .slice A rows.length c), (7, .int .i64 (rows.length : Int)), (8, .int .i64 ((k + 1 : Nat) : Int))] (rows.length - (k + 1)) ⟨k + 1, A6, c6, rfl, by omega, o7, hb6, rfl⟩ (by omega) ⟨by rw [e3]; rfl, rfl, rfl, by simp [lookT], trivial⟩
  · obtain rfl : k = rows.length := by omega
    rw [List.take_length] at o1 ⊢
    refine wc_exit ?_; refine we_seq_exit ?_; refine we_loop_exit ?_; refine we_block_exit ?_; refine we_seq ?_; refine wc_sr ?_; refine wl_mv rfl rfl ?_; refine wl_as rfl rfl ?_; refine wl_ns ?_; refine wc_ret ?_
    exact we_ret1 rfl rfl ⟨_, rfl, P, cp, rfl, o1, hb1⟩

end Go.Proofs.Ytaacnknniaipmaa

/-
  The engine's rules for a region whose order Go leaves open and which makes memory: operations that yield one value in every world of a class are taken first; where one operation alone may come up, it is carried out. Nothing here names the program.
-/
namespace Go.Proofs.Ytaacnknniaipmaa
open Go.RowKit

def WH (P : Program) (N : Nat) (ops : Array Oper) (Q : Exit → Act → World → Prop) (S : World → Prop) (fuel : Nat) (listed : Array Bool) (L : FL) (w : World) : Prop :=
  ∀ a, Has N a L → wpAnyH P .any ops (NoPanic Q) S fuel listed a w
/-- What must hold behind the one operation that could come up. -/
def HeldQ (P : Program) (ops : Array Oper) (Q : Exit → Act → World → Prop) (S : World → Prop) (fuel : Nat) (listed : Array Bool) : Exit → Act → World → Prop :=
  Exit.then (fun a w => S w ∧ wpAnyH P .any ops (NoPanic Q) S fuel listed a w) (NoPanic Q)

section
variable {P : Program} {N : Nat} {ops : Array Oper} {Q : Exit → Act → World → Prop} {S : World → Prop} {fuel : Nat} {listed : Array Bool} {L : FL} {w : World}

theorem wc_held {id : Nat} {l : List Oper} (S : World → Prop) (hm : P.follows .mixedOrders = true) (h : WH P N l.toArray Q S l.length (Array.replicate l.length false) L w.drew) : WC P N (.region id l.toArray true) Q L w := fun a ha =>
  wp_region_noPanic (wp_region_held (S := S) hm (by simpa using h a ha))
theorem np {Q : Exit → Act → World → Prop} {a a' : Act} {c : List PanicEntry} {w : World} (h : NoPanic Q (.panic c) a' w) : NoPanic Q (.panic c) a w := by simp [NoPanic] at h
theorem wh_done (hr : Region.ready .any ops listed = []) (h : WE N Q .normal L w) : WH P N ops Q S fuel listed L w := fun a ha => wpAnyH_done (Q := NoPanic Q) hr (NoPanic.normal (h a ha)) fuel
theorem wh_take (i : Nat) {d : Nat} {op : Op} {ty : TypeId} {pos : String} {aft : Array Edge} {v : Value} (hi : ops[i]? = some ⟨some d, op, ty, pos, aft, none⟩) (hs : Region.noSelect ops = true)
    (hf : Region.free .any ops listed i = true) (hr : (Region.ready .any ops listed).contains i = true) (hS : S w) (hv : ∀ w, S w → OpV P op ty L w v w) (hd : Nat.blt d N = true)
    (h : WH P N ops Q S fuel (listed.setIfInBounds i true) ((d, v) :: L) w) : WH P N ops Q S (fuel + 1) listed L w := fun a ha =>
  wpAnyH_take hi hs hf hr (fun _ _ _ h => np h) (.inl ⟨by simp [Region.wanted], fun w hw => hv w hw a.eval _ (fun x u hx => ha.eval hx) rfl rfl⟩) hS (h _ (ha.put hd v))
theorem wh_takeG (i : Nat) {d j g : Nat} {b want : Bool} {op : Op} {ty : TypeId} {pos : String} {aft : Array Edge} {v : Value} (hi : ops[i]? = some ⟨some d, op, ty, pos, aft, some (j, want)⟩) (hs : Region.noSelect ops = true)
    (hf : Region.free .any ops listed i = true) (hr : (Region.ready .any ops listed).contains i = true) (hS : S w)
    (hj : (ops[j]?).bind (·.dst) = some g) (hb : lookT L g = some (.bool b)) (hg : Nat.blt g N = true) (he : b = want) (hv : ∀ w, S w → OpV P op ty L w v w) (hd : Nat.blt d N = true)
    (h : WH P N ops Q S fuel (listed.setIfInBounds i true) ((d, v) :: L) w) : WH P N ops Q S (fuel + 1) listed L w := fun a ha => by
  have hy := yielded_of ha hj hb hg
  exact wpAnyH_take hi hs hf hr (fun _ _ _ h => np h) (.inl ⟨by simp [Region.wanted, hy, he], fun w hw => hv w hw a.eval _ (fun x u hx => ha.eval hx) rfl rfl⟩) hS (h _ (ha.put hd v))
/-- The same with what must be computed in one piece, behind the guard. -/
def okAt (ops : Array Oper) (listed : Array Bool) (i : Nat) : Bool := Region.noSelect ops && (Region.free .any ops listed i && (Region.ready .any ops listed).contains i)
theorem okAt_of {i : Nat} (h : okAt ops listed i = true) : Region.noSelect ops = true ∧ Region.free .any ops listed i = true ∧ (Region.ready .any ops listed).contains i = true := by
  simpa only [okAt, Bool.and_eq_true] using h
theorem wh_takeH (i : Nat) {d : Nat} {op : Op} {ty : TypeId} {pos : String} {aft : Array Edge} {v : Value} (hi : ops[i]? = some ⟨some d, op, ty, pos, aft, none⟩) (hv : ∀ w, S w → OpV P op ty L w v w) (hd : Nat.blt d N = true) (hk : okAt ops listed i = true) (hS : S w)
    (h : WH P N ops Q S fuel (listed.setIfInBounds i true) ((d, v) :: L) w) : WH P N ops Q S (fuel + 1) listed L w :=
  wh_take i hi (okAt_of hk).1 (okAt_of hk).2.1 (okAt_of hk).2.2 hS hv hd h
theorem wh_takeGH (i : Nat) {d j g : Nat} {b want : Bool} {op : Op} {ty : TypeId} {pos : String} {aft : Array Edge} {v : Value} (hi : ops[i]? = some ⟨some d, op, ty, pos, aft, some (j, want)⟩)
    (hj : (ops[j]?).bind (·.dst) = some g) (hb : lookT L g = some (.bool b)) (hg : Nat.blt g N = true) (he : b = want) (hv : ∀ w, S w → OpV P op ty L w v w) (hd : Nat.blt d N = true) (hk : okAt ops listed i = true) (hS : S w)
    (h : WH P N ops Q S fuel (listed.setIfInBounds i true) ((d, v) :: L) w) : WH P N ops Q S (fuel + 1) listed L w :=
  wh_takeG i hi (okAt_of hk).1 (okAt_of hk).2.1 (okAt_of hk).2.2 hS hj hb hg he hv hd h
/-- One operation alone may come up. -/
theorem wh_one (i : Nat) {o : Oper} (hr : Region.ready .any ops listed = [i]) (hi : ops[i]? = some o)
    (h : WL P N ops (HeldQ P ops Q S fuel (listed.setIfInBounds i true)) [o] L w) : WH P N ops Q S (fuel + 1) listed L w := fun a ha => by
  refine wpAnyH_all hr (by simp) fun i' hi' => ?_
  obtain rfl : i' = i := by simpa using hi'
  have h' := h a ha
  unfold wpOp
  simp only [hi]
  unfold wpList at h'
  split
  · rename_i hw
    rw [if_pos hw] at h'
    rcases h' with h' | ⟨ha, a0, w0, h'⟩
    · exact .inl (upon_mono (fun a w h => h) (fun e a w he h => by cases e <;> first | exact absurd rfl he | exact h) h')
    · exact .inr ⟨ha, a0, w0, h'⟩
  · rename_i hw
    rw [if_neg hw] at h'
    exact h'
theorem we_held (hS : S w) (h : WH P N ops Q S fuel listed L w) : WE N (HeldQ P ops Q S fuel listed) .normal L w := fun a ha => ⟨hS, h a ha⟩
end
end Go.Proofs.Ytaacnknniaipmaa

/-
  The engine's rules for a region whose order Go leaves open and which stores at its end: up to the first store (number m, for which all others wait) operations that yield one value in every world of a class are taken first; from there on the class no longer counts. Nothing here names the program.
-/
namespace Go.Proofs.Ytaacnknniaipmaa
open Go.RowKit

def AnyM (P : Program) (ops : Array Oper) (Q : Exit → Act → World → Prop) (S : World → Prop) (m : Nat) : Nat → Array Bool → Act → World → Prop
  | 0, listed, a, w => Region.ready .any ops listed = [] ∧ Q .normal a w
  | fuel + 1, listed, a, w =>
    (Region.ready .any ops listed = [] → Q .normal a w) ∧
    ∀ i ∈ Region.ready .any ops listed, wpOp P ops Q i (fun a' w' => ((listed.setIfInBounds i true).getD m false = false → S w') ∧ AnyM P ops Q S m fuel (listed.setIfInBounds i true) a' w') a w
section
variable {P : Program} {ops : Array Oper} {Q : Exit → Act → World → Prop} {S : World → Prop} {m : Nat}
theorem any_of_M : ∀ (fuel : Nat) (listed : Array Bool) (a : Act) (w : World), AnyM P ops Q S m fuel listed a w → wpAny P .any ops Q fuel listed a w
  | 0, _, _, _, h => h
  | fuel + 1, _, _, _, h => ⟨h.1, fun i hi => wpOp_mono (fun a' w' h' => any_of_M fuel _ a' w' h'.2) (h.2 i hi)⟩
theorem anyM_first {i : Nat} {oi om : Oper} {v : Value} (hi : ops[i]? = some oi) (hsel : ∀ (j : Nat) (o : Oper) cs b, ops[j]? = some o → o.op ≠ .select cs b)
    (hQ : ∀ c a w, Q (.panic c) (a.put oi.dst v) w → Q (.panic c) a w) (hm : ops[m]? = some om) (hmi : m ≠ i) (hwait : ∃ e ∈ om.after, Region.binds .any e = true ∧ e.on = i) :
    ∀ (fuel : Nat) (listed : Array Bool) (a : Act) (w : World),
      (∀ j oj, ops[j]? = some oj → j ≠ i → listed.getD j true = false → (∀ e ∈ oj.after, Region.binds .any e = true → e.on ≠ i) → oi.apart ops oj = true) →
      i ∈ Region.ready .any ops listed → YieldsIf P ops S oi v a → S w → listed.getD m false = false →
      AnyM P ops Q S m fuel (listed.setIfInBounds i true) (a.put oi.dst v) w → AnyM P ops Q S m (fuel + 1) listed a w := by
  have hset : ∀ (l : Array Bool) (j : Nat), m ≠ j → (l.setIfInBounds j true).getD m false = l.getD m false := fun l j h => getD_set_ne false (Ne.symm h)
  intro fuel
  induction fuel with
  | zero =>
    intro listed a w _ hr hy hS hlm H
    refine ⟨fun h => (by rw [h] at hr; cases hr), fun j hj => ?_⟩
    by_cases hji : j = i
    · subst hji; exact hy.wpOp hi hS ⟨fun _ => hS, H⟩
    · have := ready_mono hj hji
      rw [H.1] at this
      cases this
  | succ fuel ih =>
    intro listed a w hfree hr hy hS hlm H
    refine ⟨fun h => (by rw [h] at hr; cases hr), fun j hj => ?_⟩
    by_cases hji : j = i
    · subst hji; exact hy.wpOp hi hS ⟨fun _ => hS, H⟩
    · have h1 := H.2 j (ready_mono hj hji)
      obtain ⟨hjun, oj, hoj, hall⟩ := mem_ready.1 hj
      have hnot : ∀ e ∈ oj.after, Region.binds .any e = true → e.on ≠ i := fun e he hb heq => by
        have h1 := hall e he hb
        have h0 := (mem_ready.1 hr).1
        rw [heq] at h1
        rcases Nat.lt_or_ge i listed.size with h' | h'
        · simp [h'] at h0 h1; rw [h0] at h1; cases h1
        · simp [Array.getElem?_eq_none h'] at h1
      have hjm : m ≠ j := by
        rintro rfl
        rw [hm] at hoj; cases hoj
        obtain ⟨e, he, hb, hon⟩ := hwait
        exact hnot e he hb hon
      have h2 := wpOp_putIf hoj (hfree j oj hoj hji hjun hnot) (fun cs b => hsel i oi cs b hi) (fun cs b => hsel j oj cs b hoj) hQ hy h1
      have hfree' : ∀ k ok, ops[k]? = some ok → k ≠ i → (listed.setIfInBounds j true).getD k true = false →
          (∀ e ∈ ok.after, Region.binds .any e = true → e.on ≠ i) → oi.apart ops ok = true := fun k ok hk hki hun hno => by
        refine hfree k ok hk hki ?_ hno
        by_cases hjk : j = k
        · subst hjk; exact hjun
        · rw [getD_set_ne true hjk] at hun; exact hun
      have hl2 : (listed.setIfInBounds j true).getD m false = false := by rw [hset _ _ hjm]; exact hlm
      refine wpOp_mono (fun a' w' h3 => ?_) h2
      have hSw : S w' := h3.2.1 (by rw [hset _ _ hjm, hset _ _ hmi]; exact hlm)
      refine ⟨fun _ => hSw, ih (listed.setIfInBounds j true) a' w' hfree' (ready_mono hr (Ne.symm hji)) h3.1 hSw hl2 ?_⟩
      rw [Array.setIfInBounds_comm _ _ hji]
      exact h3.2.2
theorem anyM_firstP {i : Nat} {oi : Oper} {v : Value} (hi : ops[i]? = some oi) (hsel : ∀ (j : Nat) (o : Oper) cs b, ops[j]? = some o → o.op ≠ .select cs b)
    (hQ : ∀ c a w, Q (.panic c) (a.put oi.dst v) w → Q (.panic c) a w) (hmi : m ≠ i) :
    ∀ (fuel : Nat) (listed : Array Bool) (a : Act) (w : World),
      (∀ j oj, ops[j]? = some oj → j ≠ i → listed.getD j true = false → (∀ e ∈ oj.after, Region.binds .any e = true → e.on ≠ i) → oi.apart ops oj = true) →
      i ∈ Region.ready .any ops listed → YieldsIf P ops (fun _ => True) oi v a → (listed.getD m false = false → S w) →
      AnyM P ops Q S m fuel (listed.setIfInBounds i true) (a.put oi.dst v) w → AnyM P ops Q S m (fuel + 1) listed a w := by
  have hset : ∀ (l : Array Bool) (j : Nat), m ≠ j → (l.setIfInBounds j true).getD m false = l.getD m false := fun l j h => getD_set_ne false (Ne.symm h)
  intro fuel
  induction fuel with
  | zero =>
    intro listed a w _ hr hy hS H
    refine ⟨fun h => (by rw [h] at hr; cases hr), fun j hj => ?_⟩
    by_cases hji : j = i
    · subst hji; exact hy.wpOp hi trivial ⟨fun h => hS (by rw [← hset _ _ hmi]; exact h), H⟩
    · have := ready_mono hj hji
      rw [H.1] at this
      cases this
  | succ fuel ih =>
    intro listed a w hfree hr hy hS H
    refine ⟨fun h => (by rw [h] at hr; cases hr), fun j hj => ?_⟩
    by_cases hji : j = i
    · subst hji; exact hy.wpOp hi trivial ⟨fun h => hS (by rw [← hset _ _ hmi]; exact h), H⟩
    · have h1 := H.2 j (ready_mono hj hji)
      obtain ⟨hjun, oj, hoj, hall⟩ := mem_ready.1 hj
      have hnot : ∀ e ∈ oj.after, Region.binds .any e = true → e.on ≠ i := fun e he hb heq => by
        have h1 := hall e he hb
        have h0 := (mem_ready.1 hr).1
        rw [heq] at h1
        rcases Nat.lt_or_ge i listed.size with h' | h'
        · simp [h'] at h0 h1; rw [h0] at h1; cases h1
        · simp [Array.getElem?_eq_none h'] at h1
      have h2 := wpOp_putIf hoj (hfree j oj hoj hji hjun hnot) (fun cs b => hsel i oi cs b hi) (fun cs b => hsel j oj cs b hoj) hQ hy h1
      have hfree' : ∀ k ok, ops[k]? = some ok → k ≠ i → (listed.setIfInBounds j true).getD k true = false →
          (∀ e ∈ ok.after, Region.binds .any e = true → e.on ≠ i) → oi.apart ops ok = true := fun k ok hk hki hun hno => by
        refine hfree k ok hk hki ?_ hno
        by_cases hjk : j = k
        · subst hjk; exact hjun
        · rw [getD_set_ne true hjk] at hun; exact hun
      refine wpOp_mono (fun a' w' h3 => ?_) h2
      have hSw : (listed.setIfInBounds j true).getD m false = false → S w' := fun h => h3.2.1 (by rw [Array.setIfInBounds_comm _ _ (Ne.symm hji), hset _ _ hmi]; exact h)
      refine ⟨hSw, ih (listed.setIfInBounds j true) a' w' hfree' (ready_mono hr (Ne.symm hji)) h3.1 hSw ?_⟩
      rw [Array.setIfInBounds_comm _ _ hji]
      exact h3.2.2
end

def waits (ops : Array Oper) (m i : Nat) : Bool := match ops[m]? with
  | some o => o.after.toList.any fun e => Region.binds .any e && Nat.beq e.on i
  | none => false
def okM (ops : Array Oper) (listed : Array Bool) (m i : Nat) : Bool := okAt ops listed i && (waits ops m i && (!Nat.beq m i && !listed.getD m false))
def WM (P : Program) (N : Nat) (ops : Array Oper) (Q : Exit → Act → World → Prop) (S : World → Prop) (m fuel : Nat) (listed : Array Bool) (L : FL) (w : World) : Prop :=
  ∀ a, Has N a L → AnyM P ops (NoPanic Q) S m fuel listed a w
def HeldM (P : Program) (ops : Array Oper) (Q : Exit → Act → World → Prop) (S : World → Prop) (m fuel : Nat) (listed : Array Bool) : Exit → Act → World → Prop :=
  Exit.then (fun a w => (listed.getD m false = false → S w) ∧ AnyM P ops (NoPanic Q) S m fuel listed a w) (NoPanic Q)
section
variable {P : Program} {N : Nat} {ops : Array Oper} {Q : Exit → Act → World → Prop} {S : World → Prop} {m fuel : Nat} {listed : Array Bool} {L : FL} {w : World}
theorem okM_of {i : Nat} (h : okM ops listed m i = true) : okAt ops listed i = true ∧ (∃ om, ops[m]? = some om ∧ ∃ e ∈ om.after, Region.binds .any e = true ∧ e.on = i) ∧ m ≠ i ∧ listed.getD m false = false := by
  simp only [okM, Bool.and_eq_true, Bool.not_eq_true'] at h
  obtain ⟨h1, h2, h3, h4⟩ := h
  refine ⟨h1, ?_, Nat.ne_of_beq_eq_false h3, h4⟩
  unfold waits at h2
  split at h2
  · rename_i o ho
    obtain ⟨e, he, hb⟩ := List.any_eq_true.1 h2
    rw [Bool.and_eq_true] at hb
    exact ⟨o, ho, e, by simpa using he, hb.1, Nat.eq_of_beq_eq_true hb.2⟩
  · cases h2
theorem wm_done (hr : Region.ready .any ops listed = []) (h : WE N Q .normal L w) : WM P N ops Q S m fuel listed L w := fun a ha => by
  have hq : NoPanic Q .normal a w := NoPanic.normal (h a ha)
  cases fuel with
  | zero => exact ⟨hr, hq⟩
  | succ fuel => exact ⟨fun _ => hq, by rw [hr]; simp⟩
theorem anyM_take {i : Nat} {o : Oper} {v : Value} {a : Act} (hi : ops[i]? = some o) (hk : okM ops listed m i = true) (hS : S w) (hy : YieldsIf P ops S o v a)
    (h : AnyM P ops (NoPanic Q) S m fuel (listed.setIfInBounds i true) (a.put o.dst v) w) : AnyM P ops (NoPanic Q) S m (fuel + 1) listed a w := by
  obtain ⟨h1, ⟨om, h2, h3⟩, h4, h5⟩ := okM_of hk
  obtain ⟨k1, k2, k3⟩ := okAt_of h1
  exact anyM_first hi (Region.noSelect_spec k1) (fun _ _ _ h => np h) h2 h4 h3 fuel listed a w (Region.free_spec hi k2) (by simpa using k3) hy hS h5 h
theorem wm_take (i : Nat) {d : Nat} {op : Op} {ty : TypeId} {pos : String} {aft : Array Edge} {v : Value} (hi : ops[i]? = some ⟨some d, op, ty, pos, aft, none⟩) (hv : ∀ w, S w → OpV P op ty L w v w) (hd : Nat.blt d N = true) (hk : okM ops listed m i = true) (hS : S w)
    (h : WM P N ops Q S m fuel (listed.setIfInBounds i true) ((d, v) :: L) w) : WM P N ops Q S m (fuel + 1) listed L w := fun a ha =>
  anyM_take hi hk hS (.inl ⟨by simp [Region.wanted], fun w hw => hv w hw a.eval _ (fun x u hx => ha.eval hx) rfl rfl⟩) (h _ (ha.put hd v))
/-- The same of an operation that does not look at the world. -/
theorem wm_takeP (i : Nat) {d : Nat} {op : Op} {ty : TypeId} {pos : String} {aft : Array Edge} {v : Value} (hi : ops[i]? = some ⟨some d, op, ty, pos, aft, none⟩) (hv : ∀ w, OpV P op ty L w v w) (hd : Nat.blt d N = true) (hk : (okAt ops listed i && !Nat.beq m i) = true) (hS : listed.getD m false = false → S w)
    (h : WM P N ops Q S m fuel (listed.setIfInBounds i true) ((d, v) :: L) w) : WM P N ops Q S m (fuel + 1) listed L w := fun a ha => by
  rw [Bool.and_eq_true, Bool.not_eq_true'] at hk
  obtain ⟨k1, k2, k3⟩ := okAt_of hk.1
  exact anyM_firstP hi (Region.noSelect_spec k1) (fun _ _ _ h => np h) (Nat.ne_of_beq_eq_false hk.2) fuel listed a w (Region.free_spec hi k2) (by simpa using k3) (.inl ⟨by simp [Region.wanted], fun w _ => hv w a.eval _ (fun x u hx => ha.eval hx) rfl rfl⟩) hS (h _ (ha.put hd v))
/-- One operation alone may come up. -/
theorem wm_one (i : Nat) {o : Oper} (hr : Region.ready .any ops listed = [i]) (hi : ops[i]? = some o)
    (h : WL P N ops (HeldM P ops Q S m fuel (listed.setIfInBounds i true)) [o] L w) : WM P N ops Q S m (fuel + 1) listed L w := fun a ha => by
  refine ⟨fun h0 => absurd (hr ▸ h0) (by simp), hr ▸ fun i' hi' => ?_⟩
  obtain rfl : i' = i := by simpa using hi'
  have h' := h a ha
  unfold wpOp
  simp only [hi]
  unfold wpList at h'
  split
  · rename_i hw
    rw [if_pos hw] at h'
    rcases h' with h' | ⟨ha, a0, w0, h'⟩
    · exact .inl (upon_mono (fun a w h => h) (fun e a w he h => by cases e <;> first | exact absurd rfl he | exact h) h')
    · exact .inr ⟨ha, a0, w0, h'⟩
  · rename_i hw
    rw [if_neg hw] at h'
    exact h'
/-- Two may come up. -/
theorem wm_two (i j : Nat) {o o' : Oper} (hr : Region.ready .any ops listed = [i, j]) (hi : ops[i]? = some o) (hj : ops[j]? = some o')
    (h : WL P N ops (HeldM P ops Q S m fuel (listed.setIfInBounds i true)) [o] L w) (h' : WL P N ops (HeldM P ops Q S m fuel (listed.setIfInBounds j true)) [o'] L w) : WM P N ops Q S m (fuel + 1) listed L w := fun a ha => by
  have key : ∀ {i : Nat} {o : Oper}, ops[i]? = some o → WL P N ops (HeldM P ops Q S m fuel (listed.setIfInBounds i true)) [o] L w → wpOp P ops (NoPanic Q) i (fun a' w' => ((listed.setIfInBounds i true).getD m false = false → S w') ∧ AnyM P ops (NoPanic Q) S m fuel (listed.setIfInBounds i true) a' w') a w := by
    intro i o hi h
    have h' := h a ha
    unfold wpOp
    simp only [hi]
    unfold wpList at h'
    split
    · rename_i hw
      rw [if_pos hw] at h'
      rcases h' with h' | ⟨ha, a0, w0, h'⟩
      · exact .inl (upon_mono (fun a w h => h) (fun e a w he h => by cases e <;> first | exact absurd rfl he | exact h) h')
      · exact .inr ⟨ha, a0, w0, h'⟩
    · rename_i hw
      rw [if_neg hw] at h'
      exact h'
  refine ⟨fun h0 => absurd (hr ▸ h0) (by simp), hr ▸ fun i' hi' => ?_⟩
  rw [List.mem_cons, List.mem_singleton] at hi'
  rcases hi' with rfl | rfl
  · exact key hi h
  · exact key hj h'
theorem we_heldM (hS : listed.getD m false = false → S w) (h : WM P N ops Q S m fuel listed L w) : WE N (HeldM P ops Q S m fuel listed) .normal L w := fun a ha => ⟨hS, h a ha⟩
end
end Go.Proofs.Ytaacnknniaipmaa

/-
  The engine's rules for arrays and for variables that have a block of their own: made, read, written, cell by cell and whole; an array that is handed back by value. Nothing here names the program.
-/
namespace Go.Proofs.Ytaacnknniaipmaa
open Go.RowKit

/-- Block g holds these cells, and may be written. -/
def Ar (w : World) (g : Nat) (t : TypeId) (cs : List Value) : Prop := w.heap[g]? = some (.cells cs.toArray t)
/-- A type of one cell that is no array and no struct. -/
structure Cell1 (P : Program) (e : TypeId) : Prop where
  size : (P.info? e).map (·.size) = some 1
  flat : (match P.underlying e with | some (.struct _) => true | some (.array _ _) => true | some _ => false | none => true) = false
theorem Cell1.agg {P : Program} {e : TypeId} (T : Cell1 P e) (w : World) : (isAgg e).run P w = .ok false w := by
  have h := T.flat
  unfold isAgg
  cases hu : P.underlying e with
  | none => rw [hu] at h; simp at h
  | some d =>
    rw [hu] at h
    rw [Sem.run_bind, run_underlying hu]
    cases d <;> first | (simp at h; done) | simp
theorem Cell1.sizeOf {P : Program} {e : TypeId} (T : Cell1 P e) (w : World) : (sizeOf e).run P w = .ok 1 w := by
  have h := T.size
  cases hq : P.info? e with
  | none => simp [hq] at h
  | some i =>
    have : i.size = 1 := by simpa [hq] using h
    simp [Go.sizeOf, typeInfo, hq, this]

section
variable {P : Program} {N : Nat} {ops : Array Oper} {Q : Exit → Act → World → Prop} {rest : List Oper} {L : FL} {w w' : World} {t e : TypeId} {g : Nat} {cs : List Value}
theorem Ar.lt (h : Ar w g t cs) : g < w.heap.size := by
  rcases Nat.lt_or_ge g w.heap.size with h1 | h1
  · exact h1
  · unfold Ar at h; rw [Array.getElem?_eq_none h1] at h; cases h
theorem Ar.below {B : Nat} (h : Ar w g t cs) (hb : Below B w w') (hg : w.heap.size ≤ B) : Ar w' g t cs := by
  unfold Ar; rw [hb.block g (by have := h.lt; omega)]; exact h
theorem Ar.bel (h : Ar w g t cs) (hb : Below w.heap.size w w') : Ar w' g t cs := h.below hb (Nat.le_refl _)
theorem Ar.new (w : World) (t : TypeId) (cs : List Value) : Ar (w.alloc (.cells cs.toArray t)) w.heap.size t cs := heap_alloc_new w _
theorem Ar.cell (h : Ar w g t cs) (k : Nat) : w.cell? ⟨g, k, none⟩ = cs[k]? := by
  rw [cell_of_row w g k cs.toArray t (0, 0) h]; simp
theorem Ar.frozen (h : Ar w g t cs) (k : Nat) : w.frozen? ⟨g, k, none⟩ = false := by
  unfold World.frozen?; rw [show w.heap[(⟨g, k, none⟩ : Addr).block]? = some (.cells cs.toArray t) from h]; simp
theorem Ar.setCell (h : Ar w g t cs) (k : Nat) (v : Value) : Ar (w.setCell ⟨g, k, none⟩ v) g t (cs.set k v) := by
  unfold Ar World.setCell
  simp only [Array.getElem?_modify, if_true]
  rw [show w.heap[g]? = some (.cells cs.toArray t) from h]
  simp
theorem Ar.setRow {cs' : List Value} (h : Ar w g t cs) : Ar (w.setRow g cs'.toArray) g t cs' := setRow_heap w g _ _ _ _ h

/-- A variable with a block of its own. -/
theorem opv_alloc {ty : TypeId} {z : Value} (hz : (P.info? t).map (·.zero) = some (some z)) : OpV P (.alloc t) ty L w (.pointer (some ⟨w.heap.size, 0, none⟩)) (w.alloc (.cells z.cells t)) := fun ρ o hρ ho _ => by
  cases hq : P.info? t with
  | none => simp [hq] at hz
  | some i =>
    have : i.zero = some z := by simpa [hq] using hz
    simp [execOp, ho, Instr.alloc, zeroValue, typeInfo, hq, this, newVar, newRow]
theorem wl_alloc {d : Nat} {ty : TypeId} {pos : String} {aft : Array Edge} {z : Value} (hz : (P.info? t).map (·.zero) = some (some z)) (hd : Nat.blt d N = true)
    (h : ∀ w', Ar w' w.heap.size t z.cells.toList → Below w.heap.size w w' → w'.heap.size = w.heap.size + 1 → WL P N ops Q rest ((d, .pointer (some ⟨w.heap.size, 0, none⟩)) :: L) w') :
    WL P N ops Q (⟨some d, .alloc t, ty, pos, aft, none⟩ :: rest) L w :=
  wl_val (opv_alloc hz) hd (h _ (by simpa using Ar.new w t z.cells.toList) ((Below.refl _ _).alloc (Nat.le_refl _) _) (by simp))
theorem opv_loadC {x : Operand} {ty : TypeId} {a : Addr} {u : Value} (T : Cell1 P e) (hx : look L x = some (.pointer (some a))) (hc : w.cell? a = some u) : OpV P (.load e x) ty L w u w := fun ρ op hρ ho _ => by
  simp [execOp, ho, Instr.loadAt, Instr.sureAddr, loadVar, hρ x _ hx, T.agg, hc]
theorem opu_storeC {x y : Operand} {ty : TypeId} {a : Addr} {u v : Value} (T : Cell1 P e) (hx : look L x = some (.pointer (some a))) (hy : look L y = some u) (h1 : u.oneCell' = true) (hc : w.cell? a = some v) (hf : w.frozen? a = false) :
    OpU P (.store e x y) ty L w (w.setCell a u) := fun ρ o hρ ho _ => by
  have hs : u.cells = #[u] := cells_one h1
  have hst : (store a u).run P w = .ok () (w.setCell a u) := by
    cases u <;> first | (simp [Value.oneCell'] at h1; done) | simp [store, Sem.run, hc, hf]
  unfold execOp
  simp only [ho, Instr.storeAt, Instr.sureAddr, hρ x _ hx, hρ y _ hy, storeVar, Sem.run_bind, Sem.run_pure, Result.andThen_ok, T.sizeOf, hs]
  have h0 : a.add 0 = a := by simp [Addr.add]
  simp [storeCells, h0, hst]
end
end Go.Proofs.Ytaacnknniaipmaa

/-
  The engine's rules for structs in memory and pointers: the address of a field, the test for nil, pointers held against one another. Nothing here names the program.
-/
namespace Go.Proofs.Ytaacnknniaipmaa
open Go.RowKit

section
variable {P : Program} {N : Nat} {ops : Array Oper} {Q : Exit → Act → World → Prop} {rest : List Oper} {L : FL} {w w' : World} {t e : TypeId}
theorem opv_nilOk {x : Operand} {ty : TypeId} {a : Addr} (hx : look L x = some (.pointer (some a))) : OpV P (.nilCheck x) ty L w (.pointer (some a)) w := fun ρ o hρ ho _ => by
  simp [execOp, ho, hρ x _ hx]
/-- Field k of struct type t lies off cells behind its beginning. -/
def FieldAt (P : Program) (t : TypeId) (k off : Nat) : Prop := ∀ (a : Addr) (w : World), (Instr.fieldAt t (.pointer (some a)) k).run P w = .ok (.pointer (some (a.add off))) w
theorem fieldAt_mk {fs : Array Field} {f : Field} {k off : Nat} (hu : P.underlying t = some (.struct fs)) (hf : fs[k]? = some f) (ho : f.offset = off) (hs : ((P.info? f.type).map fun i => decide (i.size = 0)) = some false) : FieldAt P t k off := fun a w => by
  cases hq : P.info? f.type with
  | none => simp [hq] at hs
  | some i =>
    have h0 : ¬ i.size = 0 := by simpa [hq] using hs
    subst ho
    simp [Instr.fieldAt, run_underlying hu, hf, Instr.sureAddr, fieldPlace, sizeOf, typeInfo, hq, h0]
theorem opv_fa {x : Operand} {ty : TypeId} {k off b o : Nat} (F : FieldAt P t k off) (hx : look L x = some (.pointer (some ⟨b, o, none⟩))) : OpV P (.fieldAddr t x k) ty L w (.pointer (some ⟨b, o + off, none⟩)) w := fun ρ op hρ ho _ => by
  have := F ⟨b, o, none⟩ w
  rw [Addr.add_lit] at this
  unfold execOp
  simp only [ho, hρ x _ hx, Sem.run_bind, this]
  simp
theorem bin_eqlPtrNil {te : TypeId} {a : Addr} (ht : P.underlying t = some (.pointer te)) : BinV P .eql t (.pointer (some a)) (.pointer none) (.bool false) := .mk fun x y w => by
  have h : ∀ d : Nat, (Op.equalIn (d + 1) t (.pointer (some a)) (.pointer none)).run P w = .ok false w := fun d => by simp [Op.equalIn, run_underlying ht]
  simp [eqGuard, binOp, Op.equal, Op.maxDepth, h 9999]
/-- A cell of a variable that has a block of its own: read, and written. -/
theorem opv_ldA {x : Operand} {ty : TypeId} {g k : Nat} {T : TypeId} {cs : List Value} {u : Value} (E : Cell1 P e) (ha : Ar w g T cs) (hx : look L x = some (.pointer (some ⟨g, k, none⟩))) (hk : cs[k]? = some u) : OpV P (.load e x) ty L w u w :=
  opv_loadC E hx ((ha.cell k).trans hk)
theorem wl_stA {x y : Operand} {ty : TypeId} {pos : String} {aft : Array Edge} {g k : Nat} {T : TypeId} {u : Value} {cs : List Value} (E : Cell1 P e) (ha : Ar w g T cs) (hx : look L x = some (.pointer (some ⟨g, k, none⟩))) (hk : k < cs.length)
    (hy : look L y = some u) (h1 : u.oneCell' = true)
    (h : ∀ w', Ar w' g T (cs.set k u) → Gr w w' (some ⟨g, 0, none⟩) → w'.heap.size = w.heap.size → WL P N ops Q rest L w') :
    WL P N ops Q (⟨none, .store e x y, ty, pos, aft, none⟩ :: rest) L w := by
  refine wl_unitN (opu_storeC E hx hy h1 (v := cs[k]) ((ha.cell k).trans (List.getElem?_eq_getElem hk)) (ha.frozen k)) (h _ (ha.setCell k u) ⟨rfl, rfl, rfl, by simp [World.setCell], fun j _ hj => ?_⟩ (by simp [World.setCell]))
  simp only [World.setCell, Array.getElem?_modify]
  rw [if_neg (by simp at hj; exact fun h => hj h.symm)]
end
end Go.Proofs.Ytaacnknniaipmaa

/-
  The engine's rules for structs that have a block of their own (made, read, written whole; built; handed back), and for interface values: made, asked for their type, held against nil. Nothing here names the program.
-/
namespace Go.Proofs.Ytaacnknniaipmaa
open Go.RowKit

/-- A struct type of k cells. -/
structure StT (P : Program) (t : TypeId) (k : Nat) : Prop where
  un : (match P.underlying t with | some (.struct _) => true | _ => false) = true
  size : (P.info? t).map (·.size) = some k
section
variable {P : Program} {N : Nat} {ops : Array Oper} {Q : Exit → Act → World → Prop} {rest : List Oper} {L : FL} {w w' : World} {t e : TypeId} {g : Nat} {cs cs' : List Value}
theorem StT.get {k : Nat} (T : StT P t k) : ∃ fs, P.underlying t = some (.struct fs) := by
  have h := T.un
  cases hu : P.underlying t with
  | none => rw [hu] at h; cases h
  | some d => rw [hu] at h; cases d <;> first | exact ⟨_, rfl⟩ | cases h
theorem opv_box {x : Operand} {ty : TypeId} {v : Value} (hx : look L x = some v) : OpV P (.box t x) ty L w (.pointer (some ⟨w.heap.size, 0, none⟩)) (w.alloc (.cells v.cells t)) := fun ρ o hρ ho _ => by
  simp [execOp, ho, Instr.box, hρ x _ hx, newVar, newRow]
theorem cells_agg (xs : Array Value) : (Value.agg xs).cells = xs := by simp [Value.cells]
theorem wl_box {d : Nat} {x : Operand} {ty : TypeId} {pos : String} {aft : Array Edge} (hx : look L x = some (.agg cs.toArray)) (hd : Nat.blt d N = true)
    (h : ∀ g w', w.heap.size ≤ g → Ar w' g t cs → Below w.heap.size w w' → WL P N ops Q rest ((d, .pointer (some ⟨g, 0, none⟩)) :: L) w') :
    WL P N ops Q (⟨some d, .box t x, ty, pos, aft, none⟩ :: rest) L w :=
  wl_val (opv_box hx) hd (h _ _ (Nat.le_refl _) (by rw [cells_agg]; exact Ar.new w t cs) ((Below.refl _ _).alloc (Nat.le_refl _) _))
/-- A new variable of a struct type, zero. -/
theorem wl_new {d : Nat} {ty : TypeId} {pos : String} {aft : Array Edge} (hz : (P.info? t).map (·.zero) = some (some (.agg cs.toArray))) (hd : Nat.blt d N = true)
    (h : ∀ g w', w.heap.size ≤ g → Ar w' g t cs → Below w.heap.size w w' → WL P N ops Q rest ((d, .pointer (some ⟨g, 0, none⟩)) :: L) w') :
    WL P N ops Q (⟨some d, .alloc t, ty, pos, aft, none⟩ :: rest) L w :=
  wl_val (opv_alloc hz) hd (h _ _ (Nat.le_refl _) (by rw [cells_agg]; exact Ar.new w t cs) ((Below.refl _ _).alloc (Nat.le_refl _) _))
theorem opv_loadS {x : Operand} {ty T : TypeId} (S : StT P t cs.length) (hx : look L x = some (.pointer (some ⟨g, 0, none⟩))) (ha : Ar w g T cs) : OpV P (.load t x) ty L w (.agg cs.toArray) w := fun ρ op hρ ho _ => by
  obtain ⟨fs, hu⟩ := S.get
  have := run_loadVar_row (P := P) w g T t cs.toArray (0, 0) _ ha hu rfl (by simpa using S.size)
  simp [execOp, ho, Instr.loadAt, Instr.sureAddr, hρ x _ hx, this]
theorem opv_loadX {x : Operand} {ty T : TypeId} (hx : look L x = some (.pointer (some ⟨g, 0, none⟩))) (ha : Ar w g T cs) (S : StT P t cs.length) : OpV P (.load t x) ty L w (.agg cs.toArray) w := opv_loadS S hx ha
theorem opv_ldX {x : Operand} {ty : TypeId} {k : Nat} {T : TypeId} {u : Value} (hx : look L x = some (.pointer (some ⟨g, k, none⟩))) (ha : Ar w g T cs) (E : Cell1 P e) (hk : cs[k]? = some u) : OpV P (.load e x) ty L w u w := opv_ldA E ha hx hk
theorem gr_setRow {x : Array Value} : Gr w (w.setRow g x) (some ⟨g, 0, none⟩) := ⟨rfl, rfl, rfl, by simp [World.setRow], fun j _ hj => by
  simp only [World.setRow, Array.getElem?_modify]
  rw [if_neg (by simp at hj; exact fun h => hj h.symm)]⟩
theorem wl_storeS {x y : Operand} {ty T : TypeId} {pos : String} {aft : Array Edge} (S : StT P t cs'.length) (ha : Ar w g T cs) (hx : look L x = some (.pointer (some ⟨g, 0, none⟩))) (hy : look L y = some (.agg cs'.toArray)) (hl : cs.length = cs'.length) (h1 : cs'.all (·.oneCell') = true)
    (h : ∀ w', Ar w' g T cs' → Gr w w' (some ⟨g, 0, none⟩) → w'.heap.size = w.heap.size → WL P N ops Q rest L w') :
    WL P N ops Q (⟨none, .store t x y, ty, pos, aft, none⟩ :: rest) L w := by
  refine wl_unitN (w' := w.setRow g cs'.toArray) (fun ρ o hρ ho _ => ?_) (h _ ha.setRow gr_setRow (by simp [World.setRow]))
  have := run_storeVar_row (P := P) w g T t cs.toArray cs'.toArray ha (by simpa using S.size) (by simpa using hl) (by simpa [Array.all_eq_true_iff_forall_mem] using h1)
  simp [execOp, ho, Instr.storeAt, Instr.sureAddr, hρ x _ hx, hρ y _ hy, this]
/-- A struct is handed back by value; beside another result. -/
theorem we_retC {fn : Func} {R : Ending → World → Prop} {p : Nat} {T : TypeId} (hr : fn.results = #[.cell p t]) (hx : lookT L p = some (.pointer (some ⟨g, 0, none⟩))) (ha : Ar w g T cs) (S : StT P t cs.length)
    (h : R (.returned (.agg cs.toArray)) w) : WE N (bodyPost P fn R) .ret L w := fun a hA =>
  ⟨hA.nodefer, _, by
    obtain ⟨fs, hu⟩ := S.get
    have := run_loadVar_row (P := P) w g T t cs.toArray (0, 0) _ ha hu rfl (by simpa using S.size)
    have e := hA.get p _ hx
    rw [Array.getD_eq_getD_getElem?] at e
    simp [results, hr, e, asAddr, this], h⟩
theorem we_retC1 {fn : Func} {R : Ending → World → Prop} {p q : Nat} {T : TypeId} {v : Value} (hr : fn.results = #[.cell p t, .tmp q]) (hx : lookT L p = some (.pointer (some ⟨g, 0, none⟩))) (hq : lookT L q = some v) (ha : Ar w g T cs) (S : StT P t cs.length)
    (h : R (.returned (.tuple #[.agg cs.toArray, v])) w) : WE N (bodyPost P fn R) .ret L w := fun a hA =>
  ⟨hA.nodefer, _, by
    obtain ⟨fs, hu⟩ := S.get
    have := run_loadVar_row (P := P) w g T t cs.toArray (0, 0) _ ha hu rfl (by simpa using S.size)
    have e := hA.get p _ hx
    have e2 := hA.get q _ hq
    rw [Array.getD_eq_getD_getElem?] at e e2
    simp [results, hr, e, e2, asAddr, this], h⟩
/-- Parts of a struct. -/
def LooksP (L : FL) : List (Nat × Operand) → List (Nat × Value) → Prop
  | [], [] => True
  | (i, x) :: xs, (j, v) :: vs => i = j ∧ look L x = some v ∧ LooksP L xs vs
  | _, _ => False
theorem LooksP.map {ρ : Operand → Value} (hρ : ∀ x u, look L x = some u → ρ x = u) : ∀ {xs : List (Nat × Operand)} {vs : List (Nat × Value)}, LooksP L xs vs → xs.map (fun p => (p.1, ρ p.2)) = vs
  | [], [], _ => rfl
  | (i, x) :: xs, (j, v) :: vs, h => by rw [List.map_cons, LooksP.map hρ h.2.2, h.1, hρ x v h.2.1]
theorem opv_build {xs : List (Nat × Operand)} {vs : List (Nat × Value)} {ty : TypeId} (hx : LooksP L xs vs) (hb : P.built t vs = some cs.toArray) : OpV P (.build t xs.toArray) ty L w (.agg cs.toArray) w := fun ρ o hρ ho _ => by
  have hm : (xs.toArray.map fun (p : Nat × Operand) => (p.1, ρ p.2)) = vs.toArray := by
    rw [List.map_toArray, LooksP.map hρ hx]
  have := run_build (P := P) w t vs.toArray cs.toArray (by simpa using hb)
  unfold execOp
  simp only [ho]
  rw [hm, Sem.run_bind, this]
  simp
end
end Go.Proofs.Ytaacnknniaipmaa

/-
  Rows whose elements have several cells, and whose cells may lead on to other rows: read, and held in rows of the call's own; the rules to index, load, write out, append and cut them. Nothing here names the program.
-/
namespace Go.Proofs.Ytaacnknniaipmaa
open Go.RowKit

/-- What some cells hold, as far as the blocks of a set tell it. -/
structure El where
  P : World → (Nat → Prop) → List Value → Prop
  move : ∀ {w w' : World} {S S' : Nat → Prop} {cs : List Value}, P w S cs → w.heap.size ≤ w'.heap.size → (∀ b, b < w.heap.size → S b → S' b ∧ w'.heap[b]? = w.heap[b]?) → P w' S' cs
/-- All blocks. -/
def All : Nat → Prop := fun _ => True
/-- All blocks but that of an address. -/
def But (A : Option Addr) : Nat → Prop := fun b => ∀ a, A = some a → b ≠ a.block
section
variable {w w' : World} {S S' : Nat → Prop} {cs : List Value} {E : El}
theorem El.mono (h : E.P w S cs) (hs : ∀ b, b < w.heap.size → S b → S' b) : E.P w S' cs := E.move h (Nat.le_refl _) fun b hb h => ⟨hs b hb h, rfl⟩
theorem El.all (h : E.P w S cs) : E.P w All cs := El.mono h fun _ _ _ => trivial
theorem El.below (h : E.P w S cs) (hb : Below w.heap.size w w') : E.P w' S cs := E.move h hb.size fun b hlt h => ⟨h, hb.block b hlt⟩
theorem El.belowI {B : Nat} (h : E.P w S cs) (hb : Below B w w') (hs : ∀ b, b < w.heap.size → S b → b < B) : E.P w' S cs := E.move h hb.size fun b hlt h => ⟨h, hb.block b (hs b hlt h)⟩
theorem El.gr {A : Option Addr} (h : E.P w S cs) (g : Gr w w' A) (hs : ∀ b, b < w.heap.size → S b → But A b) : E.P w' S cs := E.move h g.size fun b hlt h => ⟨h, g.block b hlt fun hk => by
  cases A with
  | none => simp at hk
  | some a => simp at hk; exact hs b hlt h a rfl hk⟩
end
/-- A cell that holds just this. -/
def vEl (u : Value) : El where
  P _ _ cs := cs = [u]
  move h _ _ := h
/-- A cell that holds bytes. -/
def byEl (xs : List UInt8) : El where
  P w S cs := ∃ (A : Option Addr) (c : Nat), cs = [.slice A xs.length c] ∧ xs.length ≤ c ∧ Rd w A xs.length (bvs xs) ∧ (∀ a, A = some a → 0 < xs.length → S a.block)
  move := by
    rintro w w' S S' cs ⟨A, c, rfl, hc, hr, hs⟩ hz h
    refine ⟨A, c, rfl, hc, ⟨hr.1, fun hn => ?_⟩, fun a ha hn => ?_⟩
    · obtain ⟨b, o, rfl, hb, hcell⟩ := hr.2 hn
      exact ⟨b, o, rfl, by omega, fun j u hu => (World.cell?_of_block (a := ⟨b, o + j, none⟩) (h b hb (hs _ rfl hn)).2).trans (hcell j u hu)⟩
    · obtain ⟨b, o, rfl, hb, _⟩ := hr.2 hn
      cases ha
      exact (h b hb (hs _ rfl hn)).1
theorem byEl.mk {w : World} {A : Option Addr} {c : Nat} {xs : List UInt8} {S : Nat → Prop} (hr : Rd w A xs.length (bvs xs)) (hc : xs.length ≤ c) (hs : ∀ a, A = some a → 0 < xs.length → S a.block) : (byEl xs).P w S [.slice A xs.length c] := ⟨A, c, rfl, hc, hr, hs⟩

/-- Groups of k cells hold the elements. -/
def Grp (k : Nat) (w : World) (S : Nat → Prop) (els : List El) (css : List (List Value)) : Prop :=
  css.length = els.length ∧ ∀ (i : Nat) cs, css[i]? = some cs → cs.length = k ∧ ∃ E, els[i]? = some E ∧ E.P w S cs
section
variable {k : Nat} {w w' : World} {S S' : Nat → Prop} {els : List El} {css : List (List Value)}
theorem Grp.move (h : Grp k w S els css) (hz : w.heap.size ≤ w'.heap.size) (hm : ∀ b, b < w.heap.size → S b → S' b ∧ w'.heap[b]? = w.heap[b]?) : Grp k w' S' els css :=
  ⟨h.1, fun i cs hi => by obtain ⟨h1, E, h2, h3⟩ := h.2 i cs hi; exact ⟨h1, E, h2, E.move h3 hz hm⟩⟩
theorem Grp.mono (h : Grp k w S els css) (hs : ∀ b, b < w.heap.size → S b → S' b) : Grp k w S' els css := h.move (Nat.le_refl _) fun b hb h => ⟨hs b hb h, rfl⟩
theorem Grp.all (h : Grp k w S els css) : Grp k w All els css := h.mono fun _ _ _ => trivial
theorem Grp.below (h : Grp k w S els css) (hb : Below w.heap.size w w') : Grp k w' S els css := h.move hb.size fun b hlt h => ⟨h, hb.block b hlt⟩
theorem Grp.gr {A : Option Addr} (h : Grp k w S els css) (g : Gr w w' A) (hs : ∀ b, b < w.heap.size → S b → But A b) : Grp k w' S els css := h.move g.size fun b hlt h => ⟨h, g.block b hlt fun hk => by
  cases A with
  | none => simp at hk
  | some a => simp at hk; exact hs b hlt h a rfl hk⟩
theorem Grp.len (h : Grp k w S els css) : css.flatten.length = els.length * k := by
  rw [← h.1]
  have h2 : ∀ cs ∈ css, cs.length = k := fun cs hc => by obtain ⟨i, hi, rfl⟩ := List.getElem_of_mem hc; exact (h.2 i _ (List.getElem?_eq_getElem hi)).1
  clear h
  induction css with
  | nil => simp
  | cons x css ih =>
    simp only [List.flatten_cons, List.length_append, List.length_cons, ih fun cs hc => h2 cs (List.mem_cons_of_mem _ hc), h2 x List.mem_cons_self]
    rw [Nat.add_mul]; omega
theorem Grp.nil (k : Nat) (w : World) (S : Nat → Prop) : Grp k w S [] [] := ⟨rfl, by simp⟩
theorem Grp.append {els' : List El} {css' : List (List Value)} (h : Grp k w S els css) (h' : Grp k w S els' css') : Grp k w S (els ++ els') (css ++ css') := by
  refine ⟨by simp [h.1, h'.1], fun i cs hi => ?_⟩
  rw [List.getElem?_append] at hi ⊢
  rw [← h.1]
  split at hi
  · rename_i hlt
    rw [if_pos hlt]; exact h.2 i cs hi
  · rename_i hlt
    rw [if_neg hlt]; exact h'.2 _ cs hi
theorem Grp.one {cs : List Value} {E : El} (h : E.P w S cs) (hk : cs.length = k) : Grp k w S [E] [cs] := by
  refine ⟨rfl, fun i cs' hi => ?_⟩
  match i, hi with
  | 0, hi => simp at hi; subst hi; exact ⟨hk, E, rfl, h⟩
theorem Grp.take (h : Grp k w S els css) (n : Nat) : Grp k w S (els.take n) (css.take n) := by
  refine ⟨by simp [h.1], fun i cs hi => ?_⟩
  rw [List.getElem?_take] at hi ⊢
  split at hi
  · rename_i hlt; rw [if_pos hlt]; exact h.2 i cs hi
  · cases hi
theorem Grp.drop (h : Grp k w S els css) (n : Nat) : Grp k w S (els.drop n) (css.drop n) := by
  refine ⟨by simp [h.1], fun i cs hi => ?_⟩
  rw [List.getElem?_drop] at hi ⊢
  exact h.2 _ cs hi
theorem Grp.at (h : Grp k w S els css) {i : Nat} {E : El} (hi : els[i]? = some E) : ∃ cs, css[i]? = some cs ∧ cs.length = k ∧ E.P w S cs := by
  have hlt : i < css.length := by rw [h.1]; exact (List.getElem?_eq_some_iff.1 hi).1
  obtain ⟨h1, E', h2, h3⟩ := h.2 i _ (List.getElem?_eq_getElem hlt)
  rw [hi] at h2; cases h2
  exact ⟨_, List.getElem?_eq_getElem hlt, h1, h3⟩
theorem flat_get : ∀ {css : List (List Value)} {i j : Nat} {cs : List Value} {u : Value}, (∀ cs ∈ css, cs.length = k) → css[i]? = some cs → cs[j]? = some u → css.flatten[i * k + j]? = some u
  | [], i, j, cs, u, _, hi, _ => by simp at hi
  | x :: css, 0, j, cs, u, hk, hi, hj => by
    simp at hi; subst hi
    have hl := (List.getElem?_eq_some_iff.1 hj).1
    rw [List.flatten_cons, Nat.zero_mul, Nat.zero_add, List.getElem?_append_left hl]; exact hj
  | x :: css, i + 1, j, cs, u, hk, hi, hj => by
    have hx := hk x List.mem_cons_self
    rw [List.flatten_cons, List.getElem?_append_right (by rw [hx, Nat.add_mul]; omega), hx, show (i + 1) * k + j - k = i * k + j by rw [Nat.add_mul]; omega]
    exact flat_get (fun cs hc => hk cs (List.mem_cons_of_mem _ hc)) (by simpa using hi) hj
theorem Grp.ks (h : Grp k w S els css) : ∀ cs ∈ css, cs.length = k := fun cs hc => by obtain ⟨i, hi, rfl⟩ := List.getElem_of_mem hc; exact (h.2 i _ (List.getElem?_eq_getElem hi)).1
theorem flat_take (n : Nat) : ∀ {css : List (List Value)}, (∀ cs ∈ css, cs.length = k) → css.flatten.take (n * k) = (css.take n).flatten := by
  induction n with
  | zero => intro css _; simp
  | succ n ih =>
    intro css hk
    cases css with
    | nil => simp
    | cons x css =>
      have hx := hk x List.mem_cons_self
      rw [List.flatten_cons, List.take_succ_cons, List.flatten_cons, List.take_append, hx, List.take_of_length_le (by rw [hx, Nat.add_mul]; omega), show (n + 1) * k - k = n * k by rw [Nat.add_mul]; omega, ih fun cs hc => hk cs (List.mem_cons_of_mem _ hc)]
theorem flat_drop (n : Nat) : ∀ {css : List (List Value)}, (∀ cs ∈ css, cs.length = k) → css.flatten.drop (n * k) = (css.drop n).flatten := by
  induction n with
  | zero => intro css _; simp
  | succ n ih =>
    intro css hk
    cases css with
    | nil => simp
    | cons x css =>
      have hx := hk x List.mem_cons_self
      rw [List.flatten_cons, List.drop_succ_cons, List.drop_append, hx, List.drop_of_length_le (by rw [hx, Nat.add_mul]; omega), show (n + 1) * k - k = n * k by rw [Nat.add_mul]; omega, ih fun cs hc => hk cs (List.mem_cons_of_mem _ hc)]
      simp
end

/-- The slice at A reads as these elements, of k cells each. -/
def RdR (k : Nat) (w : World) (S : Nat → Prop) (A : Option Addr) (els : List El) : Prop :=
  ∃ css, Grp k w S els css ∧ Rd w A (els.length * k) css.flatten ∧ (∀ a, A = some a → 0 < els.length → S a.block)
/-- It is a row of the call's own, the elements' own memory lying in blocks of S and in other blocks than the row. -/
def OwR (k : Nat) (e : TypeId) (w : World) (base : Nat) (S : Nat → Prop) (A : Option Addr) (c : Nat) (els : List El) : Prop :=
  ∃ css, Grp k w (fun b => S b ∧ But A b) els css ∧ w.ownsRow base e k (.slice A els.length c) els.length css.flatten
/-- The cells from offset o of block b on. -/
def Wi (w : World) (b o : Nat) (cs : List Value) : Prop := b < w.heap.size ∧ w.rangeAt b o cs
section
variable {k : Nat} {w w' : World} {S S' : Nat → Prop} {els : List El} {A : Option Addr} {e : TypeId} {base c : Nat}
theorem Wi.below {b o : Nat} {cs : List Value} (h : Wi w b o cs) (hb : Below w.heap.size w w') : Wi w' b o cs := ⟨Nat.lt_of_lt_of_le h.1 hb.size, fun j u hu => (World.cell?_of_block (a := ⟨b, o + j, none⟩) (hb.block b h.1)).trans (h.2 j u hu)⟩
theorem Wi.gr {b o : Nat} {cs : List Value} (h : Wi w b o cs) (g : Gr w w' A) (hne : But A b) : Wi w' b o cs := ⟨Nat.lt_of_lt_of_le h.1 g.size, fun j u hu => (World.cell?_of_block (a := ⟨b, o + j, none⟩) (g.block b h.1 fun hk => by
  cases A with
  | none => simp at hk
  | some a => simp at hk; exact hne a rfl hk)).trans (h.2 j u hu)⟩
theorem Rd.sizes {n : Nat} {xs : List Value} (h : Rd w A n xs) (hz : w.heap.size ≤ w'.heap.size) (hm : ∀ a, A = some a → 0 < n → a.block < w.heap.size → w'.heap[a.block]? = w.heap[a.block]?) : Rd w' A n xs := ⟨h.1, fun hn => by
  obtain ⟨b, o, rfl, hb, hc⟩ := h.2 hn
  exact ⟨b, o, rfl, by omega, fun j u hu => (World.cell?_of_block (a := ⟨b, o + j, none⟩) (hm ⟨b, o, none⟩ rfl hn hb)).trans (hc j u hu)⟩⟩
theorem RdR.move (hk : 0 < k) (h : RdR k w S A els) (hz : w.heap.size ≤ w'.heap.size) (hm : ∀ b, b < w.heap.size → S b → S' b ∧ w'.heap[b]? = w.heap[b]?) : RdR k w' S' A els := by
  obtain ⟨css, h1, h2, h3⟩ := h
  have hpos : 0 < els.length → 0 < els.length * k := fun hn => Nat.mul_pos hn hk
  refine ⟨css, h1.move hz hm, h2.sizes hz fun a ha hn hb => (hm _ hb (h3 a ha ?_)).2, fun a ha hn => ?_⟩
  · rcases Nat.eq_zero_or_pos els.length with h0 | h0
    · rw [h0] at hn; simp at hn
    · exact h0
  · obtain ⟨b, o, rfl, hb, _⟩ := h2.2 (hpos hn)
    cases ha
    exact (hm b hb (h3 _ rfl hn)).1
theorem RdR.below (h : RdR k w S A els) (hb : Below w.heap.size w w') : RdR k w' S A els := by
  obtain ⟨css, h1, h2, h3⟩ := h
  exact ⟨css, h1.below hb, h2.below hb, h3⟩
theorem RdR.all (h : RdR k w S A els) : RdR k w All A els := by
  obtain ⟨css, h1, h2, h3⟩ := h
  exact ⟨css, h1.all, h2, fun _ _ _ => trivial⟩
theorem RdR.nil (A : Option Addr) : RdR k w S A [] := ⟨[], Grp.nil _ _ _, by simpa using Rd.nil w A, fun _ _ h => absurd h (by simp)⟩
theorem RdR.at (hk : 0 < k) (h : RdR k w S A els) {i : Nat} {E : El} (hi : els[i]? = some E) : ∃ b o cs, A = some ⟨b, o, none⟩ ∧ S b ∧ cs.length = k ∧ E.P w S cs ∧ Wi w b (o + i * k) cs := by
  obtain ⟨css, h1, h2, h3⟩ := h
  have hlt := (List.getElem?_eq_some_iff.1 hi).1
  have hn : 0 < els.length := by omega
  obtain ⟨b, o, rfl, hb, hc⟩ := h2.2 (Nat.mul_pos hn hk)
  obtain ⟨cs, hcs, hl, hp⟩ := h1.at hi
  exact ⟨b, o, cs, rfl, h3 _ rfl hn, hl, hp, hb, fun j u hu => by rw [Nat.add_assoc]; exact hc _ u (flat_get h1.ks hcs hu)⟩
/-- The address of the part of a slice from l on. -/
def cutK (A : Option Addr) (c l k : Nat) : Option Addr := if c = l then A else A.map (·.add (l * k))
theorem RdR.cut {n l h : Nat} (hr : RdR k w S A els) (hn : els.length = n) (h1 : l ≤ h) (h2 : h ≤ n) (hc : n ≤ c) : RdR k w S (cutK A c l k) ((els.take h).drop l) := by
  subst hn
  obtain ⟨css, g1, g2, g3⟩ := hr
  have hle : h ≤ css.length := by rw [g1.1]; exact h2
  refine ⟨(css.take h).drop l, (g1.take h).drop l, ⟨?_, fun hp => ?_⟩, fun a ha hp => ?_⟩
  · rw [((g1.take h).drop l).len]
  · have hlt : l < h := by
      rcases Nat.lt_or_ge l h with h' | h'
      · exact h'
      · exfalso
        have : ((els.take h).drop l).length = 0 := by simp; omega
        rw [this] at hp; simp at hp
    have hk : 0 < k := by
      rcases Nat.eq_zero_or_pos k with h0 | h0
      · rw [h0] at hp; simp at hp
      · exact h0
    obtain ⟨b, o, rfl, hb, hcell⟩ := g2.2 (Nat.mul_pos (by omega) hk)
    have hne : ¬ c = l := by omega
    refine ⟨b, o + l * k, by simp [cutK, hne, Addr.add_lit], hb, fun j u hu => ?_⟩
    rw [← flat_drop l (fun cs hcs => g1.ks cs (List.mem_of_mem_take hcs)), ← flat_take h g1.ks, List.getElem?_drop, List.getElem?_take] at hu
    split at hu
    · rw [Nat.add_assoc]; exact hcell _ u hu
    · cases hu
  · have hlt : l < h := by simp at hp; omega
    have hne : ¬ c = l := by omega
    unfold cutK at ha
    rw [if_neg hne] at ha
    cases A with
    | none => simp at ha
    | some a0 =>
      have : a.block = a0.block := by
        simp only [Option.map_some, Option.some.injEq] at ha
        rw [← ha]; unfold Addr.add; split <;> rfl
      rw [this]
      exact g3 a0 rfl (by omega)
theorem OwR.lt (h : OwR k e w base S A c els) : ∀ a, A = some a → base ≤ a.block ∧ a.block < w.heap.size := fun a ha => by
  obtain ⟨css, _, h2⟩ := h
  exact World.ownsRow.lt h2 a.block (by rw [ha]; rfl)
theorem own_rd {n : Nat} {xs : List Value} (h : w.ownsRow base e k (.slice A n c) n xs) : Rd w A (n * k) xs := by
  refine ⟨h.1, fun hn => ?_⟩
  rcases h.2 with ⟨hv, h0⟩ | ⟨g, cap, cur, hv, _, hg, _⟩
  · rw [h0] at hn; simp at hn
  · injection hv with hA hn' hc
    subst hA
    have hcells := World.ownsRow.cells h (g := g) rfl
    exact ⟨g, 0, rfl, (Array.getElem?_eq_some_iff.1 hg).1, fun j u hu => by have := hcells j u hu; simpa [Addr.add_lit] using this⟩
theorem OwR.rd (h : OwR k e w base S A c els) : RdR k w All A els := by
  obtain ⟨css, h1, h2⟩ := h
  exact ⟨css, h1.all, own_rd h2, fun _ _ _ => trivial⟩
theorem OwR.below (h : OwR k e w base S A c els) (hb : Below w.heap.size w w') : OwR k e w' base S A c els := by
  have hl := OwR.lt h
  obtain ⟨css, h1, h2⟩ := h
  refine ⟨css, h1.below hb, World.ownsRow.kept (row := none) h2 ⟨hb.os, hb.tape, hb.output, hb.size, fun k hk _ => hb.block k hk⟩ ?_⟩
  cases A with
  | none => exact .inl rfl
  | some a => exact .inr (by simp [Value.ownBlock])
theorem OwR.gr {B : Option Addr} (h : OwR k e w base S A c els) (g : Gr w w' B) (hs : ∀ b, b < w.heap.size → S b → But A b → But B b) (hA : ∀ a, A = some a → But B a.block) : OwR k e w' base S A c els := by
  obtain ⟨css, h1, h2⟩ := h
  refine ⟨css, h1.gr g fun b hb h => hs b hb h.1 h.2, World.ownsRow.kept h2 g ?_⟩
  cases A with
  | none => exact .inl rfl
  | some a =>
    refine .inr ?_
    cases B with
    | none => simp [Value.ownBlock]
    | some b => simpa [Value.ownBlock] using hA a rfl b rfl
theorem OwR.mono {base' : Nat} (h : OwR k e w base S A c els) (hb : base' ≤ base) (hs : ∀ b, b < w.heap.size → S b → S' b) : OwR k e w base' S' A c els := by
  obtain ⟨css, h1, h2⟩ := h
  refine ⟨css, h1.mono fun b hl h => ⟨hs b hl h.1, h.2⟩, h2.1, ?_⟩
  rcases h2.2 with hn | ⟨g, cap, cur, hv, hg, rest⟩
  · exact .inl hn
  · exact .inr ⟨g, cap, cur, hv, Nat.le_trans hb hg, rest⟩
theorem OwR.nil (w : World) (base : Nat) (S : Nat → Prop) : OwR k e w base S none 0 [] := ⟨[], Grp.nil _ _ _, World.ownsRow_nil w base e k⟩
end

/-- A slice type whose elements have k cells. -/
structure RowK (P : Program) (t e : TypeId) (k : Nat) (z : Value) (bytes : Nat) : Prop where
  sl : P.underlying t = some (.slice e)
  info : (P.info? e).map (fun i => (i.zero, i.size, i.bytes)) = some (some z, k, bytes)
  zs : z.cells.size = k
  pos : 0 < k
section
variable {P : Program} {N : Nat} {ops : Array Oper} {Q : Exit → Act → World → Prop} {rest : List Oper} {L : FL} {w : World} {t e : TypeId} {z : Value} {bytes k : Nat}
theorem RowK.size (T : RowK P t e k z bytes) (w : World) : (sizeOf e).run P w = .ok k w := by
  obtain ⟨i, hi, _, hs, _⟩ := info_parts T.info
  simp [sizeOf, typeInfo, hi, hs]
theorem RowK.zero (T : RowK P t e k z bytes) (w : World) : (zeroValue e).run P w = .ok z w := by
  obtain ⟨i, hi, hz, _, _⟩ := info_parts T.info
  simp [zeroValue, typeInfo, hi, hz]
theorem opv_idxG {x i : Operand} {ty : TypeId} {b o : Nat} {n c kk : Nat} {ik : IntKind} {q : Int} (T : RowK P t e k z bytes) (hx : look L x = some (.slice (some ⟨b, o, none⟩) n c)) (hi : look L i = some (.int ik q)) (hq : q = (kk : Int)) (hk : kk < n) :
    OpV P (.indexAddr t x i) ty L w (.pointer (some ⟨b, o + kk * k, none⟩)) w := fun ρ op hρ ho _ => by
  subst hq
  simp [execOp, ho, Instr.indexAt, asIntOf, hρ x _ hx, hρ i _ hi, run_underlying T.sl, hk, T.size, Addr.add_lit]
/-- A whole element, of several cells. -/
theorem opv_ldG {x : Operand} {ty : TypeId} {b o : Nat} {cs : List Value} (hx : look L x = some (.pointer (some ⟨b, o, none⟩))) (hr : Wi w b o cs) (S : StT P e cs.length) : OpV P (.load e x) ty L w (.agg cs.toArray) w := fun ρ op hρ ho _ => by
  obtain ⟨fs, hu⟩ := S.get
  have := run_loadVar_mid (P := P) w b o e cs _ hr.2 hu rfl S.size
  simp [execOp, ho, Instr.loadAt, Instr.sureAddr, hρ x _ hx, this]
theorem opv_ldW0 {x : Operand} {ty : TypeId} {b o : Nat} {cs : List Value} {u : Value} (hx : look L x = some (.pointer (some ⟨b, o, none⟩))) (hr : Wi w b o cs) (E : Cell1 P e) (hj : cs[0]? = some u) : OpV P (.load e x) ty L w u w :=
  opv_loadC E hx (hr.2 0 u hj)

/-- The parts of a slice that a statement writes out, each of k cells. -/
def GLooks (L : FL) (k : Nat) : Nat → List (Nat × Operand) → List (List Value) → Prop
  | _, [], [] => True
  | j, (i, x) :: ps, cs :: css => i = j ∧ (∃ v, look L x = some v ∧ v.cells = cs.toArray) ∧ cs.length = k ∧ GLooks L k (j + 1) ps css
  | _, _, _ => False
theorem put_at (cs : List Value) : ∀ (off : Nat) (cur : Array Value), off + cs.length ≤ cur.size →
    ((cs.toArray.zipIdx.foldl (fun cs (x : Value × Nat) => cs.setIfInBounds (off + x.2) x.1) cur)).toList = cur.toList.take off ++ cs ++ cur.toList.drop (off + cs.length) := by
  intro off cur h
  have key : ∀ (cs : List Value) (j : Nat) (cur : Array Value), off + j + cs.length ≤ cur.size →
      (((cs.zipIdx j).foldl (fun cs (x : Value × Nat) => cs.setIfInBounds (off + x.2) x.1) cur)).toList = cur.toList.take (off + j) ++ cs ++ cur.toList.drop (off + j + cs.length) := by
    intro cs
    induction cs with
    | nil => intro j cur h; simp
    | cons x cs ih =>
      intro j cur h
      simp only [List.length_cons] at h
      rw [List.zipIdx_cons, List.foldl_cons, ih (j + 1) _ (by simp; omega)]
      rw [Array.toList_setIfInBounds]
      apply List.ext_getElem?
      intro i
      have m1 : min (off + (j + 1)) cur.size = off + (j + 1) := by omega
      have m2 : min (off + j) cur.size = off + j := by omega
      simp only [List.getElem?_append, List.length_append, List.length_take, List.length_set, List.getElem?_take, List.getElem?_set, List.getElem?_drop, List.length_cons, Array.length_toList, m1, m2]
      rcases Nat.lt_trichotomy i (off + j) with hi | hi | hi
      · have e1 : i < off + (j + 1) := by omega
        have e2 : i < off + (j + 1) + cs.length := by omega
        have e3 : i < off + j + (cs.length + 1) := by omega
        have e4 : ¬ off + j = i := by omega
        simp [hi, e1, e2, e3, e4]
      · subst hi
        have e1 : off + j < off + (j + 1) := by omega
        have e2 : off + j < off + (j + 1) + cs.length := by omega
        have e5 : off + j < cur.size := by omega
        simp [e1, e2, e5]
      · have e1 : ¬ i < off + (j + 1) := by omega
        have e2 : ¬ i < off + j := by omega
        have e6 : i - (off + j) = (i - (off + (j + 1))) + 1 := by omega
        by_cases e7 : i < off + (j + 1) + cs.length
        · have e8 : i < off + j + (cs.length + 1) := by omega
          rw [if_pos e7, if_neg e1, if_pos e8, if_neg e2, e6]; simp
        · have e8 : ¬ i < off + j + (cs.length + 1) := by omega
          have e9 : off + (j + 1) + cs.length + (i - (off + (j + 1) + cs.length)) = i := by omega
          have e10 : off + j + (cs.length + 1) + (i - (off + j + (cs.length + 1))) = i := by omega
          rw [if_neg e7, if_neg e8, e9, e10]
          rw [if_neg (by omega)]
  have := key cs 0 cur (by omega)
  rw [← Array.foldl_toList, Array.toList_zipIdx]
  simpa using this
theorem GLooks.fill {ρ : Operand → Value} (hρ : ∀ x u, look L x = some u → ρ x = u) : ∀ {ps : List (Nat × Operand)} {css : List (List Value)} {j : Nat} (cur : Array Value), GLooks L k j ps css → (j + css.length) * k = cur.size →
    Instr.fill (fun i => some (i * k, k)) cur (ps.map fun p => (p.1, ρ p.2)) = some (cur.toList.take (j * k) ++ css.flatten).toArray
  | [], [], j, cur, _, hk => by
    simp only [List.map_nil, Instr.fill, List.flatten_nil, List.append_nil]
    rw [List.take_of_length_le (by simp at hk ⊢; omega)]
  | (i, x) :: ps, cs :: css, j, cur, h, hk => by
    obtain ⟨rfl, ⟨v, hx, hv⟩, h1, h2⟩ := h
    simp only [List.length_cons] at hk
    have e1 : (i + (css.length + 1)) * k = i * k + k + css.length * k := by rw [Nat.add_mul, Nat.add_mul]; omega
    simp only [List.map_cons, Instr.fill, hρ x v hx, hv]
    have hcond : ¬ (cs.toArray.size ≠ k ∨ i * k + cs.toArray.size > cur.size) := by simp [h1]; omega
    have hbool : ((cs.toArray.size ≠ k) || decide (i * k + cs.toArray.size > cur.size)) = false := by simp [h1]; omega
    rw [if_neg (by simpa using hcond)]
    have hput := put_at cs (i * k) cur (by omega)
    have hsz : (cs.toArray.zipIdx.foldl (fun cs (x : Value × Nat) => cs.setIfInBounds (i * k + x.2) x.1) cur).size = cur.size := by
      rw [← Array.length_toList, hput]
      simp; omega
    rw [GLooks.fill hρ _ h2 (by rw [hsz, ← hk]; congr 1; omega), hput]
    congr 2
    rw [List.flatten_cons]
    have : (cur.toList.take (i * k) ++ cs ++ cur.toList.drop (i * k + cs.length)).take ((i + 1) * k) = cur.toList.take (i * k) ++ cs := by
      rw [List.take_append_of_le_length (by simp [h1, Nat.add_mul]; omega), List.take_of_length_le (by simp [h1, Nat.add_mul]; omega)]
    rw [this, List.append_assoc]
  | [], _ :: _, _, _, h, _ => h.elim
  | _ :: _, [], _, _, h, _ => h.elim

theorem opv_bsG {len : Nat} {ps : List (Nat × Operand)} {css : List (List Value)} {ty : TypeId} (T : RowK P t e k z bytes) (hp : GLooks L k 0 ps css) (hl : css.length = len) (hle : len * k ≤ 16777216) (h0 : 0 < len) :
    OpV P (.buildSlice t len ps.toArray) ty L w (.slice (some ⟨w.heap.size, 0, none⟩) len len) (w.alloc (.cells css.flatten.toArray e)) := fun ρ o hρ ho _ => by
  have hne : ¬ len * k = 0 := by have := Nat.mul_pos h0 T.pos; omega
  have hf := GLooks.fill hρ ((Array.range (len * k)).map fun i => z.cells[i % z.cells.size]!) hp (by simp [hl])
  simp only [Nat.zero_mul, List.take_zero, List.nil_append] at hf
  have hmap : (Array.map (fun (x : Nat × Operand) => (x.1, ρ x.2)) ps.toArray).toList = ps.map fun p => (p.1, ρ p.2) := by simp
  unfold execOp
  simp only [ho, Instr.buildSlice, Sem.run_bind, run_underlying T.sl, Result.andThen_ok, T.size]
  have h24 : ¬ (len * k > 2 ^ 24) := by omega
  rw [if_neg h24]
  simp only [hne, if_false, Sem.run_bind, Sem.run_pure, Result.andThen_ok, T.zero]
  rw [hmap, hf]
  simp [newRow]
theorem GLooks.ks : ∀ {ps : List (Nat × Operand)} {css : List (List Value)} {j : Nat}, GLooks L k j ps css → css.flatten.length = css.length * k
  | [], [], _, _ => by simp
  | (i, x) :: ps, cs :: css, j, h => by
    obtain ⟨_, _, h1, h2⟩ := h
    rw [List.flatten_cons, List.length_append, h1, GLooks.ks h2, List.length_cons, Nat.add_mul]; omega
  | [], _ :: _, _, h => h.elim
  | _ :: _, [], _, h => h.elim
/-- A slice of elements of k cells that a statement writes out. -/
theorem wl_bsG {d len : Nat} {ps : List (Nat × Operand)} {css : List (List Value)} {S : Nat → Prop} {els : List El} {ty : TypeId} {pos : String} {aft : Array Edge} (T : RowK P t e k z bytes) (hp : GLooks L k 0 ps css) (hl : els.length = len) (hle : len * k ≤ 16777216) (h0 : 0 < len)
    (hg : Grp k w S els css) (hd : Nat.blt d N = true)
    (h : ∀ A w', OwR k e w' w.heap.size S A len els → Below w.heap.size w w' → w'.heap.size = w.heap.size + 1 → WL P N ops Q rest ((d, .slice A len len) :: L) w') :
    WL P N ops Q (⟨some d, .buildSlice t len ps.toArray, ty, pos, aft, none⟩ :: rest) L w := by
  have hcl : css.length = len := by rw [hg.1, hl]
  have hb : Below w.heap.size w (w.alloc (.cells css.flatten.toArray e)) := (Below.refl _ _).alloc (Nat.le_refl _) _
  refine wl_val (opv_bsG T hp hcl hle h0) hd (h (some ⟨w.heap.size, 0, none⟩) _ ⟨css, hg.move hb.size fun b hlt hs => ⟨⟨hs, ?_⟩, hb.block b hlt⟩, ?_⟩ hb (by simp))
  · intro a ha; cases ha; exact Nat.ne_of_lt hlt
  · subst hl
    have hk := T.pos
    have hmax : els.length ≤ maxLen := by
      have : els.length * 1 ≤ els.length * k := Nat.mul_le_mul_left _ hk
      simp only [maxLen]; omega
    have := World.ownsRow_lit (e := e) (size := k) (base := w.heap.size) w css.flatten.toArray els.length (Nat.le_refl _) hmax (by simpa using hg.len)
    simpa using this
theorem wpList_appG {o : Oper} {a : Act} {base : Nat} {A : Option Addr} {n c : Nat} {xs : List Value} (T : RowK P t e k z bytes) (hgd : o.guard = none) (s x : Operand)
    (ho : o.op = .call { callee := .builtin .append, args := #[s, x], argTypes := #[t, t] })
    (hs : a.eval s = .slice A n c) (hown : w.ownsRow base e k (.slice A n c) n xs) {B : Option Addr} {m d : Nat} {ys : List Value} (hx : a.eval x = .slice B m d) (hr : Rd w B (m * k) ys) (h1 : ∀ u ∈ ys, u.oneCell' = true)
    (hbytes : (n + m) * bytes ≤ 140737488355328) (hmax : n + m ≤ maxLen) (hbase : base ≤ w.heap.size)
    (h : ∀ A' c' w', w'.ownsRow base e k (.slice A' (n + m) c') (n + m) (xs ++ ys) → Gr w w' A → (A'.map (·.block) = A.map (·.block) ∨ A'.map (·.block) = some w.heap.size) → wpList P ops Q rest (a.put o.dst (.slice A' (n + m) c')) w') : wpList P ops Q (o :: rest) a w := by
  obtain ⟨i, hi0, hz, hs1, hby⟩ := info_parts T.info
  have hk := T.pos
  have hob : ∀ (A : Option Addr) n c, (Value.slice A n c).ownBlock = A.map (·.block) := fun A _ _ => by cases A <;> rfl
  have hfin : ∀ v' w', w'.ownsRow base e k v' (n + m) (xs ++ ys) → w.grownBy w' (Value.slice A n c).ownBlock → (v'.ownBlock = (Value.slice A n c).ownBlock ∨ v'.ownBlock = some w.heap.size) →
      wpList P ops Q rest (a.put o.dst v') w' := by
    intro v' w' h2 h3 h4
    rw [hob] at h3
    rcases h2.2 with ⟨rfl, h0⟩ | ⟨g, cap, cur, rfl, _⟩
    · have := h none 0 w' (by rw [h0] at h2 ⊢; exact h2) h3 (by simpa only [hob] using h4)
      rw [h0] at this
      exact this
    · exact h _ _ w' h2 h3 (by simpa only [hob] using h4)
  by_cases h0 : 0 < m
  · obtain ⟨b, of, hA, _, hc⟩ := hr.2 (Nat.mul_pos h0 hk)
    subst hA
    exact wpList_append_own_at w hgd s x t ho base e i z k bytes T.sl hi0 hz hs1 hby T.zs hk _ n xs hs hown _ m d ys hx (by simpa using hr.1)
      (fun j u hu => by rw [Addr.add_lit]; exact hc j u hu) h1 hmax hbytes hbase fun v' w' h2 h3 _ h4 => hfin v' w' h2 h3 h4
  · have hm : m = 0 := by omega
    subst hm
    have hn : ys = [] := List.eq_nil_of_length_eq_zero (by simpa using hr.1)
    subst hn
    cases B with
    | some ad =>
      exact wpList_append_own_at w hgd s x t ho base e i z k bytes T.sl hi0 hz hs1 hby T.zs hk _ n xs hs hown ad 0 d [] hx (by simp)
        (fun j u hu => by simp at hu) h1 hmax hbytes hbase fun v' w' h2 h3 _ h4 => hfin v' w' h2 h3 h4
    | none =>
      have hrun : (Builtin.append_ #[t, t] o.type #[.slice A n c, .slice none 0 d]).run P w = .ok (.slice A n c) w := by
        rcases hown.2 with ⟨hv, hn0⟩ | ⟨g, cap, cur, hv, _, _, hnc, _⟩
        · injection hv with hA hn hc; subst hA hn0 hc
          simp [Builtin.append_, run_underlying T.sl, sizeOf, typeInfo, hi0, Builtin.lenOf, Builtin.firstCells]
        · injection hv with hA hn hc; subst hA hc
          simp [Builtin.append_, run_underlying T.sl, sizeOf, typeInfo, hi0, Builtin.lenOf, Builtin.firstCells, hnc, storeCells]
      refine wpList_plain hgd fun K hK => ?_
      unfold Oper.wp execOp
      simp only [ho, resolve, invoke, builtin, Sem.run_bind, Sem.run_pure, Result.andThen_ok, List.map_toArray, List.map_cons, List.map_nil, hs, hx, hrun]
      refine hK _ _ (hfin _ _ (by rw [List.append_nil]; exact hown) ⟨rfl, rfl, rfl, Nat.le_refl _, fun _ _ _ => rfl⟩ (.inl rfl))
end
end Go.Proofs.Ytaacnknniaipmaa

/-
  Plain laws of UTF-8: the runes of a list of bytes, and runes written as bytes. No program in sight.
-/
namespace Go.Proofs.Ytaacnknniaipmaa

def nth (l : List UInt8) (k : Nat) : Nat := (l.getD k 0).toNat
/-- The first rune of bytes, and its width. -/
def dec (l : List UInt8) : Nat × Nat := Lib.decodeN l.length (nth l 0) (nth l 1) (nth l 2) (nth l 3)
/-- All runes, each with its width. -/
def rwF : Nat → List UInt8 → List (Nat × Nat)
  | 0, _ => []
  | f + 1, l => if l.length = 0 then [] else dec l :: rwF f (l.drop (dec l).2)
def rw (l : List UInt8) : List (Nat × Nat) := rwF l.length l
/-- The bytes of a rune. -/
def enc (c : Nat) : List UInt8 := Lib.encodeRune (c : Int)
/-- Bytes that begin with a rune in form. -/
def Ok (l : List UInt8) : Prop := ¬ (dec l).2 = 1 ∨ ¬ (dec l).1 = 65533
instance (l : List UInt8) : Decidable (Ok l) := by unfold Ok; infer_instance
end Go.Proofs.Ytaacnknniaipmaa

/-
  The engine's rules for strings: length, index, a part, equality, bytes and runes made of a string and back, and a range over a string. Nothing here names the program.
-/
namespace Go.Proofs.Ytaacnknniaipmaa
open Go.RowKit

/-- Bytes as a string of the model. -/
abbrev str (l : List UInt8) : Value := .string ⟨l.toArray⟩
section
variable {P : Program} {N : Nat} {ops : Array Oper} {Q : Exit → Act → World → Prop} {rest : List Oper} {L : FL} {w : World} {t e : TypeId}
theorem str_of (s : ByteArray) : ∃ l : List UInt8, s = ⟨l.toArray⟩ := ⟨s.data.toList, by cases s; rfl⟩
theorem size_list (l : List UInt8) : (⟨l.toArray⟩ : ByteArray).size = l.length := rfl
theorem toList_list (l : List UInt8) : (⟨l.toArray⟩ : ByteArray).toList = l := by rw [ByteArray.toList_eq]
theorem bin_eqlS {a b : List UInt8} : BinV P .eql t (str a) (str b) (.bool (decide (a = b))) := .mk fun x y w => by
  have e : (a == b) = decide (a = b) := by by_cases h : a = b <;> simp [h]
  simp [eqGuard, binOp, Op.stringOp, toList_list, e]

/-! #### Conversions -/
theorem opv_ofBytes {x : Operand} {src dst ty : TypeId} {A : Option Addr} {n c : Nat} {l : List UInt8} (hs : P.underlying src = some (.slice e)) (he : P.underlying e = some (.int .u8)) (hd : P.underlying dst = some .string) (hx : look L x = some (.slice A n c)) (hr : Rd w A n (bvs l)) :
    OpV P (.convert src dst x) ty L w (str l) w := fun ρ o hρ ho _ => by
  have hn : l.length = n := by have := hr.1; rwa [bvs_length] at this
  subst hn
  have hrun : (convert src dst (.slice A l.length c)).run P w = .ok (str l) w := by
    by_cases h0 : l.length = 0
    · have : l = [] := List.eq_nil_of_length_eq_zero h0
      subst this
      cases A with
      | none => rw [run_convert_bytes_string w src dst e _ _ _ hs he hd]; simp [Conv.bytesToString]; rfl
      | some a => exact run_convert_bytes_back w src dst e a c [] hs he hd (fun j hj => by simp at hj)
    · obtain ⟨b, o, rfl, _, hc⟩ := hr.2 (by omega)
      exact run_convert_bytes_back w src dst e _ c l hs he hd fun j hj => by
        rw [Addr.add_lit]; exact hc j _ (by rw [bvs_get _ _ hj]; rfl)
  unfold execOp
  simp only [ho, hρ x _ hx, Sem.run_bind, hrun]
  simp

/-! #### A range over a string -/
def It (w : World) (k : Nat) (l : List UInt8) (p : Nat) : Prop := w.heap[k]? = some (.stringIter ⟨l.toArray⟩ p)
theorem It.lt {k p : Nat} {l : List UInt8} (h : It w k l p) : k < w.heap.size := (Array.getElem?_eq_some_iff.1 h).1
theorem It.bel {w' : World} {k p : Nat} {l : List UInt8} (h : It w k l p) (hb : Below w.heap.size w w') : It w' k l p := (hb.block k h.lt).trans h
theorem It.ne_own {k p : Nat} {l : List UInt8} {base n c : Nat} {A : Option Addr} {xs : List Value} (h : It w k l p) (ho : Ow w base e A n c xs) : ∀ a, A = some a → a.block ≠ k := fun a ha hk => by
  rcases ho.2 with ⟨hv, _⟩ | ⟨g, cap, cur, hv, _, hg, _⟩
  · injection hv with hA; rw [ha] at hA; cases hA
  · injection hv with hA; rw [ha] at hA; cases hA
    dsimp only at hk; subst hk
    unfold It at h; rw [hg] at h; cases h
theorem It.gr {w' : World} {k p : Nat} {l : List UInt8} {base n c : Nat} {A : Option Addr} {xs : List Value} (h : It w k l p) (g : Gr w w' A) (ho : Ow w base e A n c xs) : It w' k l p :=
  (g.block k h.lt fun hk => by
    cases A with
    | none => simp at hk
    | some a => simp at hk; exact h.ne_own ho a rfl hk.symm).trans h
theorem Gr.belowI {w0 w' : World} {B g : Nat} (h : Gr w w' (some ⟨g, 0, none⟩)) (h0 : Below B w0 w) (hg : B ≤ g) (hB : B ≤ w.heap.size) : Below B w0 w' :=
  h0.grown h hB fun k hk => by simp at hk; omega
end
end Go.Proofs.Ytaacnknniaipmaa

/-
  More of the engine's rules: a variable that is made and set at once, append of a text to bytes, values without memory. Nothing here names the program.
-/
namespace Go.Proofs.Ytaacnknniaipmaa
open Go.RowKit
section
variable {P : Program} {N : Nat} {ops : Array Oper} {Q : Exit → Act → World → Prop} {rest : List Oper} {L : FL} {w w' : World} {t e : TypeId} {g : Nat} {cs cs' : List Value}
/-- A variable of a struct type that is made and set. -/
theorem wl_var {d : Nat} {x : Operand} {ty1 ty2 : TypeId} {p1 p2 : String} {f1 f2 : Array Edge} {zs : List Value} (hz : (P.info? t).map (·.zero) = some (some (.agg zs.toArray))) (S : StT P t cs.length) (hl : zs.length = cs.length)
    (hx : ∀ p, look ((d, p) :: L) x = some (.agg cs.toArray)) (h1 : cs.all (·.oneCell') = true) (hd : Nat.blt d N = true)
    (h : ∀ g w', w.heap.size ≤ g → Ar w' g t cs → Below w.heap.size w w' → WL P N ops Q rest ((d, .pointer (some ⟨g, 0, none⟩)) :: L) w') :
    WL P N ops Q (⟨some d, .alloc t, ty1, p1, f1, none⟩ :: ⟨none, .store t (.tmp d) x, ty2, p2, f2, none⟩ :: rest) L w := by
  refine wl_new hz hd fun g w1 hg a1 hb1 => ?_
  refine wl_storeS S a1 (by simp [look, lookT]) (hx _) hl h1 fun w2 a2 g2 _ => ?_
  exact h g w2 hg a2 (Gr.belowI g2 hb1 hg hb1.size)
theorem Ow.bel {base n c : Nat} {A : Option Addr} {xs : List Value} (h : Ow w base e A n c xs) (hb : Below w.heap.size w w') : Ow w' base e A n c xs := Ow.below h hb (Nat.le_refl _)
theorem Ow.re {base n c : Nat} {A : Option Addr} {xs : List UInt8} (h : Ow w base e A xs.length c (bvs xs)) (hn : xs.length = n) : Ow w base e A n c (bvs xs) := hn ▸ h
/-- Rows of elements where another row has been written. -/
theorem But.upd {A A' : Option Addr} (hat : A'.map (·.block) = A.map (·.block) ∨ ∀ a', A' = some a' → w.heap.size ≤ a'.block) : ∀ b, b < w.heap.size → But A b → But A' b := by
  rintro b hb h a rfl
  rcases hat with hat | hat
  · cases A with
    | none => simp at hat
    | some a0 => simp only [Option.map_some, Option.some.injEq] at hat; rw [hat]; exact h a0 rfl
  · have := hat a rfl; omega
theorem OwR.move {k base c : Nat} {S S' : Nat → Prop} {A B : Option Addr} {els : List El} (h : OwR k e w base S A c els) (g : Gr w w' B) (hs : ∀ b, b < w.heap.size → S b → But A b → S' b ∧ But B b) (hA : ∀ a, A = some a → But B a.block) : OwR k e w' base S' A c els := by
  obtain ⟨css, h1, h2⟩ := h
  refine ⟨css, h1.move g.size fun b hb h => ⟨⟨(hs b hb h.1 h.2).1, h.2⟩, g.block b hb fun hk => ?_⟩, World.ownsRow.kept h2 g ?_⟩
  · cases B with
    | none => simp at hk
    | some x => simp at hk; exact (hs b hb h.1 h.2).2 x rfl hk
  · cases A with
    | none => exact .inl rfl
    | some a =>
      refine .inr ?_
      cases B with
      | none => simp [Value.ownBlock]
      | some b => simpa [Value.ownBlock] using hA a rfl b rfl
end
end Go.Proofs.Ytaacnknniaipmaa

/-
  How arguments of any type are read: a reading of a type as data, for numbers, texts, bytes, slices of what can be read; structs are opened field by field.
-/
namespace Go.Proofs.Ytaacnknniaipmaa
open Go.RowKit Go.ChangeShapes Go.WideShapes Go.ChangeAt Go.Deep

/-- A cell that holds a row of elements. -/
def rowEl (k : Nat) (els : List El) : El where
  P w S cs := ∃ (A : Option Addr) (c : Nat), cs = [.slice A els.length c] ∧ els.length ≤ c ∧ RdR k w S A els ∧ 0 < k
  move := by rintro w w' S S' cs ⟨A, c, h, hc, hb, hk⟩ hz hm; exact ⟨A, c, h, hc, RdR.move hk hb hz hm, hk⟩
theorem rowEl.rd {k : Nat} {els : List El} {w : World} {S : Nat → Prop} {A : Option Addr} {n c : Nat} (h : (rowEl k els).P w S [.slice A n c]) : els.length = n ∧ n ≤ c ∧ RdR k w S A els := by
  obtain ⟨A', c', h1, h2, h3, _⟩ := h
  simp only [List.cons.injEq, Value.slice.injEq, and_true] at h1
  obtain ⟨rfl, rfl, rfl⟩ := h1
  exact ⟨rfl, h2, h3⟩
theorem rowEl.mk {k : Nat} {els : List El} {w : World} {S : Nat → Prop} {A : Option Addr} {c : Nat} (h : RdR k w S A els) (hc : els.length ≤ c) (hk : 0 < k) : (rowEl k els).P w S [.slice A els.length c] := ⟨A, c, rfl, hc, h, hk⟩

/-- What stands at type t is read as some a, in k cells; its bulk; what is known of a. -/
def Opens (P : Program) (t : TypeId) {α : Type} (R : α → El) (k : Nat) (bulk : α → Nat) (ok : α → Prop) : Prop :=
  ∀ {H : Type} (enc : TypeId × Value → H) (W : World) (fuel : Nat) (cs : List Value) (x : DataW H × List MemPlace), DataW.trod enc P W 0 (fun _ => true) true fuel t cs = some x →
    ∃ a, (R a).P W All cs ∧ cs.length = k ∧ ok a ∧ bulk a + 1 ≤ Rows.uptoBulk x.1
section
variable {P : Program} {t e : TypeId} {α : Type} {R : α → El} {k : Nat} {bulk : α → Nat} {ok : α → Prop}
theorem opens_int {ik : IntKind} (ht : P.underlying t = some (.int ik)) : Opens P t (fun n : Int => vEl (.int ik n)) 1 (fun _ => 0) (fun n => (Lit.int ik n).wf = true) := fun enc W fuel cs x h => by
  obtain ⟨n, rfl, rfl, hw⟩ := DataW.trod_int ht h
  exact ⟨n, rfl, rfl, hw, by simp [Rows.uptoBulk]⟩
theorem opens_bool (ht : P.underlying t = some .bool) : Opens P t (fun b : Bool => vEl (.bool b)) 1 (fun _ => 0) (fun _ => True) := fun enc W fuel cs x h => by
  obtain ⟨n, rfl, rfl⟩ := DataW.trod_bool ht h
  exact ⟨n, rfl, rfl, trivial, by simp [Rows.uptoBulk]⟩
theorem opens_str (ht : P.underlying t = some .string) : Opens P t (fun s : List UInt8 => vEl (str s)) 1 (fun s => s.length) (fun _ => True) := fun enc W fuel cs x h => by
  obtain ⟨s, rfl, rfl, _⟩ := DataW.trod_string ht h
  obtain ⟨l, rfl⟩ := str_of s
  exact ⟨l, rfl, rfl, trivial, by simp [Rows.uptoBulk]⟩
def sumB (bulk : α → Nat) (l : List α) : Nat := (l.map fun a => bulk a + 1).sum
theorem sumB_cons (a : α) (l : List α) : sumB bulk (a :: l) = bulk a + 1 + sumB bulk l := by simp [sumB]
theorem sumB_mem {l : List α} {a : α} (h : a ∈ l) : bulk a + 1 ≤ sumB bulk l := by
  induction l with
  | nil => cases h
  | cons x l ih =>
    rw [sumB_cons]
    rcases List.mem_cons.1 h with rfl | h
    · omega
    · have := ih h; omega
theorem opens_slice {z : Value} {bytes : Nat} (T : RowK P t e k z bytes) (hC : P.cellsOf e = k) (he : Opens P e R k bulk ok) :
    Opens P t (fun l : List α => rowEl k (l.map R)) 1 (sumB bulk) (fun l => (∀ a ∈ l, ok a)) := fun {H} enc W fuel cs x h => by
  rcases open_slice T.sl h with ⟨rfl, rfl⟩ | ⟨a, len, cap, m, n, D, Pl, rfl, hb, hl, hm, hmm, rfl, hi⟩
  · exact ⟨[], ⟨none, 0, rfl, by simp, RdR.nil _, T.pos⟩, rfl, by simp, by simp [sumB, Rows.uptoBulk]⟩
  · have hmc : m = cap := by simpa using hmm
    subst hmc
    rw [hC] at hi
    have each : ∀ i, i < m → ∃ (v : α) (cs' : List Value), (R v).P W All cs' ∧ cs'.length = k ∧ ok v ∧ bulk v + 1 ≤ Rows.uptoBulk (D i) ∧ ∀ j u, cs'[j]? = some u → W.cell? (a.add (i * k + j)) = some u := by
      intro i him
      obtain ⟨cs', hc, ht'⟩ := hi i him
      obtain ⟨v, h1, h2, h3, h4⟩ := he enc W n cs' _ ht'
      obtain ⟨_, hcl, hat⟩ := World.cells?_some hc
      refine ⟨v, cs', h1, h2, h3, h4, fun j u hu => ?_⟩
      have hj : j < k := by have := (List.getElem?_eq_some_iff.1 hu).1; omega
      rw [← Go.Deep.add_add, hat j hj, hu]
    have hch : ∃ (V : Nat → Option α) (C : Nat → List Value), ∀ i, i < m → ∃ v, V i = some v ∧ (R v).P W All (C i) ∧ (C i).length = k ∧ ok v ∧ bulk v + 1 ≤ Rows.uptoBulk (D i) ∧ ∀ j u, (C i)[j]? = some u → W.cell? (a.add (i * k + j)) = some u :=
      ⟨fun i => if h : i < m then some (Classical.choose (each i h)) else none, fun i => if h : i < m then Classical.choose (Classical.choose_spec (each i h)) else [], fun i him => ⟨Classical.choose (each i him), by simp only [dif_pos him], by simp only [dif_pos him]; exact Classical.choose_spec (Classical.choose_spec (each i him))⟩⟩
    obtain ⟨V, C, hV⟩ := hch
    have build : ∀ q, q ≤ m → ∃ l : List α, l.length = q ∧ (∀ i, i < q → l[i]? = V i) ∧ (∀ v ∈ l, ok v) ∧ sumB bulk l ≤ Rows.uptoBulkAll ((List.range q).map D) := by
      intro q
      induction q with
      | zero => intro _; exact ⟨[], rfl, by simp, by simp, by simp [sumB]⟩
      | succ q ih =>
        intro hq
        obtain ⟨l, h1, h2, h3, h4⟩ := ih (by omega)
        obtain ⟨v, hv, _, _, hok, hbk, _⟩ := hV q (by omega)
        refine ⟨l ++ [v], by simp [h1], fun i hi => ?_, fun u hu => ?_, ?_⟩
        · by_cases hiq : i < q
          · rw [List.getElem?_append_left (by omega)]; exact h2 i hiq
          · obtain rfl : i = q := by omega
            rw [← h1, List.getElem?_concat_length, h1, hv]
        · rcases List.mem_append.1 hu with hu | hu
          · exact h3 u hu
          · simp at hu; subst hu; exact hok
        · have e1 : ∀ (l : List α) (v : α), sumB bulk (l ++ [v]) = sumB bulk l + (bulk v + 1) := fun l v => by simp [sumB]
          have e2 : ∀ (l : List (DataW H)) (d : DataW H), Rows.uptoBulkAll (l ++ [d]) = Rows.uptoBulkAll l + Rows.uptoBulk d := by
            intro l d
            induction l with
            | nil => simp [Rows.uptoBulkAll]
            | cons x l ih => simp only [List.cons_append, Rows.uptoBulkAll, ih]; omega
          rw [e1, List.range_succ, List.map_append, List.map_cons, List.map_nil, e2]; omega
    obtain ⟨l, hlen, hget, hok, hsum⟩ := build len hl
    subst hlen
    refine ⟨l, ⟨some a, m, by simp, by simpa using hl, ⟨(List.range l.length).map C, ⟨by simp, fun i cs hi' => ?_⟩, ?_, fun _ _ _ => trivial⟩, T.pos⟩, rfl, hok, ?_⟩
    · rw [List.getElem?_map] at hi'
      by_cases hil : i < l.length
      · rw [List.getElem?_range hil] at hi'
        simp only [Option.map_some, Option.some.injEq] at hi'
        subst hi'
        obtain ⟨v, hv, hp, hk, _⟩ := hV i (by omega)
        refine ⟨hk, R v, ?_, hp⟩
        rw [List.getElem?_map, hget i hil, hv]; rfl
      · rw [List.getElem?_eq_none (by simp; omega)] at hi'; simp at hi'
    · have hks : ∀ cs ∈ (List.range l.length).map C, cs.length = k := by
        intro cs hcs
        obtain ⟨i, hi', rfl⟩ := List.mem_map.1 hcs
        obtain ⟨v, _, _, hk, _⟩ := hV i (by have := List.mem_range.1 hi'; omega)
        exact hk
      have hfl : ((List.range l.length).map C).flatten.length = l.length * k := by
        rw [List.length_flatten]
        have : ((List.range l.length).map C).map List.length = List.replicate l.length k := by
          apply List.ext_getElem?
          intro i
          rw [List.getElem?_map, List.getElem?_map, List.getElem?_replicate]
          by_cases hil : i < l.length
          · rw [List.getElem?_range hil, if_pos hil]
            simp only [Option.map_some]
            rw [hks _ (List.mem_map.2 ⟨i, List.mem_range.2 hil, rfl⟩)]
          · rw [if_neg hil, List.getElem?_eq_none (by simp; omega)]; rfl
        rw [this]; simp
      refine ⟨by simpa using hfl, fun hpos => ?_⟩
      simp only [List.length_map] at hpos
      have hk0 := T.pos
      have hl0 : 0 < l.length := by
        rcases Nat.eq_zero_or_pos l.length with h0 | h0
        · rw [h0] at hpos; simp at hpos
        · exact h0
      obtain ⟨b, o, spot⟩ := a
      obtain ⟨v0, _, _, hk0', _, _, hc0⟩ := hV 0 (by omega)
      obtain ⟨u0, hu0⟩ : ∃ u, (C 0)[0]? = some u := ⟨_, List.getElem?_eq_getElem (by omega)⟩
      have hc00 := hc0 0 u0 hu0
      have hspot : spot = none := by simpa [Addr.add] using World.cell?_spot hc00
      subst hspot
      refine ⟨b, o, rfl, World.block_lt_of_cell? W _ (by simpa [Addr.add] using hc00), fun j u hu => ?_⟩
      have hjl : j < l.length * k := by rw [← hfl]; exact (List.getElem?_eq_some_iff.1 hu).1
      have hi0 : j / k < l.length := (Nat.div_lt_iff_lt_mul hk0).2 hjl
      have hjk : j % k < k := Nat.mod_lt _ hk0
      obtain ⟨v, hv, _, hk', _, _, hc⟩ := hV (j / k) (by omega)
      obtain ⟨u', hu'⟩ : ∃ u', (C (j / k))[j % k]? = some u' := ⟨_, List.getElem?_eq_getElem (by omega)⟩
      have hf := flat_get hks (i := j / k) (j := j % k) (by rw [List.getElem?_map, List.getElem?_range hi0]; rfl) hu'
      rw [Nat.div_add_mod'] at hf
      rw [hu] at hf
      cases hf
      have := hc _ u hu'
      rw [Nat.div_add_mod', Addr.add_lit] at this
      exact this
    · simp only [Rows.uptoBulk]; omega
theorem len1 {α : Type _} {l : List α} (h : l.length = 1) : ∃ a0, l = [a0] := match l, h with | [a0], _ => ⟨a0, rfl⟩
theorem field_at {H : Type} {enc : TypeId × Value → H} {w : World} {base : Nat} {spare : Nat → Bool} {held : Bool} {n : Nat} {fs : Array Field} {cs : List Value} {xs : List (DataW H × List MemPlace)}
    (hf : ∀ (i : Nat) (f : Field), fs[i]? = some f → DataW.trod enc P w base spare held n f.type ((cs.drop f.offset).take (P.cellsOf f.type)) = xs[i]?) {i off k : Nat} {f : Field} {t : TypeId}
    (hi : fs[i]? = some f) (ht : f.type = t) (ho : f.offset = off) (hk : P.cellsOf t = k) : DataW.trod enc P w base spare held n t ((cs.drop off).take k) = xs[i]? := by
  subst ht ho hk; exact hf i f hi
end
theorem opens_bytes : Opens Try.prog 32 byEl 1 (fun l => l.length) (fun _ => True) := fun enc W fuel cs x h => by
  have hs : (∃ a len cap, cs = [.slice a len cap]) := by
    rcases open_slice Try.underlying32 h with ⟨rfl, _⟩ | ⟨a, len, cap, m, n, D, Pl, rfl, _⟩
    · exact ⟨_, _, _, rfl⟩
    · exact ⟨_, _, _, rfl⟩
  obtain ⟨a, len, cap, rfl⟩ := hs
  obtain ⟨xs, hl, hr, hc, hm, hb, _⟩ := arg_bytes (enc := enc) (W := W) (a0 := a) (len0 := len) (cap0 := cap) (d0 := x.1) (p0 := x.2) ⟨fuel, by simpa [Value.cells] using h⟩
  subst hl
  exact ⟨xs, byEl.mk hr hc fun _ _ _ => trivial, rfl, trivial, hb⟩
end Go.Proofs.Ytaacnknniaipmaa

/-
  What a call holds, told as a list of pieces that lie apart: blocks, rows, rows of elements with their own memory, and pieces that a reader of this list names; the laws by which a piece changes, comes in and goes, and what a call leaves alone. Nothing here names the program.
-/
namespace Go.Proofs.Ytaacnknniaipmaa
open Go.RowKit

abbrev BS := Nat → Prop
/-- Outside a set of blocks the world w' is as w was. -/
structure Mod (M : BS) (w w' : World) : Prop where
  os : w'.os = w.os
  tape : w'.tape = w.tape
  output : w'.output = w.output
  size : w.heap.size ≤ w'.heap.size
  block : ∀ b, b < w.heap.size → ¬ M b → w'.heap[b]? = w.heap[b]?
def NoB : BS := fun _ => False
section
variable {w w' w'' : World} {M M' : BS}
theorem Mod.refl (M : BS) (w : World) : Mod M w w := ⟨rfl, rfl, rfl, Nat.le_refl _, fun _ _ _ => rfl⟩
theorem Mod.trans (h : Mod M w w') (h2 : Mod M' w' w'') (hs : ∀ b, b < w.heap.size → M' b → M b) : Mod M w w'' :=
  ⟨h2.os.trans h.os, h2.tape.trans h.tape, h2.output.trans h.output, Nat.le_trans h.size h2.size, fun b hb hm => (h2.block b (Nat.lt_of_lt_of_le hb h.size) fun hk => hm (hs b hb hk)).trans (h.block b hb hm)⟩
theorem Mod.of_below (h : Below w.heap.size w w') (M : BS) : Mod M w w' := ⟨h.os, h.tape, h.output, h.size, fun b hb _ => h.block b hb⟩
theorem Mod.below (h : Mod NoB w w') : Below w.heap.size w w' := ⟨h.os, h.tape, h.output, h.size, fun b hb => h.block b hb id⟩
theorem Mod.of_gr {A : Option Addr} (h : Gr w w' A) (hA : ∀ a, A = some a → M a.block) : Mod M w w' := ⟨h.os, h.tape, h.output, World.grownBy.size h, fun b hb hm => h.block b hb fun hk => by
  cases A with
  | none => simp at hk
  | some a => simp at hk; exact hm (hk ▸ hA a rfl)⟩
theorem Mod.mono (h : Mod M w w') (hs : ∀ b, b < w.heap.size → M b → M' b) : Mod M' w w' := ⟨h.os, h.tape, h.output, h.size, fun b hb hm => h.block b hb fun hk => hm (hs b hb hk)⟩
end

/-- A piece that a reader names. -/
structure Ck where
  P : World → BS → Prop
  move : ∀ {w w' : World} {S S' : BS}, P w S → w.heap.size ≤ w'.heap.size → (∀ b, b < w.heap.size → S b → S' b ∧ w'.heap[b]? = w.heap[b]?) → P w' S'
/-- The pieces. -/
inductive Cd
  | blk (g : Nat) (t : TypeId) (cs : List Value)
  | ow (e : TypeId) (A : Option Addr) (n c : Nat) (xs : List Value)
  | rg (k : Nat) (e : TypeId) (A : Option Addr) (c : Nat) (els : List El)
  | ce (E : El) (cs : List Value)
  | ck (c : Ck)
def Cd.P : Cd → World → BS → Prop
  | .blk g t cs, w, S => S g ∧ Ar w g t cs
  | .ow e A n c xs, w, S => (∀ a, A = some a → S a.block) ∧ Ow w 0 e A n c xs
  | .rg k e A c els, w, S => (∀ a, A = some a → S a.block) ∧ OwR k e w 0 S A c els
  | .ce E cs, w, S => E.P w S cs
  | .ck c, w, S => c.P w S
theorem OwR.moveS {k base c : Nat} {e : TypeId} {w w' : World} {S S' : BS} {A : Option Addr} {els : List El} (h : OwR k e w base S A c els) (hA : ∀ a, A = some a → S a.block) (hz : w.heap.size ≤ w'.heap.size) (hm : ∀ b, b < w.heap.size → S b → S' b ∧ w'.heap[b]? = w.heap[b]?) :
    OwR k e w' base S' A c els := by
  have hl := OwR.lt h
  obtain ⟨css, h1, h2⟩ := h
  refine ⟨css, h1.move hz fun b hb hs => ⟨⟨(hm b hb hs.1).1, hs.2⟩, (hm b hb hs.1).2⟩, h2.1, ?_⟩
  rcases h2.2 with hn | ⟨g, cap, cur, hv, hg, hc, rest⟩
  · exact .inl hn
  · injection hv with hA' hn hc'
    subst hA'
    exact .inr ⟨g, cap, cur, by rw [hc'], hg, by rw [(hm g (hl _ rfl).2 (hA _ rfl)).2]; exact hc, rest⟩
theorem Ow.moveS {base n c : Nat} {e : TypeId} {w w' : World} {A : Option Addr} {xs : List Value} (h : Ow w base e A n c xs) (hm : ∀ a, A = some a → w'.heap[a.block]? = w.heap[a.block]?) : Ow w' base e A n c xs := by
  refine ⟨h.1, ?_⟩
  rcases h.2 with hn | ⟨g, cap, cur, hv, hg, hc, rest⟩
  · exact .inl hn
  · injection hv with hA' hn hc'
    subst hA'
    exact .inr ⟨g, cap, cur, by rw [hc'], hg, by rw [hm _ rfl]; exact hc, rest⟩
theorem Cd.move : ∀ {c : Cd} {w w' : World} {S S' : BS}, c.P w S → w.heap.size ≤ w'.heap.size → (∀ b, b < w.heap.size → S b → S' b ∧ w'.heap[b]? = w.heap[b]?) → c.P w' S'
  | .blk g t cs, w, w', S, S', h, _, hm => ⟨(hm g h.2.lt h.1).1, (hm g h.2.lt h.1).2.trans h.2⟩
  | .ow e A n c xs, w, w', S, S', h, _, hm => ⟨fun a ha => (hm _ (Ow.lt h.2 a ha).2 (h.1 a ha)).1, h.2.moveS fun a ha => (hm _ (Ow.lt h.2 a ha).2 (h.1 a ha)).2⟩
  | .rg k e A c els, w, w', S, S', h, hz, hm => ⟨fun a ha => (hm _ (OwR.lt h.2 a ha).2 (h.1 a ha)).1, h.2.moveS h.1 hz hm⟩
  | .ce E cs, w, w', S, S', h, hz, hm => E.move h hz hm
  | .ck c, w, w', S, S', h, hz, hm => c.move h hz hm

/-- The pieces hold, each in blocks of its own. -/
def Sat (w : World) : List Cd → BS → Prop
  | [], _ => True
  | c :: H, S => ∃ T : BS, (∀ b, T b → S b) ∧ c.P w T ∧ Sat w H fun b => S b ∧ ¬ T b
section
variable {w w' : World} {S S' : BS} {H H1 H2 : List Cd} {c c' : Cd}
theorem Sat.move : ∀ {H : List Cd} {S S' : BS}, Sat w H S → w.heap.size ≤ w'.heap.size → (∀ b, b < w.heap.size → S b → S' b ∧ w'.heap[b]? = w.heap[b]?) → Sat w' H S'
  | [], _, _, _, _, _ => trivial
  | c :: H, S, S', ⟨T, hT, hc, hr⟩, hz, hm => ⟨fun b => T b ∧ b < w.heap.size, fun b hb => (hm b hb.2 (hT b hb.1)).1, Cd.move hc hz fun b hb h => ⟨⟨h, hb⟩, (hm b hb (hT b h)).2⟩,
      Sat.move hr hz fun b hb h => ⟨⟨(hm b hb h.1).1, fun k => h.2 k.1⟩, (hm b hb h.1).2⟩⟩
theorem Sat.mono (h : Sat w H S) (hs : ∀ b, b < w.heap.size → S b → S' b) : Sat w H S' := h.move (Nat.le_refl _) fun b hb h => ⟨hs b hb h, rfl⟩
theorem Sat.append : ∀ {H1 : List Cd} {S : BS}, Sat w (H1 ++ H2) S → ∃ T : BS, (∀ b, T b → S b) ∧ Sat w H1 T ∧ Sat w H2 fun b => S b ∧ ¬ T b
  | [], S, h => ⟨NoB, fun _ h => h.elim, trivial, h.mono fun b _ h => ⟨h, id⟩⟩
  | c :: H1, S, ⟨T, hT, hc, hr⟩ => by
    obtain ⟨T2, h2, h3, h4⟩ := Sat.append hr
    exact ⟨fun b => T b ∨ T2 b, fun b hb => hb.elim (hT b) fun h => (h2 b h).1, ⟨T, fun b => .inl, hc, h3.mono fun b _ hb => ⟨.inr hb, (h2 b hb).2⟩⟩,
      h4.mono fun b _ hb => ⟨hb.1.1, fun k => k.elim hb.1.2 hb.2⟩⟩
theorem Sat.join : ∀ {H1 : List Cd} {S T : BS}, (∀ b, T b → S b) → Sat w H1 T → (Sat w H2 fun b => S b ∧ ¬ T b) → Sat w (H1 ++ H2) S
  | [], S, T, _, _, h2 => h2.mono fun b _ h => h.1
  | c :: H1, S, T, hT, ⟨U, hU, hc, hr⟩, h2 => ⟨U, fun b h => hT b (hU b h), hc, Sat.join (T := fun b => T b ∧ ¬ U b) (fun b h => ⟨hT b h.1, h.2⟩) hr (h2.mono fun b _ h => ⟨⟨h.1, fun k => h.2 (hU b k)⟩, fun k => h.2 k.1⟩)⟩
theorem Sat.swap (h : Sat w (H1 ++ H2) S) : Sat w (H2 ++ H1) S := by
  obtain ⟨T, h1, h2, h3⟩ := h.append
  exact Sat.join (T := fun b => S b ∧ ¬ T b) (fun b h => h.1) h3 (h2.mono fun b _ h => ⟨h1 b h, fun k => k.2 h⟩)
/-- A piece in front of the others. -/
def nthC : List Cd → Nat → Option Cd
  | [], _ => none
  | c :: _, 0 => some c
  | _ :: H, k + 1 => nthC H k
def delC : List Cd → Nat → List Cd
  | [], _ => []
  | _ :: H, 0 => H
  | c :: H, k + 1 => c :: delC H k
def setC : List Cd → Nat → Cd → List Cd
  | [], _, _ => []
  | _ :: H, 0, d => d :: H
  | c :: H, k + 1, d => c :: setC H k d
theorem Sat.front : ∀ {H : List Cd} {i : Nat} {S : BS}, Sat w H S → nthC H i = some c → Sat w (c :: delC H i) S
  | d :: H, 0, S, h, hi => by simp only [nthC, Option.some.injEq] at hi; subst hi; exact h
  | d :: H, i + 1, S, ⟨T, hT, hd, hr⟩, hi => by
    obtain ⟨U, hU, hc, hr2⟩ := Sat.front hr hi
    exact ⟨U, fun b h => (hU b h).1, hc, T, fun b h => ⟨hT b h, fun k => (hU b k).2 h⟩, hd, hr2.mono fun b _ h => ⟨⟨h.1.1, h.2⟩, h.1.2⟩⟩
theorem Sat.back : ∀ {H : List Cd} {i : Nat} {S : BS}, Sat w (c' :: delC H i) S → nthC H i = some c → Sat w (setC H i c') S
  | d :: H, 0, S, h, hi => h
  | d :: H, i + 1, S, ⟨U, hU, hc, T, hT, hd, hr⟩, hi =>
    ⟨T, fun b h => (hT b h).1, hd, Sat.back (H := H) (i := i) ⟨U, fun b h => ⟨hU b h, fun k => (hT b k).2 h⟩, hc, hr.mono fun b _ h => ⟨⟨h.1.1, h.2⟩, h.1.2⟩⟩ hi⟩
  | [], i, S, h, hi => by simp [nthC] at hi
end

/-- What the call may touch: the blocks that came with it, and new ones. -/
def Fr (M : BS) (w0 : World) : BS := fun b => M b ∨ w0.heap.size ≤ b
/-- The state of a call that began in the world w0 and may write in the blocks of M: it holds these pieces. -/
def St (M : BS) (w0 w : World) (H : List Cd) : Prop := Mod M w0 w ∧ Sat w H (Fr M w0)
section
variable {w0 w w' : World} {M : BS} {H H' H1 H2 : List Cd} {c c' : Cd} {i : Nat}
theorem St.start (h : Sat w H M) : St M w w H := ⟨Mod.refl _ _, h.mono fun _ _ h => .inl h⟩
theorem St.init (w : World) : St NoB w w [] := ⟨Mod.refl _ _, trivial⟩
theorem St.bel (h : St NoB w0 w H) : Below w0.heap.size w0 w := h.1.below
theorem St.nil (h : St M w0 w H) : St M w0 w [] := ⟨h.1, trivial⟩
theorem St.size (h : St M w0 w H) : w0.heap.size ≤ w.heap.size := h.1.size
/-- Other words for the same pieces. -/
theorem St.map (h : St M w0 w H) (hH : ∀ S, Sat w H S → Sat w H' S) : St M w0 w H' := ⟨h.1, hH _ h.2⟩
theorem St.front (h : St M w0 w H) (i : Nat) (hi : nthC H i = some c) : St M w0 w (c :: delC H i) := ⟨h.1, h.2.front hi⟩
theorem St.drop (h : St M w0 w H) (i : Nat) (hi : nthC H i = some c) : St M w0 w (delC H i) := ⟨h.1, by obtain ⟨T, hT, _, hr⟩ := h.2.front hi; exact hr.mono fun _ _ h => h.1⟩
/-- The pieces in front are handed to a call. -/
theorem St.lend (h : St M w0 w (H1 ++ H2)) : ∃ S : BS, Sat w H1 S ∧ (∀ b, S b → b < w.heap.size) ∧ (∀ w', Mod S w w' → Mod M w0 w') ∧ (∀ w', Mod S w w' → Sat w' H2 fun b => Fr M w0 b ∧ ¬ S b) ∧ ∀ w' H1', St S w w' H1' → St M w0 w' (H1' ++ H2) := by
  obtain ⟨T, hT, h1, h2⟩ := h.2.append
  have hM : ∀ w', Mod (fun b => T b ∧ b < w.heap.size) w w' → Mod M w0 w' := fun w' hm => h.1.trans hm fun b hb k => (hT b k.1).elim id fun k => absurd k (Nat.not_le.2 hb)
  refine ⟨fun b => T b ∧ b < w.heap.size, h1.mono fun b hb h => ⟨h, hb⟩, fun b h => h.2, hM, fun w' hm => h2.move hm.size fun b hb k => ⟨⟨k.1, fun k2 => k.2 k2.1⟩, hm.block b hb fun k2 => k.2 k2.1⟩, fun w' H1' hs => ⟨hM _ hs.1, ?_⟩⟩
  refine Sat.join (T := Fr (fun b => T b ∧ b < w.heap.size) w) (fun b hb => hb.elim (fun k => hT b k.1) fun k => .inr (Nat.le_trans h.1.size k)) hs.2 ?_
  refine h2.move hs.1.size fun b hb k => ⟨⟨k.1, ?_⟩, hs.1.block b hb fun k2 => k.2 k2.1⟩
  rintro (k2 | k2)
  · exact k.2 k2.1
  · omega
/-- A step that leaves all blocks that are there. -/
theorem St.below (h : St M w0 w H) (hb : Below w.heap.size w w') : St M w0 w' H := by
  obtain ⟨_, _, _, _, _, hB⟩ := St.lend (H1 := []) h
  exact hB w' [] ⟨Mod.of_below hb _, trivial⟩
/-- A call that only reads brings pieces. -/
theorem St.call (h : St M w0 w H) (hb : St NoB w w' H1) : St M w0 w' (H1 ++ H) := by
  obtain ⟨S, _, _, _, _, hB⟩ := St.lend (H1 := []) h
  exact hB w' H1 ⟨hb.1.mono fun _ _ h => h.elim, hb.2.mono fun b _ h => h.elim (fun k => k.elim) .inr⟩
/-- New blocks hold a piece. -/
theorem St.fresh {T : BS} (hb : Below w.heap.size w w') (hc : c.P w' T) (hT : ∀ b, b < w'.heap.size → T b → w.heap.size ≤ b) : St NoB w w' [c] :=
  ⟨Mod.of_below hb _, fun b => T b ∧ b < w'.heap.size, fun b k => .inr (hT b k.2 k.1), Cd.move hc (Nat.le_refl _) fun b hb k => ⟨⟨k, hb⟩, rfl⟩, trivial⟩
theorem St.new {T : BS} (h : St M w0 w H) (hb : Below w.heap.size w w') (hc : c.P w' T) (hT : ∀ b, b < w'.heap.size → T b → w.heap.size ≤ b) : St M w0 w' (c :: H) := h.call (St.fresh hb hc hT)
theorem St.newO {e : TypeId} {A : Option Addr} {base n cc : Nat} {xs : List Value} (h : St M w0 w H) (hb : Below w.heap.size w w') (hc : Ow w' base e A n cc xs) (hB : w.heap.size ≤ base) : St M w0 w' (.ow e A n cc xs :: H) :=
  h.new (T := fun b => w.heap.size ≤ b) (c := .ow e A n cc xs) hb ⟨fun a ha => Nat.le_trans hB (Ow.lt hc a ha).1, hc.mono (Nat.zero_le _)⟩ fun _ _ h => h
theorem St.newG {k : Nat} {e : TypeId} {A : Option Addr} {base cc : Nat} {S : BS} {els : List El} (h : St M w0 w H) (hb : Below w.heap.size w w') (hc : OwR k e w' base S A cc els) (hB : w.heap.size ≤ base) (hS : ∀ b, b < w'.heap.size → S b → w.heap.size ≤ b) : St M w0 w' (.rg k e A cc els :: H) :=
  h.new (T := fun b => w.heap.size ≤ b) (c := .rg k e A cc els) hb ⟨fun a ha => Nat.le_trans hB (OwR.lt hc a ha).1, hc.mono (Nat.zero_le _) hS⟩ fun _ _ h => h
theorem St.newA {g : Nat} {t : TypeId} {cs : List Value} (h : St M w0 w H) (hb : Below w.heap.size w w') (hg : w.heap.size ≤ g) (hc : Ar w' g t cs) : St M w0 w' (.blk g t cs :: H) :=
  h.new (T := fun b => w.heap.size ≤ b) (c := .blk g t cs) hb ⟨hg, hc⟩ fun _ _ h => h
/-- What a piece says. -/
theorem St.get (h : St M w0 w H) (i : Nat) (hi : nthC H i = some c) : ∃ T : BS, c.P w T ∧ (∀ b, T b → Fr M w0 b) := by
  obtain ⟨T, hT, hc, _⟩ := h.2.front hi
  exact ⟨T, hc, hT⟩
theorem St.ar {g : Nat} {t : TypeId} {cs : List Value} (h : St M w0 w H) (i : Nat) (hi : nthC H i = some (.blk g t cs)) : Ar w g t cs := by obtain ⟨T, hc, _⟩ := h.get i hi; exact hc.2
theorem St.ow {e : TypeId} {A : Option Addr} {n c : Nat} {xs : List Value} (h : St M w0 w H) (i : Nat) (hi : nthC H i = some (.ow e A n c xs)) : Ow w 0 e A n c xs := by obtain ⟨T, hc, _⟩ := h.get i hi; exact hc.2
theorem St.rg {k : Nat} {e : TypeId} {A : Option Addr} {c : Nat} {els : List El} (h : St M w0 w H) (i : Nat) (hi : nthC H i = some (.rg k e A c els)) : OwR k e w 0 All A c els := by obtain ⟨T, hc, _⟩ := h.get i hi; exact hc.2.mono (Nat.le_refl _) fun _ _ _ => trivial
theorem St.ce {E : El} {cs : List Value} (h : St M w0 w H) (i : Nat) (hi : nthC H i = some (.ce E cs)) : E.P w All cs := by obtain ⟨T, hc, _⟩ := h.get i hi; exact El.all hc
/-- One piece is written. -/
theorem St.upd (h : St M w0 w H) (i : Nat) (hi : nthC H i = some c) : ∃ T : BS, c.P w T ∧ (∀ b, T b → b < w.heap.size) ∧ ∀ w' c' (T' : BS), Mod T w w' → c'.P w' T' → (∀ b, b < w'.heap.size → T' b → T b ∨ w.heap.size ≤ b) → St M w0 w' (setC H i c') := by
  have h0 := h.front i hi
  obtain ⟨S, ⟨T, hT, hc, _⟩, hS, _, _, hB⟩ := St.lend (H1 := [c]) (H2 := delC H i) h0
  refine ⟨S, Cd.move hc (Nat.le_refl _) fun b _ k => ⟨hT b k, rfl⟩, hS, fun w' c' T' hm hc' hT' => ?_⟩
  have := hB w' [c'] ⟨hm, fun b => T' b ∧ b < w'.heap.size, fun b k => (hT' b k.2 k.1).elim .inl .inr, Cd.move hc' (Nat.le_refl _) fun b hb k => ⟨⟨k, hb⟩, rfl⟩, trivial⟩
  exact ⟨this.1, this.2.back hi⟩
theorem St.updA {g : Nat} {t : TypeId} {cs cs' : List Value} (h : St M w0 w H) (i : Nat) (hi : nthC H i = some (.blk g t cs)) (ha : Ar w' g t cs') (hg : Gr w w' (some ⟨g, 0, none⟩)) : St M w0 w' (setC H i (.blk g t cs')) := by
  obtain ⟨T, hc, hT, hK⟩ := h.upd i hi
  exact hK w' (.blk g t cs') T (Mod.of_gr hg fun a h => by cases h; exact hc.1) ⟨hc.1, ha⟩ fun _ _ h => .inl h
theorem at_in {A A' : Option Addr} {T : BS} (hat : A'.map (·.block) = A.map (·.block) ∨ ∀ a', A' = some a' → w.heap.size ≤ a'.block) (hA : ∀ a, A = some a → T a.block) : ∀ a, A' = some a → T a.block ∨ w.heap.size ≤ a.block := by
  rintro a rfl
  rcases hat with k | k
  · cases A with
    | none => simp at k
    | some a0 => simp at k; exact .inl (k ▸ hA a0 rfl)
  · exact .inr (k a rfl)
theorem at_new {A A' : Option Addr} (h : A'.map (·.block) = A.map (·.block) ∨ A'.map (·.block) = some w.heap.size) : A'.map (·.block) = A.map (·.block) ∨ ∀ a', A' = some a' → w.heap.size ≤ a'.block := h.imp id fun k a ha => by subst ha; simp at k; omega
theorem St.updO {e : TypeId} {A A' : Option Addr} {n n' c c' base : Nat} {xs xs' : List Value} (h : St M w0 w H) (i : Nat) (hi : nthC H i = some (.ow e A n c xs)) (ho : Ow w' base e A' n' c' xs') (hg : Gr w w' A)
    (hat : A'.map (·.block) = A.map (·.block) ∨ ∀ a', A' = some a' → w.heap.size ≤ a'.block) : St M w0 w' (setC H i (.ow e A' n' c' xs')) := by
  obtain ⟨T, hc, hT, hK⟩ := h.upd i hi
  exact hK w' (.ow e A' n' c' xs') (fun b => T b ∨ w.heap.size ≤ b) (Mod.of_gr hg hc.1) ⟨fun a ha => at_in hat hc.1 a ha, ho.mono (Nat.zero_le _)⟩ fun _ _ h => h
end
end Go.Proofs.Ytaacnknniaipmaa
