/-
  The texts of this proof, joined: Tc, Td, Te, Pa, Wf, Fo, Shelf, Fp, Held, Fq, Sc, Wa, Pb, Wg, Sd, Se.
-/
import Derived.Test.YtcjiecclmepboaaKeeM1
import Derived.Laws.Externs
import Derived.Shelf.Strings.Builder1
import Derived.Shelf.Strings.FieldsFuncAny
import Derived.Test.YtcjiecclmepboaaProg
import Derived.OrdersHeld
import Derived.Deep.RegionHeld3

/-
  Walks over the reference's First and Runes.
-/
namespace Go.Proofs.Ytcjiecclmepboaa
open Go.RowKit

def accN (c0 : Nat) (x : List UInt8) : Nat → Nat
  | 0 => c0
  | k + 1 => accN c0 x k * 64 + (nth x (k + 1) - 128)
theorem dec_none {x : List UInt8} (h : wide1 (nth x 0) < 0) : dec x = (65533, 1) := by
  unfold wide1 at h
  unfold dec Lib.decodeN
  have h0 := nth_lt x 0
  repeat' split at h
  all_goals first | omega | skip
  repeat' split
  all_goals first | rfl | omega
theorem wide_cases (b : Nat) : wide1 b < 0 ∨ ∃ n c0 : Nat, wide1 b = n ∧ wide2 b = c0 ∧ n ≤ 3 ∧ c0 < 128 ∧ ((n = 0 ∧ b < 128 ∧ c0 = b) ∨ (n = 1 ∧ 194 ≤ b ∧ b ≤ 223 ∧ c0 = b - 192) ∨ (n = 2 ∧ 224 ≤ b ∧ b ≤ 239 ∧ c0 = b - 224) ∨ (n = 3 ∧ 240 ≤ b ∧ b ≤ 244 ∧ c0 = b - 240)) := by
  unfold wide1 wide2
  by_cases h1 : b < 128
  · right; exact ⟨0, b, by rw [if_pos h1]; rfl, by rw [if_pos h1], by omega, by omega, .inl ⟨rfl, h1, rfl⟩⟩
  · by_cases h2 : 194 ≤ b ∧ b ≤ 223
    · right; exact ⟨1, b - 192, by rw [if_neg h1, if_pos h2]; rfl, by rw [if_neg h1, if_pos h2]; omega, by omega, by omega, by omega⟩
    · by_cases h3 : 224 ≤ b ∧ b ≤ 239
      · right; exact ⟨2, b - 224, by rw [if_neg h1, if_neg h2, if_pos h3]; rfl, by rw [if_neg h1, if_neg h2, if_pos h3]; omega, by omega, by omega, by omega⟩
      · by_cases h4 : 240 ≤ b ∧ b ≤ 244
        · right; exact ⟨3, b - 240, by rw [if_neg h1, if_neg h2, if_neg h3, if_pos h4]; rfl, by rw [if_neg h1, if_neg h2, if_neg h3, if_pos h4]; omega, by omega, by omega, by omega⟩
        · left; rw [if_neg h1, if_neg h2, if_neg h3, if_neg h4]; decide
/-- What follows a first byte isn't what it should be. -/
theorem dec_short {x : List UInt8} {n c0 : Nat} (h : (n = 0 ∧ nth x 0 < 128 ∧ c0 = nth x 0) ∨ (n = 1 ∧ 194 ≤ nth x 0 ∧ nth x 0 ≤ 223 ∧ c0 = nth x 0 - 192) ∨ (n = 2 ∧ 224 ≤ nth x 0 ∧ nth x 0 ≤ 239 ∧ c0 = nth x 0 - 224) ∨ (n = 3 ∧ 240 ≤ nth x 0 ∧ nth x 0 ≤ 244 ∧ c0 = nth x 0 - 240))
    (hb : (0 < n ∧ x.length ≤ n) ∨ ∃ j, 1 ≤ j ∧ j ≤ n ∧ (nth x j < 128 ∨ 191 < nth x j)) : dec x = (65533, 1) := by
  have h1 := nth_lt x 1
  have h2 := nth_lt x 2
  have h3 := nth_lt x 3
  have hb' : (0 < n ∧ x.length ≤ n) ∨ (1 ≤ n ∧ (nth x 1 < 128 ∨ 191 < nth x 1)) ∨ (2 ≤ n ∧ (nth x 2 < 128 ∨ 191 < nth x 2)) ∨ (3 ≤ n ∧ (nth x 3 < 128 ∨ 191 < nth x 3)) := by
    rcases hb with hb | ⟨j, h1, h2, h3⟩
    · exact .inl hb
    · have : j = 1 ∨ j = 2 ∨ j = 3 := by omega
      rcases this with rfl | rfl | rfl
      · exact .inr (.inl ⟨h2, h3⟩)
      · exact .inr (.inr (.inl ⟨h2, h3⟩))
      · exact .inr (.inr (.inr ⟨h2, h3⟩))
  clear hb
  unfold dec Lib.decodeN
  repeat' split
  all_goals first | rfl | omega
def badC (n c : Nat) : Prop := (n = 2 ∧ (c < 2048 ∨ (55296 ≤ c ∧ c ≤ 57343))) ∨ (n = 3 ∧ (c < 65536 ∨ 1114111 < c))
set_option maxRecDepth 10000 in
theorem dec_whole {x : List UInt8} {n c0 : Nat} (h : (n = 0 ∧ nth x 0 < 128 ∧ c0 = nth x 0) ∨ (n = 1 ∧ 194 ≤ nth x 0 ∧ nth x 0 ≤ 223 ∧ c0 = nth x 0 - 192) ∨ (n = 2 ∧ 224 ≤ nth x 0 ∧ nth x 0 ≤ 239 ∧ c0 = nth x 0 - 224) ∨ (n = 3 ∧ 240 ≤ nth x 0 ∧ nth x 0 ≤ 244 ∧ c0 = nth x 0 - 240))
    (hl : n < x.length) (hj : ∀ j, 1 ≤ j → j ≤ n → 128 ≤ nth x j ∧ nth x j ≤ 191) : (badC n (accN c0 x n) → dec x = (65533, 1)) ∧ (¬ badC n (accN c0 x n) → dec x = (accN c0 x n, n + 1) ∧ Ok x) := by
  unfold badC Ok
  rcases h with ⟨rfl, h1, rfl⟩ | ⟨rfl, h1, h2, rfl⟩ | ⟨rfl, h1, h2, rfl⟩ | ⟨rfl, h1, h2, rfl⟩
  · have e : dec x = (nth x 0, 1) := by rw [dec, Lib.decodeN, if_pos h1]
    rw [e, show accN (nth x 0) x 0 = nth x 0 from rfl]
    exact ⟨fun h => by omega, fun _ => ⟨rfl, .inr (show ¬ nth x 0 = 65533 by omega)⟩⟩
  · have a1 := hj 1 (by omega) (by omega)
    have e : dec x = ((nth x 0 - 192) * 64 + (nth x 1 - 128), 2) := by
      rw [dec, Lib.decodeN, if_neg (by omega), if_pos (by omega), if_pos (by omega)]
      apply Prod.ext
      · show nth x 0 % 32 * 64 + nth x 1 % 64 = _; omega
      · rfl
    rw [e, show accN (nth x 0 - 192) x 1 = (nth x 0 - 192) * 64 + (nth x 1 - 128) from rfl]
    exact ⟨fun h => by omega, fun _ => ⟨rfl, .inl (show ¬ (2 = 1) by omega)⟩⟩
  · have a1 := hj 1 (by omega) (by omega)
    have a2 := hj 2 (by omega) (by omega)
    have e0 : nth x 0 % 16 * 4096 + nth x 1 % 64 * 64 + nth x 2 % 64 = ((nth x 0 - 224) * 64 + (nth x 1 - 128)) * 64 + (nth x 2 - 128) := by omega
    rw [show accN (nth x 0 - 224) x 2 = ((nth x 0 - 224) * 64 + (nth x 1 - 128)) * 64 + (nth x 2 - 128) from rfl]
    refine ⟨fun h => ?_, fun h => ?_⟩
    · rw [dec, Lib.decodeN, if_neg (by omega), if_neg (by omega), if_pos (by omega), if_neg (by omega)]
    · have e : dec x = (((nth x 0 - 224) * 64 + (nth x 1 - 128)) * 64 + (nth x 2 - 128), 3) := by
        rw [dec, Lib.decodeN, if_neg (by omega), if_neg (by omega), if_pos (by omega), if_pos (by omega), e0]
      rw [e]; exact ⟨rfl, .inl (show ¬ (3 = 1) by omega)⟩
  · have a1 := hj 1 (by omega) (by omega)
    have a2 := hj 2 (by omega) (by omega)
    have a3 := hj 3 (by omega) (by omega)
    have e0 : nth x 0 % 8 * 262144 + nth x 1 % 64 * 4096 + nth x 2 % 64 * 64 + nth x 3 % 64 = (((nth x 0 - 240) * 64 + (nth x 1 - 128)) * 64 + (nth x 2 - 128)) * 64 + (nth x 3 - 128) := by omega
    rw [show accN (nth x 0 - 240) x 3 = (((nth x 0 - 240) * 64 + (nth x 1 - 128)) * 64 + (nth x 2 - 128)) * 64 + (nth x 3 - 128) from rfl]
    refine ⟨fun h => ?_, fun h => ?_⟩
    · rw [dec, Lib.decodeN, if_neg (by omega), if_neg (by omega), if_neg (by omega), if_pos (by omega), if_neg (by omega)]
    · have e : dec x = ((((nth x 0 - 240) * 64 + (nth x 1 - 128)) * 64 + (nth x 2 - 128)) * 64 + (nth x 3 - 128), 4) := by
        rw [dec, Lib.decodeN, if_neg (by omega), if_neg (by omega), if_neg (by omega), if_pos (by omega), if_pos (by omega), e0]
      rw [e]; exact ⟨rfl, .inl (show ¬ (4 = 1) by omega)⟩
theorem acc_lt {c0 : Nat} {x : List UInt8} (h0 : c0 < 128) : ∀ k, (∀ j, 1 ≤ j → j ≤ k → nth x j ≤ 191) → accN c0 x k < 128 * 64 ^ k
  | 0, _ => by rw [Nat.pow_zero]; exact (by omega : c0 < 128 * 1)
  | k + 1, h => by
    have ih := acc_lt h0 k fun j h1 h2 => h j h1 (by omega)
    have := h (k + 1) (by omega) (by omega)
    rw [Nat.pow_succ]
    show accN c0 x k * 64 + (nth x (k + 1) - 128) < _
    omega
def RetF (w : World) (x : List UInt8) (v : Value) (w' : World) : Prop := v = .tuple #[.int .i64 ((dec x).1 : Int), .int .i64 ((dec x).2 : Int), .bool (decide (Ok x))] ∧ w = w'
theorem RetF.bad {w : World} {x : List UInt8} (h : dec x = (65533, 1)) : RetF w x (.tuple #[.int .i64 65533, .int .i64 1, .bool false]) w := by
  refine ⟨?_, rfl⟩
  rw [decide_eq_false (by unfold Ok; rw [h]; simp), h]; rfl
set_option maxHeartbeats 2000000 in
set_option maxRecDepth 10000 in
theorem first_any {l : List UInt8} {p : Nat} (hp : p < l.length) (hl : l.length ≤ 1099511627776) (w : World) : CallsV Try.prog 63 #[str l, .int .i64 (p : Int)] w (RetF w (l.drop p)) := by
  obtain ⟨b, hb⟩ : ∃ b, l[p]? = some b := ⟨_, List.getElem?_eq_getElem hp⟩
  have hb0 : nth (l.drop p) 0 = b.toNat := by rw [nth_drop]; exact nth_get hb
  refine calls_in (N := _) Try.func63 rfl Try.ntmps63 rfl ?_; show WC _ _ _ _ _ _
  refine wc_sr ?_; refine wl_as rfl rfl ?_; refine wl_as rfl rfl ?_; refine wl_as rfl rfl ?_; refine wl_ns ?_; refine wc_sr ?_; refine wl_mv rfl rfl ?_; refine wl_mv rfl rfl ?_
  refine wl_val (opv_idxS (kk := p) tyStr rfl rfl rfl hb) rfl ?_
  apply wl_callX (vs := [_]) ok_caissonref02_wide; exact ⟨rfl, trivial⟩; exact rfl; exact wide_any _ (UInt8.toNat_lt _) _; rintro _ _ ⟨rfl, rfl⟩; refine wl_mv rfl rfl ?_; apply wl_val; apply opv_extract; exact rfl; exact rfl; exact rfl; apply wl_val; apply opv_extract; exact rfl; exact rfl; exact rfl; refine wl_as rfl rfl ?_; refine wl_as rfl rfl ?_; refine wl_ns ?_; refine wc_seq ?_; refine wc_sr ?_; refine wl_mv rfl rfl ?_; refine wl_bin rfl rfl bin_lss rfl ?_; refine wl_mv rfl rfl ?_
  rcases wide_cases b.toNat with hneg | ⟨n, c0, e1, e2, hn3, hc0, hw⟩
  · refine wl_cutV 7 27 (.bool (decide ((wide1 b.toNat < 0) ∨ ((l.length : Int) ≤ (p : Int) + wide1 b.toNat)))) ?c2 ?_; (case c2 => (dsimp only [List.take]; by_cases hc0 : (wide1 b.toNat < 0); (focus (apply wl_skip; exact rfl; exact rfl; exact rfl; refine bTn ?_; (with_reducible assumption); exact rfl; apply wl_skip; exact rfl; exact rfl; exact rfl; refine bTn ?_; (with_reducible assumption); exact rfl; apply wl_skip; exact rfl; exact rfl; exact rfl; refine bTn ?_; (with_reducible assumption); exact rfl; apply wl_skip; exact rfl; exact rfl; exact rfl; refine bTn ?_; (with_reducible assumption); exact rfl; apply wl_skip; exact rfl; exact rfl; exact rfl; refine bTn ?_; (with_reducible assumption); exact rfl; apply wl_skip; exact rfl; exact rfl; exact rfl; refine bTn ?_; (with_reducible assumption); exact rfl; apply wl_val; apply opv_pickT; exact rfl; refine bT ?_; (with_reducible assumption); exact rfl; exact rfl; refine wl_nil ?_; refine we_cut _ ⟨rfl, rfl⟩ ⟨congrArg (fun b => some (Value.bool b)) ?e2_0, ?s2_0⟩; (case e2_0 => ((simp [hc0]; done))); (case s2_0 => (refine And.intro rfl ?_; refine And.intro rfl ?_; refine And.intro rfl ?_; refine And.intro rfl ?_; refine And.intro rfl ?_; refine And.intro rfl ?_; refine And.intro rfl ?_; refine And.intro rfl ?_; refine And.intro rfl ?_; refine And.intro rfl ?_; refine And.intro rfl ?_; refine And.intro rfl ?_; refine And.intro rfl ?_; refine And.intro rfl ?_; refine And.intro rfl ?_; refine And.intro rfl ?_; refine And.intro rfl ?_; exact True.intro)))); (focus (apply wl_take; exact rfl; exact rfl; exact rfl; refine bF ?_; (with_reducible assumption); refine wl_mv rfl rfl ?_; apply wl_take; exact rfl; exact rfl; exact rfl; refine bF ?_; (with_reducible assumption); refine wl_mv rfl rfl ?_; apply wl_take; exact rfl; exact rfl; exact rfl; refine bF ?_; (with_reducible assumption); apply wl_val; apply opv_bin; exact rfl; exact rfl; exact bin_add64 (by omega); exact rfl; apply wl_take; exact rfl; exact rfl; exact rfl; refine bF ?_; (with_reducible assumption); refine wl_mv rfl rfl ?_; apply wl_take; exact rfl; exact rfl; exact rfl; refine bF ?_; (with_reducible assumption); apply wl_val; apply opv_lenL; exact rfl; exact Try.underlying9; exact rfl; apply wl_take; exact rfl; exact rfl; exact rfl; refine bF ?_; (with_reducible assumption); refine wl_bin rfl rfl bin_geq rfl ?_; apply wl_val; apply opv_pickT; exact rfl; refine bT ?_; (with_reducible assumption); exact rfl; exact rfl; refine wl_nil ?_; refine we_cut _ ⟨rfl, rfl⟩ ⟨congrArg (fun b => some (Value.bool b)) ?e2_1, ?s2_1⟩; (case e2_1 => ((rw [Bool.eq_iff_iff]; simp only [decide_eq_true_eq, Bool.false_eq_true, true_iff, false_iff]; omega))); (case s2_1 => (refine And.intro rfl ?_; refine And.intro rfl ?_; refine And.intro rfl ?_; refine And.intro rfl ?_; refine And.intro rfl ?_; refine And.intro rfl ?_; refine And.intro rfl ?_; refine And.intro rfl ?_; refine And.intro rfl ?_; refine And.intro rfl ?_; refine And.intro rfl ?_; refine And.intro rfl ?_; refine And.intro rfl ?_; refine And.intro rfl ?_; refine And.intro rfl ?_; refine And.intro rfl ?_; refine And.intro rfl ?_; exact True.intro)))))); dsimp only [List.drop]
    refine wl_ns ?_; apply wc_decT; exact rfl; omega; refine wc_sr ?_; refine wl_as rfl rfl ?_; refine wl_as rfl rfl ?_; refine wl_as rfl rfl ?_; refine wl_ns ?_; refine wc_ret ?_; refine we_seq_ret ?_
    exact we_ret3 rfl rfl rfl rfl ⟨_, rfl, RetF.bad (dec_none (by rw [hb0]; exact hneg))⟩
  rw [e1, e2]
  rw [← hb0] at hw
  refine wl_cutV 7 27 (.bool (decide (((n : Int) < 0) ∨ ((l.length : Int) ≤ (p : Int) + (n : Int))))) ?c9 ?_; (case c9 => (dsimp only [List.take]; by_cases hc0 : ((n : Int) < 0); (focus (apply wl_take; exact rfl; exact rfl; exact rfl; refine bF ?_; omega; refine wl_mv rfl rfl ?_; apply wl_take; exact rfl; exact rfl; exact rfl; refine bF ?_; omega; refine wl_mv rfl rfl ?_; apply wl_take; exact rfl; exact rfl; exact rfl; refine bF ?_; omega; apply wl_val; apply opv_bin; exact rfl; exact rfl; exact bin_add64 (by omega); exact rfl; apply wl_take; exact rfl; exact rfl; exact rfl; refine bF ?_; omega; refine wl_mv rfl rfl ?_; apply wl_take; exact rfl; exact rfl; exact rfl; refine bF ?_; omega; apply wl_val; apply opv_lenL; exact rfl; exact Try.underlying9; exact rfl; apply wl_take; exact rfl; exact rfl; exact rfl; refine bF ?_; omega; refine wl_bin rfl rfl bin_geq rfl ?_; apply wl_val; apply opv_pickT; exact rfl; refine bT ?_; (with_reducible assumption); exact rfl; exact rfl; refine wl_nil ?_; refine we_cut _ ⟨rfl, rfl⟩ ⟨congrArg (fun b => some (Value.bool b)) ?e9_0, ?s9_0⟩; (case e9_0 => ((simp [hc0]; done))); (case s9_0 => (refine And.intro rfl ?_; refine And.intro rfl ?_; refine And.intro rfl ?_; refine And.intro rfl ?_; refine And.intro rfl ?_; refine And.intro rfl ?_; refine And.intro rfl ?_; refine And.intro rfl ?_; refine And.intro rfl ?_; refine And.intro rfl ?_; refine And.intro rfl ?_; refine And.intro rfl ?_; refine And.intro rfl ?_; refine And.intro rfl ?_; refine And.intro rfl ?_; refine And.intro rfl ?_; refine And.intro rfl ?_; exact True.intro)))); (focus (apply wl_take; exact rfl; exact rfl; exact rfl; refine bF ?_; (with_reducible assumption); refine wl_mv rfl rfl ?_; apply wl_take; exact rfl; exact rfl; exact rfl; refine bF ?_; (with_reducible assumption); refine wl_mv rfl rfl ?_; apply wl_take; exact rfl; exact rfl; exact rfl; refine bF ?_; (with_reducible assumption); apply wl_val; apply opv_bin; exact rfl; exact rfl; exact bin_add64 (by omega); exact rfl; apply wl_take; exact rfl; exact rfl; exact rfl; refine bF ?_; (with_reducible assumption); refine wl_mv rfl rfl ?_; apply wl_take; exact rfl; exact rfl; exact rfl; refine bF ?_; (with_reducible assumption); apply wl_val; apply opv_lenL; exact rfl; exact Try.underlying9; exact rfl; apply wl_take; exact rfl; exact rfl; exact rfl; refine bF ?_; (with_reducible assumption); refine wl_bin rfl rfl bin_geq rfl ?_; apply wl_val; apply opv_pickF; exact rfl; refine bF ?_; (with_reducible assumption); exact rfl; exact rfl; refine wl_nil ?_; refine we_cut _ ⟨rfl, rfl⟩ ⟨congrArg (fun b => some (Value.bool b)) ?e9_1, ?s9_1⟩; (case e9_1 => ((simp [hc0]; done))); (case s9_1 => (refine And.intro rfl ?_; refine And.intro rfl ?_; refine And.intro rfl ?_; refine And.intro rfl ?_; refine And.intro rfl ?_; refine And.intro rfl ?_; refine And.intro rfl ?_; refine And.intro rfl ?_; refine And.intro rfl ?_; refine And.intro rfl ?_; refine And.intro rfl ?_; refine And.intro rfl ?_; refine And.intro rfl ?_; refine And.intro rfl ?_; refine And.intro rfl ?_; refine And.intro rfl ?_; refine And.intro rfl ?_; exact True.intro)))))); dsimp only [List.drop]
  refine wl_ns ?_
  refine wc_cond rfl (fun h1 => ?_) (fun h1 => ?_)
  · refine wc_sr ?_; refine wl_as rfl rfl ?_; refine wl_as rfl rfl ?_; refine wl_as rfl rfl ?_; refine wl_ns ?_; refine wc_ret ?_; refine we_seq_ret ?_
    exact we_ret3 rfl rfl rfl rfl ⟨_, rfl, RetF.bad (dec_short hw (.inl ⟨by omega, by rw [List.length_drop]; omega⟩))⟩
  refine wc_skip ?_; refine we_seq ?_; refine wc_seq ?_; refine wc_sr ?_; refine wl_as rfl rfl ?_; refine wl_ns ?_; refine wc_block ?_
  refine wc_loop (fun L wr m => ∃ k : Nat, L = [(0, str l), (1, .int .i64 (p : Int)), (7, .int .i64 (n : Int)), (8, .int .i64 (accN c0 (l.drop p) k : Int)), (9, .int .i64 ((k + 1 : Nat) : Int))] ∧ k ≤ n ∧ (∀ j, 1 ≤ j → j ≤ k → 128 ≤ nth (l.drop p) j ∧ nth (l.drop p) j ≤ 191) ∧ w = wr ∧ m = n - k)
    [(0, str l), (1, .int .i64 (p : Int)), (7, .int .i64 (n : Int)), (8, .int .i64 (c0 : Int)), (9, .int .i64 (1 : Nat))] n ⟨0, rfl, by omega, fun j h1 h2 => by omega, rfl, rfl⟩ ⟨rfl, rfl, rfl, rfl, rfl, trivial⟩ ?_
  rintro _ _ m ⟨k, rfl, hk, hj, rfl, rfl⟩
  have hacc := acc_lt (x := l.drop p) hc0 k fun j h1 h2 => (hj j h1 h2).2
  have hpow : 64 ^ k ≤ 64 ^ 3 := Nat.pow_le_pow_right (by decide) (by omega)
  have hp3 : (64 : Nat) ^ 3 = 262144 := by decide
  rw [hp3] at hpow
  obtain ⟨c, hc⟩ : ∃ c, accN c0 (l.drop p) k = c := ⟨_, rfl⟩
  rw [hc] at hacc ⊢
  have hcl : c < 33554432 := by
    have : 128 * 64 ^ k ≤ 128 * 262144 := Nat.mul_le_mul_left _ hpow
    omega
  clear hacc hpow hp3
  refine wc_seq ?_; refine wc_sr ?_; refine wl_mv rfl rfl ?_; refine wl_mv rfl rfl ?_; refine wl_bin rfl rfl bin_leq rfl ?_; refine wl_ns ?_
  refine wc_cond rfl (fun h2 => ?_) (fun h2 => ?_)
  · have hkl : p + (k + 1) < l.length := by omega
    obtain ⟨y, hy⟩ : ∃ y, l[p + (k + 1)]? = some y := ⟨_, List.getElem?_eq_getElem hkl⟩
    have hyn : nth (l.drop p) (k + 1) = y.toNat := by rw [nth_drop]; exact nth_get hy
    have hyl := y.toNat_lt
    refine wc_skip ?_; refine we_seq ?_; refine wc_seq ?_; refine wc_block ?_; refine wc_sr ?_; refine wl_mv rfl rfl ?_; refine wl_mv rfl rfl ?_; refine wl_mv rfl rfl ?_; apply wl_val; apply opv_bin; exact rfl; exact rfl; exact bin_add64 (by omega); exact rfl
    refine wl_val (opv_idxS (kk := p + (k + 1)) tyStr rfl rfl (by omega) hy) rfl ?_
    apply wl_val; apply opv_convR; exact rfl; exact Try.underlying5; exact Try.underlying3; exact IntWalk.i64_in _ (by omega); exact rfl; refine wl_as rfl rfl ?_; refine wl_ns ?_; refine wc_seq ?_; refine wc_sr ?_; refine wl_mv rfl rfl ?_; refine wl_bin rfl rfl bin_lss rfl ?_; refine wl_mv rfl rfl ?_
    refine wl_cutV 3 44 (.bool (decide (((y.toNat : Int) < 128) ∨ (191 < (y.toNat : Int))))) ?c21 ?_; (case c21 => (dsimp only [List.take]; by_cases hc0 : ((y.toNat : Int) < 128); (focus (apply wl_skip; exact rfl; exact rfl; exact rfl; refine bTn ?_; (with_reducible assumption); exact rfl; apply wl_skip; exact rfl; exact rfl; exact rfl; refine bTn ?_; (with_reducible assumption); exact rfl; apply wl_val; apply opv_pickT; exact rfl; refine bT ?_; (with_reducible assumption); exact rfl; exact rfl; refine wl_nil ?_; refine we_cut _ ⟨rfl, rfl⟩ ⟨congrArg (fun b => some (Value.bool b)) ?e21_0, ?s21_0⟩; (case e21_0 => ((simp [hc0]; done))); (case s21_0 => (refine And.intro rfl ?_; refine And.intro rfl ?_; refine And.intro rfl ?_; refine And.intro rfl ?_; refine And.intro rfl ?_; refine And.intro rfl ?_; refine And.intro rfl ?_; refine And.intro rfl ?_; refine And.intro rfl ?_; refine And.intro rfl ?_; refine And.intro rfl ?_; refine And.intro rfl ?_; refine And.intro rfl ?_; refine And.intro rfl ?_; refine And.intro rfl ?_; refine And.intro rfl ?_; refine And.intro rfl ?_; refine And.intro rfl ?_; exact True.intro)))); (focus (apply wl_take; exact rfl; exact rfl; exact rfl; refine bF ?_; (with_reducible assumption); refine wl_mv rfl rfl ?_; apply wl_take; exact rfl; exact rfl; exact rfl; refine bF ?_; (with_reducible assumption); refine wl_bin rfl rfl bin_gtr rfl ?_; apply wl_val; apply opv_pickF; exact rfl; refine bF ?_; (with_reducible assumption); exact rfl; exact rfl; refine wl_nil ?_; refine we_cut _ ⟨rfl, rfl⟩ ⟨congrArg (fun b => some (Value.bool b)) ?e21_1, ?s21_1⟩; (case e21_1 => ((simp [hc0]; done))); (case s21_1 => (refine And.intro rfl ?_; refine And.intro rfl ?_; refine And.intro rfl ?_; refine And.intro rfl ?_; refine And.intro rfl ?_; refine And.intro rfl ?_; refine And.intro rfl ?_; refine And.intro rfl ?_; refine And.intro rfl ?_; refine And.intro rfl ?_; refine And.intro rfl ?_; refine And.intro rfl ?_; refine And.intro rfl ?_; refine And.intro rfl ?_; refine And.intro rfl ?_; refine And.intro rfl ?_; refine And.intro rfl ?_; refine And.intro rfl ?_; exact True.intro)))))); dsimp only [List.drop]
    refine wl_ns ?_
    refine wc_cond rfl (fun h3 => ?_) (fun h3 => ?_)
    · refine wc_sr ?_; refine wl_as rfl rfl ?_; refine wl_as rfl rfl ?_; refine wl_as rfl rfl ?_; refine wl_ns ?_; refine wc_ret ?_; refine we_seq_ret ?_; refine we_block_ret ?_; refine we_seq_ret ?_; refine we_loop_ret ?_; refine we_block_ret ?_; refine we_seq_ret ?_
      exact we_ret3 rfl rfl rfl rfl ⟨_, rfl, RetF.bad (dec_short hw (.inr ⟨k + 1, by omega, by omega, by rw [hyn]; omega⟩))⟩
    · refine wc_skip ?_; refine we_seq ?_; refine wc_region ?_; refine wl_mv rfl rfl ?_; apply wl_val; apply opv_bin; exact rfl; exact rfl; exact bin_mul64 (by omega); exact rfl; refine wl_mv rfl rfl ?_; apply wl_val; apply opv_bin; exact rfl; exact rfl; exact bin_add64 (by omega); exact rfl; apply wl_val; apply opv_bin; exact rfl; exact rfl; exact bin_sub64 (by omega); exact rfl; refine wl_as rfl rfl ?_; refine wl_nil ?_; refine we_block_norm ?_; refine we_seq ?_; refine wc_region ?_; refine wl_mv rfl rfl ?_; apply wl_val; apply opv_bin; exact rfl; exact rfl; exact bin_add64 (by omega); exact rfl; refine wl_as rfl rfl ?_; refine wl_nil ?_
      refine we_loop [(0, str l), (1, .int .i64 (p : Int)), (7, .int .i64 (n : Int)), (8, .int .i64 (accN c0 (l.drop p) (k + 1) : Int)), (9, .int .i64 ((k + 1 + 1 : Nat) : Int))] (n - (k + 1)) ⟨k + 1, rfl, by omega, fun j h1 h2 => ?_, rfl, rfl⟩ (by omega) ⟨rfl, rfl, rfl, ?_, by simp [lookT], trivial⟩
      · by_cases he : j = k + 1
        · subst he; rw [hyn]; omega
        · exact hj j h1 (by omega)
      · refine congrArg (fun z => some (Value.int .i64 z)) ?_
        rw [show accN c0 (l.drop p) (k + 1) = accN c0 (l.drop p) k * 64 + (nth (l.drop p) (k + 1) - 128) from rfl, hc, hyn]
        omega
  · obtain rfl : k = n := by omega
    have hd := dec_whole hw (by rw [List.length_drop]; omega) hj
    rw [hc] at hd
    refine wc_exit ?_; refine we_seq_exit ?_; refine we_loop_exit ?_; refine we_block_exit ?_; refine we_seq ?_; refine wc_seq ?_; refine wc_sr ?_; refine wl_mv rfl rfl ?_; refine wl_bin rfl rfl bin_eql rfl ?_; refine wl_mv rfl rfl ?_
    refine wl_cutV 11 63 (.bool (decide ((k : Int) = 2 ∧ ((c : Int) < 2048 ∨ (55296 ≤ (c : Int) ∧ (c : Int) ≤ 57343))))) ?c31 ?_; (case c31 => (dsimp only [List.take]; by_cases hc0 : ((k : Int) = 2); (focus (by_cases hc1 : ((c : Int) < 2048); (focus (by_cases hc2 : (55296 ≤ (c : Int)); (focus (apply wl_take; exact rfl; exact rfl; exact rfl; refine bT ?_; (with_reducible assumption); refine wl_mv rfl rfl ?_; apply wl_take; exact rfl; exact rfl; exact rfl; refine bT ?_; (with_reducible assumption); refine wl_bin rfl rfl bin_lss rfl ?_; apply wl_take; exact rfl; exact rfl; exact rfl; refine bT ?_; (with_reducible assumption); refine wl_mv rfl rfl ?_; apply wl_take; exact rfl; exact rfl; exact rfl; refine bF ?_; omega; refine wl_mv rfl rfl ?_; apply wl_take; exact rfl; exact rfl; exact rfl; refine bF ?_; omega; refine wl_bin rfl rfl bin_geq rfl ?_; apply wl_take; exact rfl; exact rfl; exact rfl; refine bF ?_; omega; refine wl_mv rfl rfl ?_; apply wl_take; exact rfl; exact rfl; exact rfl; refine bT ?_; (with_reducible assumption); refine wl_mv rfl rfl ?_; apply wl_take; exact rfl; exact rfl; exact rfl; refine bT ?_; (with_reducible assumption); refine wl_bin rfl rfl bin_leq rfl ?_; apply wl_take; exact rfl; exact rfl; exact rfl; refine bF ?_; omega; apply wl_val; apply opv_pickT; exact rfl; refine bT ?_; (with_reducible assumption); exact rfl; exact rfl; apply wl_take; exact rfl; exact rfl; exact rfl; refine bT ?_; (with_reducible assumption); apply wl_val; apply opv_pickT; exact rfl; refine bT ?_; (with_reducible assumption); exact rfl; exact rfl; apply wl_val; apply opv_pickT; exact rfl; refine bT ?_; (with_reducible assumption); exact rfl; exact rfl; refine wl_nil ?_; refine we_cut _ ⟨rfl, rfl⟩ ⟨congrArg (fun b => some (Value.bool b)) ?e31_0, ?s31_0⟩; (case e31_0 => ((simp [hc0, hc1, hc2]; done))); (case s31_0 => (refine And.intro rfl ?_; refine And.intro rfl ?_; refine And.intro rfl ?_; refine And.intro rfl ?_; refine And.intro rfl ?_; refine And.intro rfl ?_; refine And.intro rfl ?_; refine And.intro rfl ?_; refine And.intro rfl ?_; refine And.intro rfl ?_; refine And.intro rfl ?_; exact True.intro)))); (focus (apply wl_take; exact rfl; exact rfl; exact rfl; refine bT ?_; (with_reducible assumption); refine wl_mv rfl rfl ?_; apply wl_take; exact rfl; exact rfl; exact rfl; refine bT ?_; (with_reducible assumption); refine wl_bin rfl rfl bin_lss rfl ?_; apply wl_take; exact rfl; exact rfl; exact rfl; refine bT ?_; (with_reducible assumption); refine wl_mv rfl rfl ?_; apply wl_skip; exact rfl; exact rfl; exact rfl; refine bTn ?_; (with_reducible assumption); exact rfl; apply wl_skip; exact rfl; exact rfl; exact rfl; refine bTn ?_; (with_reducible assumption); exact rfl; apply wl_skip; exact rfl; exact rfl; exact rfl; refine bTn ?_; (with_reducible assumption); exact rfl; apply wl_skipU; exact rfl; exact rfl; exact rfl; exact rfl; apply wl_skipU; exact rfl; exact rfl; exact rfl; exact rfl; apply wl_skip; exact rfl; exact rfl; exact rfl; refine bTn ?_; (with_reducible assumption); exact rfl; apply wl_take; exact rfl; exact rfl; exact rfl; refine bT ?_; (with_reducible assumption); apply wl_val; apply opv_pickT; exact rfl; refine bT ?_; (with_reducible assumption); exact rfl; exact rfl; apply wl_val; apply opv_pickT; exact rfl; refine bT ?_; (with_reducible assumption); exact rfl; exact rfl; refine wl_nil ?_; refine we_cut _ ⟨rfl, rfl⟩ ⟨congrArg (fun b => some (Value.bool b)) ?e31_1, ?s31_1⟩; (case e31_1 => ((simp [hc0, hc1, hc2]; done))); (case s31_1 => (refine And.intro rfl ?_; refine And.intro rfl ?_; refine And.intro rfl ?_; refine And.intro rfl ?_; refine And.intro rfl ?_; refine And.intro rfl ?_; refine And.intro rfl ?_; refine And.intro rfl ?_; refine And.intro rfl ?_; refine And.intro rfl ?_; refine And.intro rfl ?_; exact True.intro)))))); (focus (by_cases hc2 : (55296 ≤ (c : Int)); (focus (apply wl_take; exact rfl; exact rfl; exact rfl; refine bT ?_; (with_reducible assumption); refine wl_mv rfl rfl ?_; apply wl_take; exact rfl; exact rfl; exact rfl; refine bT ?_; (with_reducible assumption); refine wl_bin rfl rfl bin_lss rfl ?_; apply wl_take; exact rfl; exact rfl; exact rfl; refine bT ?_; (with_reducible assumption); refine wl_mv rfl rfl ?_; apply wl_take; exact rfl; exact rfl; exact rfl; refine bF ?_; (with_reducible assumption); refine wl_mv rfl rfl ?_; apply wl_take; exact rfl; exact rfl; exact rfl; refine bF ?_; (with_reducible assumption); refine wl_bin rfl rfl bin_geq rfl ?_; apply wl_take; exact rfl; exact rfl; exact rfl; refine bF ?_; (with_reducible assumption); refine wl_mv rfl rfl ?_; apply wl_take; exact rfl; exact rfl; exact rfl; refine bT ?_; (with_reducible assumption); refine wl_mv rfl rfl ?_; apply wl_take; exact rfl; exact rfl; exact rfl; refine bT ?_; (with_reducible assumption); refine wl_bin rfl rfl bin_leq rfl ?_; apply wl_take; exact rfl; exact rfl; exact rfl; refine bF ?_; (with_reducible assumption); apply wl_val; apply opv_pickT; exact rfl; refine bT ?_; (with_reducible assumption); exact rfl; exact rfl; apply wl_take; exact rfl; exact rfl; exact rfl; refine bT ?_; (with_reducible assumption); apply wl_val; apply opv_pickF; exact rfl; refine bF ?_; (with_reducible assumption); exact rfl; exact rfl; apply wl_val; apply opv_pickT; exact rfl; refine bT ?_; (with_reducible assumption); exact rfl; exact rfl; refine wl_nil ?_; refine we_cut _ ⟨rfl, rfl⟩ ⟨congrArg (fun b => some (Value.bool b)) ?e31_2, ?s31_2⟩; (case e31_2 => ((simp [hc0, hc1, hc2]; done))); (case s31_2 => (refine And.intro rfl ?_; refine And.intro rfl ?_; refine And.intro rfl ?_; refine And.intro rfl ?_; refine And.intro rfl ?_; refine And.intro rfl ?_; refine And.intro rfl ?_; refine And.intro rfl ?_; refine And.intro rfl ?_; refine And.intro rfl ?_; refine And.intro rfl ?_; exact True.intro)))); (focus (apply wl_take; exact rfl; exact rfl; exact rfl; refine bT ?_; (with_reducible assumption); refine wl_mv rfl rfl ?_; apply wl_take; exact rfl; exact rfl; exact rfl; refine bT ?_; (with_reducible assumption); refine wl_bin rfl rfl bin_lss rfl ?_; apply wl_take; exact rfl; exact rfl; exact rfl; refine bT ?_; (with_reducible assumption); refine wl_mv rfl rfl ?_; apply wl_take; exact rfl; exact rfl; exact rfl; refine bF ?_; (with_reducible assumption); refine wl_mv rfl rfl ?_; apply wl_take; exact rfl; exact rfl; exact rfl; refine bF ?_; (with_reducible assumption); refine wl_bin rfl rfl bin_geq rfl ?_; apply wl_take; exact rfl; exact rfl; exact rfl; refine bF ?_; (with_reducible assumption); refine wl_mv rfl rfl ?_; apply wl_skip; exact rfl; exact rfl; exact rfl; refine bFn ?_; (with_reducible assumption); exact rfl; apply wl_skip; exact rfl; exact rfl; exact rfl; refine bFn ?_; (with_reducible assumption); exact rfl; apply wl_take; exact rfl; exact rfl; exact rfl; refine bF ?_; (with_reducible assumption); apply wl_val; apply opv_pickF; exact rfl; refine bF ?_; (with_reducible assumption); exact rfl; exact rfl; apply wl_take; exact rfl; exact rfl; exact rfl; refine bT ?_; (with_reducible assumption); apply wl_val; apply opv_pickF; exact rfl; refine bF ?_; (with_reducible assumption); exact rfl; exact rfl; apply wl_val; apply opv_pickT; exact rfl; refine bT ?_; (with_reducible assumption); exact rfl; exact rfl; refine wl_nil ?_; refine we_cut _ ⟨rfl, rfl⟩ ⟨congrArg (fun b => some (Value.bool b)) ?e31_3, ?s31_3⟩; (case e31_3 => ((simp [hc0, hc1, hc2]; done))); (case s31_3 => (refine And.intro rfl ?_; refine And.intro rfl ?_; refine And.intro rfl ?_; refine And.intro rfl ?_; refine And.intro rfl ?_; refine And.intro rfl ?_; refine And.intro rfl ?_; refine And.intro rfl ?_; refine And.intro rfl ?_; refine And.intro rfl ?_; refine And.intro rfl ?_; exact True.intro)))))))); (focus (by_cases hc1 : ((c : Int) < 2048); (focus (by_cases hc2 : (55296 ≤ (c : Int)); (focus (apply wl_take; exact rfl; exact rfl; exact rfl; refine bT ?_; omega; refine wl_mv rfl rfl ?_; apply wl_take; exact rfl; exact rfl; exact rfl; refine bT ?_; omega; refine wl_bin rfl rfl bin_lss rfl ?_; apply wl_take; exact rfl; exact rfl; exact rfl; refine bT ?_; omega; refine wl_mv rfl rfl ?_; apply wl_take; exact rfl; exact rfl; exact rfl; refine bF ?_; omega; refine wl_mv rfl rfl ?_; apply wl_take; exact rfl; exact rfl; exact rfl; refine bF ?_; omega; refine wl_bin rfl rfl bin_geq rfl ?_; apply wl_take; exact rfl; exact rfl; exact rfl; refine bF ?_; omega; refine wl_mv rfl rfl ?_; apply wl_take; exact rfl; exact rfl; exact rfl; refine bT ?_; (with_reducible assumption); refine wl_mv rfl rfl ?_; apply wl_take; exact rfl; exact rfl; exact rfl; refine bT ?_; (with_reducible assumption); refine wl_bin rfl rfl bin_leq rfl ?_; apply wl_take; exact rfl; exact rfl; exact rfl; refine bF ?_; omega; apply wl_val; apply opv_pickT; exact rfl; refine bT ?_; (with_reducible assumption); exact rfl; exact rfl; apply wl_take; exact rfl; exact rfl; exact rfl; refine bT ?_; omega; apply wl_val; apply opv_pickT; exact rfl; refine bT ?_; (with_reducible assumption); exact rfl; exact rfl; apply wl_val; apply opv_pickT; exact rfl; refine bT ?_; omega; exact rfl; exact rfl; refine wl_nil ?_; refine we_cut _ ⟨rfl, rfl⟩ ⟨congrArg (fun b => some (Value.bool b)) ?e31_4, ?s31_4⟩; (case e31_4 => ((rw [Bool.eq_iff_iff]; simp only [decide_eq_true_eq, Bool.false_eq_true, true_iff, false_iff]; omega))); (case s31_4 => (refine And.intro rfl ?_; refine And.intro rfl ?_; refine And.intro rfl ?_; refine And.intro rfl ?_; refine And.intro rfl ?_; refine And.intro rfl ?_; refine And.intro rfl ?_; refine And.intro rfl ?_; refine And.intro rfl ?_; refine And.intro rfl ?_; refine And.intro rfl ?_; exact True.intro)))); (focus (apply wl_skip; exact rfl; exact rfl; exact rfl; refine bFn ?_; (with_reducible assumption); exact rfl; apply wl_skip; exact rfl; exact rfl; exact rfl; refine bFn ?_; (with_reducible assumption); exact rfl; apply wl_skip; exact rfl; exact rfl; exact rfl; refine bFn ?_; (with_reducible assumption); exact rfl; apply wl_skipU; exact rfl; exact rfl; exact rfl; exact rfl; apply wl_skipU; exact rfl; exact rfl; exact rfl; exact rfl; apply wl_skipU; exact rfl; exact rfl; exact rfl; exact rfl; apply wl_skipU; exact rfl; exact rfl; exact rfl; exact rfl; apply wl_skipU; exact rfl; exact rfl; exact rfl; exact rfl; apply wl_skipU; exact rfl; exact rfl; exact rfl; exact rfl; apply wl_skip; exact rfl; exact rfl; exact rfl; refine bFn ?_; (with_reducible assumption); exact rfl; apply wl_val; apply opv_pickF; exact rfl; refine bF ?_; (with_reducible assumption); exact rfl; exact rfl; refine wl_nil ?_; refine we_cut _ ⟨rfl, rfl⟩ ⟨congrArg (fun b => some (Value.bool b)) ?e31_5, ?s31_5⟩; (case e31_5 => ((simp [hc0, hc1, hc2]; done))); (case s31_5 => (refine And.intro rfl ?_; refine And.intro rfl ?_; refine And.intro rfl ?_; refine And.intro rfl ?_; refine And.intro rfl ?_; refine And.intro rfl ?_; refine And.intro rfl ?_; refine And.intro rfl ?_; refine And.intro rfl ?_; refine And.intro rfl ?_; refine And.intro rfl ?_; exact True.intro)))))); (focus (by_cases hc2 : (55296 ≤ (c : Int)); (focus (apply wl_skip; exact rfl; exact rfl; exact rfl; refine bFn ?_; (with_reducible assumption); exact rfl; apply wl_skip; exact rfl; exact rfl; exact rfl; refine bFn ?_; (with_reducible assumption); exact rfl; apply wl_skip; exact rfl; exact rfl; exact rfl; refine bFn ?_; (with_reducible assumption); exact rfl; apply wl_skipU; exact rfl; exact rfl; exact rfl; exact rfl; apply wl_skipU; exact rfl; exact rfl; exact rfl; exact rfl; apply wl_skipU; exact rfl; exact rfl; exact rfl; exact rfl; apply wl_skipU; exact rfl; exact rfl; exact rfl; exact rfl; apply wl_skipU; exact rfl; exact rfl; exact rfl; exact rfl; apply wl_skipU; exact rfl; exact rfl; exact rfl; exact rfl; apply wl_skip; exact rfl; exact rfl; exact rfl; refine bFn ?_; (with_reducible assumption); exact rfl; apply wl_val; apply opv_pickF; exact rfl; refine bF ?_; (with_reducible assumption); exact rfl; exact rfl; refine wl_nil ?_; refine we_cut _ ⟨rfl, rfl⟩ ⟨congrArg (fun b => some (Value.bool b)) ?e31_6, ?s31_6⟩; (case e31_6 => ((simp [hc0, hc1, hc2]; done))); (case s31_6 => (refine And.intro rfl ?_; refine And.intro rfl ?_; refine And.intro rfl ?_; refine And.intro rfl ?_; refine And.intro rfl ?_; refine And.intro rfl ?_; refine And.intro rfl ?_; refine And.intro rfl ?_; refine And.intro rfl ?_; refine And.intro rfl ?_; refine And.intro rfl ?_; exact True.intro)))); (focus (apply wl_skip; exact rfl; exact rfl; exact rfl; refine bFn ?_; (with_reducible assumption); exact rfl; apply wl_skip; exact rfl; exact rfl; exact rfl; refine bFn ?_; (with_reducible assumption); exact rfl; apply wl_skip; exact rfl; exact rfl; exact rfl; refine bFn ?_; (with_reducible assumption); exact rfl; apply wl_skipU; exact rfl; exact rfl; exact rfl; exact rfl; apply wl_skipU; exact rfl; exact rfl; exact rfl; exact rfl; apply wl_skipU; exact rfl; exact rfl; exact rfl; exact rfl; apply wl_skipU; exact rfl; exact rfl; exact rfl; exact rfl; apply wl_skipU; exact rfl; exact rfl; exact rfl; exact rfl; apply wl_skipU; exact rfl; exact rfl; exact rfl; exact rfl; apply wl_skip; exact rfl; exact rfl; exact rfl; refine bFn ?_; (with_reducible assumption); exact rfl; apply wl_val; apply opv_pickF; exact rfl; refine bF ?_; (with_reducible assumption); exact rfl; exact rfl; refine wl_nil ?_; refine we_cut _ ⟨rfl, rfl⟩ ⟨congrArg (fun b => some (Value.bool b)) ?e31_7, ?s31_7⟩; (case e31_7 => ((simp [hc0, hc1, hc2]; done))); (case s31_7 => (refine And.intro rfl ?_; refine And.intro rfl ?_; refine And.intro rfl ?_; refine And.intro rfl ?_; refine And.intro rfl ?_; refine And.intro rfl ?_; refine And.intro rfl ?_; refine And.intro rfl ?_; refine And.intro rfl ?_; refine And.intro rfl ?_; refine And.intro rfl ?_; exact True.intro)))))))))); dsimp only [List.drop]
    refine wl_mv rfl rfl ?_
    refine wl_cutV 11 75 (.bool (decide (((k : Int) = 2 ∧ ((c : Int) < 2048 ∨ (55296 ≤ (c : Int) ∧ (c : Int) ≤ 57343))) ∨ ((k : Int) = 3 ∧ ((c : Int) < 65536 ∨ 1114111 < (c : Int)))))) ?c56 ?_; (case c56 => (dsimp only [List.take]; by_cases hc0 : (((k : Int) = 2 ∧ ((c : Int) < 2048 ∨ (55296 ≤ (c : Int) ∧ (c : Int) ≤ 57343)))); (focus (by_cases hc1 : ((k : Int) = 3); (focus (by_cases hc2 : ((c : Int) < 65536); (focus (apply wl_take; exact rfl; exact rfl; exact rfl; refine bF ?_; omega; refine wl_mv rfl rfl ?_; apply wl_take; exact rfl; exact rfl; exact rfl; refine bF ?_; omega; refine wl_bin rfl rfl bin_eql rfl ?_; apply wl_take; exact rfl; exact rfl; exact rfl; refine bF ?_; omega; refine wl_mv rfl rfl ?_; apply wl_take; exact rfl; exact rfl; exact rfl; refine bT ?_; (with_reducible assumption); refine wl_mv rfl rfl ?_; apply wl_take; exact rfl; exact rfl; exact rfl; refine bT ?_; (with_reducible assumption); refine wl_bin rfl rfl bin_lss rfl ?_; apply wl_take; exact rfl; exact rfl; exact rfl; refine bT ?_; (with_reducible assumption); refine wl_mv rfl rfl ?_; apply wl_take; exact rfl; exact rfl; exact rfl; refine bF ?_; omega; refine wl_mv rfl rfl ?_; apply wl_take; exact rfl; exact rfl; exact rfl; refine bF ?_; omega; refine wl_bin rfl rfl bin_gtr rfl ?_; apply wl_take; exact rfl; exact rfl; exact rfl; refine bT ?_; (with_reducible assumption); apply wl_val; apply opv_pickT; exact rfl; refine bT ?_; (with_reducible assumption); exact rfl; exact rfl; apply wl_take; exact rfl; exact rfl; exact rfl; refine bF ?_; omega; apply wl_val; apply opv_pickT; exact rfl; refine bT ?_; (with_reducible assumption); exact rfl; exact rfl; apply wl_val; apply opv_pickT; exact rfl; refine bT ?_; (with_reducible assumption); exact rfl; exact rfl; refine wl_nil ?_; refine we_cut _ ⟨rfl, rfl⟩ ⟨congrArg (fun b => some (Value.bool b)) ?e56_0, ?s56_0⟩; (case e56_0 => ((simp [hc0, hc1, hc2]; done))); (case s56_0 => (refine And.intro rfl ?_; refine And.intro rfl ?_; refine And.intro rfl ?_; refine And.intro rfl ?_; refine And.intro rfl ?_; refine And.intro rfl ?_; refine And.intro rfl ?_; refine And.intro rfl ?_; refine And.intro rfl ?_; refine And.intro rfl ?_; refine And.intro rfl ?_; refine And.intro rfl ?_; refine And.intro rfl ?_; exact True.intro)))); (focus (apply wl_take; exact rfl; exact rfl; exact rfl; refine bF ?_; omega; refine wl_mv rfl rfl ?_; apply wl_take; exact rfl; exact rfl; exact rfl; refine bF ?_; omega; refine wl_bin rfl rfl bin_eql rfl ?_; apply wl_take; exact rfl; exact rfl; exact rfl; refine bF ?_; omega; refine wl_mv rfl rfl ?_; apply wl_take; exact rfl; exact rfl; exact rfl; refine bT ?_; (with_reducible assumption); refine wl_mv rfl rfl ?_; apply wl_take; exact rfl; exact rfl; exact rfl; refine bT ?_; (with_reducible assumption); refine wl_bin rfl rfl bin_lss rfl ?_; apply wl_take; exact rfl; exact rfl; exact rfl; refine bT ?_; (with_reducible assumption); refine wl_mv rfl rfl ?_; apply wl_take; exact rfl; exact rfl; exact rfl; refine bF ?_; (with_reducible assumption); refine wl_mv rfl rfl ?_; apply wl_take; exact rfl; exact rfl; exact rfl; refine bF ?_; (with_reducible assumption); refine wl_bin rfl rfl bin_gtr rfl ?_; apply wl_take; exact rfl; exact rfl; exact rfl; refine bT ?_; (with_reducible assumption); apply wl_val; apply opv_pickT; exact rfl; refine bT ?_; omega; exact rfl; exact rfl; apply wl_take; exact rfl; exact rfl; exact rfl; refine bF ?_; omega; apply wl_val; apply opv_pickT; exact rfl; refine bT ?_; (with_reducible assumption); exact rfl; exact rfl; apply wl_val; apply opv_pickT; exact rfl; refine bT ?_; (with_reducible assumption); exact rfl; exact rfl; refine wl_nil ?_; refine we_cut _ ⟨rfl, rfl⟩ ⟨congrArg (fun b => some (Value.bool b)) ?e56_1, ?s56_1⟩; (case e56_1 => ((simp [hc0, hc1, hc2]; done))); (case s56_1 => (refine And.intro rfl ?_; refine And.intro rfl ?_; refine And.intro rfl ?_; refine And.intro rfl ?_; refine And.intro rfl ?_; refine And.intro rfl ?_; refine And.intro rfl ?_; refine And.intro rfl ?_; refine And.intro rfl ?_; refine And.intro rfl ?_; refine And.intro rfl ?_; refine And.intro rfl ?_; refine And.intro rfl ?_; exact True.intro)))))); (focus (by_cases hc2 : ((c : Int) < 65536); (focus (apply wl_skip; exact rfl; exact rfl; exact rfl; refine bTn ?_; (with_reducible assumption); exact rfl; apply wl_skip; exact rfl; exact rfl; exact rfl; refine bTn ?_; (with_reducible assumption); exact rfl; apply wl_skip; exact rfl; exact rfl; exact rfl; refine bTn ?_; (with_reducible assumption); exact rfl; apply wl_skipU; exact rfl; exact rfl; exact rfl; exact rfl; apply wl_skipU; exact rfl; exact rfl; exact rfl; exact rfl; apply wl_skipU; exact rfl; exact rfl; exact rfl; exact rfl; apply wl_skipU; exact rfl; exact rfl; exact rfl; exact rfl; apply wl_skipU; exact rfl; exact rfl; exact rfl; exact rfl; apply wl_skipU; exact rfl; exact rfl; exact rfl; exact rfl; apply wl_skip; exact rfl; exact rfl; exact rfl; refine bTn ?_; (with_reducible assumption); exact rfl; apply wl_val; apply opv_pickT; exact rfl; refine bT ?_; (with_reducible assumption); exact rfl; exact rfl; refine wl_nil ?_; refine we_cut _ ⟨rfl, rfl⟩ ⟨congrArg (fun b => some (Value.bool b)) ?e56_2, ?s56_2⟩; (case e56_2 => ((simp [hc0, hc1, hc2]; done))); (case s56_2 => (refine And.intro rfl ?_; refine And.intro rfl ?_; refine And.intro rfl ?_; refine And.intro rfl ?_; refine And.intro rfl ?_; refine And.intro rfl ?_; refine And.intro rfl ?_; refine And.intro rfl ?_; refine And.intro rfl ?_; refine And.intro rfl ?_; refine And.intro rfl ?_; refine And.intro rfl ?_; refine And.intro rfl ?_; exact True.intro)))); (focus (apply wl_take; exact rfl; exact rfl; exact rfl; refine bF ?_; omega; refine wl_mv rfl rfl ?_; apply wl_take; exact rfl; exact rfl; exact rfl; refine bF ?_; omega; refine wl_bin rfl rfl bin_eql rfl ?_; apply wl_take; exact rfl; exact rfl; exact rfl; refine bF ?_; omega; refine wl_mv rfl rfl ?_; apply wl_take; exact rfl; exact rfl; exact rfl; refine bT ?_; omega; refine wl_mv rfl rfl ?_; apply wl_take; exact rfl; exact rfl; exact rfl; refine bT ?_; omega; refine wl_bin rfl rfl bin_lss rfl ?_; apply wl_take; exact rfl; exact rfl; exact rfl; refine bT ?_; omega; refine wl_mv rfl rfl ?_; apply wl_take; exact rfl; exact rfl; exact rfl; refine bF ?_; (with_reducible assumption); refine wl_mv rfl rfl ?_; apply wl_take; exact rfl; exact rfl; exact rfl; refine bF ?_; (with_reducible assumption); refine wl_bin rfl rfl bin_gtr rfl ?_; apply wl_take; exact rfl; exact rfl; exact rfl; refine bT ?_; omega; apply wl_val; apply opv_pickT; exact rfl; refine bT ?_; omega; exact rfl; exact rfl; apply wl_take; exact rfl; exact rfl; exact rfl; refine bF ?_; omega; apply wl_val; apply opv_pickT; exact rfl; refine bT ?_; omega; exact rfl; exact rfl; apply wl_val; apply opv_pickT; exact rfl; refine bT ?_; (with_reducible assumption); exact rfl; exact rfl; refine wl_nil ?_; refine we_cut _ ⟨rfl, rfl⟩ ⟨congrArg (fun b => some (Value.bool b)) ?e56_3, ?s56_3⟩; (case e56_3 => ((simp [hc0, hc1, hc2]; done))); (case s56_3 => (refine And.intro rfl ?_; refine And.intro rfl ?_; refine And.intro rfl ?_; refine And.intro rfl ?_; refine And.intro rfl ?_; refine And.intro rfl ?_; refine And.intro rfl ?_; refine And.intro rfl ?_; refine And.intro rfl ?_; refine And.intro rfl ?_; refine And.intro rfl ?_; refine And.intro rfl ?_; refine And.intro rfl ?_; exact True.intro)))))))); (focus (by_cases hc1 : ((k : Int) = 3); (focus (by_cases hc2 : ((c : Int) < 65536); (focus (apply wl_take; exact rfl; exact rfl; exact rfl; refine bF ?_; (with_reducible assumption); refine wl_mv rfl rfl ?_; apply wl_take; exact rfl; exact rfl; exact rfl; refine bF ?_; (with_reducible assumption); refine wl_bin rfl rfl bin_eql rfl ?_; apply wl_take; exact rfl; exact rfl; exact rfl; refine bF ?_; (with_reducible assumption); refine wl_mv rfl rfl ?_; apply wl_take; exact rfl; exact rfl; exact rfl; refine bT ?_; (with_reducible assumption); refine wl_mv rfl rfl ?_; apply wl_take; exact rfl; exact rfl; exact rfl; refine bT ?_; (with_reducible assumption); refine wl_bin rfl rfl bin_lss rfl ?_; apply wl_take; exact rfl; exact rfl; exact rfl; refine bT ?_; (with_reducible assumption); refine wl_mv rfl rfl ?_; apply wl_skip; exact rfl; exact rfl; exact rfl; refine bTn ?_; (with_reducible assumption); exact rfl; apply wl_skip; exact rfl; exact rfl; exact rfl; refine bTn ?_; (with_reducible assumption); exact rfl; apply wl_take; exact rfl; exact rfl; exact rfl; refine bT ?_; (with_reducible assumption); apply wl_val; apply opv_pickT; exact rfl; refine bT ?_; (with_reducible assumption); exact rfl; exact rfl; apply wl_take; exact rfl; exact rfl; exact rfl; refine bF ?_; (with_reducible assumption); apply wl_val; apply opv_pickT; exact rfl; refine bT ?_; (with_reducible assumption); exact rfl; exact rfl; apply wl_val; apply opv_pickF; exact rfl; refine bF ?_; (with_reducible assumption); exact rfl; exact rfl; refine wl_nil ?_; refine we_cut _ ⟨rfl, rfl⟩ ⟨congrArg (fun b => some (Value.bool b)) ?e56_4, ?s56_4⟩; (case e56_4 => ((simp [hc0, hc1, hc2]; done))); (case s56_4 => (refine And.intro rfl ?_; refine And.intro rfl ?_; refine And.intro rfl ?_; refine And.intro rfl ?_; refine And.intro rfl ?_; refine And.intro rfl ?_; refine And.intro rfl ?_; refine And.intro rfl ?_; refine And.intro rfl ?_; refine And.intro rfl ?_; refine And.intro rfl ?_; refine And.intro rfl ?_; refine And.intro rfl ?_; exact True.intro)))); (focus (apply wl_take; exact rfl; exact rfl; exact rfl; refine bF ?_; (with_reducible assumption); refine wl_mv rfl rfl ?_; apply wl_take; exact rfl; exact rfl; exact rfl; refine bF ?_; (with_reducible assumption); refine wl_bin rfl rfl bin_eql rfl ?_; apply wl_take; exact rfl; exact rfl; exact rfl; refine bF ?_; (with_reducible assumption); refine wl_mv rfl rfl ?_; apply wl_take; exact rfl; exact rfl; exact rfl; refine bT ?_; (with_reducible assumption); refine wl_mv rfl rfl ?_; apply wl_take; exact rfl; exact rfl; exact rfl; refine bT ?_; (with_reducible assumption); refine wl_bin rfl rfl bin_lss rfl ?_; apply wl_take; exact rfl; exact rfl; exact rfl; refine bT ?_; (with_reducible assumption); refine wl_mv rfl rfl ?_; apply wl_take; exact rfl; exact rfl; exact rfl; refine bF ?_; (with_reducible assumption); refine wl_mv rfl rfl ?_; apply wl_take; exact rfl; exact rfl; exact rfl; refine bF ?_; (with_reducible assumption); refine wl_bin rfl rfl bin_gtr rfl ?_; apply wl_take; exact rfl; exact rfl; exact rfl; refine bT ?_; (with_reducible assumption); apply wl_val; apply opv_pickF; exact rfl; refine bF ?_; (with_reducible assumption); exact rfl; exact rfl; apply wl_take; exact rfl; exact rfl; exact rfl; refine bF ?_; (with_reducible assumption); apply wl_val; apply opv_pickT; exact rfl; refine bT ?_; (with_reducible assumption); exact rfl; exact rfl; apply wl_val; apply opv_pickF; exact rfl; refine bF ?_; (with_reducible assumption); exact rfl; exact rfl; refine wl_nil ?_; refine we_cut _ ⟨rfl, rfl⟩ ⟨congrArg (fun b => some (Value.bool b)) ?e56_5, ?s56_5⟩; (case e56_5 => ((simp [hc0, hc1, hc2]; done))); (case s56_5 => (refine And.intro rfl ?_; refine And.intro rfl ?_; refine And.intro rfl ?_; refine And.intro rfl ?_; refine And.intro rfl ?_; refine And.intro rfl ?_; refine And.intro rfl ?_; refine And.intro rfl ?_; refine And.intro rfl ?_; refine And.intro rfl ?_; refine And.intro rfl ?_; refine And.intro rfl ?_; refine And.intro rfl ?_; exact True.intro)))))); (focus (by_cases hc2 : ((c : Int) < 65536); (focus (apply wl_take; exact rfl; exact rfl; exact rfl; refine bF ?_; (with_reducible assumption); refine wl_mv rfl rfl ?_; apply wl_take; exact rfl; exact rfl; exact rfl; refine bF ?_; (with_reducible assumption); refine wl_bin rfl rfl bin_eql rfl ?_; apply wl_take; exact rfl; exact rfl; exact rfl; refine bF ?_; (with_reducible assumption); refine wl_mv rfl rfl ?_; apply wl_skip; exact rfl; exact rfl; exact rfl; refine bFn ?_; (with_reducible assumption); exact rfl; apply wl_skip; exact rfl; exact rfl; exact rfl; refine bFn ?_; (with_reducible assumption); exact rfl; apply wl_skip; exact rfl; exact rfl; exact rfl; refine bFn ?_; (with_reducible assumption); exact rfl; apply wl_skipU; exact rfl; exact rfl; exact rfl; exact rfl; apply wl_skipU; exact rfl; exact rfl; exact rfl; exact rfl; apply wl_skip; exact rfl; exact rfl; exact rfl; refine bFn ?_; (with_reducible assumption); exact rfl; apply wl_take; exact rfl; exact rfl; exact rfl; refine bF ?_; (with_reducible assumption); apply wl_val; apply opv_pickF; exact rfl; refine bF ?_; (with_reducible assumption); exact rfl; exact rfl; apply wl_val; apply opv_pickF; exact rfl; refine bF ?_; (with_reducible assumption); exact rfl; exact rfl; refine wl_nil ?_; refine we_cut _ ⟨rfl, rfl⟩ ⟨congrArg (fun b => some (Value.bool b)) ?e56_6, ?s56_6⟩; (case e56_6 => ((simp [hc0, hc1, hc2]; done))); (case s56_6 => (refine And.intro rfl ?_; refine And.intro rfl ?_; refine And.intro rfl ?_; refine And.intro rfl ?_; refine And.intro rfl ?_; refine And.intro rfl ?_; refine And.intro rfl ?_; refine And.intro rfl ?_; refine And.intro rfl ?_; refine And.intro rfl ?_; refine And.intro rfl ?_; refine And.intro rfl ?_; refine And.intro rfl ?_; exact True.intro)))); (focus (apply wl_take; exact rfl; exact rfl; exact rfl; refine bF ?_; (with_reducible assumption); refine wl_mv rfl rfl ?_; apply wl_take; exact rfl; exact rfl; exact rfl; refine bF ?_; (with_reducible assumption); refine wl_bin rfl rfl bin_eql rfl ?_; apply wl_take; exact rfl; exact rfl; exact rfl; refine bF ?_; (with_reducible assumption); refine wl_mv rfl rfl ?_; apply wl_skip; exact rfl; exact rfl; exact rfl; refine bFn ?_; (with_reducible assumption); exact rfl; apply wl_skip; exact rfl; exact rfl; exact rfl; refine bFn ?_; (with_reducible assumption); exact rfl; apply wl_skip; exact rfl; exact rfl; exact rfl; refine bFn ?_; (with_reducible assumption); exact rfl; apply wl_skipU; exact rfl; exact rfl; exact rfl; exact rfl; apply wl_skipU; exact rfl; exact rfl; exact rfl; exact rfl; apply wl_skip; exact rfl; exact rfl; exact rfl; refine bFn ?_; (with_reducible assumption); exact rfl; apply wl_take; exact rfl; exact rfl; exact rfl; refine bF ?_; (with_reducible assumption); apply wl_val; apply opv_pickF; exact rfl; refine bF ?_; (with_reducible assumption); exact rfl; exact rfl; apply wl_val; apply opv_pickF; exact rfl; refine bF ?_; (with_reducible assumption); exact rfl; exact rfl; refine wl_nil ?_; refine we_cut _ ⟨rfl, rfl⟩ ⟨congrArg (fun b => some (Value.bool b)) ?e56_7, ?s56_7⟩; (case e56_7 => ((simp [hc0, hc1, hc2]; done))); (case s56_7 => (refine And.intro rfl ?_; refine And.intro rfl ?_; refine And.intro rfl ?_; refine And.intro rfl ?_; refine And.intro rfl ?_; refine And.intro rfl ?_; refine And.intro rfl ?_; refine And.intro rfl ?_; refine And.intro rfl ?_; refine And.intro rfl ?_; refine And.intro rfl ?_; refine And.intro rfl ?_; refine And.intro rfl ?_; exact True.intro)))))))))); dsimp only [List.drop]
    refine wl_ns ?_
    refine wc_cond rfl (fun h3 => ?_) (fun h3 => ?_)
    · refine wc_sr ?_; refine wl_as rfl rfl ?_; refine wl_as rfl rfl ?_; refine wl_as rfl rfl ?_; refine wl_ns ?_; refine wc_ret ?_; refine we_seq_ret ?_
      exact we_ret3 rfl rfl rfl rfl ⟨_, rfl, RetF.bad (hd.1 (by unfold badC; omega))⟩
    · refine wc_skip ?_; refine we_seq ?_; refine wc_sr ?_; refine wl_mv rfl rfl ?_; refine wl_mv rfl rfl ?_; apply wl_val; apply opv_bin; exact rfl; exact rfl; exact bin_add64 (by omega); exact rfl; refine wl_as rfl rfl ?_; refine wl_as rfl rfl ?_; refine wl_as rfl rfl ?_; refine wl_ns ?_; refine wc_ret ?_
      obtain ⟨e, ho⟩ := hd.2 (by unfold badC; omega)
      refine we_ret3 rfl rfl rfl rfl ⟨_, rfl, ?_, rfl⟩
      rw [decide_eq_true ho, e]; rfl
end Go.Proofs.Ytcjiecclmepboaa


/-
  Walks over the functions that go through a text's runes: Len, Runes, Clip, and the reference's Runes.
-/
namespace Go.Proofs.Ytcjiecclmepboaa
open Go.RowKit

theorem len_any {l : List UInt8} (hl : l.length ≤ 1099511627776) (w : World) : CallsV Try.prog 62 #[str l] w fun v w' => v = .int .i64 ((rs l).length : Int) ∧ Below w.heap.size w w' := by
  refine calls_in (N := _) Try.func62 rfl Try.ntmps62 rfl ?_; show WC _ _ _ _ _ _
  refine wc_sr ?_; refine wl_as rfl rfl ?_; refine wl_ns ?_; refine wc_sr ?_; refine wl_as rfl rfl ?_; refine wl_ns ?_; refine wc_seq ?_; refine wc_sr ?_; refine wl_mv rfl rfl ?_
  refine wl_range tyStr rfl rfl fun k w1 hk i1 hb1 => ?_
  refine wl_ns ?_; refine wc_block ?_
  refine wc_loop (fun L wr m => ∃ p n : Nat, L = [(3, .int .i64 (n : Int)), (5, .pointer (some ⟨k, 0, none⟩))] ∧ It wr k l p ∧ Below w.heap.size w wr ∧ p ≤ l.length ∧ n ≤ p ∧ n + (rs (l.drop p)).length = (rs l).length ∧ m = l.length - p)
    [(3, .int .i64 (0 : Nat)), (5, .pointer (some ⟨k, 0, none⟩))] l.length ⟨0, 0, rfl, i1, hb1, by omega, by omega, by simp, rfl⟩ ⟨rfl, rfl, trivial⟩ ?_
  rintro _ w2 m ⟨p, n, rfl, i2, hb2, hp, hn, he, rfl⟩
  refine wc_sr ?_
  by_cases hlt : p < l.length
  · have hd := dec_at hlt
    rw [rs_step hlt] at he
    refine wl_next rfl i2 hlt rfl fun w3 i3 g3 hs3 => ?_
    have hb3 := g3.belowI hb2 hk hb2.size
    apply wl_val; apply opv_extract; exact rfl; exact rfl; exact rfl; refine wl_ns ?_; refine wc_seq ?_; apply wc_condTb; exact rfl; exact rfl; refine wc_skip ?_; refine we_seq ?_; refine wc_block ?_; refine wc_region ?_; refine wl_mv rfl rfl ?_; apply wl_val; apply opv_bin; exact rfl; exact rfl; exact bin_add64 (by omega); exact rfl; refine wl_as rfl rfl ?_; refine wl_nil ?_; refine we_block_norm ?_
    refine we_loop [(3, .int .i64 ((n + 1 : Nat) : Int)), (5, .pointer (some ⟨k, 0, none⟩))] (l.length - (p + (dec (l.drop p)).2)) ⟨_, n + 1, rfl, i3, hb3, hd.2.1, by omega, by simp at he ⊢; omega, rfl⟩ (by omega) ⟨by simp [lookT], rfl, trivial⟩
  · refine wl_nextE rfl i2 hlt rfl ?_
    rw [rs_end hlt] at he
    apply wl_val; apply opv_extract; exact rfl; exact rfl; exact rfl; refine wl_ns ?_; refine wc_seq ?_; apply wc_condFb; exact rfl; exact rfl; refine wc_exit ?_; refine we_seq_exit ?_; refine we_loop_exit ?_; refine we_block_exit ?_; refine we_seq ?_; refine wc_sr ?_; refine wl_mv rfl rfl ?_; refine wl_as rfl rfl ?_; refine wl_ns ?_; refine wc_ret ?_
    exact we_ret1 rfl rfl ⟨_, rfl, by rw [← he]; rfl, hb2⟩

/-- Runes as new memory. -/
def RetR (w : World) (l : List UInt8) (v : Value) (w' : World) : Prop :=
  ∃ (A : Option Addr) (c : Nat), v = .slice A (rs l).length c ∧ Ow w' w.heap.size 21 A (rs l).length c ((rs l).map fun c : Nat => runeV (c : Int)) ∧ Below w.heap.size w w'
theorem runes_any {l : List UInt8} (hl : l.length ≤ 1099511627776) (w : World) : CallsV Try.prog 64 #[str l] w (RetR w l) := by
  refine calls_in (N := _) Try.func64 rfl Try.ntmps64 rfl ?_; show WC _ _ _ _ _ _
  refine wc_sr ?_; refine wl_as rfl rfl ?_; refine wl_ns ?_; refine wc_sr ?_; refine wl_as rfl rfl ?_; refine wl_ns ?_; refine wc_seq ?_; refine wc_sr ?_; refine wl_mv rfl rfl ?_
  refine wl_range tyStr rfl rfl fun k w1 hk i1 hb1 => ?_
  refine wl_ns ?_; refine wc_block ?_
  refine wc_loop (fun L wr m => ∃ (p : Nat) (done : List Nat) (A : Option Addr) (c : Nat), L = [(3, .slice A done.length c), (7, .pointer (some ⟨k, 0, none⟩))] ∧ It wr k l p ∧ Ow wr w.heap.size 21 A done.length c (done.map fun c : Nat => runeV (c : Int)) ∧ Below w.heap.size w wr ∧ p ≤ l.length ∧ done.length ≤ p ∧ done ++ rs (l.drop p) = rs l ∧ m = l.length - p)
    [(3, .slice none 0 0), (7, .pointer (some ⟨k, 0, none⟩))] l.length ⟨0, [], none, 0, rfl, i1, Ow.nil _ _ _, hb1, by omega, by simp, rfl, rfl⟩ ⟨rfl, rfl, trivial⟩ ?_
  rintro _ w2 m ⟨p, done, A, c, rfl, i2, o2, hb2, hp, hn, he, rfl⟩
  refine wc_sr ?_
  by_cases hlt : p < l.length
  · have hd := dec_at hlt
    rw [rs_step hlt] at he
    refine wl_next rfl i2 hlt rfl fun w3 i3 g3 hs3 => ?_
    have hb3 := g3.belowI hb2 hk hb2.size
    have o3 : Ow w3 w.heap.size 21 A done.length c (done.map fun c : Nat => runeV (c : Int)) := Ow.gr (base' := 0) (e' := 0) o2 g3 (fun a b ha hb => by cases hb; exact i2.ne_own o2 a ha)
    apply wl_val; apply opv_extract; exact rfl; exact rfl; exact rfl; refine wl_ns ?_; refine wc_seq ?_; apply wc_condTb; exact rfl; exact rfl; refine wc_skip ?_; refine we_seq ?_; refine wc_block ?_; refine wc_sr ?_; apply wl_val; apply opv_extract; exact rfl; exact rfl; exact rfl; refine wl_as rfl rfl ?_; refine wl_ns ?_; refine wc_region ?_; refine wl_mv rfl rfl ?_; refine wl_mv rfl rfl ?_
    refine wl_push (vs := [runeV ((dec (l.drop p)).1 : Int)]) tyR rfl o3 ⟨rfl, rfl, rfl, trivial⟩ rfl (by decide) rfl (by omega) (by simp only [maxLen]; omega) hb3.size rfl rfl fun q A4 c4 w4 o4 g4 hat => ?_
    have i4 := i3.gr g4 o3
    have hb4 := g4.below hb3 o3 (Nat.le_refl _) hb3.size
    refine wl_as rfl rfl ?_; refine wl_nil ?_; refine we_block_norm ?_
    refine we_loop [(3, .slice A4 (done ++ [(dec (l.drop p)).1]).length c4), (7, .pointer (some ⟨k, 0, none⟩))] (l.length - (p + (dec (l.drop p)).2)) ⟨_, _, A4, c4, rfl, i4, by simpa using o4, hb4, hd.2.1, by simp; omega, by rw [List.append_assoc]; exact he, rfl⟩ (by omega) ⟨by simp [lookT], rfl, trivial⟩
  · refine wl_nextE rfl i2 hlt rfl ?_
    rw [rs_end hlt, List.append_nil] at he
    subst he
    apply wl_val; apply opv_extract; exact rfl; exact rfl; exact rfl; refine wl_ns ?_; refine wc_seq ?_; apply wc_condFb; exact rfl; exact rfl; refine wc_exit ?_; refine we_seq_exit ?_; refine we_loop_exit ?_; refine we_block_exit ?_; refine we_seq ?_; refine wc_sr ?_; refine wl_mv rfl rfl ?_; refine wl_as rfl rfl ?_; refine wl_ns ?_; refine wc_ret ?_
    exact we_ret1 rfl rfl ⟨_, rfl, A, c, rfl, o2, hb2⟩

/-- The first runes' bytes. -/
def clipB (l : List UInt8) (n : Int) : List UInt8 := match (places l)[n.toNat]? with | some p => l.take p | none => l
theorem clip_any {l : List UInt8} (hl : l.length ≤ 1099511627776) (n : Int) (hn : -9223372036854775808 ≤ n ∧ n ≤ 9223372036854775807) (w : World) : CallsV Try.prog 15 #[str l, .int .i64 n] w fun v w' => v = str (clipB l n) ∧ Below w.heap.size w w' := by
  refine calls_in (N := _) Try.func15 rfl Try.ntmps15 rfl ?_; show WC _ _ _ _ _ _
  refine wc_sr ?_; refine wl_as rfl rfl ?_; refine wl_ns ?_; refine wc_seq ?_; refine wc_sr ?_; refine wl_mv rfl rfl ?_
  refine wl_range tyStr rfl rfl fun k w1 hk i1 hb1 => ?_
  refine wl_ns ?_; refine wc_block ?_
  refine wc_loop (fun L wr m => ∃ (p : Nat) (done : List Nat), L = [(0, str l), (1, .int .i64 (n - done.length)), (7, .pointer (some ⟨k, 0, none⟩))] ∧ It wr k l p ∧ Below w.heap.size w wr ∧ p ≤ l.length ∧ (done.length = 0 ∨ (done.length : Int) ≤ n) ∧ done ++ starts p (rw (l.drop p)) = places l ∧ m = l.length - p)
    [(0, str l), (1, .int .i64 n), (7, .pointer (some ⟨k, 0, none⟩))] l.length ⟨0, [], by simp, i1, hb1, by omega, by simp, rfl, rfl⟩ ⟨rfl, rfl, rfl, trivial⟩ ?_
  rintro _ w2 m ⟨p, done, rfl, i2, hb2, hp, hdn, he, rfl⟩
  refine wc_sr ?_
  by_cases hlt : p < l.length
  · have hd := dec_at hlt
    rw [rw_step hlt] at he
    refine wl_next rfl i2 hlt rfl fun w3 i3 g3 hs3 => ?_
    have hb3 := g3.belowI hb2 hk hb2.size
    apply wl_val; apply opv_extract; exact rfl; exact rfl; exact rfl; refine wl_ns ?_; refine wc_seq ?_; apply wc_condTb; exact rfl; exact rfl; refine wc_skip ?_; refine we_seq ?_; refine wc_block ?_; refine wc_sr ?_; apply wl_val; apply opv_extract; exact rfl; exact rfl; exact rfl; refine wl_as rfl rfl ?_; refine wl_ns ?_; refine wc_seq ?_; refine wc_sr ?_; refine wl_mv rfl rfl ?_; refine wl_bin rfl rfl bin_leq rfl ?_; refine wl_ns ?_
    refine wc_cond rfl (fun h1 => ?_) (fun h1 => ?_)
    · refine wc_sr ?_; refine wl_mv rfl rfl ?_; refine wl_mv rfl rfl ?_
      refine wl_val (opv_slS (a := 0) (b := p) tyStr rfl rfl ⟨_, rfl⟩ (by omega) hp) rfl ?_
      refine wl_as rfl rfl ?_; refine wl_ns ?_; refine wc_ret ?_; refine we_seq_ret ?_; refine we_block_ret ?_; refine we_loop_ret ?_; refine we_block_ret ?_; refine we_seq_ret ?_
      refine we_ret1 rfl rfl ⟨_, rfl, ?_, hb3⟩
      have hz : n.toNat = done.length := by omega
      rw [clipB, hz, ← he]
      simp [starts]
    · refine wc_skip ?_; refine we_seq ?_; refine wc_region ?_; refine wl_mv rfl rfl ?_; apply wl_val; apply opv_bin; exact rfl; exact rfl; exact bin_sub64 (by omega); exact rfl; refine wl_as rfl rfl ?_; refine wl_nil ?_; refine we_block_norm ?_
      refine we_loop [(0, str l), (1, .int .i64 (n - (done ++ [p]).length)), (7, .pointer (some ⟨k, 0, none⟩))] (l.length - (p + (dec (l.drop p)).2)) ⟨_, done ++ [p], rfl, i3, hb3, hd.2.1, by simp; omega, by rw [List.append_assoc]; exact he, rfl⟩ (by omega) ⟨rfl, by simp [lookT]; omega, rfl, trivial⟩
  · refine wl_nextE rfl i2 hlt rfl ?_
    rw [rw_end hlt] at he
    apply wl_val; apply opv_extract; exact rfl; exact rfl; exact rfl; refine wl_ns ?_; refine wc_seq ?_; apply wc_condFb; exact rfl; exact rfl; refine wc_exit ?_; refine we_seq_exit ?_; refine we_loop_exit ?_; refine we_block_exit ?_; refine we_seq ?_; refine wc_sr ?_; refine wl_mv rfl rfl ?_; refine wl_as rfl rfl ?_; refine wl_ns ?_; refine wc_ret ?_
    refine we_ret1 rfl rfl ⟨_, rfl, ?_, hb2⟩
    have : (places l)[n.toNat]? = none := by
      rw [← he]; simp [starts]; omega
    rw [clipB, this]
end Go.Proofs.Ytcjiecclmepboaa


/-
  Walks over the reference's Runes, Put and Fold.
-/
namespace Go.Proofs.Ytcjiecclmepboaa
open Go.RowKit

theorem bin_quo64 {P : Program} {t : TypeId} {a b : Nat} (hb : 0 < b) (ha : a ≤ 9223372036854775807) : BinV P .quo t (.int .i64 (a : Int)) (.int .i64 (b : Int)) (.int .i64 ((a / b : Nat) : Int)) := bin_quo hb (IntWalk.i64_in _ (by have := Nat.div_le_self a b; generalize a / b = q at this ⊢; omega))
/-- An int as a cell. -/
def iv (n : Nat) : Value := .int .i64 (n : Int)
/-- Two lists of ints as new memory, each in its own. -/
def RetII (w : World) (xs ys : List Nat) (v : Value) (w' : World) : Prop :=
  ∃ (A B : Option Addr) (c d : Nat), v = .tuple #[.slice A xs.length c, .slice B ys.length d] ∧ Ow w' w.heap.size 3 A xs.length c (xs.map iv) ∧ Ow w' w.heap.size 3 B ys.length d (ys.map iv) ∧ Below w.heap.size w w'
theorem refRunes_any {l : List UInt8} (hl : l.length ≤ 1099511627776) (w : World) : CallsV Try.prog 14 #[str l] w (RetII w (rs l) (places l ++ [l.length])) := by
  refine calls_in (N := _) Try.func14 rfl Try.ntmps14 rfl ?_; show WC _ _ _ _ _ _
  refine wc_sr ?_; refine wl_as rfl rfl ?_; refine wl_as rfl rfl ?_; refine wl_ns ?_; refine wc_sr ?_; refine wl_as rfl rfl ?_; refine wl_ns ?_; refine wc_sr ?_; refine wl_as rfl rfl ?_; refine wl_ns ?_; refine wc_sr ?_; refine wl_as rfl rfl ?_; refine wl_ns ?_; refine wc_seq ?_; refine wc_block ?_
  refine wc_loop (fun L wr m => ∃ (p : Nat) (ds dp : List Nat) (A B : Option Addr) (c d : Nat), L = [(0, str l), (4, .slice A ds.length c), (5, .slice B dp.length d), (6, .int .i64 (p : Int))] ∧ Ow wr w.heap.size 3 A ds.length c (ds.map iv) ∧ Ow wr w.heap.size 3 B dp.length d (dp.map iv) ∧ (∀ a b, A = some a → B = some b → a.block ≠ b.block) ∧ Below w.heap.size w wr ∧ p ≤ l.length ∧ ds.length ≤ p ∧ dp.length ≤ p ∧ ds ++ rs (l.drop p) = rs l ∧ dp ++ starts p (rw (l.drop p)) = places l ∧ m = l.length - p)
    [(0, str l), (4, .slice none 0 0), (5, .slice none 0 0), (6, .int .i64 (0 : Nat))] l.length ⟨0, [], [], none, none, 0, 0, rfl, Ow.nil _ _ _, Ow.nil _ _ _, by simp, Below.refl _ _, by omega, by simp, by simp, rfl, rfl, rfl⟩ ⟨rfl, rfl, rfl, rfl, trivial⟩ ?_
  rintro _ w1 m ⟨p, ds, dp, A, B, c, d, rfl, o1, q1, hne, hb1, hp, hn1, hn2, he1, he2, rfl⟩
  refine wc_seq ?_; refine wc_sr ?_; refine wl_mv rfl rfl ?_; refine wl_mv rfl rfl ?_; apply wl_val; apply opv_lenL; exact rfl; exact Try.underlying9; exact rfl; refine wl_bin rfl rfl bin_lss rfl ?_; refine wl_ns ?_
  refine wc_cond rfl (fun h1 => ?_) (fun h1 => ?_)
  · have hlt : p < l.length := by omega
    have hd := dec_at hlt
    rw [rs_step hlt] at he1
    rw [rw_step hlt] at he2
    refine wc_skip ?_; refine we_seq ?_; refine wc_block ?_; refine wc_sr ?_; refine wl_mv rfl rfl ?_; refine wl_mv rfl rfl ?_
    refine wl_call ok_caissonref02_First (first_any hlt hl _) ⟨rfl, rfl, trivial⟩ rfl ?_
    rintro _ _ ⟨rfl, rfl⟩
    refine wl_mv rfl rfl ?_; apply wl_val; apply opv_extract; exact rfl; exact rfl; exact rfl; apply wl_val; apply opv_extract; exact rfl; exact rfl; exact rfl; apply wl_val; apply opv_extract; exact rfl; exact rfl; exact rfl; refine wl_as rfl rfl ?_; refine wl_as rfl rfl ?_; refine wl_as rfl rfl ?_; refine wl_ns ?_; refine wc_sr ?_; refine wl_mv rfl rfl ?_; refine wl_mv rfl rfl ?_
    refine wl_push (vs := [iv (dec (l.drop p)).1]) tyI rfl o1 ⟨rfl, rfl, rfl, trivial⟩ rfl (by decide) rfl (by omega) (by simp only [maxLen]; omega) hb1.size rfl rfl fun x A2 c2 w2 o2 g2 hat2 => ?_
    have hne2 := ne_push hne hat2 fun b hb => (Ow.lt q1 b hb).2
    have hb2 := g2.below hb1 o1 (Nat.le_refl _) hb1.size
    have q2 : Ow w2 w.heap.size 3 B dp.length d (dp.map iv) := Ow.gr (base' := 0) (e' := 0) q1 g2 (ne_comm hne)
    refine wl_as rfl rfl ?_; refine wl_ns ?_; refine wc_sr ?_; refine wl_mv rfl rfl ?_; refine wl_mv rfl rfl ?_
    refine wl_push (vs := [iv p]) tyI rfl q2 ⟨rfl, rfl, rfl, trivial⟩ rfl (by decide) rfl (by omega) (by simp only [maxLen]; omega) hb2.size rfl rfl fun x B3 d3 w3 q3 g3 hat3 => ?_
    have hne3 := ne_push (ne_comm hne2) hat3 fun b hb => (Ow.lt o2 b hb).2
    have hb3 := g3.below hb2 q2 (Nat.le_refl _) hb2.size
    have o3 := Ow.gr (base' := 0) (e' := 0) o2 g3 hne2
    refine wl_as rfl rfl ?_; refine wl_ns ?_; refine wc_region ?_; refine wl_mv rfl rfl ?_; refine wl_mv rfl rfl ?_; apply wl_val; apply opv_bin; exact rfl; exact rfl; exact bin_add64 (by omega); exact rfl; refine wl_as rfl rfl ?_; refine wl_nil ?_; refine we_block_norm ?_
    refine we_loop [(0, str l), (4, .slice A2 (ds ++ [(dec (l.drop p)).1]).length c2), (5, .slice B3 (dp ++ [p]).length d3), (6, .int .i64 ((p + (dec (l.drop p)).2 : Nat) : Int))] (l.length - (p + (dec (l.drop p)).2))
      ⟨_, _, _, A2, B3, c2, d3, rfl, by simpa using o3, by simpa using q3, ne_comm hne3, hb3, hd.2.1, by simp; omega, by simp; omega, by rw [List.append_assoc]; exact he1, by rw [List.append_assoc]; exact he2, rfl⟩ (by omega) ⟨rfl, by rw [List.length_append]; rfl, by rw [List.length_append]; rfl, by simp [lookT], trivial⟩
  · obtain rfl : p = l.length := by omega
    rw [rs_end (by omega), List.append_nil] at he1
    rw [rw_end (by omega), starts, List.append_nil] at he2
    subst he1 he2
    refine wc_exit ?_; refine we_seq_exit ?_; refine we_loop_exit ?_; refine we_block_exit ?_; refine we_seq ?_; refine wc_sr ?_; refine wl_mv rfl rfl ?_; refine wl_mv rfl rfl ?_; refine wl_mv rfl rfl ?_; apply wl_val; apply opv_lenL; exact rfl; exact Try.underlying9; exact rfl
    refine wl_push (vs := [iv l.length]) tyI rfl q1 ⟨rfl, rfl, rfl, trivial⟩ rfl (by decide) rfl (by omega) (by simp only [maxLen]; omega) hb1.size rfl rfl fun x B3 d3 w3 q3 g3 hat3 => ?_
    have o3 := Ow.gr (base' := 0) (e' := 0) o1 g3 hne
    have hb3 := g3.below hb1 q1 (Nat.le_refl _) hb1.size
    refine wl_as rfl rfl ?_; refine wl_as rfl rfl ?_; refine wl_ns ?_; refine wc_ret ?_
    exact we_ret2 rfl rfl rfl ⟨_, rfl, A, B3, c, d3, by simp, o3, by simpa using q3, hb3⟩

theorem enc_bad {c : Int} (h : (c < 0 ∨ 1114111 < c) ∨ (55296 ≤ c ∧ c ≤ 57343)) : Lib.encodeRune c = enc 65533 := by
  rw [enc_three (by omega), Lib.encodeRune, Lib.encodeRuneZ_bad (by omega)]; decide
theorem own_enc {w w' : World} {A : Option Addr} {n : Nat} {vs : List Value} {xs : List UInt8} {c : Int} {d : Nat} (ho : Ow w' w.heap.size 5 A n n vs) (hb : Below w.heap.size w w') (hc : Lib.encodeRune c = enc d) (he : enc d = xs) (hv : bvs xs = vs) : RetB w (Lib.encodeRune c) (.slice A n n) w' := by
  subst hv
  have hn : xs.length = n := by have := ho.len; rwa [bvs_length] at this
  subst hn
  rw [hc, he]
  exact ⟨A, _, rfl, ho, hb⟩
set_option maxHeartbeats 1000000 in
set_option maxRecDepth 10000 in
theorem put_any {c : Int} (hc : -2147483648 ≤ c ∧ c ≤ 2147483647) (w : World) : CallsV Try.prog 72 #[.int .i64 c] w (RetB w (Lib.encodeRune c)) := by
  refine calls_in (N := _) Try.func72 rfl Try.ntmps72 rfl ?_; show WC _ _ _ _ _ _
  refine wc_sr ?_; refine wl_as rfl rfl ?_; refine wl_ns ?_; refine wc_seq ?_; refine wc_sr ?_; refine wl_mv rfl rfl ?_; refine wl_bin rfl rfl bin_lss rfl ?_; refine wl_mv rfl rfl ?_
  refine wl_cutV 3 8 (.bool (decide ((c < 0) ∨ (1114111 < c)))) ?c9 ?_; (case c9 => (dsimp only [List.take]; by_cases hc0 : (c < 0); (focus (apply wl_skip; exact rfl; exact rfl; exact rfl; refine bTn ?_; (with_reducible assumption); exact rfl; apply wl_skip; exact rfl; exact rfl; exact rfl; refine bTn ?_; (with_reducible assumption); exact rfl; apply wl_val; apply opv_pickT; exact rfl; refine bT ?_; (with_reducible assumption); exact rfl; exact rfl; refine wl_nil ?_; refine we_cut _ ⟨rfl, rfl⟩ ⟨congrArg (fun b => some (Value.bool b)) ?e9_0, ?s9_0⟩; (case e9_0 => ((simp [hc0]; done))); (case s9_0 => (refine And.intro rfl ?_; refine And.intro rfl ?_; refine And.intro rfl ?_; refine And.intro rfl ?_; refine And.intro rfl ?_; exact True.intro)))); (focus (apply wl_take; exact rfl; exact rfl; exact rfl; refine bF ?_; (with_reducible assumption); refine wl_mv rfl rfl ?_; apply wl_take; exact rfl; exact rfl; exact rfl; refine bF ?_; (with_reducible assumption); refine wl_bin rfl rfl bin_gtr rfl ?_; apply wl_val; apply opv_pickF; exact rfl; refine bF ?_; (with_reducible assumption); exact rfl; exact rfl; refine wl_nil ?_; refine we_cut _ ⟨rfl, rfl⟩ ⟨congrArg (fun b => some (Value.bool b)) ?e9_1, ?s9_1⟩; (case e9_1 => ((simp [hc0]; done))); (case s9_1 => (refine And.intro rfl ?_; refine And.intro rfl ?_; refine And.intro rfl ?_; refine And.intro rfl ?_; refine And.intro rfl ?_; exact True.intro)))))); dsimp only [List.drop]
  refine wl_mv rfl rfl ?_
  refine wl_cutV 7 16 (.bool (decide ((c < 0 ∨ 1114111 < c) ∨ (55296 ≤ c ∧ c ≤ 57343)))) ?c16 ?_; (case c16 => (dsimp only [List.take]; by_cases hc0 : (c < 0 ∨ 1114111 < c); (focus (by_cases hc1 : (55296 ≤ c); (focus (apply wl_skip; exact rfl; exact rfl; exact rfl; refine bTn ?_; (with_reducible assumption); exact rfl; apply wl_skip; exact rfl; exact rfl; exact rfl; refine bTn ?_; (with_reducible assumption); exact rfl; apply wl_skip; exact rfl; exact rfl; exact rfl; refine bTn ?_; (with_reducible assumption); exact rfl; apply wl_skipU; exact rfl; exact rfl; exact rfl; exact rfl; apply wl_skipU; exact rfl; exact rfl; exact rfl; exact rfl; apply wl_skip; exact rfl; exact rfl; exact rfl; refine bTn ?_; (with_reducible assumption); exact rfl; apply wl_val; apply opv_pickT; exact rfl; refine bT ?_; (with_reducible assumption); exact rfl; exact rfl; refine wl_nil ?_; refine we_cut _ ⟨rfl, rfl⟩ ⟨congrArg (fun b => some (Value.bool b)) ?e16_0, ?s16_0⟩; (case e16_0 => ((simp [hc0, hc1]; done))); (case s16_0 => (refine And.intro rfl ?_; refine And.intro rfl ?_; refine And.intro rfl ?_; refine And.intro rfl ?_; refine And.intro rfl ?_; refine And.intro rfl ?_; refine And.intro rfl ?_; exact True.intro)))); (focus (apply wl_skip; exact rfl; exact rfl; exact rfl; refine bTn ?_; (with_reducible assumption); exact rfl; apply wl_skip; exact rfl; exact rfl; exact rfl; refine bTn ?_; (with_reducible assumption); exact rfl; apply wl_skip; exact rfl; exact rfl; exact rfl; refine bTn ?_; (with_reducible assumption); exact rfl; apply wl_skipU; exact rfl; exact rfl; exact rfl; exact rfl; apply wl_skipU; exact rfl; exact rfl; exact rfl; exact rfl; apply wl_skip; exact rfl; exact rfl; exact rfl; refine bTn ?_; (with_reducible assumption); exact rfl; apply wl_val; apply opv_pickT; exact rfl; refine bT ?_; (with_reducible assumption); exact rfl; exact rfl; refine wl_nil ?_; refine we_cut _ ⟨rfl, rfl⟩ ⟨congrArg (fun b => some (Value.bool b)) ?e16_1, ?s16_1⟩; (case e16_1 => ((simp [hc0, hc1]; done))); (case s16_1 => (refine And.intro rfl ?_; refine And.intro rfl ?_; refine And.intro rfl ?_; refine And.intro rfl ?_; refine And.intro rfl ?_; refine And.intro rfl ?_; refine And.intro rfl ?_; exact True.intro)))))); (focus (by_cases hc1 : (55296 ≤ c); (focus (apply wl_take; exact rfl; exact rfl; exact rfl; refine bF ?_; (with_reducible assumption); refine wl_mv rfl rfl ?_; apply wl_take; exact rfl; exact rfl; exact rfl; refine bF ?_; (with_reducible assumption); refine wl_bin rfl rfl bin_geq rfl ?_; apply wl_take; exact rfl; exact rfl; exact rfl; refine bF ?_; (with_reducible assumption); refine wl_mv rfl rfl ?_; apply wl_take; exact rfl; exact rfl; exact rfl; refine bT ?_; (with_reducible assumption); refine wl_mv rfl rfl ?_; apply wl_take; exact rfl; exact rfl; exact rfl; refine bT ?_; (with_reducible assumption); refine wl_bin rfl rfl bin_leq rfl ?_; apply wl_take; exact rfl; exact rfl; exact rfl; refine bF ?_; (with_reducible assumption); apply wl_val; apply opv_pickT; exact rfl; refine bT ?_; (with_reducible assumption); exact rfl; exact rfl; apply wl_val; apply opv_pickF; exact rfl; refine bF ?_; (with_reducible assumption); exact rfl; exact rfl; refine wl_nil ?_; refine we_cut _ ⟨rfl, rfl⟩ ⟨congrArg (fun b => some (Value.bool b)) ?e16_2, ?s16_2⟩; (case e16_2 => ((simp [hc0, hc1]; done))); (case s16_2 => (refine And.intro rfl ?_; refine And.intro rfl ?_; refine And.intro rfl ?_; refine And.intro rfl ?_; refine And.intro rfl ?_; refine And.intro rfl ?_; refine And.intro rfl ?_; exact True.intro)))); (focus (apply wl_take; exact rfl; exact rfl; exact rfl; refine bF ?_; (with_reducible assumption); refine wl_mv rfl rfl ?_; apply wl_take; exact rfl; exact rfl; exact rfl; refine bF ?_; (with_reducible assumption); refine wl_bin rfl rfl bin_geq rfl ?_; apply wl_take; exact rfl; exact rfl; exact rfl; refine bF ?_; (with_reducible assumption); refine wl_mv rfl rfl ?_; apply wl_skip; exact rfl; exact rfl; exact rfl; refine bFn ?_; (with_reducible assumption); exact rfl; apply wl_skip; exact rfl; exact rfl; exact rfl; refine bFn ?_; (with_reducible assumption); exact rfl; apply wl_take; exact rfl; exact rfl; exact rfl; refine bF ?_; (with_reducible assumption); apply wl_val; apply opv_pickF; exact rfl; refine bF ?_; (with_reducible assumption); exact rfl; exact rfl; apply wl_val; apply opv_pickF; exact rfl; refine bF ?_; (with_reducible assumption); exact rfl; exact rfl; refine wl_nil ?_; refine we_cut _ ⟨rfl, rfl⟩ ⟨congrArg (fun b => some (Value.bool b)) ?e16_3, ?s16_3⟩; (case e16_3 => ((simp [hc0, hc1]; done))); (case s16_3 => (refine And.intro rfl ?_; refine And.intro rfl ?_; refine And.intro rfl ?_; refine And.intro rfl ?_; refine And.intro rfl ?_; refine And.intro rfl ?_; refine And.intro rfl ?_; exact True.intro)))))))); dsimp only [List.drop]
  refine wl_ns ?_
  refine wc_cutE (fun L' w' => ∃ d : Nat, L' = [(0, .int .i64 (d : Int))] ∧ Val d ∧ Lib.encodeRune c = enc d ∧ w = w') ?_ ?_
  · refine wc_cond rfl (fun h => ?_) (fun h => ?_)
    · refine wc_region ?_; refine wl_as rfl rfl ?_; refine wl_nil ?_
      exact we_cut [(0, .int .i64 (65533 : Nat))] ⟨65533, rfl, by unfold Val; omega, enc_bad h, rfl⟩ ⟨rfl, trivial⟩
    · obtain ⟨d, rfl⟩ := Int.eq_ofNat_of_zero_le (show 0 ≤ c by omega)
      refine wc_skip ?_
      exact we_cut [(0, .int .i64 (d : Int))] ⟨d, rfl, by unfold Val; omega, rfl, rfl⟩ ⟨rfl, trivial⟩
  rintro _ _ ⟨d, rfl, hv, hcd, rfl⟩
  have hd : d ≤ 1114111 := by unfold Val at hv; omega
  clear hc
  refine we_seq ?_; refine wc_seq ?_; refine wc_block ?_; refine wc_sr ?_; refine wl_mv rfl rfl ?_; refine wl_bin rfl rfl bin_lss rfl ?_; refine wl_as rfl rfl ?_; refine wl_ns ?_
  refine wc_cond rfl (fun h1 => ?_) (fun h1 => ?_)
  · refine wc_sr ?_; refine wl_mv rfl rfl ?_; apply wl_val; apply opv_convR; exact rfl; exact Try.underlying3; exact Try.underlying5; exact IntWalk.u8_in _ (by omega); exact rfl
    refine wl_bs (vs := [_]) tyB ⟨rfl, rfl, rfl, trivial⟩ rfl (by decide) rfl fun A w1 o1 hb1 _ => ?_
    refine wl_as rfl rfl ?_; refine wl_ns ?_; refine wc_ret ?_; refine we_block_ret ?_; refine we_seq_ret ?_
    exact we_ret1 rfl rfl ⟨_, rfl, own_enc o1 hb1 hcd (enc_one (by omega)) (by simp only [bvs, List.map]; rw [bv_of (by omega)])⟩
  refine wc_sr ?_; refine wl_mv rfl rfl ?_; refine wl_bin rfl rfl bin_lss rfl ?_; refine wl_as rfl rfl ?_; refine wl_ns ?_
  refine wc_cond rfl (fun h2 => ?_) (fun h2 => ?_)
  · refine wc_sr ?_; refine wl_mv rfl rfl ?_; apply wl_val; apply opv_bin; exact rfl; exact rfl; exact bin_quo64 (b := 64) (by decide) (by omega); exact rfl; apply wl_val; apply opv_bin; exact rfl; exact rfl; exact bin_add64 (by omega); exact rfl; apply wl_val; apply opv_convR; exact rfl; exact Try.underlying3; exact Try.underlying5; exact IntWalk.u8_in _ (by omega); exact rfl; refine wl_mv rfl rfl ?_; apply wl_val; apply opv_bin; exact rfl; exact rfl; exact bin_rem (b := 64) (by decide); exact rfl; apply wl_val; apply opv_bin; exact rfl; exact rfl; exact bin_add64 (by omega); exact rfl; apply wl_val; apply opv_convR; exact rfl; exact Try.underlying3; exact Try.underlying5; exact IntWalk.u8_in _ (by omega); exact rfl
    refine wl_bs (vs := [_, _]) tyB ⟨rfl, rfl, rfl, rfl, rfl, rfl, trivial⟩ rfl (by decide) rfl fun A w1 o1 hb1 _ => ?_
    refine wl_as rfl rfl ?_; refine wl_ns ?_; refine wc_ret ?_; refine we_block_ret ?_; refine we_seq_ret ?_
    exact we_ret1 rfl rfl ⟨_, rfl, own_enc o1 hb1 hcd (enc_two (by omega) (by omega)) (by simp only [bvs, List.map]; rw [bv_of (by omega), bv_of (by omega)]; rfl)⟩
  refine wc_sr ?_; refine wl_mv rfl rfl ?_; refine wl_bin rfl rfl bin_lss rfl ?_; refine wl_as rfl rfl ?_; refine wl_ns ?_
  refine wc_cond rfl (fun h3 => ?_) (fun h3 => ?_)
  · refine wc_sr ?_; refine wl_mv rfl rfl ?_; apply wl_val; apply opv_bin; exact rfl; exact rfl; exact bin_quo64 (b := 4096) (by decide) (by omega); exact rfl; apply wl_val; apply opv_bin; exact rfl; exact rfl; exact bin_add64 (by omega); exact rfl; apply wl_val; apply opv_convR; exact rfl; exact Try.underlying3; exact Try.underlying5; exact IntWalk.u8_in _ (by omega); exact rfl; refine wl_mv rfl rfl ?_; apply wl_val; apply opv_bin; exact rfl; exact rfl; exact bin_quo64 (b := 64) (by decide) (by omega); exact rfl; apply wl_val; apply opv_bin; exact rfl; exact rfl; exact bin_rem (b := 64) (by decide); exact rfl; apply wl_val; apply opv_bin; exact rfl; exact rfl; exact bin_add64 (by omega); exact rfl; apply wl_val; apply opv_convR; exact rfl; exact Try.underlying3; exact Try.underlying5; exact IntWalk.u8_in _ (by omega); exact rfl; refine wl_mv rfl rfl ?_; apply wl_val; apply opv_bin; exact rfl; exact rfl; exact bin_rem (b := 64) (by decide); exact rfl; apply wl_val; apply opv_bin; exact rfl; exact rfl; exact bin_add64 (by omega); exact rfl; apply wl_val; apply opv_convR; exact rfl; exact Try.underlying3; exact Try.underlying5; exact IntWalk.u8_in _ (by omega); exact rfl
    refine wl_bs (vs := [_, _, _]) tyB ⟨rfl, rfl, rfl, rfl, rfl, rfl, rfl, rfl, rfl, trivial⟩ rfl (by decide) rfl fun A w1 o1 hb1 _ => ?_
    refine wl_as rfl rfl ?_; refine wl_ns ?_; refine wc_ret ?_; refine we_block_ret ?_; refine we_seq_ret ?_
    exact we_ret1 rfl rfl ⟨_, rfl, own_enc o1 hb1 hcd (enc_three (by unfold Val at hv; omega)) (by simp only [bvs, List.map]; rw [bv_of (by omega), bv_of (by omega), bv_of (by omega)]; rfl)⟩
  refine wc_skip ?_; refine we_block_norm ?_; refine we_seq ?_; refine wc_sr ?_; refine wl_mv rfl rfl ?_; apply wl_val; apply opv_bin; exact rfl; exact rfl; exact bin_quo64 (b := 262144) (by decide) (by omega); exact rfl; apply wl_val; apply opv_bin; exact rfl; exact rfl; exact bin_add64 (by omega); exact rfl; apply wl_val; apply opv_convR; exact rfl; exact Try.underlying3; exact Try.underlying5; exact IntWalk.u8_in _ (by omega); exact rfl; refine wl_mv rfl rfl ?_; apply wl_val; apply opv_bin; exact rfl; exact rfl; exact bin_quo64 (b := 4096) (by decide) (by omega); exact rfl; apply wl_val; apply opv_bin; exact rfl; exact rfl; exact bin_rem (b := 64) (by decide); exact rfl; apply wl_val; apply opv_bin; exact rfl; exact rfl; exact bin_add64 (by omega); exact rfl; apply wl_val; apply opv_convR; exact rfl; exact Try.underlying3; exact Try.underlying5; exact IntWalk.u8_in _ (by omega); exact rfl; refine wl_mv rfl rfl ?_; apply wl_val; apply opv_bin; exact rfl; exact rfl; exact bin_quo64 (b := 64) (by decide) (by omega); exact rfl; apply wl_val; apply opv_bin; exact rfl; exact rfl; exact bin_rem (b := 64) (by decide); exact rfl; apply wl_val; apply opv_bin; exact rfl; exact rfl; exact bin_add64 (by omega); exact rfl; apply wl_val; apply opv_convR; exact rfl; exact Try.underlying3; exact Try.underlying5; exact IntWalk.u8_in _ (by omega); exact rfl; refine wl_mv rfl rfl ?_; apply wl_val; apply opv_bin; exact rfl; exact rfl; exact bin_rem (b := 64) (by decide); exact rfl; apply wl_val; apply opv_bin; exact rfl; exact rfl; exact bin_add64 (by omega); exact rfl; apply wl_val; apply opv_convR; exact rfl; exact Try.underlying3; exact Try.underlying5; exact IntWalk.u8_in _ (by omega); exact rfl
  refine wl_bs (vs := [_, _, _, _]) tyB ⟨rfl, rfl, rfl, rfl, rfl, rfl, rfl, rfl, rfl, rfl, rfl, rfl, trivial⟩ rfl (by decide) rfl fun A w1 o1 hb1 _ => ?_
  refine wl_as rfl rfl ?_; refine wl_ns ?_; refine wc_ret ?_
  exact we_ret1 rfl rfl ⟨_, rfl, own_enc o1 hb1 hcd (enc_four (by omega) (by omega)) (by simp only [bvs, List.map]; rw [bv_of (by omega), bv_of (by omega), bv_of (by omega), bv_of (by omega)]; rfl)⟩

theorem take_snoc' {α : Type} {l : List α} {k : Nat} {x : α} (h : l[k]? = some x) : l.take (k + 1) = l.take k ++ [x] := by
  rw [List.take_add_one, h]; rfl
theorem refFold_any {l : List UInt8} (hl : l.length ≤ 1099511627776) (w : World) : CallsV Try.prog 24 #[str l] w fun v w' => v = str (foldB l) ∧ Below w.heap.size w w' := by
  have hrl := rs_length l
  refine calls_in (N := _) Try.func24 rfl Try.ntmps24 rfl ?_; show WC _ _ _ _ _ _
  refine wc_sr ?_; refine wl_as rfl rfl ?_; refine wl_ns ?_; refine wc_sr ?_; refine wl_mv rfl rfl ?_
  refine wl_call ok_caissonref02_Runes (refRunes_any hl _) ⟨rfl, trivial⟩ rfl ?_
  rintro _ w1 ⟨A, B, c, d, rfl, o1, _, hb1⟩
  have r1 := o1.rd
  refine wl_mv rfl rfl ?_; apply wl_val; apply opv_extract; exact rfl; exact rfl; exact rfl; apply wl_val; apply opv_extract; exact rfl; exact rfl; exact rfl; refine wl_as rfl rfl ?_; refine wl_as rfl rfl ?_; refine wl_ns ?_; refine wc_sr ?_; refine wl_as rfl rfl ?_; refine wl_ns ?_; refine wc_seq ?_; refine wc_sr ?_; refine wl_as rfl rfl ?_; refine wl_ns ?_; refine wc_block ?_
  refine wc_loop (fun L wr m => ∃ (k : Nat) (C : Option Addr) (cc : Nat), L = [(3, .slice A (rs l).length c), (5, .slice C (encs (((rs l).take k).map lowN)).length cc), (6, .int .i64 (k : Int))] ∧ k ≤ (rs l).length ∧ OwB wr w1.heap.size C cc (encs (((rs l).take k).map lowN)) ∧ Below w1.heap.size w1 wr ∧ m = (rs l).length - k)
    [(3, .slice A (rs l).length c), (5, .slice none 0 0), (6, .int .i64 (0 : Nat))] (rs l).length ⟨0, none, 0, rfl, by omega, Ow.nil _ _ _, Below.refl _ _, rfl⟩ ⟨rfl, rfl, rfl, trivial⟩ ?_
  rintro _ w2 m ⟨k, C, cc, rfl, hk, o2, hb2, rfl⟩
  have r2 := r1.below hb2
  have hb := hb1.trans (hb2.mono hb1.size)
  have hel := encs_length (((rs l).take k).map lowN)
  have htl : ((rs l).take k).length ≤ k := List.length_take_le _ _
  rw [List.length_map] at hel
  refine wc_seq ?_; refine wc_sr ?_; refine wl_mv rfl rfl ?_; refine wl_mv rfl rfl ?_; apply wl_val; apply opv_len; exact rfl; exact tyI.sl; exact rfl; refine wl_bin rfl rfl bin_lss rfl ?_; refine wl_ns ?_
  refine wc_cond rfl (fun h1 => ?_) (fun h1 => ?_)
  · obtain ⟨x, hx⟩ : ∃ x, (rs l)[k]? = some x := ⟨_, List.getElem?_eq_getElem (by omega)⟩
    have hxi : ((rs l).map iv)[k]? = some (iv x) := by rw [List.getElem?_map, hx]; rfl
    have hxv := rs_all l x (List.mem_of_getElem? hx)
    have hx1 : x ≤ 1114111 := by unfold Val at hxv; omega
    have hlv := lowN_val hxv
    have hx2 : lowN x ≤ 1114111 := by unfold Val at hlv; omega
    refine wc_skip ?_; refine we_seq ?_; refine wc_seq ?_; refine wc_block ?_; refine wc_region ?_; refine wl_mv rfl rfl ?_; refine wl_mv rfl rfl ?_; refine wl_mv rfl rfl ?_; apply wl_elK (T := tyI) (hr := r2) (hb := hxi); exact rfl; exact rfl; exact rfl; exact rfl; exact rfl; intro _
    refine wl_call ok_caissonref02_Low (refLow_any x hx1 _) ⟨rfl, trivial⟩ rfl ?_
    rintro _ _ ⟨rfl, rfl⟩
    refine wl_call ok_caissonref02_Put (put_any (c := (lowN x : Int)) (by omega) _) ⟨rfl, trivial⟩ rfl ?_
    rintro _ w3 ⟨A3, c3, rfl, o3, hb3⟩
    have o2' := OwB.below o2 hb3
    have hl3 := enc_length (lowN x)
    have hl3' : (Lib.encodeRune (lowN x : Int)).length = (enc (lowN x)).length := rfl
    refine wl_app tyB rfl o2' rfl o3.rd (bvs_one _) (by omega) (by simp only [maxLen]; omega) (by have := hb2.size; have := hb3.size; omega) rfl fun A4 c4 w4 o4 g4 _ => ?_
    have hb4 := g4.below (hb2.trans (hb3.mono hb2.size)) o2' (Nat.le_refl _) (by have := hb2.size; have := hb3.size; omega)
    have e4 : encs (((rs l).take k).map lowN) ++ Lib.encodeRune (lowN x : Int) = encs (((rs l).take (k + 1)).map lowN) := by
      rw [take_snoc' hx, List.map_append, encs_append]; simp [encs]; rfl
    replace o4 := OwB.app o4
    rw [e4] at o4
    refine wl_as rfl rfl ?_; refine wl_nil ?_; refine we_block_norm ?_; refine we_seq ?_; refine wc_region ?_; refine wl_mv rfl rfl ?_; apply wl_val; apply opv_bin; exact rfl; exact rfl; exact bin_add64 (by omega); exact rfl; refine wl_as rfl rfl ?_; refine wl_nil ?_
    refine we_loop [(3, .slice A (rs l).length c), (5, .slice A4 (encs (((rs l).take (k + 1)).map lowN)).length c4), (6, .int .i64 ((k + 1 : Nat) : Int))] ((rs l).length - (k + 1)) ⟨k + 1, A4, c4, rfl, by omega, o4, hb4, rfl⟩ (by omega) ⟨rfl, by rw [← e4, List.length_append]; rfl, by simp [lookT], trivial⟩
  · obtain rfl : k = (rs l).length := by omega
    rw [List.take_of_length_le (Nat.le_refl _)] at o2 ⊢
    refine wc_exit ?_; refine we_seq_exit ?_; refine we_loop_exit ?_; refine we_block_exit ?_; refine we_seq ?_; refine wc_sr ?_; refine wl_mv rfl rfl ?_
    refine wl_val (opv_ofBytes Try.underlying30 Try.underlying5 tyStr rfl o2.rd) rfl ?_
    refine wl_as rfl rfl ?_; refine wl_ns ?_; refine wc_ret ?_
    exact we_ret1 rfl rfl ⟨_, rfl, rfl, hb⟩
end Go.Proofs.Ytcjiecclmepboaa


/-
  Plain functions on lists of bytes, for layer 1 (codec), and what is true of them. Nothing here names the program or the model.
-/
namespace Go.Proofs.Ytcjiecclmepboaa

/-- A number in groups of seven bits. -/
def putU (n : Nat) : List UInt8 := if n < 128 then [UInt8.ofNat n] else UInt8.ofNat (n % 128 + 128) :: putU (n / 128)

/-- The number at the head of a list: n is what has been read, i how many bytes; value, count, error. -/
def getAux : Nat → Nat → List UInt8 → Nat × Nat × Nat
  | _, _, [] => (0, 0, 5)
  | i, n, x :: r =>
    if (i = 9 ∧ 1 < x.toNat) ∨ (x.toNat = 0 ∧ 0 < i) then (0, 0, 3)
    else if x.toNat < 128 then (n + x.toNat * 128 ^ i, i + 1, 0)
    else getAux (i + 1) (n + (x.toNat - 128) * 128 ^ i) r

/-- The number at a place: value, place behind it, error. -/
def getU (b : List UInt8) (p : Int) : Nat × Int × Nat :=
  if p < 0 ∨ (b.length : Int) < p then (0, 0, 1) else
  match getAux 0 0 (b.drop p.toNat) with
  | (n, k, 0) => (n, p + k, 0)
  | (_, _, e) => (0, 0, e)

theorem or128 (m : Nat) : (m % 256 ||| 128) = m % 128 + 128 := by
  have h : m % 256 < 256 := Nat.mod_lt _ (by decide)
  have e : m % 128 = (m % 256) % 128 := by omega
  rw [e]
  generalize m % 256 = x at h
  revert x
  decide +kernel
theorem andNot128 (x : UInt8) : (x.toNat &&& (18446744073709551615 - 128)) = x.toNat % 128 := by
  have h : x.toNat < 256 := x.toNat_lt
  generalize x.toNat = y at h
  revert y
  decide +kernel
theorem or_shift {n y i : Nat} (h : n < 128 ^ i) : n ||| y * 2 ^ (7 * i) = n + y * 128 ^ i := by
  have e : (128 : Nat) ^ i = 2 ^ (7 * i) := by rw [Nat.pow_mul]
  rw [e] at h ⊢
  rw [Nat.or_comm, ← Nat.shiftLeft_eq, ← Nat.shiftLeft_add_eq_or_of_lt h, Nat.shiftLeft_eq, Nat.add_comm]

theorem drop_get {l : List UInt8} {k : Nat} {b : UInt8} (h : l[k]? = some b) : l.drop k = b :: l.drop (k + 1) := by
  have hk : k < l.length := by
    rcases Nat.lt_or_ge k l.length with h' | h'
    · exact h'
    · rw [List.getElem?_eq_none h'] at h; cases h
  rw [List.getElem?_eq_getElem hk] at h
  cases h
  exact List.drop_eq_getElem_cons hk
theorem take_get {l : List UInt8} {k : Nat} {b : UInt8} (h : l[k]? = some b) : l.take (k + 1) = l.take k ++ [b] := by
  rw [List.take_add_one, h]; rfl

theorem getAux_step {i n : Nat} {x : UInt8} {r : List UInt8} (h1 : ¬ ((i = 9 ∧ 1 < x.toNat) ∨ (x.toNat = 0 ∧ 0 < i))) (h2 : ¬ x.toNat < 128) : getAux i n (x :: r) = getAux (i + 1) (n + x.toNat % 128 * 128 ^ i) r := by
  rw [getAux, if_neg h1, if_neg h2]
  have h3 := x.toNat_lt
  have h4 : x.toNat - 128 = x.toNat % 128 := by omega
  rw [h4]
theorem getAux_form {i n : Nat} {x : UInt8} {r : List UInt8} (h1 : (i = 9 ∧ 1 < x.toNat) ∨ (x.toNat = 0 ∧ 0 < i)) : getAux i n (x :: r) = (0, 0, 3) := by
  rw [getAux, if_pos h1]
theorem getAux_last {i n : Nat} {x : UInt8} {r : List UInt8} (h1 : ¬ ((i = 9 ∧ 1 < x.toNat) ∨ (x.toNat = 0 ∧ 0 < i))) (h2 : x.toNat < 128) : getAux i n (x :: r) = (n + x.toNat % 128 * 128 ^ i, i + 1, 0) := by
  rw [getAux, if_neg h1, if_pos h2, Nat.mod_eq_of_lt h2]
theorem getU_arg {b : List UInt8} {p : Int} (h : ¬ (0 ≤ p ∧ p ≤ b.length)) : getU b p = (0, 0, 1) := by
  rw [getU, if_pos (by omega)]
theorem getU_ok {b : List UInt8} {q n k : Nat} (hq : q ≤ b.length) (h : getAux 0 0 (b.drop q) = (n, k, 0)) : getU b q = (n, (q : Int) + k, 0) := by
  rw [getU, if_neg (by omega)]
  simp [h]
theorem getU_bad {b : List UInt8} {q e : Nat} (hq : q ≤ b.length) (h : getAux 0 0 (b.drop q) = (0, 0, e + 1)) : getU b q = (0, 0, e + 1) := by
  rw [getU, if_neg (by omega)]
  simp [h]
/-- A number of ten groups at most, and what a further group adds. -/
theorem group_lt {i n y : Nat} (hn : n < 128 ^ i) (hy : y < 128) : n + y * 128 ^ i < 128 ^ (i + 1) := by
  have h1 : y * 128 ^ i ≤ 127 * 128 ^ i := Nat.mul_le_mul_right _ (by omega)
  rw [Nat.pow_succ]
  omega
theorem pow128_9 : (128 : Nat) ^ 9 = 9223372036854775808 := by decide

theorem sum_lt {i n x : Nat} (hn : n < 128 ^ i) (hi : i ≤ 9) (hx1 : i = 9 → x ≤ 1) : n + x % 128 * 128 ^ i < 18446744073709551616 := by
  rcases Nat.lt_or_ge i 9 with h9 | h9
  · have h8 := group_lt hn (Nat.mod_lt x (show 0 < 128 by decide))
    have : (128 : Nat) ^ (i + 1) ≤ 128 ^ 9 := Nat.pow_le_pow_right (by decide) (by omega)
    rw [pow128_9] at this; omega
  · obtain rfl : i = 9 := by omega
    have h10 := hx1 rfl
    have : x % 128 ≤ 1 := by omega
    have : x % 128 * 128 ^ 9 ≤ 1 * 128 ^ 9 := Nat.mul_le_mul_right _ this
    rw [pow128_9] at *; omega

/-- What is written is read back. -/
theorem getAux_putU (r : List UInt8) : ∀ (m i n : Nat), n < 128 ^ i → m < 2 ^ (64 - 7 * i) → i ≤ 9 → (i = 0 ∨ 0 < m) → getAux i n (putU m ++ r) = (n + m * 128 ^ i, i + (putU m).length, 0) := by
  intro m
  induction m using Nat.strongRecOn with
  | _ m ih =>
    intro i n hn hm hi h0
    have h9 : i = 9 → m < 2 := by rintro rfl; simpa using hm
    rw [putU]
    by_cases hs : m < 128
    · rw [if_pos hs]
      have e : (UInt8.ofNat m).toNat = m := by simp; omega
      simp only [List.cons_append, List.nil_append]
      rw [getAux_last (by rw [e]; omega) (by rw [e]; exact hs), e, Nat.mod_eq_of_lt hs]; rfl
    · rw [if_neg hs]
      have e : (UInt8.ofNat (m % 128 + 128)).toNat = m % 128 + 128 := by rw [UInt8.toNat_ofNat']; omega
      simp only [List.cons_append]
      have e2 : (m % 128 + 128) % 128 = m % 128 := by omega
      rw [getAux_step (by rw [e]; omega) (by rw [e]; omega), e, e2]
      have hi8 : i ≤ 8 := by omega
      rw [ih (m / 128) (by omega) (i + 1) _ (group_lt hn (Nat.mod_lt _ (by decide))) ?_ (by omega) (by omega)]
      · refine Prod.ext ?_ (Prod.ext ?_ rfl)
        · show n + m % 128 * 128 ^ i + m / 128 * 128 ^ (i + 1) = n + m * 128 ^ i
          have : m * 128 ^ i = (m % 128 + 128 * (m / 128)) * 128 ^ i := by rw [Nat.mod_add_div]
          rw [this, Nat.add_mul, Nat.pow_succ]
          have : m / 128 * (128 ^ i * 128) = 128 * (m / 128) * 128 ^ i := by rw [Nat.mul_comm (128 ^ i) 128, ← Nat.mul_assoc, Nat.mul_comm (m / 128) 128]
          omega
        · simp; omega
      · refine Nat.div_lt_of_lt_mul ?_
        rw [show 128 = 2 ^ 7 from rfl, ← Nat.pow_add, show 7 + (64 - 7 * (i + 1)) = 64 - 7 * i by omega]
        exact hm
theorem getU_putU {n : Nat} (hn : n < 2 ^ 64) : getU (putU n) 0 = (n, ((putU n).length : Int), 0) := by
  have h := getAux_putU [] n 0 0 (by decide) hn (by omega) (.inl rfl)
  rw [List.append_nil] at h
  rw [getU, if_neg (by omega)]
  simp only [Int.toNat_zero, List.drop_zero, h]
  simp
/-- What is read is what is written. -/
theorem getAux_inv : ∀ (l : List UInt8) (i n v k : Nat), n < 128 ^ i → i ≤ 9 → getAux i n l = (v, k, 0) →
    ∃ m j, k = i + j ∧ j ≤ l.length ∧ v = n + m * 128 ^ i ∧ putU m = l.take j ∧ (i = 0 ∨ 0 < m) ∧ v < 18446744073709551616
  | [], i, n, v, k, _, _, h => by simp [getAux] at h
  | x :: r, i, n, v, k, hn, hi, h => by
    have hx := x.toNat_lt
    by_cases h1 : (i = 9 ∧ 1 < x.toNat) ∨ (x.toNat = 0 ∧ 0 < i)
    · rw [getAux_form h1] at h; simp at h
    · by_cases h2 : x.toNat < 128
      · rw [getAux_last h1 h2] at h
        have hs := sum_lt hn hi (x := x.toNat) (by omega)
        injection h with ha hb; injection hb with hb _
        subst ha hb
        rw [Nat.mod_eq_of_lt h2] at hs ⊢
        refine ⟨x.toNat, 1, rfl, by simp, rfl, ?_, by omega, hs⟩
        rw [putU, if_pos h2]; simp
      · rw [getAux_step h1 h2] at h
        have hi8 : i ≤ 8 := by omega
        obtain ⟨m, j, rfl, hj, rfl, hp, h0, hlt⟩ := getAux_inv r (i + 1) _ v k (group_lt hn (Nat.mod_lt _ (by decide))) (by omega) h
        refine ⟨x.toNat % 128 + 128 * m, j + 1, by omega, by simp; omega, ?_, ?_, by omega, hlt⟩
        · rw [Nat.add_mul, Nat.pow_succ]
          have : m * (128 ^ i * 128) = 128 * m * 128 ^ i := by rw [Nat.mul_comm (128 ^ i) 128, ← Nat.mul_assoc, Nat.mul_comm m 128]
          omega
        · rw [putU, if_neg (by omega)]
          have e1 : (x.toNat % 128 + 128 * m) % 128 + 128 = x.toNat := by omega
          have e2 : (x.toNat % 128 + 128 * m) / 128 = m := by omega
          rw [e1, e2, hp]; simp
theorem getU_inv {l : List UInt8} {p : Int} {v : Nat} {x : Int} (h : getU l p = (v, x, 0)) :
    ∃ q k : Nat, p = q ∧ x = k ∧ q ≤ k ∧ k ≤ l.length ∧ putU v = (l.take k).drop q ∧ v < 18446744073709551616 := by
  rw [getU] at h
  split at h
  · simp at h
  · rename_i hp
    obtain ⟨q, rfl⟩ := Int.eq_ofNat_of_zero_le (by omega : 0 ≤ p)
    simp only [Int.toNat_natCast] at h
    cases hg : getAux 0 0 (l.drop q) with
    | mk n ke =>
      obtain ⟨k, e⟩ := ke
      rw [hg] at h
      cases e with
      | succ e => simp at h
      | zero =>
        simp only [Prod.mk.injEq, and_true] at h
        obtain ⟨rfl, rfl⟩ := h
        obtain ⟨m, j, rfl, hj, rfl, hp2, _, hlt⟩ := getAux_inv _ 0 0 n k (by decide) (by omega) hg
        rw [List.length_drop] at hj
        refine ⟨q, q + j, rfl, by omega, by omega, by omega, ?_, hlt⟩
        simp only [Nat.pow_zero, Nat.mul_one, Nat.zero_add]
        rw [hp2, List.drop_take]; congr 1; omega
theorem getU_err {l : List UInt8} {p : Int} (h : (getU l p).2.2 ≠ 0) : (getU l p).1 = 0 ∧ (getU l p).2.1 = 0 := by
  unfold getU at h ⊢
  split
  · simp
  · rename_i hp
    rw [if_neg hp] at h
    split at h
    · simp at h
    · simp
theorem getU_fits (l : List UInt8) (p : Int) : (getU l p).1 < 18446744073709551616 := by
  by_cases h : (getU l p).2.2 = 0
  · obtain ⟨_, _, _, _, _, _, _, h⟩ := getU_inv (l := l) (p := p) (v := (getU l p).1) (x := (getU l p).2.1) (by rw [← h])
    exact h
  · rw [(getU_err h).1]; decide

theorem putU_length : ∀ (f n : Nat), n < 128 ^ (f + 1) → (putU n).length ≤ f + 1
  | 0, n, h => by rw [putU, if_pos (by omega)]; simp
  | f + 1, n, h => by
    rw [putU]
    split
    · simp
    · have := putU_length f (n / 128) (Nat.div_lt_of_lt_mul (by rw [Nat.mul_comm, ← Nat.pow_succ]; exact h))
      simp; omega
theorem putU_le {n : Nat} (h : n < 2 ^ 64) : (putU n).length ≤ 10 := putU_length 9 n (Nat.lt_of_lt_of_le h (by decide))

/-- Bytes with an end, in their order. -/
def esc (l : List UInt8) : List UInt8 := l.flatMap fun x => if x = 0 then [0, 255] else [x]
def ordText (l : List UInt8) : List UInt8 := esc l ++ [0, 1]
theorem esc_take {l : List UInt8} {k : Nat} {b : UInt8} (h : l[k]? = some b) : esc (l.take (k + 1)) = esc (l.take k) ++ if b = 0 then [0, 255] else [b] := by
  rw [take_get h]; simp [esc]
theorem esc_length (l : List UInt8) : (esc l).length ≤ 2 * l.length := by
  induction l with
  | nil => simp [esc]
  | cons x r ih =>
    have : esc (x :: r) = (if x = 0 then [0, 255] else [x]) ++ esc r := by simp [esc]
    rw [this, List.length_append, List.length_cons]
    split <;> simp <;> omega
theorem toNat_zero {b : UInt8} : (b.toNat : Int) = 0 ↔ b = 0 := by
  constructor
  · intro h; exact UInt8.toNat_inj.1 (by simp; omega)
  · rintro rfl; rfl

/-- How two lists compare. -/
def cmpB : List UInt8 → List UInt8 → Int
  | [], [] => 0
  | [], _ :: _ => -1
  | _ :: _, [] => 1
  | x :: xs, y :: ys => if x < y then -1 else if y < x then 1 else cmpB xs ys
theorem cmp_same {x : UInt8} {xs ys : List UInt8} : cmpB (x :: xs) (x :: ys) = cmpB xs ys := by simp [cmpB]
theorem cmp_lt {x y : UInt8} {xs ys : List UInt8} (h : x < y) : cmpB (x :: xs) (y :: ys) = -1 := by simp [cmpB, h]
theorem cmp_gt {x y : UInt8} {xs ys : List UInt8} (h : y < x) : cmpB (x :: xs) (y :: ys) = 1 := by
  have h' : ¬ x < y := fun e => by rw [UInt8.lt_iff_toNat_lt] at *; omega
  simp [cmpB, h, h']
theorem cmp_short {xs ys : List UInt8} (hx : xs = []) (hy : 0 < ys.length) : cmpB xs ys = -1 := by
  subst hx; cases ys with
  | nil => simp at hy
  | cons => simp [cmpB]
theorem cmp_long {xs ys : List UInt8} (hx : 0 < xs.length) (hy : ys = []) : cmpB xs ys = 1 := by
  subst hy; cases xs with
  | nil => simp at hx
  | cons => simp [cmpB]
end Go.Proofs.Ytcjiecclmepboaa


/-
  Walks over the comparisons of layer 1: Cmp of the reference; bytes.Compare, whose work the model does itself, and codec.Cmp.
-/
namespace Go.Proofs.Ytcjiecclmepboaa
open Go.RowKit

theorem run_loadBytes {P : Program} {w : World} {b : Nat} : ∀ (xs : List UInt8) (o : Nat) (acc : List UInt8), (∀ j u, (bvs xs)[j]? = some u → w.cell? ⟨b, o + j, none⟩ = some u) →
    (Extern.Bytes.loadBytes ⟨b, o, none⟩ xs.length ⟨acc.toArray⟩).run P w = .ok ⟨(acc ++ xs).toArray⟩ w
  | [], o, acc, _ => by simp [Extern.Bytes.loadBytes]
  | x :: xs, o, acc, h => by
    have h0 := h 0 (bv x) (by simp [bvs])
    simp only [Nat.add_zero] at h0
    have ih := run_loadBytes (P := P) xs (o + 1) (acc ++ [x]) (fun j u hu => by
      have := h (j + 1) u (by simpa [bvs] using hu)
      rw [show o + 1 + j = o + (j + 1) by omega]; exact this)
    have e1 : (ByteArray.mk acc.toArray).push x = ⟨(acc ++ [x]).toArray⟩ := by
      simp [ByteArray.push]
    have e2 : ((x.toNat : Int)).toNat.toUInt8 = x := by simp
    simp only [List.length_cons, Extern.Bytes.loadBytes, Sem.run_bind, run_load, h0, Result.andThen_ok, bv, e2, e1, Addr.add_lit, ih]
    simp
theorem run_bytesOf {P : Program} {w : World} {A : Option Addr} {c : Nat} {xs : List UInt8} (hr : RdB w A xs) : (Extern.Bytes.bytesOf (.slice A xs.length c)).run P w = .ok ⟨xs.toArray⟩ w := by
  cases xs with
  | nil => cases A with
    | none => simp [Extern.Bytes.bytesOf]; rfl
    | some a => simp [Extern.Bytes.bytesOf, Extern.Bytes.loadBytes]; rfl
  | cons x r =>
    obtain ⟨b, o, rfl, _, hc⟩ := hr.2 (by simp)
    have := run_loadBytes (P := P) (x :: r) o [] hc
    simp only [Extern.Bytes.bytesOf]
    exact this
theorem ba_get (l : List UInt8) (i : Nat) : (ByteArray.mk l.toArray)[i]! = l.getD i 0 := by
  by_cases h : i < l.length
  · rw [getElem!_pos _ i (show i < (ByteArray.mk l.toArray).size from h)]
    simp [List.getD, List.getElem?_eq_getElem h]; rfl
  · rw [getElem!_neg _ i (show ¬ i < (ByteArray.mk l.toArray).size from h)]
    simp [List.getD, List.getElem?_eq_none (Nat.le_of_not_lt h)]; rfl
def cmpL (xs ys : List UInt8) : Int :=
  match (List.range (min xs.length ys.length)).find? fun i => xs.getD i 0 != ys.getD i 0 with
  | some i => if xs.getD i 0 < ys.getD i 0 then -1 else 1
  | none => if xs.length < ys.length then -1 else if xs.length > ys.length then 1 else 0
theorem cmp_list (xs ys : List UInt8) : Extern.BytealgCompare.cmp ⟨xs.toArray⟩ ⟨ys.toArray⟩ = cmpL xs ys := by
  unfold Extern.BytealgCompare.cmp cmpL
  simp only [ba_get]
  rfl
theorem cmpL_eq : ∀ (xs ys : List UInt8), cmpL xs ys = cmpB xs ys
  | [], [] => by simp [cmpL, cmpB]
  | [], _ :: _ => by simp [cmpL, cmpB]
  | _ :: _, [] => by simp [cmpL, cmpB]
  | x :: xs, y :: ys => by
    have ih := cmpL_eq xs ys
    unfold cmpL at ih ⊢
    rw [show min (x :: xs).length (y :: ys).length = min xs.length ys.length + 1 by simp, List.range_succ_eq_map, List.find?_cons]
    by_cases h : x = y
    · subst h
      simp only [List.getD_cons_zero, bne_self_eq_false, List.find?_map]
      have e : ((fun i => (x :: xs).getD i 0 != (x :: ys).getD i 0) ∘ Nat.succ) = fun i => xs.getD i 0 != ys.getD i 0 := by
        funext i; simp
      have ec : cmpB (x :: xs) (x :: ys) = cmpB xs ys := by simp [cmpB]
      rw [e, ec, ← ih]
      cases (List.range (min xs.length ys.length)).find? fun i => xs.getD i 0 != ys.getD i 0 with
      | none => simp
      | some i => simp
    · have hne : (x != y) = true := by simpa using h
      simp only [List.getD_cons_zero, cmpB, hne]
      by_cases hlt : x < y
      · simp [hlt]
      · have : y < x := by
          rcases Nat.lt_trichotomy x.toNat y.toNat with h' | h' | h'
          · exact absurd (UInt8.lt_iff_toNat_lt.2 h') hlt
          · exact absurd (UInt8.toNat_inj.1 h') h
          · exact UInt8.lt_iff_toNat_lt.2 h'
        simp [hlt, this]

/-- The model's own work for bytes.Compare. -/
theorem compare_run {A B : Option Addr} {c d : Nat} {xs ys : List UInt8} {w : World} (hx : RdB w A xs) (hy : RdB w B ys) :
    (callFunc 99 #[.slice A xs.length c, .slice B ys.length d]).run Try.prog w = .ok (.value (.int .i64 (cmpB xs ys))) w := by
  rw [run_callFunc_extern Try.func99 (by kernel_rfl) rfl (by kernel_rfl) (e := Extern.BytealgCompare.compare) (by kernel_rfl)]
  have e : ∀ u v : Value, Extern.BytealgCompare.compare #[u, v] = (do pure (goInt (Extern.BytealgCompare.cmp (← Extern.Bytes.bytesOf u) (← Extern.Bytes.bytesOf v)))) := fun _ _ => rfl
  rw [e]
  simp only [Sem.run_bind, run_bytesOf hx, run_bytesOf hy, Result.andThen_ok, cmp_list, cmpL_eq]
  simp [goInt]

/-- A call that the model carries out itself. -/
theorem wl_ext {P : Program} {N : Nat} {ops : Array Oper} {Q : Exit → Act → World → Prop} {rest : List Oper} {L : FL} {w w' : World} {d : Nat} {f : FuncId} {xs : List Operand} {ats : Array TypeId} {ty : TypeId} {pos : String} {aft : Array Edge} {vs : List Value} {v : Value}
    (hr : (callFunc f vs.toArray).run P w = .ok (.value v) w') (hx : Looks L xs vs) (hd : Nat.blt d N = true) (h : WL P N ops Q rest ((d, v) :: L) w') :
    WL P N ops Q (⟨some d, .call { callee := .value (.func f), args := xs.toArray, argTypes := ats }, ty, pos, aft, none⟩ :: rest) L w := by
  refine wl_val (w' := w') (fun ρ o hρ ho _ => ?_) hd h
  have hf : ρ (.func f) = .func (.func f) #[] #[] := hρ _ _ rfl
  have hm := Looks.map hρ hx
  unfold execOp
  simp only [ho, resolve, Deferred.ofValue, hf, Sem.run_bind, Sem.run_pure, Result.andThen_ok, invoke]
  have : (#[] ++ Array.map ρ xs.toArray ++ #[]) = vs.toArray := by simp [hm]
  rw [this]
  exact hr
theorem bytesCompare_any {A B : Option Addr} {n m c d : Nat} {xs ys : List UInt8} {w : World} (hx : RdB w A xs) (hy : RdB w B ys) (hn : xs.length = n) (hm : ys.length = m) :
    CallsV Try.prog 74 #[.slice A n c, .slice B m d] w fun v w' => v = .int .i64 (cmpB xs ys) ∧ w = w' := by
  subst hn hm
  refine calls_in (N := _) Try.func74 rfl Try.ntmps74 rfl ?_; show WC _ _ _ _ _ _
  refine wc_sr ?_; refine wl_as rfl rfl ?_; refine wl_ns ?_; refine wc_sr ?_; refine wl_mv rfl rfl ?_; refine wl_mv rfl rfl ?_
  refine wl_ext (compare_run hx hy) ⟨rfl, rfl, trivial⟩ rfl ?_
  refine wl_as rfl rfl ?_; refine wl_ns ?_; refine wc_ret ?_
  exact we_ret1 rfl rfl ⟨_, rfl, rfl, rfl⟩
theorem cmp_any {A B : Option Addr} {n m c d : Nat} {xs ys : List UInt8} {w : World} (hx : RdB w A xs) (hy : RdB w B ys) (hn : xs.length = n) (hm : ys.length = m) :
    CallsV Try.prog 27 #[.slice A n c, .slice B m d] w fun v w' => v = .int .i64 (cmpB xs ys) ∧ w = w' := by
  refine calls_in (N := _) Try.func27 rfl Try.ntmps27 rfl ?_; show WC _ _ _ _ _ _
  refine wc_sr ?_; refine wl_as rfl rfl ?_; refine wl_ns ?_; refine wc_sr ?_; refine wl_mv rfl rfl ?_; refine wl_mv rfl rfl ?_
  refine wl_call ok_bytes_Compare (bytesCompare_any hx hy hn hm) ⟨rfl, rfl, trivial⟩ rfl ?_
  rintro _ _ ⟨rfl, rfl⟩
  refine wl_as rfl rfl ?_; refine wl_ns ?_; refine wc_ret ?_
  exact we_ret1 rfl rfl ⟨_, rfl, rfl, rfl⟩

theorem refCmp_any {A B : Option Addr} {n m c d : Nat} {xs ys : List UInt8} {w : World} (hx : RdB w A xs) (hy : RdB w B ys) (hn : xs.length = n) (hm : ys.length = m) (hlx : xs.length ≤ maxLen) (hly : ys.length ≤ maxLen) :
    CallsV Try.prog 23 #[.slice A n c, .slice B m d] w fun v w' => v = .int .i64 (cmpB xs ys) ∧ Below w.heap.size w w' := by
  subst hn hm
  simp only [maxLen] at hlx hly
  refine calls_in (N := _) Try.func23 rfl Try.ntmps23 rfl ?_; show WC _ _ _ _ _ _
  refine wc_sr ?_; refine wl_as rfl rfl ?_; refine wl_ns ?_; refine wc_seq ?_; refine wc_sr ?_; refine wl_as rfl rfl ?_; refine wl_ns ?_; refine wc_block ?_
  refine wc_loop (fun L wr m => ∃ k : Nat, L = [(0, .slice A xs.length c), (1, .slice B ys.length d), (5, .int .i64 (k : Int))] ∧ k ≤ xs.length ∧ k ≤ ys.length ∧ cmpB xs ys = cmpB (xs.drop k) (ys.drop k) ∧ Below w.heap.size w wr ∧ m = xs.length - k)
    [(0, .slice A xs.length c), (1, .slice B ys.length d), (5, .int .i64 (0 : Nat))] xs.length ⟨0, rfl, by omega, by omega, rfl, Below.refl _ _, rfl⟩ ⟨rfl, rfl, rfl, trivial⟩ ?_
  rintro _ wr m ⟨k, rfl, hk, hk2, heq, hb, rfl⟩
  have r1 := RdB.below hx hb
  have r2 := RdB.below hy hb
  refine wc_seq ?_; refine wc_sr ?_; refine wl_mv rfl rfl ?_; refine wl_mv rfl rfl ?_; apply wl_val; apply opv_len; exact rfl; exact tyB.sl; exact rfl; refine wl_bin rfl rfl bin_lss rfl ?_; refine wl_mv rfl rfl ?_
  refine wl_cutV 5 15 (.bool (decide (((k : Int) < (xs.length : Int)) ∧ ((k : Int) < (ys.length : Int))))) ?c6 ?_; (case c6 => (dsimp only [List.take]; by_cases hc0 : ((k : Int) < (xs.length : Int)); (focus (apply wl_take; exact rfl; exact rfl; exact rfl; refine bT ?_; (with_reducible assumption); refine wl_mv rfl rfl ?_; apply wl_take; exact rfl; exact rfl; exact rfl; refine bT ?_; (with_reducible assumption); refine wl_mv rfl rfl ?_; apply wl_take; exact rfl; exact rfl; exact rfl; refine bT ?_; (with_reducible assumption); apply wl_val; apply opv_len; exact rfl; exact tyB.sl; exact rfl; apply wl_take; exact rfl; exact rfl; exact rfl; refine bT ?_; (with_reducible assumption); refine wl_bin rfl rfl bin_lss rfl ?_; apply wl_val; apply opv_pickT; exact rfl; refine bT ?_; (with_reducible assumption); exact rfl; exact rfl; refine wl_nil ?_; refine we_cut _ ⟨rfl, rfl⟩ ⟨congrArg (fun b => some (Value.bool b)) ?e6_0, ?s6_0⟩; (case e6_0 => ((simp [hc0]; done))); (case s6_0 => (refine And.intro rfl ?_; refine And.intro rfl ?_; refine And.intro rfl ?_; refine And.intro rfl ?_; refine And.intro rfl ?_; refine And.intro rfl ?_; refine And.intro rfl ?_; refine And.intro rfl ?_; exact True.intro)))); (focus (apply wl_skip; exact rfl; exact rfl; exact rfl; refine bFn ?_; (with_reducible assumption); exact rfl; apply wl_skip; exact rfl; exact rfl; exact rfl; refine bFn ?_; (with_reducible assumption); exact rfl; apply wl_skip; exact rfl; exact rfl; exact rfl; refine bFn ?_; (with_reducible assumption); exact rfl; apply wl_skip; exact rfl; exact rfl; exact rfl; refine bFn ?_; (with_reducible assumption); exact rfl; apply wl_val; apply opv_pickF; exact rfl; refine bF ?_; (with_reducible assumption); exact rfl; exact rfl; refine wl_nil ?_; refine we_cut _ ⟨rfl, rfl⟩ ⟨congrArg (fun b => some (Value.bool b)) ?e6_1, ?s6_1⟩; (case e6_1 => ((simp [hc0]; done))); (case s6_1 => (refine And.intro rfl ?_; refine And.intro rfl ?_; refine And.intro rfl ?_; refine And.intro rfl ?_; refine And.intro rfl ?_; refine And.intro rfl ?_; refine And.intro rfl ?_; refine And.intro rfl ?_; exact True.intro)))))); dsimp only [List.drop]
  refine wl_ns ?_
  refine wc_cond rfl (fun h1 => ?_) (fun h1 => ?_)
  · obtain ⟨x, hxk⟩ : ∃ x, xs[k]? = some x := ⟨_, List.getElem?_eq_getElem (by omega)⟩
    obtain ⟨y, hyk⟩ : ∃ y, ys[k]? = some y := ⟨_, List.getElem?_eq_getElem (by omega)⟩
    rw [drop_get hxk, drop_get hyk] at heq
    refine wc_skip ?_; refine we_seq ?_; refine wc_seq ?_; refine wc_block ?_; refine wc_seq ?_; refine wc_seq ?_
    refine wc_drawB mixed (by kernel_rfl) ?_
    apply wq_val; intro _ hw_; apply opv_move; exact rfl; exact rfl; apply wq_val; intro _ hw_; apply opv_move; exact rfl; exact rfl; apply wq_byK (T := tyB) (hr := r1) (hb := hxk); exact rfl; exact rfl; exact rfl; exact rfl; exact rfl; intro _; apply wq_val; intro _ hw_; apply opv_move; exact rfl; exact rfl; apply wq_val; intro _ hw_; apply opv_move; exact rfl; exact rfl; apply wq_byK (T := tyB) (hr := r2) (hb := hyk); exact rfl; exact rfl; exact rfl; exact rfl; exact rfl; intro _; apply wq_val; intro _ hw_; apply opv_bin; exact rfl; exact rfl; exact bin_lss; exact rfl; refine wq_nil fun w1 hw1 => ?_
    replace hb := hb.trans (hw1.mono hb.size)
    replace r1 := RdB.below r1 hw1
    replace r2 := RdB.below r2 hw1
    clear hw1
    refine we_seq ?_
    refine wc_cond rfl (fun h2 => ?_) (fun h2 => ?_)
    · refine wc_sr ?_; refine wl_as rfl rfl ?_; refine wl_ns ?_; refine wc_ret ?_; refine we_seq_ret ?_; refine we_block_ret ?_; refine we_seq_ret ?_; refine we_loop_ret ?_; refine we_block_ret ?_; refine we_seq_ret ?_
      exact we_ret1 rfl rfl ⟨_, rfl, by rw [heq, cmp_lt (UInt8.lt_iff_toNat_lt.2 (by omega))], hb⟩
    · refine wc_skip ?_; refine we_seq ?_; refine wc_seq ?_
      refine wc_drawB mixed (by kernel_rfl) ?_
      apply wq_val; intro _ hw_; apply opv_move; exact rfl; exact rfl; apply wq_val; intro _ hw_; apply opv_move; exact rfl; exact rfl; apply wq_byK (T := tyB) (hr := r1) (hb := hxk); exact rfl; exact rfl; exact rfl; exact rfl; exact rfl; intro _; apply wq_val; intro _ hw_; apply opv_move; exact rfl; exact rfl; apply wq_val; intro _ hw_; apply opv_move; exact rfl; exact rfl; apply wq_byK (T := tyB) (hr := r2) (hb := hyk); exact rfl; exact rfl; exact rfl; exact rfl; exact rfl; intro _; apply wq_val; intro _ hw_; apply opv_bin; exact rfl; exact rfl; exact bin_gtr; exact rfl; refine wq_nil fun w1 hw1 => ?_
      replace hb := hb.trans (hw1.mono hb.size)
      clear hw1
      refine we_seq ?_
      refine wc_cond rfl (fun h3 => ?_) (fun h3 => ?_)
      · refine wc_sr ?_; refine wl_as rfl rfl ?_; refine wl_ns ?_; refine wc_ret ?_; refine we_block_ret ?_; refine we_seq_ret ?_; refine we_loop_ret ?_; refine we_block_ret ?_; refine we_seq_ret ?_
        exact we_ret1 rfl rfl ⟨_, rfl, by rw [heq, cmp_gt (UInt8.lt_iff_toNat_lt.2 (by omega))], hb⟩
      · obtain rfl : x = y := UInt8.toNat_inj.1 (by omega)
        refine wc_skip ?_; refine we_block_norm ?_; refine we_seq ?_; refine wc_region ?_; refine wl_mv rfl rfl ?_; apply wl_val; apply opv_bin; exact rfl; exact rfl; exact bin_add64 (by omega); exact rfl; refine wl_as rfl rfl ?_; refine wl_nil ?_
        refine we_loop [(0, .slice A xs.length c), (1, .slice B ys.length d), (5, .int .i64 ((k + 1 : Nat) : Int))] (xs.length - (k + 1)) ⟨k + 1, rfl, by omega, by omega, by rw [heq, cmp_same], hb, rfl⟩ (by omega) ⟨rfl, rfl, by simp [lookT], trivial⟩
  · refine wc_exit ?_; refine we_seq_exit ?_; refine we_loop_exit ?_; refine we_block_exit ?_; refine we_seq ?_; refine wc_seq ?_; refine wc_sr ?_; refine wl_mv rfl rfl ?_; apply wl_val; apply opv_len; exact rfl; exact tyB.sl; exact rfl; refine wl_mv rfl rfl ?_; apply wl_val; apply opv_len; exact rfl; exact tyB.sl; exact rfl; refine wl_bin rfl rfl bin_lss rfl ?_; refine wl_ns ?_
    refine wc_cond rfl (fun h2 => ?_) (fun h2 => ?_)
    · refine wc_sr ?_; refine wl_as rfl rfl ?_; refine wl_ns ?_; refine wc_ret ?_; refine we_seq_ret ?_
      exact we_ret1 rfl rfl ⟨_, rfl, by rw [heq, cmp_short (List.drop_of_length_le (by omega)) (by simp; omega)], hb⟩
    · refine wc_skip ?_; refine we_seq ?_; refine wc_seq ?_; refine wc_sr ?_; refine wl_mv rfl rfl ?_; apply wl_val; apply opv_len; exact rfl; exact tyB.sl; exact rfl; refine wl_mv rfl rfl ?_; apply wl_val; apply opv_len; exact rfl; exact tyB.sl; exact rfl; refine wl_bin rfl rfl bin_gtr rfl ?_; refine wl_ns ?_
      refine wc_cond rfl (fun h3 => ?_) (fun h3 => ?_)
      · refine wc_sr ?_; refine wl_as rfl rfl ?_; refine wl_ns ?_; refine wc_ret ?_; refine we_seq_ret ?_
        exact we_ret1 rfl rfl ⟨_, rfl, by rw [heq, cmp_long (by simp; omega) (List.drop_of_length_le (by omega))], hb⟩
      · refine wc_skip ?_; refine we_seq ?_; refine wc_sr ?_; refine wl_as rfl rfl ?_; refine wl_ns ?_; refine wc_ret ?_
        exact we_ret1 rfl rfl ⟨_, rfl, by rw [heq, List.drop_of_length_le (show xs.length ≤ k by omega), List.drop_of_length_le (show ys.length ≤ k by omega)]; rfl, hb⟩
end Go.Proofs.Ytcjiecclmepboaa


/-
  Walks over utf8.AppendRune and the builder's WriteRune, at runes that can be written.
-/
namespace Go.Proofs.Ytcjiecclmepboaa
open Go.RowKit

theorem or_sum {a b i : Nat} (h : b < 2 ^ i) : 2 ^ i * a ||| b = 2 ^ i * a + b := (Nat.two_pow_add_eq_or_of_lt h a).symm
theorem or128b (x : Nat) : 128 ||| (x % 256 &&& 63) = 128 + x % 64 := by
  have e : x % 256 &&& 63 = x % 64 := by
    rw [show 63 = 2 ^ 6 - 1 from rfl, Nat.and_two_pow_sub_one_eq_mod]; omega
  rw [e]; exact or_sum (a := 1) (i := 7) (by omega)
theorem or192 {x : Nat} (h : x < 32) : 192 ||| x = 192 + x := or_sum (a := 3) (i := 6) (by omega)
theorem or224 {x : Nat} (h : x < 32) : 224 ||| x = 224 + x := or_sum (a := 7) (i := 5) (by omega)
theorem or240 {x : Nat} (h : x < 16) : 240 ||| x = 240 + x := or_sum (a := 15) (i := 4) (by omega)
/-- Bytes have come to be behind a row of the call's own. -/
def RetAp (w : World) (base : Nat) (A : Option Addr) (ys : List UInt8) (v : Value) (w' : World) : Prop :=
  ∃ (A' : Option Addr) (c' : Nat), v = .slice A' ys.length c' ∧ OwB w' base A' c' ys ∧ Gr w w' A ∧ (A'.map (·.block) = A.map (·.block) ∨ ∀ a', A' = some a' → w.heap.size ≤ a'.block)
theorem retAp {w w' : World} {base k c' : Nat} {A A' : Option Addr} {xs ys : List UInt8} {vs : List Value} (ho : Ow w' base 5 A' (xs.length + k) c' (bvs xs ++ vs)) (g : Gr w w' A) (hat : A'.map (·.block) = A.map (·.block) ∨ ∀ a', A' = some a' → w.heap.size ≤ a'.block)
    (hv : bvs ys = vs) : RetAp w base A (xs ++ ys) (.slice A' (xs.length + k) c') w' := by
  subst hv
  have hk : ys.length = k := by have := ho.len; simp [bvs_length] at this; omega
  subst hk
  exact ⟨A', c', by simp, OwB.app ho, g, hat⟩
set_option maxHeartbeats 2000000 in
set_option maxRecDepth 10000 in
theorem appendNon_any {w : World} {base c r : Nat} {A : Option Addr} {xs : List UInt8} (ho : OwB w base A c xs) (hb : base ≤ w.heap.size) (hl : xs.length ≤ 70368744177664) (hv : Val r) (h128 : 128 ≤ r) :
    CallsV Try.prog 112 #[.slice A xs.length c, .int .i32 (r : Int)] w (RetAp w base A (xs ++ enc r)) := by
  have hr : r ≤ 1114111 := by unfold Val at hv; omega
  refine calls_in (N := _) Try.func112 rfl Try.ntmps112 rfl ?_; show WC _ _ _ _ _ _
  refine wc_sr ?_; refine wl_as rfl rfl ?_; refine wl_ns ?_; refine wc_sr ?_; refine wl_mv rfl rfl ?_; apply wl_val; apply opv_convR; exact rfl; exact Try.underlying21; exact Try.underlying153; exact IntWalk.u32_in _ (by omega); exact rfl; refine wl_as rfl rfl ?_; refine wl_ns ?_; refine wc_block ?_; refine wc_sr ?_; refine wl_mv rfl rfl ?_; refine wl_bin rfl rfl bin_leq rfl ?_; refine wl_as rfl rfl ?_; refine wl_ns ?_
  refine wc_cond rfl (fun h1 => ?_) (fun h1 => ?_)
  · refine wc_sr ?_; refine wl_mv rfl rfl ?_; refine wl_mv rfl rfl ?_; apply wl_val; apply opv_bin; exact rfl; exact rfl; exact bin_shr (y := 6) (by simp only [IntKind.bits]; omega); exact rfl; apply wl_val; apply opv_convR; exact rfl; exact Try.underlying21; exact Try.underlying5; exact IntWalk.u8_in _ (by omega); exact rfl; apply wl_val; apply opv_bin; exact rfl; exact rfl; exact bin_or (a := 192) rfl (by decide) (by simp only [IntKind.bits]; omega); exact rfl; refine wl_mv rfl rfl ?_; apply wl_val; apply opv_convR; exact rfl; exact Try.underlying21; exact Try.underlying5; exact wrap_nat rfl _; exact rfl; apply wl_val; apply opv_bin; exact rfl; exact rfl; exact bin_and (b := 63) rfl (Nat.mod_lt _ (by decide)) (by decide); exact rfl; apply wl_val; apply opv_bin; exact rfl; exact rfl; exact bin_or (a := 128) rfl (by decide) (Nat.lt_of_le_of_lt Nat.and_le_right (by decide)); exact rfl
    refine wl_push (vs := [_, _]) tyB rfl ho ⟨rfl, rfl, rfl, rfl, rfl, rfl, trivial⟩ rfl (by decide) rfl (by omega) (by simp only [maxLen]; omega) hb rfl rfl fun q A2 c2 w2 o2 g2 hat => ?_
    refine wl_as rfl rfl ?_; refine wl_ns ?_; refine wc_ret ?_; refine we_block_ret ?_
    refine we_ret1 rfl rfl ⟨_, rfl, retAp o2 g2 hat ?_⟩
    rw [enc_two h128 (by omega)]
    simp only [bvs, List.map]
    rw [bv_of (by omega), bv_of (by omega), show (2 : Nat) ^ 6 = 64 from rfl, or192 (show r / 64 < 32 by omega), show 2 ^ IntKind.u8.bits = 256 from rfl, or128b]
  refine wc_seq ?_; refine wc_sr ?_; refine wl_mv rfl rfl ?_; refine wl_bin rfl rfl bin_lss rfl ?_; refine wl_as rfl rfl ?_; refine wl_ns ?_
  refine wc_cutE (fun L' w' => L' = [(0, .slice A xs.length c), (1, .int .i32 (r : Int)), (5, .int .u32 (r : Int)), (25, .bool (decide (r < 55296 ∨ (57343 < r ∧ r ≤ 65535))))] ∧ w = w') ?_ ?_
  · refine wc_cond rfl (fun h2 => ?_) (fun h2 => ?_)
    · refine wc_skip ?_
      refine we_cut _ ⟨rfl, rfl⟩ ⟨rfl, rfl, rfl, ?_, trivial⟩
      rw [decide_eq_true (show r < 55296 ∨ (57343 < r ∧ r ≤ 65535) by omega)]
      exact congrArg (fun b => some (Value.bool b)) (decide_eq_true h2)
    · refine wc_region ?_; refine wl_mv rfl rfl ?_; refine wl_bin rfl rfl bin_lss rfl ?_; refine wl_mv rfl rfl ?_
      refine wl_cutV 3 33 (.bool (decide ((57343 < (r : Int)) ∧ ((r : Int) ≤ 65535)))) ?c6 ?_; (case c6 => (dsimp only [List.take]; by_cases hc0 : (57343 < (r : Int)); (focus (apply wl_take; exact rfl; exact rfl; exact rfl; refine bT ?_; (with_reducible assumption); refine wl_mv rfl rfl ?_; apply wl_take; exact rfl; exact rfl; exact rfl; refine bT ?_; (with_reducible assumption); refine wl_bin rfl rfl bin_leq rfl ?_; apply wl_val; apply opv_pickT; exact rfl; refine bT ?_; (with_reducible assumption); exact rfl; exact rfl; refine wl_nil ?_; refine we_cut _ ⟨rfl, rfl⟩ ⟨congrArg (fun b => some (Value.bool b)) ?e6_0, ?s6_0⟩; (case e6_0 => ((simp [hc0]; done))); (case s6_0 => (refine And.intro rfl ?_; refine And.intro rfl ?_; refine And.intro rfl ?_; refine And.intro rfl ?_; refine And.intro rfl ?_; refine And.intro rfl ?_; refine And.intro rfl ?_; refine And.intro rfl ?_; refine And.intro rfl ?_; refine And.intro rfl ?_; refine And.intro rfl ?_; refine And.intro rfl ?_; refine And.intro rfl ?_; refine And.intro rfl ?_; refine And.intro rfl ?_; exact True.intro)))); (focus (apply wl_skip; exact rfl; exact rfl; exact rfl; refine bFn ?_; (with_reducible assumption); exact rfl; apply wl_skip; exact rfl; exact rfl; exact rfl; refine bFn ?_; (with_reducible assumption); exact rfl; apply wl_val; apply opv_pickF; exact rfl; refine bF ?_; (with_reducible assumption); exact rfl; exact rfl; refine wl_nil ?_; refine we_cut _ ⟨rfl, rfl⟩ ⟨congrArg (fun b => some (Value.bool b)) ?e6_1, ?s6_1⟩; (case e6_1 => ((simp [hc0]; done))); (case s6_1 => (refine And.intro rfl ?_; refine And.intro rfl ?_; refine And.intro rfl ?_; refine And.intro rfl ?_; refine And.intro rfl ?_; refine And.intro rfl ?_; refine And.intro rfl ?_; refine And.intro rfl ?_; refine And.intro rfl ?_; refine And.intro rfl ?_; refine And.intro rfl ?_; refine And.intro rfl ?_; refine And.intro rfl ?_; refine And.intro rfl ?_; refine And.intro rfl ?_; exact True.intro)))))); dsimp only [List.drop]
      refine wl_as rfl rfl ?_; refine wl_nil ?_
      refine we_cut _ ⟨rfl, rfl⟩ ⟨rfl, rfl, rfl, ?_, trivial⟩
      refine congrArg (fun b => some (Value.bool b)) ?_
      rw [Bool.eq_iff_iff]; simp only [decide_eq_true_eq]; omega
  rintro _ _ ⟨rfl, rfl⟩
  refine we_seq ?_
  refine wc_cond rfl (fun h2 => ?_) (fun h2 => ?_)
  · refine wc_sr ?_; refine wl_mv rfl rfl ?_; refine wl_mv rfl rfl ?_; apply wl_val; apply opv_bin; exact rfl; exact rfl; exact bin_shr (y := 12) (by simp only [IntKind.bits]; omega); exact rfl; apply wl_val; apply opv_convR; exact rfl; exact Try.underlying21; exact Try.underlying5; exact IntWalk.u8_in _ (by omega); exact rfl; apply wl_val; apply opv_bin; exact rfl; exact rfl; exact bin_or (a := 224) rfl (by decide) (by simp only [IntKind.bits]; omega); exact rfl; refine wl_mv rfl rfl ?_; apply wl_val; apply opv_bin; exact rfl; exact rfl; exact bin_shr (y := 6) (by simp only [IntKind.bits]; omega); exact rfl; apply wl_val; apply opv_convR; exact rfl; exact Try.underlying21; exact Try.underlying5; exact wrap_nat rfl _; exact rfl; apply wl_val; apply opv_bin; exact rfl; exact rfl; exact bin_and (b := 63) rfl (Nat.mod_lt _ (by decide)) (by decide); exact rfl; apply wl_val; apply opv_bin; exact rfl; exact rfl; exact bin_or (a := 128) rfl (by decide) (Nat.lt_of_le_of_lt Nat.and_le_right (by decide)); exact rfl; refine wl_mv rfl rfl ?_; apply wl_val; apply opv_convR; exact rfl; exact Try.underlying21; exact Try.underlying5; exact wrap_nat rfl _; exact rfl; apply wl_val; apply opv_bin; exact rfl; exact rfl; exact bin_and (b := 63) rfl (Nat.mod_lt _ (by decide)) (by decide); exact rfl; apply wl_val; apply opv_bin; exact rfl; exact rfl; exact bin_or (a := 128) rfl (by decide) (Nat.lt_of_le_of_lt Nat.and_le_right (by decide)); exact rfl
    refine wl_push (vs := [_, _, _]) tyB rfl ho ⟨rfl, rfl, rfl, rfl, rfl, rfl, rfl, rfl, rfl, trivial⟩ rfl (by decide) rfl (by omega) (by simp only [maxLen]; omega) hb rfl rfl fun q A2 c2 w2 o2 g2 hat => ?_
    refine wl_as rfl rfl ?_; refine wl_ns ?_; refine wc_ret ?_; refine we_block_ret ?_
    refine we_ret1 rfl rfl ⟨_, rfl, retAp o2 g2 hat ?_⟩
    rw [enc_three (by omega)]
    simp only [bvs, List.map]
    rw [bv_of (by omega), bv_of (by omega), bv_of (by omega), show (2 : Nat) ^ 6 = 64 from rfl, show (2 : Nat) ^ 12 = 4096 from rfl, or224 (show r / 4096 < 32 by omega), show 2 ^ IntKind.u8.bits = 256 from rfl, or128b, or128b]
  refine wc_sr ?_; refine wl_mv rfl rfl ?_; refine wl_bin rfl rfl bin_gtr rfl ?_; refine wl_mv rfl rfl ?_
  refine wl_cutV 3 56 (.bool (decide ((65535 < (r : Int)) ∧ ((r : Int) ≤ 1114111)))) ?c17 ?_; (case c17 => (dsimp only [List.take]; by_cases hc0 : (65535 < (r : Int)); (focus (apply wl_take; exact rfl; exact rfl; exact rfl; refine bT ?_; (with_reducible assumption); refine wl_mv rfl rfl ?_; apply wl_take; exact rfl; exact rfl; exact rfl; refine bT ?_; (with_reducible assumption); refine wl_bin rfl rfl bin_leq rfl ?_; apply wl_val; apply opv_pickT; exact rfl; refine bT ?_; (with_reducible assumption); exact rfl; exact rfl; refine wl_nil ?_; refine we_cut _ ⟨rfl, rfl⟩ ⟨congrArg (fun b => some (Value.bool b)) ?e17_0, ?s17_0⟩; (case e17_0 => ((simp [hc0]; done))); (case s17_0 => (refine And.intro rfl ?_; refine And.intro rfl ?_; refine And.intro rfl ?_; refine And.intro rfl ?_; refine And.intro rfl ?_; refine And.intro rfl ?_; refine And.intro rfl ?_; exact True.intro)))); (focus (apply wl_skip; exact rfl; exact rfl; exact rfl; refine bFn ?_; (with_reducible assumption); exact rfl; apply wl_skip; exact rfl; exact rfl; exact rfl; refine bFn ?_; (with_reducible assumption); exact rfl; apply wl_val; apply opv_pickF; exact rfl; refine bF ?_; (with_reducible assumption); exact rfl; exact rfl; refine wl_nil ?_; refine we_cut _ ⟨rfl, rfl⟩ ⟨congrArg (fun b => some (Value.bool b)) ?e17_1, ?s17_1⟩; (case e17_1 => ((simp [hc0]; done))); (case s17_1 => (refine And.intro rfl ?_; refine And.intro rfl ?_; refine And.intro rfl ?_; refine And.intro rfl ?_; refine And.intro rfl ?_; refine And.intro rfl ?_; refine And.intro rfl ?_; exact True.intro)))))); dsimp only [List.drop]
  refine wl_as rfl rfl ?_; refine wl_ns ?_
  refine wc_cond rfl (fun h3 => ?_) (fun h3 => absurd (show 65535 < (r : Int) ∧ (r : Int) ≤ 1114111 by unfold Val at hv; omega) h3)
  · refine wc_sr ?_; refine wl_mv rfl rfl ?_; refine wl_mv rfl rfl ?_; apply wl_val; apply opv_bin; exact rfl; exact rfl; exact bin_shr (y := 18) (by simp only [IntKind.bits]; omega); exact rfl; apply wl_val; apply opv_convR; exact rfl; exact Try.underlying21; exact Try.underlying5; exact IntWalk.u8_in _ (by omega); exact rfl; apply wl_val; apply opv_bin; exact rfl; exact rfl; exact bin_or (a := 240) rfl (by decide) (by simp only [IntKind.bits]; omega); exact rfl; refine wl_mv rfl rfl ?_; apply wl_val; apply opv_bin; exact rfl; exact rfl; exact bin_shr (y := 12) (by simp only [IntKind.bits]; omega); exact rfl; apply wl_val; apply opv_convR; exact rfl; exact Try.underlying21; exact Try.underlying5; exact wrap_nat rfl _; exact rfl; apply wl_val; apply opv_bin; exact rfl; exact rfl; exact bin_and (b := 63) rfl (Nat.mod_lt _ (by decide)) (by decide); exact rfl; apply wl_val; apply opv_bin; exact rfl; exact rfl; exact bin_or (a := 128) rfl (by decide) (Nat.lt_of_le_of_lt Nat.and_le_right (by decide)); exact rfl; refine wl_mv rfl rfl ?_; apply wl_val; apply opv_bin; exact rfl; exact rfl; exact bin_shr (y := 6) (by simp only [IntKind.bits]; omega); exact rfl; apply wl_val; apply opv_convR; exact rfl; exact Try.underlying21; exact Try.underlying5; exact wrap_nat rfl _; exact rfl; apply wl_val; apply opv_bin; exact rfl; exact rfl; exact bin_and (b := 63) rfl (Nat.mod_lt _ (by decide)) (by decide); exact rfl; apply wl_val; apply opv_bin; exact rfl; exact rfl; exact bin_or (a := 128) rfl (by decide) (Nat.lt_of_le_of_lt Nat.and_le_right (by decide)); exact rfl; refine wl_mv rfl rfl ?_; apply wl_val; apply opv_convR; exact rfl; exact Try.underlying21; exact Try.underlying5; exact wrap_nat rfl _; exact rfl; apply wl_val; apply opv_bin; exact rfl; exact rfl; exact bin_and (b := 63) rfl (Nat.mod_lt _ (by decide)) (by decide); exact rfl; apply wl_val; apply opv_bin; exact rfl; exact rfl; exact bin_or (a := 128) rfl (by decide) (Nat.lt_of_le_of_lt Nat.and_le_right (by decide)); exact rfl
    refine wl_push (vs := [_, _, _, _]) tyB rfl ho ⟨rfl, rfl, rfl, rfl, rfl, rfl, rfl, rfl, rfl, rfl, rfl, rfl, trivial⟩ rfl (by decide) rfl (by omega) (by simp only [maxLen]; omega) hb rfl rfl fun q A2 c2 w2 o2 g2 hat => ?_
    refine wl_as rfl rfl ?_; refine wl_ns ?_; refine wc_ret ?_; refine we_block_ret ?_
    refine we_ret1 rfl rfl ⟨_, rfl, retAp o2 g2 hat ?_⟩
    rw [enc_four (by omega) (by omega)]
    simp only [bvs, List.map]
    rw [bv_of (by omega), bv_of (by omega), bv_of (by omega), bv_of (by omega), show (2 : Nat) ^ 6 = 64 from rfl, show (2 : Nat) ^ 12 = 4096 from rfl, show (2 : Nat) ^ 18 = 262144 from rfl, or240 (show r / 262144 < 16 by omega), show 2 ^ IntKind.u8.bits = 256 from rfl, or128b, or128b, or128b]
theorem appendRune_any {w : World} {base c r : Nat} {A : Option Addr} {xs : List UInt8} (ho : OwB w base A c xs) (hb : base ≤ w.heap.size) (hl : xs.length ≤ 70368744177664) (hv : Val r) :
    CallsV Try.prog 97 #[.slice A xs.length c, .int .i32 (r : Int)] w (RetAp w base A (xs ++ enc r)) := by
  have hr : r ≤ 1114111 := by unfold Val at hv; omega
  refine calls_in (N := _) Try.func97 rfl Try.ntmps97 rfl ?_; show WC _ _ _ _ _ _
  refine wc_sr ?_; refine wl_as rfl rfl ?_; refine wl_ns ?_; refine wc_seq ?_; refine wc_sr ?_; refine wl_mv rfl rfl ?_; apply wl_val; apply opv_convR; exact rfl; exact Try.underlying21; exact Try.underlying153; exact IntWalk.u32_in _ (by omega); exact rfl; refine wl_bin rfl rfl bin_leq rfl ?_; refine wl_ns ?_
  refine wc_cond rfl (fun h1 => ?_) (fun h1 => ?_)
  · refine wc_sr ?_; refine wl_mv rfl rfl ?_; refine wl_mv rfl rfl ?_; apply wl_val; apply opv_convR; exact rfl; exact Try.underlying21; exact Try.underlying5; exact IntWalk.u8_in _ (by omega); exact rfl
    refine wl_push (vs := [_]) tyB rfl ho ⟨rfl, rfl, rfl, trivial⟩ rfl (by decide) rfl (by omega) (by simp only [maxLen]; omega) hb rfl rfl fun q A2 c2 w2 o2 g2 hat => ?_
    refine wl_as rfl rfl ?_; refine wl_ns ?_; refine wc_ret ?_; refine we_seq_ret ?_
    refine we_ret1 rfl rfl ⟨_, rfl, retAp o2 g2 hat ?_⟩
    rw [enc_one (by omega)]
    simp only [bvs, List.map]
    rw [bv_of (by omega)]
  · refine wc_skip ?_; refine we_seq ?_; refine wc_sr ?_; refine wl_mv rfl rfl ?_; refine wl_mv rfl rfl ?_
    refine wl_call ok_unicode_utf8_appendRuneNonASCII (appendNon_any ho hb hl hv (by omega)) ⟨rfl, rfl, trivial⟩ rfl ?_
    rintro v w2 h2
    refine wl_as rfl rfl ?_; refine wl_ns ?_; refine wc_ret ?_
    exact we_ret1 rfl rfl ⟨_, rfl, h2⟩

theorem ok_strings_Builder_copyCheck : CallOk Try.prog 96 := callOk Try.func96 (by kernel_rfl) rfl
theorem ok_strings_Builder_WriteRune : CallOk Try.prog 67 := callOk Try.func67 (by kernel_rfl) rfl
theorem ok_strings_Builder_String : CallOk Try.prog 68 := callOk Try.func68 (by kernel_rfl) rfl
/-- A builder in a block of its own that holds these bytes. -/
def Bd (w : World) (B b : Nat) (p : Value) (A : Option Addr) (c : Nat) (bs : List UInt8) : Prop :=
  B ≤ b ∧ Ar w b 101 [p, .slice A bs.length c] ∧ OwB w B A c bs ∧ (∀ a, A = some a → a.block ≠ b) ∧ (p = .pointer none ∨ p = .pointer (some ⟨b, 0, none⟩))
theorem fa_b0 : FieldAt Try.prog 101 0 0 := fieldAt_mk Try.underlying101 rfl rfl (by kernel_rfl)
theorem fa_b1 : FieldAt Try.prog 101 1 1 := fieldAt_mk Try.underlying101 rfl rfl (by kernel_rfl)
theorem c1_pb : Cell1 Try.prog 99 := ⟨by kernel_rfl, by rw [Try.underlying99]⟩
theorem c1_sb : Cell1 Try.prog 30 := ⟨by kernel_rfl, by rw [Try.underlying30]⟩
theorem run_infoB : ∃ j, Try.prog.info? 101 = some j ∧ j.size ≠ 0 := by
  have h : (Try.prog.info? 101).map (·.size) = some 2 := by kernel_rfl
  cases hq : Try.prog.info? 101 with
  | none => simp [hq] at h
  | some i => exact ⟨i, rfl, by have : i.size = 2 := by simpa [hq] using h
                                omega⟩
theorem noEscape_run (v : Value) (w : World) : (callFunc 111 #[v]).run Try.prog w = .ok (.value v) w := by
  rw [run_callFunc_extern Try.func111 (by kernel_rfl) rfl (by kernel_rfl) (e := Extern.AbiNoEscape.same) (by kernel_rfl)]
  simp only [Sem.run_bind, Lib.run_noEscape]
  simp
theorem copyCheck_any {w : World} {B b c : Nat} {p : Value} {A : Option Addr} {bs : List UInt8} (h : Bd w B b p A c bs) :
    CallsV Try.prog 96 #[.pointer (some ⟨b, 0, none⟩)] w fun v w' => Bd w' B b (.pointer (some ⟨b, 0, none⟩)) A c bs ∧ Gr w w' (some ⟨b, 0, none⟩) := by
  obtain ⟨hB, ha, ho, hne, hp⟩ := h
  obtain ⟨j, hj, hj0⟩ := run_infoB
  refine calls_in (N := _) Try.func96 rfl Try.ntmps96 rfl ?_; show WC _ _ _ _ _ _
  refine wc_sr ?_; refine wl_mv rfl rfl ?_
  refine wl_val (opv_nilOk rfl) rfl ?_
  skip
  refine wl_val (opv_fa fa_b0 rfl) rfl ?_
  refine wl_val (opv_ldA c1_pb ha rfl rfl) rfl ?_
  rcases hp with rfl | rfl
  · refine wl_bin rfl rfl (bin_eqlNilNil Try.underlying99) rfl ?_
    have hsh := ha.shape
    refine wl_ns ?_; apply wc_condTb; exact rfl; exact rfl; refine wc_region ?_; refine wl_mv rfl rfl ?_; refine wl_mv rfl rfl ?_
    refine wl_val (opv_convWith rfl (Lib.run_to_unsafe w ⟨b, 0, none⟩ Try.underlying99 Try.underlying151 hj hj0 hsh (by simp))) rfl ?_
    refine wl_ext (noEscape_run _ w) ⟨rfl, trivial⟩ rfl ?_
    refine wl_val (opv_convWith rfl (Lib.run_from_unsafe w ⟨b, 0, none⟩ Try.underlying151 Try.underlying99 hj hsh (by kernel_rfl))) rfl ?_
    refine wl_val (opv_nilOk rfl) rfl ?_
    skip
    refine wl_val (opv_fa fa_b0 rfl) rfl ?_
    refine wl_stA c1_pb ha rfl (by simp) rfl rfl fun w1 a1 g1 _ => ?_
    have o1 : OwB w1 B A c bs := Ow.gr (base' := 0) (e' := 0) ho g1 fun a b' ha hb' => by cases hb'; exact hne a ha
    have ha2 : Ar w1 b 101 [.pointer (some ⟨b, 0, none⟩), .slice A bs.length c] := a1
    refine wl_nil ?_
    exact we_end0 rfl ⟨_, rfl, ⟨hB, ha2, o1, hne, .inr rfl⟩, g1⟩
  · refine wl_bin rfl rfl (bin_eqlPtrNil Try.underlying99) rfl ?_
    refine wl_ns ?_; apply wc_condFb; exact rfl; exact rfl; refine wc_sr ?_; refine wl_mv rfl rfl ?_
    refine wl_val (opv_nilOk rfl) rfl ?_
    skip
    refine wl_val (opv_fa fa_b0 rfl) rfl ?_
    refine wl_val (opv_ldA c1_pb ha rfl rfl) rfl ?_
    refine wl_mv rfl rfl ?_
    refine wl_bin rfl rfl (bin_neqPtrSelf Try.underlying99 hj) rfl ?_
    refine wl_ns ?_; apply wc_condFb; exact rfl; exact rfl; refine wc_skip ?_
    exact we_end0 rfl ⟨_, rfl, ⟨hB, ha, ho, hne, .inr rfl⟩, Gr.refl _ _⟩
theorem writeRune_any {w : World} {B b c r : Nat} {p : Value} {A : Option Addr} {bs : List UInt8} (h : Bd w B b p A c bs) (hl : bs.length ≤ 70368744177664) (hv : Val r) :
    CallsV Try.prog 67 #[.pointer (some ⟨b, 0, none⟩), .int .i32 (r : Int)] w fun v w' => ∃ (A' : Option Addr) (c' : Nat) (w1 w2 : World), Bd w' B b (.pointer (some ⟨b, 0, none⟩)) A' c' (bs ++ enc r) ∧ Gr w w1 (some ⟨b, 0, none⟩) ∧ Gr w1 w2 A ∧ Gr w2 w' (some ⟨b, 0, none⟩) := by
  have hbw : b < w.heap.size := h.2.1.lt
  have hBb := h.1
  have hel := enc_length r
  refine calls_in (N := _) Try.func67 rfl Try.ntmps67 rfl ?_; show WC _ _ _ _ _ _
  refine wc_sr ?_; refine wl_as rfl rfl ?_; refine wl_as rfl rfl ?_; refine wl_ns ?_; refine wc_sr ?_; refine wl_mv rfl rfl ?_
  refine wl_call ok_strings_Builder_copyCheck (copyCheck_any h) ⟨rfl, trivial⟩ rfl ?_
  rintro _ w1 ⟨⟨hB, a1, o1, hne, hp⟩, g1⟩
  have hs1 := g1.size
  refine wl_ns ?_; refine wc_sr ?_; refine wl_mv rfl rfl ?_
  refine wl_val (opv_nilOk rfl) rfl ?_
  refine wl_val (opv_fa fa_b1 rfl) rfl ?_
  refine wl_val (opv_ldA c1_sb a1 rfl rfl) rfl ?_
  apply wl_val; apply opv_len; exact rfl; exact tyB.sl; exact rfl; refine wl_as rfl rfl ?_; refine wl_ns ?_; refine wc_sr ?_; refine wl_mv rfl rfl ?_; refine wl_mv rfl rfl ?_
  refine wl_val (opv_nilOk rfl) rfl ?_
  refine wl_val (opv_fa fa_b1 rfl) rfl ?_
  refine wl_val (opv_ldA c1_sb a1 rfl rfl) rfl ?_
  refine wl_mv rfl rfl ?_
  refine wl_call ok_unicode_utf8_AppendRune (appendRune_any o1 (by omega) hl hv) ⟨rfl, rfl, trivial⟩ rfl ?_
  rintro _ w2 ⟨A2, c2, rfl, o2, g2, hat⟩
  have hne2 : ∀ a, A2 = some a → a.block ≠ b := fun a ha hb => by
    rcases hat with hat | hat
    · rw [ha] at hat
      cases A with
      | none => simp at hat
      | some a0 => simp at hat; exact hne a0 rfl (hat ▸ hb)
    · have := hat a ha; omega
  have a2 := a1.grA g2 hne
  refine wl_val (opv_nilOk rfl) rfl ?_
  refine wl_val (opv_fa fa_b1 rfl) rfl ?_
  refine wl_stA c1_sb a2 rfl (by simp) rfl rfl fun w3 a3 g3 _ => ?_
  have ha3 : Ar w3 b 101 [.pointer (some ⟨b, 0, none⟩), .slice A2 (bs ++ enc r).length c2] := a3
  have o3 : OwB w3 B A2 c2 (bs ++ enc r) := Ow.gr (base' := 0) (e' := 0) o2 g3 fun a b' ha hb' => by cases hb'; exact hne2 a ha
  have hll : (bs ++ enc r).length ≤ 70368744177668 := by simp; omega
  refine wl_ns ?_; refine wc_sr ?_; refine wl_mv rfl rfl ?_
  refine wl_val (opv_nilOk rfl) rfl ?_
  refine wl_val (opv_fa fa_b1 rfl) rfl ?_
  refine wl_val (opv_ldA c1_sb ha3 rfl rfl) rfl ?_
  apply wl_val; apply opv_len; exact rfl; exact tyB.sl; exact rfl; refine wl_mv rfl rfl ?_; apply wl_val; apply opv_bin; exact rfl; exact rfl; exact bin_sub64 (by omega); exact rfl; refine wl_as rfl rfl ?_; refine wl_as rfl rfl ?_; refine wl_ns ?_; refine wc_ret ?_
  exact we_ret2 rfl rfl rfl ⟨_, rfl, A2, c2, w1, w2, ⟨hB, ha3, o3, hne2, .inr rfl⟩, g1, g2, g3⟩
end Go.Proofs.Ytcjiecclmepboaa

/-
  Contracts of Go's library that the kit's shelf holds, as its tool laid them at this seat: Try.Builder_String_any, Try.strings_FieldsFunc_runes.
-/
namespace Go.Proofs
open Go.Shelf
def Try.lays169_ren : Go.Shelf.Ren := ⟨fun | 169 => 68 | n => n, fun | 70 => 99 | 9 => 9 | 0 => 0 | 72 => 101 | 37 => 30 | 127 => 137 | 3 => 3 | 5 => 5 | n => n, fun | n => n⟩
theorem Try.lays169 : Go.Proofs.Lays.n169 Try.prog Try.lays169_ren := {
  mixed := by kernel_rfl
  f169 := Try.func68.trans (congrArg some (by kernel_rfl))
  t0 := Try.underlying0
  a0 := Try.isAgg0
  z0 := Try.sizeOf0
  v0 := Try.zeroValue0
  t3 := Try.underlying3
  a3 := Try.isAgg3
  z3 := Try.sizeOf3
  v3 := Try.zeroValue3
  t9 := Try.underlying9
  a9 := Try.isAgg9
  z9 := Try.sizeOf9
  v9 := Try.zeroValue9
  t37 := Try.underlying30
  a37 := Try.isAgg30
  z37 := Try.sizeOf30
  v37 := Try.zeroValue30
  t70 := Try.underlying99
  a70 := Try.isAgg99
  z70 := Try.sizeOf99
  v70 := Try.zeroValue99
  t72 := Try.underlying101
  a72 := Try.isAgg101
  z72 := Try.sizeOf101
  v72 := Try.zeroValue101
  t127 := Try.underlying137
  a127 := Try.isAgg137
  z127 := Try.sizeOf137
  v127 := Try.zeroValue137 }
theorem Try.Builder_Extra_169 : Builder.Extra Try.prog Try.lays169_ren := {
  sizeBuilder := by kernel_rfl
  liesBuilder := by kernel_rfl
  t5 := Try.underlying5
  a5 := Try.isAgg5
  z5 := Try.sizeOf5
  v5 := Try.zeroValue5
  infoByte := by kernel_rfl
  cellsByte := by kernel_rfl
  sizeByte := by kernel_rfl
  neB5 := by decide }
open Go.RowKit in
theorem Try.Builder_String_any (B b : Nat) (l : List UInt8) (w : World) (h : Lib.IsBuilder 101 5 B b (Lib.byteCells l) w) (hBw : B ≤ w.heap.size) :
    Calls Try.prog 68 #[.pointer (some ⟨b, 0, none⟩)] w fun e w' => e = .returned (.string ⟨l.toArray⟩) ∧ Below B w w' := Any.Builder_String_any Try.lays169 Try.Builder_Extra_169 B b l w h hBw
def Try.lays229_ren : Go.Shelf.Ren := ⟨fun | 229 => 75 | n => n, fun | 9 => 9 | 40 => 113 | 31 => 41 | 152 => 139 | 3 => 3 | 0 => 0 | 4 => 4 | 21 => 21 | 154 => 141 | n => n, fun | n => n⟩
theorem Try.lays229 : Go.Proofs.Lays.n229 Try.prog Try.lays229_ren := {
  mixed := by kernel_rfl
  f229 := Try.func75.trans (congrArg some (by kernel_rfl))
  t0 := Try.underlying0
  a0 := Try.isAgg0
  z0 := Try.sizeOf0
  v0 := Try.zeroValue0
  t3 := Try.underlying3
  a3 := Try.isAgg3
  z3 := Try.sizeOf3
  v3 := Try.zeroValue3
  t4 := Try.underlying4
  a4 := Try.isAgg4
  z4 := Try.sizeOf4
  v4 := Try.zeroValue4
  t9 := Try.underlying9
  a9 := Try.isAgg9
  z9 := Try.sizeOf9
  v9 := Try.zeroValue9
  t21 := Try.underlying21
  a21 := Try.isAgg21
  z21 := Try.sizeOf21
  v21 := Try.zeroValue21
  t31 := Try.underlying41
  a31 := Try.isAgg41
  z31 := Try.sizeOf41
  v31 := Try.zeroValue41
  t40 := Try.underlying113
  a40 := Try.isAgg113
  z40 := Try.sizeOf113
  v40 := Try.zeroValue113
  t152 := Try.underlying139
  a152 := Try.isAgg139
  z152 := Try.sizeOf139
  v152 := Try.zeroValue139
  t154 := Try.underlying141
  a154 := Try.isAgg141
  z154 := Try.sizeOf141
  v154 := Try.zeroValue141 }
open Go.RowKit Go.Lib in
theorem Try.strings_FieldsFunc_runes (g : Nat) (lb : Array Value) (eg : ∀ args w, (callFunc g args).run Try.prog w = .ok (.enter g args) w) (p : Nat → Bool) (s : ByteArray) (w : World) (hs : s.size ≤ 4294967296) (hp : PredAtRunes Try.prog g lb p w) :
    Calls Try.prog 75 #[.string s, .func (.func g) #[] lb] w fun e w' => ∃ A, e = .returned (.slice (some ⟨A, 0, none⟩) (Lib.goFieldsP p s).length (Lib.goFieldsP p s).length) ∧ w.heap.size ≤ A ∧
      w'.ownsRow w.heap.size 9 1 (.slice (some ⟨A, 0, none⟩) (Lib.goFieldsP p s).length (Lib.goFieldsP p s).length) (Lib.goFieldsP p s).length ((Lib.goFieldsP p s).map Value.string) ∧ Below w.heap.size w w' := Any.strings_FieldsFunc_runes Try.lays229 g lb eg p s w hs hp (by kernel_rfl) (by kernel_rfl)
end Go.Proofs


/-
  The walk over Fold, and the fixed fact of the laws of texts.
-/
namespace Go.Proofs.Ytcjiecclmepboaa
open Go.RowKit

section
variable {w w' : World} {B b c : Nat} {p : Value} {A X : Option Addr} {bs : List UInt8}
theorem Bd.gr (h : Bd w B b p A c bs) (g : Gr w w' X) (h1 : ∀ a, X = some a → a.block ≠ b) (h2 : ∀ a x, A = some a → X = some x → a.block ≠ x.block) : Bd w' B b p A c bs :=
  ⟨h.1, h.2.1.grA g h1, Ow.gr (base' := 0) (e' := 0) h.2.2.1 g h2, h.2.2.2.1, h.2.2.2.2⟩
theorem Bd.is (h : Bd w B b p A c bs) : Lib.IsBuilder 101 5 B b (Lib.byteCells bs) w := by
  obtain ⟨hB, ha, ho, hne, hp⟩ := h
  have hat : Lib.BuilderAt 101 5 B b p (Lib.byteCells bs) w := by
    refine ⟨hB, .slice A bs.length c, ha, ?_, ?_⟩
    · have : (Lib.byteCells bs).length = bs.length := by simp [Lib.byteCells]
      rw [this]; exact ho
    · rw [ownBlock_slice]
      cases A with
      | none => simp
      | some a => have := hne a rfl; simpa using this
  rcases hp with rfl | rfl
  · exact .inl hat
  · exact .inr hat
end
theorem bString_any {w : World} {B b c : Nat} {p : Value} {A : Option Addr} {bs : List UInt8} (h : Bd w B b p A c bs) :
    CallsV Try.prog 68 #[.pointer (some ⟨b, 0, none⟩)] w fun v w' => v = str bs ∧ Below B w w' :=
  (Try.Builder_String_any B b bs w h.is (Nat.le_trans h.1 (Nat.le_of_lt h.2.1.lt))).mono fun _ _ ⟨h1, h2⟩ => ⟨_, h1, rfl, h2⟩
theorem fold_any {l : List UInt8} (hl : l.length ≤ 1099511627776) (w : World) : CallsV Try.prog 18 #[str l] w fun v w' => v = str (foldB l) ∧ Below w.heap.size w w' := by
  refine calls_in (N := _) Try.func18 rfl Try.ntmps18 rfl ?_; show WC _ _ _ _ _ _
  refine wc_sr ?_; refine wl_as rfl rfl ?_; refine wl_ns ?_; refine wc_sr ?_
  refine wl_alloc (z := .agg #[.pointer none, .slice none 0 0]) (by kernel_rfl) rfl fun w1 a1 hb1 hs1 => ?_
  have d1 : Bd w1 w.heap.size w.heap.size (.pointer none) none 0 [] := ⟨Nat.le_refl _, a1, Ow.nil _ _ _, by simp, .inl rfl⟩
  refine wl_ns ?_; refine wc_seq ?_; refine wc_sr ?_; refine wl_mv rfl rfl ?_
  refine wl_range tyStr rfl rfl fun k w2 hk i2 hb2 => ?_
  have d2 : Bd w2 w.heap.size w.heap.size (.pointer none) none 0 [] := ⟨Nat.le_refl _, d1.2.1.bel hb2, Ow.nil _ _ _, by simp, .inl rfl⟩
  have hwk : w.heap.size < k := by omega
  obtain ⟨b, hb0⟩ : ∃ b, w.heap.size = b := ⟨_, rfl⟩
  have hbb := hb1.trans (hb2.mono hb1.size)
  refine wl_ns ?_; refine wc_block ?_
  refine wc_loop (fun L wr m => ∃ (q : Nat) (done : List Nat) (p : Value) (A : Option Addr) (c : Nat), L = [(3, .pointer (some ⟨w.heap.size, 0, none⟩)), (7, .pointer (some ⟨k, 0, none⟩))] ∧ Bd wr w.heap.size w.heap.size p A c (encs (done.map lowN)) ∧ It wr k l q ∧ Below w.heap.size w wr ∧ q ≤ l.length ∧ done.length ≤ q ∧ done ++ rs (l.drop q) = rs l ∧ m = l.length - q)
    [(3, .pointer (some ⟨w.heap.size, 0, none⟩)), (7, .pointer (some ⟨k, 0, none⟩))] l.length ⟨0, [], .pointer none, none, 0, rfl, d2, i2, hbb, by omega, by simp, rfl, rfl⟩ ⟨rfl, rfl, trivial⟩ ?_
  rintro _ w3 m ⟨q, done, p, A, c, rfl, d3, i3, hb3, hq, hn, he, rfl⟩
  have hel := encs_length (done.map lowN)
  rw [List.length_map] at hel
  refine wc_sr ?_
  by_cases hlt : q < l.length
  · have hd := dec_at hlt
    have hlv := lowN_val (dec_val (l.drop q))
    rw [rs_step hlt] at he
    refine wl_next rfl i3 hlt rfl fun w4 i4 g4 hs4 => ?_
    have d4 := d3.gr g4 (fun a ha => by cases ha; exact (show k ≠ w.heap.size by omega)) (fun a x ha hx => by cases hx; exact i3.ne_own d3.2.2.1 a ha)
    have hb4 := g4.belowI hb3 (by omega) hb3.size
    apply wl_val; apply opv_extract; exact rfl; exact rfl; exact rfl; refine wl_ns ?_; refine wc_seq ?_; apply wc_condTb; exact rfl; exact rfl; refine wc_skip ?_; refine we_seq ?_; refine wc_block ?_; refine wc_sr ?_; apply wl_val; apply opv_extract; exact rfl; exact rfl; exact rfl; refine wl_as rfl rfl ?_; refine wl_ns ?_; refine wc_region ?_; refine wl_mv rfl rfl ?_; apply wl_callX (vs := [_]) ok_text_low; exact ⟨rfl, trivial⟩; exact rfl; exact low_any _ (dec_le _) _; rintro _ _ ⟨rfl, rfl⟩
    refine wl_call ok_strings_Builder_WriteRune (writeRune_any d4 (by omega) hlv) ⟨rfl, rfl, trivial⟩ rfl ?_
    rintro _ w7 ⟨A7, c7, w5, w6, d7, g5, g6, g7⟩
    have i5 := i4.gr' g5 fun a ha => by cases ha; exact (show w.heap.size ≠ k by omega)
    have i6 := i5.gr' g6 fun a ha => i4.ne_own d4.2.2.1 a ha
    have i7 := i6.gr' g7 fun a ha => by cases ha; exact (show w.heap.size ≠ k by omega)
    have hb5 := g5.belowI hb4 (Nat.le_refl _) hb4.size
    have hb6 := g6.below hb5 (Ow.gr (base' := 0) (e' := 0) d4.2.2.1 g5 fun a x ha hx => by cases hx; exact d4.2.2.2.1 a ha) (Nat.le_refl _) hb5.size
    have hb7 := g7.belowI hb6 (Nat.le_refl _) hb6.size
    have e7 : encs (done.map lowN) ++ enc (lowN (dec (l.drop q)).1) = encs ((done ++ [(dec (l.drop q)).1]).map lowN) := by
      rw [List.map_append, encs_append]; simp [encs]
    rw [e7] at d7
    refine wl_nil ?_; refine we_block_norm ?_
    refine we_loop [(3, .pointer (some ⟨w.heap.size, 0, none⟩)), (7, .pointer (some ⟨k, 0, none⟩))] (l.length - (q + (dec (l.drop q)).2)) ⟨_, _, _, A7, c7, rfl, d7, i7, hb7, hd.2.1, by simp; omega, by rw [List.append_assoc]; exact he, rfl⟩ (by omega) ⟨rfl, rfl, trivial⟩
  · refine wl_nextE rfl i3 hlt rfl ?_
    rw [rs_end hlt, List.append_nil] at he
    subst he
    apply wl_val; apply opv_extract; exact rfl; exact rfl; exact rfl; refine wl_ns ?_; refine wc_seq ?_; apply wc_condFb; exact rfl; exact rfl; refine wc_exit ?_; refine we_seq_exit ?_; refine we_loop_exit ?_; refine we_block_exit ?_; refine we_seq ?_; refine wc_sr ?_
    refine wl_call ok_strings_Builder_String (bString_any d3) ⟨rfl, trivial⟩ rfl ?_
    rintro _ w4 ⟨rfl, hb4⟩
    refine wl_as rfl rfl ?_; refine wl_ns ?_; refine wc_ret ?_
    exact we_ret1 rfl rfl ⟨_, rfl, rfl, hb3.trans hb4⟩
end Go.Proofs.Ytcjiecclmepboaa


/-
  The engine's rules for a region whose order Go leaves open and which makes memory: operations that yield one value in every world of a class are taken first; where one operation alone may come up, it is carried out. Nothing here names the program.
-/
namespace Go.Proofs.Ytcjiecclmepboaa
open Go.RowKit

def WH (P : Program) (N : Nat) (ops : Array Oper) (Q : Exit → Act → World → Prop) (S : World → Prop) (fuel : Nat) (listed : Array Bool) (L : FL) (w : World) : Prop :=
  ∀ a, Has N a L → wpAnyH P .any ops (NoPanic Q) S fuel listed a w
/-- What must hold behind the one operation that could come up. -/
def HeldQ (P : Program) (ops : Array Oper) (Q : Exit → Act → World → Prop) (S : World → Prop) (fuel : Nat) (listed : Array Bool) : Exit → Act → World → Prop :=
  Exit.then (fun a w => S w ∧ wpAnyH P .any ops (NoPanic Q) S fuel listed a w) (NoPanic Q)

section
variable {P : Program} {N : Nat} {ops : Array Oper} {Q : Exit → Act → World → Prop} {S : World → Prop} {fuel : Nat} {listed : Array Bool} {L : FL} {w : World}

theorem wc_held {id : Nat} {l : List Oper} (S : World → Prop) (hm : P.follows .mixedOrders = true) (h : WH P N l.toArray Q S l.length (Array.replicate l.length false) L w.drew) : WC P N (.region id l.toArray true) Q L w := fun a ha =>
  wp_region_noPanic (wp_region_held (S := S) hm (by simpa using h a ha))
/-- The class of the worlds that extend the one ahead of the region. -/
theorem wc_heldB {id : Nat} {l : List Oper} (hm : P.follows .mixedOrders = true) (h : ∀ w1, Below w.heap.size w w1 → WH P N l.toArray Q (Below w.heap.size w) l.length (Array.replicate l.length false) L w1) : WC P N (.region id l.toArray true) Q L w :=
  wc_held (Below w.heap.size w) hm (h _ ((Below.refl _ _).drew))
theorem np {Q : Exit → Act → World → Prop} {a a' : Act} {c : List PanicEntry} {w : World} (h : NoPanic Q (.panic c) a' w) : NoPanic Q (.panic c) a w := by simp [NoPanic] at h
theorem wh_done (hr : Region.ready .any ops listed = []) (h : WE N Q .normal L w) : WH P N ops Q S fuel listed L w := fun a ha => wpAnyH_done (Q := NoPanic Q) hr (NoPanic.normal (h a ha)) fuel
theorem wh_take (i : Nat) {d : Nat} {op : Op} {ty : TypeId} {pos : String} {aft : Array Edge} {v : Value} (hi : ops[i]? = some ⟨some d, op, ty, pos, aft, none⟩) (hs : Region.noSelect ops = true)
    (hf : Region.free .any ops listed i = true) (hr : (Region.ready .any ops listed).contains i = true) (hS : S w) (hv : ∀ w, S w → OpV P op ty L w v w) (hd : Nat.blt d N = true)
    (h : WH P N ops Q S fuel (listed.setIfInBounds i true) ((d, v) :: L) w) : WH P N ops Q S (fuel + 1) listed L w := fun a ha =>
  wpAnyH_take hi hs hf hr (fun _ _ _ h => np h) (.inl ⟨by simp [Region.wanted], fun w hw => hv w hw a.eval _ (fun x u hx => ha.eval hx) rfl rfl⟩) hS (h _ (ha.put hd v))
theorem wh_takeG (i : Nat) {d j g : Nat} {b want : Bool} {op : Op} {ty : TypeId} {pos : String} {aft : Array Edge} {v : Value} (hi : ops[i]? = some ⟨some d, op, ty, pos, aft, some (j, want)⟩) (hs : Region.noSelect ops = true)
    (hf : Region.free .any ops listed i = true) (hr : (Region.ready .any ops listed).contains i = true) (hS : S w)
    (hj : (ops[j]?).bind (·.dst) = some g) (hb : lookT L g = some (.bool b)) (hg : Nat.blt g N = true) (he : b = want) (hv : ∀ w, S w → OpV P op ty L w v w) (hd : Nat.blt d N = true)
    (h : WH P N ops Q S fuel (listed.setIfInBounds i true) ((d, v) :: L) w) : WH P N ops Q S (fuel + 1) listed L w := fun a ha => by
  have hy := yielded_of ha hj hb hg
  exact wpAnyH_take hi hs hf hr (fun _ _ _ h => np h) (.inl ⟨by simp [Region.wanted, hy, he], fun w hw => hv w hw a.eval _ (fun x u hx => ha.eval hx) rfl rfl⟩) hS (h _ (ha.put hd v))
theorem wh_skipG (i : Nat) {d j g : Nat} {b want : Bool} {op : Op} {ty : TypeId} {pos : String} {aft : Array Edge} (hi : ops[i]? = some ⟨some d, op, ty, pos, aft, some (j, want)⟩) (hs : Region.noSelect ops = true)
    (hf : Region.free .any ops listed i = true) (hr : (Region.ready .any ops listed).contains i = true) (hS : S w)
    (hj : (ops[j]?).bind (·.dst) = some g) (hb : lookT L g = some (.bool b)) (hg : Nat.blt g N = true) (he : b = !want) (hd : Nat.blt d N = true)
    (h : WH P N ops Q S fuel (listed.setIfInBounds i true) ((d, undef) :: L) w) : WH P N ops Q S (fuel + 1) listed L w := fun a ha => by
  have hy := yielded_of ha hj hb hg
  exact wpAnyH_take hi hs hf hr (fun _ _ _ h => np h) (.inr ⟨by simp [Region.wanted, hy, he], rfl⟩) hS (h _ (ha.put hd undef))
theorem wh_skipU (i : Nat) {d j g : Nat} {want : Bool} {op : Op} {ty : TypeId} {pos : String} {aft : Array Edge} (hi : ops[i]? = some ⟨some d, op, ty, pos, aft, some (j, want)⟩) (hs : Region.noSelect ops = true)
    (hf : Region.free .any ops listed i = true) (hr : (Region.ready .any ops listed).contains i = true) (hS : S w)
    (hj : (ops[j]?).bind (·.dst) = some g) (hb : lookT L g = some undef) (hg : Nat.blt g N = true) (hd : Nat.blt d N = true)
    (h : WH P N ops Q S fuel (listed.setIfInBounds i true) ((d, undef) :: L) w) : WH P N ops Q S (fuel + 1) listed L w := fun a ha => by
  have hy := yielded_undef ha hj hb hg
  exact wpAnyH_take hi hs hf hr (fun _ _ _ h => np h) (.inr ⟨by simp [Region.wanted, hy], rfl⟩) hS (h _ (ha.put hd undef))
/-- The same with what must be computed in one piece, behind the guard. -/
def okAt (ops : Array Oper) (listed : Array Bool) (i : Nat) : Bool := Region.noSelect ops && (Region.free .any ops listed i && (Region.ready .any ops listed).contains i)
theorem okAt_of {i : Nat} (h : okAt ops listed i = true) : Region.noSelect ops = true ∧ Region.free .any ops listed i = true ∧ (Region.ready .any ops listed).contains i = true := by
  simpa only [okAt, Bool.and_eq_true] using h
theorem wh_takeH (i : Nat) {d : Nat} {op : Op} {ty : TypeId} {pos : String} {aft : Array Edge} {v : Value} (hi : ops[i]? = some ⟨some d, op, ty, pos, aft, none⟩) (hv : ∀ w, S w → OpV P op ty L w v w) (hd : Nat.blt d N = true) (hk : okAt ops listed i = true) (hS : S w)
    (h : WH P N ops Q S fuel (listed.setIfInBounds i true) ((d, v) :: L) w) : WH P N ops Q S (fuel + 1) listed L w :=
  wh_take i hi (okAt_of hk).1 (okAt_of hk).2.1 (okAt_of hk).2.2 hS hv hd h
theorem wh_takeGH (i : Nat) {d j g : Nat} {b want : Bool} {op : Op} {ty : TypeId} {pos : String} {aft : Array Edge} {v : Value} (hi : ops[i]? = some ⟨some d, op, ty, pos, aft, some (j, want)⟩)
    (hj : (ops[j]?).bind (·.dst) = some g) (hb : lookT L g = some (.bool b)) (hg : Nat.blt g N = true) (he : b = want) (hv : ∀ w, S w → OpV P op ty L w v w) (hd : Nat.blt d N = true) (hk : okAt ops listed i = true) (hS : S w)
    (h : WH P N ops Q S fuel (listed.setIfInBounds i true) ((d, v) :: L) w) : WH P N ops Q S (fuel + 1) listed L w :=
  wh_takeG i hi (okAt_of hk).1 (okAt_of hk).2.1 (okAt_of hk).2.2 hS hj hb hg he hv hd h
theorem wh_skipGH (i : Nat) {d j g : Nat} {b want : Bool} {op : Op} {ty : TypeId} {pos : String} {aft : Array Edge} (hi : ops[i]? = some ⟨some d, op, ty, pos, aft, some (j, want)⟩)
    (hj : (ops[j]?).bind (·.dst) = some g) (hb : lookT L g = some (.bool b)) (hg : Nat.blt g N = true) (he : b = !want) (hd : Nat.blt d N = true) (hk : okAt ops listed i = true) (hS : S w)
    (h : WH P N ops Q S fuel (listed.setIfInBounds i true) ((d, undef) :: L) w) : WH P N ops Q S (fuel + 1) listed L w :=
  wh_skipG i hi (okAt_of hk).1 (okAt_of hk).2.1 (okAt_of hk).2.2 hS hj hb hg he hd h
theorem wh_skipUH (i : Nat) {d j g : Nat} {want : Bool} {op : Op} {ty : TypeId} {pos : String} {aft : Array Edge} (hi : ops[i]? = some ⟨some d, op, ty, pos, aft, some (j, want)⟩)
    (hj : (ops[j]?).bind (·.dst) = some g) (hb : lookT L g = some undef) (hg : Nat.blt g N = true) (hd : Nat.blt d N = true) (hk : okAt ops listed i = true) (hS : S w)
    (h : WH P N ops Q S fuel (listed.setIfInBounds i true) ((d, undef) :: L) w) : WH P N ops Q S (fuel + 1) listed L w :=
  wh_skipU i hi (okAt_of hk).1 (okAt_of hk).2.1 (okAt_of hk).2.2 hS hj hb hg hd h
/-- One operation alone may come up. -/
theorem wh_one (i : Nat) {o : Oper} (hr : Region.ready .any ops listed = [i]) (hi : ops[i]? = some o)
    (h : WL P N ops (HeldQ P ops Q S fuel (listed.setIfInBounds i true)) [o] L w) : WH P N ops Q S (fuel + 1) listed L w := fun a ha => by
  refine wpAnyH_all hr (by simp) fun i' hi' => ?_
  obtain rfl : i' = i := by simpa using hi'
  have h' := h a ha
  unfold wpOp
  simp only [hi]
  unfold wpList at h'
  split
  · rename_i hw
    rw [if_pos hw] at h'
    rcases h' with h' | ⟨ha, a0, w0, h'⟩
    · exact .inl (upon_mono (fun a w h => h) (fun e a w he h => by cases e <;> first | exact absurd rfl he | exact h) h')
    · exact .inr ⟨ha, a0, w0, h'⟩
  · rename_i hw
    rw [if_neg hw] at h'
    exact h'
theorem we_held (hS : S w) (h : WH P N ops Q S fuel listed L w) : WE N (HeldQ P ops Q S fuel listed) .normal L w := fun a ha => ⟨hS, h a ha⟩
end
end Go.Proofs.Ytcjiecclmepboaa


/-
  The fixed fact of the laws of texts.
-/
namespace Go.Proofs.Ytcjiecclmepboaa
open Go.RowKit
/-- True is handed back, and nothing that stood has changed. -/
abbrev RetTr (w : World) (v : Value) (w' : World) : Prop := v = .bool true ∧ Below w.heap.size w w'
theorem rs_fact : (rs [97, 195, 169]).length = 2 := by decide +kernel
theorem fold_fact : foldB [195, 132, 114, 103, 101, 114] = [195, 164, 114, 103, 101, 114] := by decide +kernel
theorem awake2_any (w : World) : CallsV Try.prog 13 #[] w (RetTr w) := by
  refine calls_in (N := _) Try.func13 rfl Try.ntmps13 rfl ?_; show WC _ _ _ _ _ _
  refine wc_sr ?_; refine wl_as rfl rfl ?_; refine wl_ns ?_; refine wc_sr ?_
  refine wl_call ok_text_Len (len_any (l := [97, 195, 169]) (by decide) w) ⟨rfl, trivial⟩ rfl ?_
  rintro _ w1 ⟨rfl, hb1⟩
  rw [rs_fact]
  refine wl_bin rfl rfl bin_eql rfl ?_; refine wl_mv rfl rfl ?_; apply wl_take; exact rfl; exact rfl; exact rfl; refine bT ?_; omega
  refine wl_call ok_text_Fold (fold_any (l := [195, 132, 114, 103, 101, 114]) (by decide) w1) ⟨rfl, trivial⟩ rfl ?_
  rintro _ w2 ⟨rfl, hb2⟩
  rw [fold_fact]
  apply wl_take; exact rfl; exact rfl; exact rfl; refine bT ?_; omega; refine wl_bin rfl rfl bin_eqlS rfl ?_; apply wl_val; apply opv_pickT; exact rfl; refine bT ?_; omega; exact rfl; exact rfl; refine wl_as rfl rfl ?_; refine wl_ns ?_; refine wc_ret ?_
  exact we_ret1 rfl rfl ⟨_, rfl, by simp, hb1.trans (hb2.mono hb1.size)⟩

/-- The places at which the runes begin, and the end. -/
def pl (l : List UInt8) : List Nat := places l ++ [l.length]
theorem pl_length (l : List UInt8) : (pl l).length = (rs l).length + 1 := by simp [pl, places_length]
theorem starts_le : ∀ (n : Nat) (l : List UInt8) (p : Nat), l.length ≤ n → ∀ x ∈ starts p (rw l), x ≤ p + l.length
  | 0, l, p, h => by have : l = [] := List.eq_nil_of_length_eq_zero (by omega); subst this; simp [rw_nil, starts]
  | n + 1, l, p, h => by
    by_cases h0 : l = []
    · subst h0; simp [rw_nil, starts]
    · rw [rw_cons h0, starts]
      have hw := dec_width h0
      intro x hx
      rcases List.mem_cons.1 hx with rfl | hx
      · omega
      · have := starts_le n (l.drop (dec l).2) (p + (dec l).2) (by simp; omega) x hx
        simp at this; omega
theorem pl_le {l : List UInt8} {k x : Nat} (h : (pl l)[k]? = some x) : x ≤ l.length := by
  have hm := List.mem_of_getElem? h
  rw [pl, List.mem_append] at hm
  rcases hm with hm | hm
  · have := starts_le _ l 0 (Nat.le_refl _) x hm; omega
  · simp at hm; omega
theorem clipB_at {l : List UInt8} {n : Int} {k x : Nat} (hk : k = min n.toNat (rs l).length) (h : (pl l)[k]? = some x) : clipB l n = l.take x := by
  have hpl := places_length l
  unfold clipB
  by_cases hn : n.toNat < (rs l).length
  · have : k = n.toNat := by omega
    subst this
    rw [pl, List.getElem?_append_left (by omega)] at h
    rw [h]
  · have : k = (rs l).length := by omega
    subst this
    rw [pl, List.getElem?_append_right (by omega), hpl, Nat.sub_self] at h
    simp at h
    subst h
    rw [List.getElem?_eq_none (by omega)]
    simp
theorem textClips_walk {w : World} {l : List UInt8} (hl : l.length ≤ 1048576) {n : Int} (hn : -9223372036854775808 ≤ n ∧ n ≤ 9223372036854775807) :
    CallsV Try.prog 3 #[str l, .int .i64 n] w (RetTr w) := by
  have hrl := rs_length l
  have hpl := pl_length l
  refine calls_in (N := _) Try.func3 rfl Try.ntmps3 rfl ?_; show WC _ _ _ _ _ _
  refine wc_sr ?_; refine wl_as rfl rfl ?_; refine wl_ns ?_; refine wc_seq ?_; refine wc_sr ?_
  refine wl_call ok_caissonlaw02_awake (awake2_any w) trivial rfl ?_
  rintro _ w1 ⟨rfl, hb1⟩
  apply wl_val; apply opv_not; exact rfl; exact rfl; refine wl_ns ?_; apply wc_condFb; exact rfl; exact Bool.not_true; refine wc_skip ?_; refine we_seq ?_; refine wc_sr ?_; refine wl_mv rfl rfl ?_
  refine wl_call ok_caissonref02_Runes (refRunes_any (l := l) (by omega) w1) ⟨rfl, trivial⟩ rfl ?_
  rintro _ w2 ⟨A, B, c, d, rfl, _, o2, hb2⟩
  have hb := hb1.trans (hb2.mono hb1.size)
  have r2 := o2.rd
  change Rd w2 B (pl l).length ((pl l).map iv) at r2
  change WL _ _ _ _ _ ((_, .tuple #[.slice A (rs l).length c, .slice B (pl l).length d]) :: _) _
  refine wl_mv rfl rfl ?_; apply wl_val; apply opv_extract; exact rfl; exact rfl; exact rfl; apply wl_val; apply opv_extract; exact rfl; exact rfl; exact rfl; refine wl_as rfl rfl ?_; refine wl_as rfl rfl ?_; refine wl_ns ?_; refine wc_sr ?_; refine wl_mv rfl rfl ?_; refine wl_as rfl rfl ?_; refine wl_ns ?_; refine wc_seq ?_; refine wc_sr ?_; refine wl_mv rfl rfl ?_; refine wl_bin rfl rfl bin_lss rfl ?_; refine wl_ns ?_
  refine wc_cutE (fun L' w' => L' = [(0, str l), (1, .int .i64 n), (6, .slice B (pl l).length d), (7, .int .i64 (n.toNat : Int))] ∧ w2 = w') ?_ ?_
  · refine wc_cond rfl (fun h => ?_) (fun h => ?_)
    · refine wc_region ?_; refine wl_as rfl rfl ?_; refine wl_nil ?_
      exact we_cut _ ⟨rfl, rfl⟩ ⟨rfl, rfl, rfl, congrArg (fun z => some (Value.int .i64 z)) (by omega), trivial⟩
    · refine wc_skip ?_
      exact we_cut _ ⟨rfl, rfl⟩ ⟨rfl, rfl, rfl, congrArg (fun z => some (Value.int .i64 z)) (by omega), trivial⟩
  rintro _ _ ⟨rfl, rfl⟩
  refine we_seq ?_; refine wc_seq ?_; refine wc_sr ?_; refine wl_mv rfl rfl ?_; refine wl_mv rfl rfl ?_; apply wl_val; apply opv_len; exact rfl; exact tyI.sl; exact rfl; apply wl_val; apply opv_bin; exact rfl; exact rfl; exact bin_sub64 (by omega); exact rfl; refine wl_bin rfl rfl bin_gtr rfl ?_; refine wl_ns ?_
  refine wc_cutE (fun L' w' => ∃ k : Nat, L' = [(0, str l), (1, .int .i64 n), (6, .slice B (pl l).length d), (7, .int .i64 (k : Int))] ∧ k = min n.toNat (rs l).length ∧ w2 = w') ?_ ?_
  · refine wc_cond rfl (fun h => ?_) (fun h => ?_)
    · refine wc_region ?_; refine wl_mv rfl rfl ?_; apply wl_val; apply opv_len; exact rfl; exact tyI.sl; exact rfl; apply wl_val; apply opv_bin; exact rfl; exact rfl; exact bin_sub64 (by omega); exact rfl; refine wl_as rfl rfl ?_; refine wl_nil ?_
      exact we_cut _ ⟨(rs l).length, rfl, by omega, rfl⟩ ⟨rfl, rfl, rfl, congrArg (fun z => some (Value.int .i64 z)) (by omega), trivial⟩
    · refine wc_skip ?_
      exact we_cut _ ⟨n.toNat, rfl, by omega, rfl⟩ ⟨rfl, rfl, rfl, rfl, trivial⟩
  rintro _ _ ⟨k, rfl, hk, rfl⟩
  obtain ⟨x, hx⟩ : ∃ x, (pl l)[k]? = some x := ⟨_, List.getElem?_eq_getElem (by omega)⟩
  have hxi : ((pl l).map iv)[k]? = some (iv x) := by rw [List.getElem?_map, hx]; rfl
  have hxl := pl_le hx
  refine we_seq ?_; refine wc_seq ?_
  refine wc_heldB mixed fun w3 hS => ?_
  apply wh_take 0; exact rfl; kernel_rfl; kernel_rfl; kernel_rfl; exact hS; intro _ hw_; apply opv_move; exact rfl; exact rfl; apply wh_take 1; exact rfl; kernel_rfl; kernel_rfl; kernel_rfl; exact hS; intro _ hw_; apply opv_move; exact rfl; exact rfl; apply wh_take 3; exact rfl; kernel_rfl; kernel_rfl; kernel_rfl; exact hS; intro _ hw_; apply opv_move; exact rfl; exact rfl; apply wh_take 4; exact rfl; kernel_rfl; kernel_rfl; kernel_rfl; exact hS; intro _ hw_; apply opv_move; exact rfl; exact rfl; apply wh_take 5; exact rfl; kernel_rfl; kernel_rfl; kernel_rfl; exact hS; intro _ hw_; apply opv_move; exact rfl; exact rfl
  refine wh_take 6 rfl (by kernel_rfl) (by kernel_rfl) (by kernel_rfl) hS (fun _ _ => opv_idxR tyI rfl rfl r2 rfl hxi) rfl ?_
  refine wh_take 7 rfl (by kernel_rfl) (by kernel_rfl) (by kernel_rfl) hS (fun _ hw => opv_loadR tyI rfl (r2.below hw) hxi) rfl ?_
  refine wh_take 8 rfl (by kernel_rfl) (by kernel_rfl) (by kernel_rfl) hS (fun _ _ => opv_slS (a := 0) (b := x) tyStr rfl rfl ⟨_, rfl⟩ (by omega) hxl) rfl ?_
  refine wh_one 2 (o := ⟨_, _, _, _, _, _⟩) (by kernel_rfl) rfl ?_
  refine wl_call ok_text_Clip (clip_any (l := l) (by omega) n hn _) ⟨rfl, rfl, trivial⟩ rfl ?_
  rintro _ w4 ⟨rfl, hb4⟩
  have hS4 := hS.trans (hb4.mono hS.size)
  refine wl_nil ?_
  refine we_held hS4 ?_
  apply wh_take 9; exact rfl; kernel_rfl; kernel_rfl; kernel_rfl; exact hS4; intro _ hw_; apply opv_bin; exact rfl; exact rfl; exact bin_eqlS; exact rfl; apply wh_take 10; exact rfl; kernel_rfl; kernel_rfl; kernel_rfl; exact hS4; intro _ hw_; apply opv_assign; exact rfl; exact rfl
  refine wh_done (by kernel_rfl) ?_
  refine we_seq ?_; refine wc_ret ?_
  refine we_ret1 rfl rfl ⟨_, rfl, ?_, hb.trans (hS4.mono hb.size)⟩
  rw [clipB_at hk hx, List.drop_zero]; simp
end Go.Proofs.Ytcjiecclmepboaa


/-
  The cells of values: their struct type's facts, and walks over the functions that only read one or make one: twin, Good, Same.
-/
namespace Go.Proofs.Ytcjiecclmepboaa
open Go.RowKit

theorem sC : StT Try.prog 53 5 := ⟨by kernel_rfl, by kernel_rfl⟩
theorem fa_sC {k : Nat} (h : k < 5) : FieldAt Try.prog 53 k k := by
  match k, h with
  | 0, _ => exact fieldAt_mk Try.underlying53 rfl rfl (by kernel_rfl)
  | 1, _ => exact fieldAt_mk Try.underlying53 rfl rfl (by kernel_rfl)
  | 2, _ => exact fieldAt_mk Try.underlying53 rfl rfl (by kernel_rfl)
  | 3, _ => exact fieldAt_mk Try.underlying53 rfl rfl (by kernel_rfl)
  | 4, _ => exact fieldAt_mk Try.underlying53 rfl rfl (by kernel_rfl)
theorem c1_int : Cell1 Try.prog 3 := ⟨by kernel_rfl, by rw [Try.underlying3]⟩
theorem c1_bool : Cell1 Try.prog 4 := ⟨by kernel_rfl, by rw [Try.underlying4]⟩
theorem c1_i64 : Cell1 Try.prog 2 := ⟨by kernel_rfl, by rw [Try.underlying2]⟩
theorem c1_str : Cell1 Try.prog 9 := ⟨by kernel_rfl, by rw [Try.underlying9]⟩
theorem c1_by : Cell1 Try.prog 30 := ⟨by kernel_rfl, by rw [Try.underlying30]⟩
theorem z_bool : (Try.prog.info? 4).map (·.zero) = some (some (.bool false)) := by kernel_rfl
theorem z_i64 : (Try.prog.info? 2).map (·.zero) = some (some (.int .i64 (0 : Nat))) := by kernel_rfl
theorem z_str : (Try.prog.info? 9).map (·.zero) = some (some (str [])) := by kernel_rfl
theorem z_by : (Try.prog.info? 30).map (·.zero) = some (some (.slice none 0 0)) := by kernel_rfl
theorem iAny : Try.prog.isIface 20 = true ∧ Try.prog.underlying 20 = some (.interface #[]) := ⟨by kernel_rfl, Try.underlying20⟩
/-- A cell: its kind, what it holds of each. -/
structure Ce where
  kind : Int
  tr : Bool
  num : Int
  text : List UInt8
  data : List UInt8
/-- A cell as values, its bytes behind A. -/
def ceV (x : Ce) (A : Option Addr) (c : Nat) : List Value := [.int .i64 x.kind, .bool x.tr, .int .i64 x.num, str x.text, .slice A x.data.length c]
/-- Is a cell in form? -/
def goodC (x : Ce) : Bool := decide (0 ≤ x.kind ∧ x.kind ≤ 4 ∧ (x.kind = 1 ∨ x.tr = false) ∧ (x.kind = 2 ∨ x.num = 0) ∧ (x.kind = 3 ∨ x.text = []) ∧ (x.kind = 4 ∨ x.data = []))
theorem good_any {x : Ce} {A : Option Addr} {c : Nat} {w : World} : CallsV Try.prog 36 #[.agg (ceV x A c).toArray] w fun v w' => v = .bool (goodC x) ∧ Below w.heap.size w w' := by
  refine calls_in (N := _) Try.func36 rfl Try.ntmps36 rfl ?_; show WC _ _ _ _ _ _
  refine wc_sr ?_
  refine wl_box (cs := ceV x A c) rfl rfl fun g w1 hg a1 hb1 => ?_
  unfold ceV at a1
  refine wl_as rfl rfl ?_; refine wl_ns ?_; refine wc_seq ?_; refine wc_sr ?_; apply wl_val; apply opv_fa; exact fa_sC (by decide); exact rfl; exact rfl; apply wl_val; apply opv_ldX; exact rfl; assumption; exact c1_int; exact rfl; exact rfl; refine wl_bin rfl rfl bin_lss rfl ?_; refine wl_mv rfl rfl ?_
  refine wl_cutV 4 10 (.bool (decide ((x.kind < 0) ∨ (4 < x.kind)))) ?c2 ?_; (case c2 => (dsimp only [List.take]; by_cases hc0 : (x.kind < 0); (focus (apply wl_skip; exact rfl; exact rfl; exact rfl; refine bTn ?_; (with_reducible assumption); exact rfl; apply wl_skip; exact rfl; exact rfl; exact rfl; refine bTn ?_; (with_reducible assumption); exact rfl; apply wl_skip; exact rfl; exact rfl; exact rfl; refine bTn ?_; (with_reducible assumption); exact rfl; apply wl_val; apply opv_pickT; exact rfl; refine bT ?_; (with_reducible assumption); exact rfl; exact rfl; refine wl_nil ?_; refine we_cut _ ⟨rfl, rfl⟩ ⟨congrArg (fun b => some (Value.bool b)) ?e2_0, ?s2_0⟩; (case e2_0 => ((simp [hc0]; done))); (case s2_0 => (refine And.intro rfl ?_; refine And.intro rfl ?_; refine And.intro rfl ?_; refine And.intro rfl ?_; refine And.intro rfl ?_; refine And.intro rfl ?_; refine And.intro rfl ?_; exact True.intro)))); (focus (apply wl_take; exact rfl; exact rfl; exact rfl; refine bF ?_; (with_reducible assumption); apply wl_val; apply opv_fa; exact fa_sC (by decide); exact rfl; exact rfl; apply wl_take; exact rfl; exact rfl; exact rfl; refine bF ?_; (with_reducible assumption); apply wl_val; apply opv_ldX; exact rfl; assumption; exact c1_int; exact rfl; exact rfl; apply wl_take; exact rfl; exact rfl; exact rfl; refine bF ?_; (with_reducible assumption); refine wl_bin rfl rfl bin_gtr rfl ?_; apply wl_val; apply opv_pickF; exact rfl; refine bF ?_; (with_reducible assumption); exact rfl; exact rfl; refine wl_nil ?_; refine we_cut _ ⟨rfl, rfl⟩ ⟨congrArg (fun b => some (Value.bool b)) ?e2_1, ?s2_1⟩; (case e2_1 => ((simp [hc0]; done))); (case s2_1 => (refine And.intro rfl ?_; refine And.intro rfl ?_; refine And.intro rfl ?_; refine And.intro rfl ?_; refine And.intro rfl ?_; refine And.intro rfl ?_; refine And.intro rfl ?_; exact True.intro)))))); dsimp only [List.drop]
  refine wl_ns ?_
  refine wc_cond rfl (fun h1 => ?_) (fun h1 => ?_)
  · refine wc_sr ?_; refine wl_as rfl rfl ?_; refine wl_ns ?_; refine wc_ret ?_; refine we_seq_ret ?_
    exact we_ret1 rfl rfl ⟨_, rfl, congrArg Value.bool (by rw [goodC, Bool.eq_iff_iff]; simp only [decide_eq_true_eq, Bool.false_eq_true, false_iff]; omega), hb1⟩
  refine wc_skip ?_; refine we_seq ?_; refine wc_sr ?_; apply wl_val; apply opv_fa; exact fa_sC (by decide); exact rfl; exact rfl; apply wl_val; apply opv_ldX; exact rfl; assumption; exact c1_int; exact rfl; exact rfl; refine wl_bin rfl rfl bin_eql rfl ?_; refine wl_mv rfl rfl ?_
  refine wl_cutV 4 18 (.bool (decide ((x.kind = 1) ∨ (x.tr = false)))) ?c11 ?_; (case c11 => (dsimp only [List.take]; by_cases hc0 : (x.kind = 1); (focus (apply wl_skip; exact rfl; exact rfl; exact rfl; refine bTn ?_; (with_reducible assumption); exact rfl; apply wl_skip; exact rfl; exact rfl; exact rfl; refine bTn ?_; (with_reducible assumption); exact rfl; apply wl_skip; exact rfl; exact rfl; exact rfl; refine bTn ?_; (with_reducible assumption); exact rfl; apply wl_val; apply opv_pickT; exact rfl; refine bT ?_; (with_reducible assumption); exact rfl; exact rfl; refine wl_nil ?_; refine we_cut _ ⟨rfl, rfl⟩ ⟨congrArg (fun b => some (Value.bool b)) ?e11_0, ?s11_0⟩; (case e11_0 => ((simp [hc0]; done))); (case s11_0 => (refine And.intro rfl ?_; refine And.intro rfl ?_; refine And.intro rfl ?_; refine And.intro rfl ?_; refine And.intro rfl ?_; refine And.intro rfl ?_; refine And.intro rfl ?_; refine And.intro rfl ?_; refine And.intro rfl ?_; refine And.intro rfl ?_; refine And.intro rfl ?_; refine And.intro rfl ?_; exact True.intro)))); (focus (apply wl_take; exact rfl; exact rfl; exact rfl; refine bF ?_; (with_reducible assumption); apply wl_val; apply opv_fa; exact fa_sC (by decide); exact rfl; exact rfl; apply wl_take; exact rfl; exact rfl; exact rfl; refine bF ?_; (with_reducible assumption); apply wl_val; apply opv_ldX; exact rfl; assumption; exact c1_bool; exact rfl; exact rfl; apply wl_take; exact rfl; exact rfl; exact rfl; refine bF ?_; (with_reducible assumption); apply wl_val; apply opv_not; exact rfl; exact rfl; apply wl_val; apply opv_pickF; exact rfl; refine bF ?_; (with_reducible assumption); exact rfl; exact rfl; refine wl_nil ?_; refine we_cut _ ⟨rfl, rfl⟩ ⟨congrArg (fun b => some (Value.bool b)) ?e11_1, ?s11_1⟩; (case e11_1 => ((simp [hc0]; done))); (case s11_1 => (refine And.intro rfl ?_; refine And.intro rfl ?_; refine And.intro rfl ?_; refine And.intro rfl ?_; refine And.intro rfl ?_; refine And.intro rfl ?_; refine And.intro rfl ?_; refine And.intro rfl ?_; refine And.intro rfl ?_; refine And.intro rfl ?_; refine And.intro rfl ?_; refine And.intro rfl ?_; exact True.intro)))))); dsimp only [List.drop]
  refine wl_mv rfl rfl ?_
  refine wl_cutV 9 28 (.bool (decide ((x.kind = 1 ∨ x.tr = false) ∧ (x.kind = 2 ∨ x.num = 0)))) ?c18 ?_; (case c18 => (dsimp only [List.take]; by_cases hc0 : (x.kind = 1 ∨ x.tr = false); (focus (by_cases hc1 : (x.kind = 2); (focus (apply wl_take; exact rfl; exact rfl; exact rfl; refine bT ?_; (with_reducible assumption); apply wl_val; apply opv_fa; exact fa_sC (by decide); exact rfl; exact rfl; apply wl_take; exact rfl; exact rfl; exact rfl; refine bT ?_; (with_reducible assumption); apply wl_val; apply opv_ldX; exact rfl; assumption; exact c1_int; exact rfl; exact rfl; apply wl_take; exact rfl; exact rfl; exact rfl; refine bT ?_; (with_reducible assumption); refine wl_bin rfl rfl bin_eql rfl ?_; apply wl_take; exact rfl; exact rfl; exact rfl; refine bT ?_; (with_reducible assumption); refine wl_mv rfl rfl ?_; apply wl_skip; exact rfl; exact rfl; exact rfl; refine bTn ?_; (with_reducible assumption); exact rfl; apply wl_skip; exact rfl; exact rfl; exact rfl; refine bTn ?_; (with_reducible assumption); exact rfl; apply wl_skip; exact rfl; exact rfl; exact rfl; refine bTn ?_; (with_reducible assumption); exact rfl; apply wl_take; exact rfl; exact rfl; exact rfl; refine bT ?_; (with_reducible assumption); apply wl_val; apply opv_pickT; exact rfl; refine bT ?_; (with_reducible assumption); exact rfl; exact rfl; apply wl_val; apply opv_pickT; exact rfl; refine bT ?_; (with_reducible assumption); exact rfl; exact rfl; refine wl_nil ?_; refine we_cut _ ⟨rfl, rfl⟩ ⟨congrArg (fun b => some (Value.bool b)) ?e18_0, ?s18_0⟩; (case e18_0 => ((simp_all; done))); (case s18_0 => (refine And.intro rfl ?_; refine And.intro rfl ?_; refine And.intro rfl ?_; refine And.intro rfl ?_; refine And.intro rfl ?_; refine And.intro rfl ?_; refine And.intro rfl ?_; refine And.intro rfl ?_; refine And.intro rfl ?_; refine And.intro rfl ?_; refine And.intro rfl ?_; refine And.intro rfl ?_; refine And.intro rfl ?_; refine And.intro rfl ?_; exact True.intro)))); (focus (apply wl_take; exact rfl; exact rfl; exact rfl; refine bT ?_; (with_reducible assumption); apply wl_val; apply opv_fa; exact fa_sC (by decide); exact rfl; exact rfl; apply wl_take; exact rfl; exact rfl; exact rfl; refine bT ?_; (with_reducible assumption); apply wl_val; apply opv_ldX; exact rfl; assumption; exact c1_int; exact rfl; exact rfl; apply wl_take; exact rfl; exact rfl; exact rfl; refine bT ?_; (with_reducible assumption); refine wl_bin rfl rfl bin_eql rfl ?_; apply wl_take; exact rfl; exact rfl; exact rfl; refine bT ?_; (with_reducible assumption); refine wl_mv rfl rfl ?_; apply wl_take; exact rfl; exact rfl; exact rfl; refine bF ?_; (with_reducible assumption); apply wl_val; apply opv_fa; exact fa_sC (by decide); exact rfl; exact rfl; apply wl_take; exact rfl; exact rfl; exact rfl; refine bF ?_; (with_reducible assumption); apply wl_val; apply opv_ldX; exact rfl; assumption; exact c1_i64; exact rfl; exact rfl; apply wl_take; exact rfl; exact rfl; exact rfl; refine bF ?_; (with_reducible assumption); refine wl_bin rfl rfl bin_eql rfl ?_; apply wl_take; exact rfl; exact rfl; exact rfl; refine bT ?_; (with_reducible assumption); apply wl_val; apply opv_pickF; exact rfl; refine bF ?_; (with_reducible assumption); exact rfl; exact rfl; apply wl_val; apply opv_pickT; exact rfl; refine bT ?_; (with_reducible assumption); exact rfl; exact rfl; refine wl_nil ?_; refine we_cut _ ⟨rfl, rfl⟩ ⟨congrArg (fun b => some (Value.bool b)) ?e18_1, ?s18_1⟩; (case e18_1 => ((simp [hc0, hc1]; done))); (case s18_1 => (refine And.intro rfl ?_; refine And.intro rfl ?_; refine And.intro rfl ?_; refine And.intro rfl ?_; refine And.intro rfl ?_; refine And.intro rfl ?_; refine And.intro rfl ?_; refine And.intro rfl ?_; refine And.intro rfl ?_; refine And.intro rfl ?_; refine And.intro rfl ?_; refine And.intro rfl ?_; refine And.intro rfl ?_; refine And.intro rfl ?_; exact True.intro)))))); (focus (by_cases hc1 : (x.kind = 2); (focus (apply wl_skip; exact rfl; exact rfl; exact rfl; refine bFn ?_; (with_reducible assumption); exact rfl; apply wl_skip; exact rfl; exact rfl; exact rfl; refine bFn ?_; (with_reducible assumption); exact rfl; apply wl_skip; exact rfl; exact rfl; exact rfl; refine bFn ?_; (with_reducible assumption); exact rfl; apply wl_skip; exact rfl; exact rfl; exact rfl; refine bFn ?_; (with_reducible assumption); exact rfl; apply wl_skipU; exact rfl; exact rfl; exact rfl; exact rfl; apply wl_skipU; exact rfl; exact rfl; exact rfl; exact rfl; apply wl_skipU; exact rfl; exact rfl; exact rfl; exact rfl; apply wl_skip; exact rfl; exact rfl; exact rfl; refine bFn ?_; (with_reducible assumption); exact rfl; apply wl_val; apply opv_pickF; exact rfl; refine bF ?_; (with_reducible assumption); exact rfl; exact rfl; refine wl_nil ?_; refine we_cut _ ⟨rfl, rfl⟩ ⟨congrArg (fun b => some (Value.bool b)) ?e18_2, ?s18_2⟩; (case e18_2 => ((simp_all; done))); (case s18_2 => (refine And.intro rfl ?_; refine And.intro rfl ?_; refine And.intro rfl ?_; refine And.intro rfl ?_; refine And.intro rfl ?_; refine And.intro rfl ?_; refine And.intro rfl ?_; refine And.intro rfl ?_; refine And.intro rfl ?_; refine And.intro rfl ?_; refine And.intro rfl ?_; refine And.intro rfl ?_; refine And.intro rfl ?_; refine And.intro rfl ?_; exact True.intro)))); (focus (apply wl_skip; exact rfl; exact rfl; exact rfl; refine bFn ?_; (with_reducible assumption); exact rfl; apply wl_skip; exact rfl; exact rfl; exact rfl; refine bFn ?_; (with_reducible assumption); exact rfl; apply wl_skip; exact rfl; exact rfl; exact rfl; refine bFn ?_; (with_reducible assumption); exact rfl; apply wl_skip; exact rfl; exact rfl; exact rfl; refine bFn ?_; (with_reducible assumption); exact rfl; apply wl_skipU; exact rfl; exact rfl; exact rfl; exact rfl; apply wl_skipU; exact rfl; exact rfl; exact rfl; exact rfl; apply wl_skipU; exact rfl; exact rfl; exact rfl; exact rfl; apply wl_skip; exact rfl; exact rfl; exact rfl; refine bFn ?_; (with_reducible assumption); exact rfl; apply wl_val; apply opv_pickF; exact rfl; refine bF ?_; (with_reducible assumption); exact rfl; exact rfl; refine wl_nil ?_; refine we_cut _ ⟨rfl, rfl⟩ ⟨congrArg (fun b => some (Value.bool b)) ?e18_3, ?s18_3⟩; (case e18_3 => ((simp [hc0, hc1]; done))); (case s18_3 => (refine And.intro rfl ?_; refine And.intro rfl ?_; refine And.intro rfl ?_; refine And.intro rfl ?_; refine And.intro rfl ?_; refine And.intro rfl ?_; refine And.intro rfl ?_; refine And.intro rfl ?_; refine And.intro rfl ?_; refine And.intro rfl ?_; refine And.intro rfl ?_; refine And.intro rfl ?_; refine And.intro rfl ?_; refine And.intro rfl ?_; exact True.intro)))))))); dsimp only [List.drop]
  refine wl_mv rfl rfl ?_
  refine wl_cutV 9 38 (.bool (decide (((x.kind = 1 ∨ x.tr = false) ∧ (x.kind = 2 ∨ x.num = 0)) ∧ (x.kind = 3 ∨ x.text = [])))) ?c31 ?_; (case c31 => (dsimp only [List.take]; by_cases hc0 : ((x.kind = 1 ∨ x.tr = false) ∧ (x.kind = 2 ∨ x.num = 0)); (focus (by_cases hc1 : (x.kind = 3); (focus (apply wl_take; exact rfl; exact rfl; exact rfl; refine bT ?_; (with_reducible assumption); apply wl_val; apply opv_fa; exact fa_sC (by decide); exact rfl; exact rfl; apply wl_take; exact rfl; exact rfl; exact rfl; refine bT ?_; (with_reducible assumption); apply wl_val; apply opv_ldX; exact rfl; assumption; exact c1_int; exact rfl; exact rfl; apply wl_take; exact rfl; exact rfl; exact rfl; refine bT ?_; (with_reducible assumption); refine wl_bin rfl rfl bin_eql rfl ?_; apply wl_take; exact rfl; exact rfl; exact rfl; refine bT ?_; (with_reducible assumption); refine wl_mv rfl rfl ?_; apply wl_skip; exact rfl; exact rfl; exact rfl; refine bTn ?_; (with_reducible assumption); exact rfl; apply wl_skip; exact rfl; exact rfl; exact rfl; refine bTn ?_; (with_reducible assumption); exact rfl; apply wl_skip; exact rfl; exact rfl; exact rfl; refine bTn ?_; (with_reducible assumption); exact rfl; apply wl_take; exact rfl; exact rfl; exact rfl; refine bT ?_; (with_reducible assumption); apply wl_val; apply opv_pickT; exact rfl; refine bT ?_; (with_reducible assumption); exact rfl; exact rfl; apply wl_val; apply opv_pickT; exact rfl; refine bT ?_; (with_reducible assumption); exact rfl; exact rfl; refine wl_nil ?_; refine we_cut _ ⟨rfl, rfl⟩ ⟨congrArg (fun b => some (Value.bool b)) ?e31_0, ?s31_0⟩; (case e31_0 => ((simp_all; done))); (case s31_0 => (refine And.intro rfl ?_; refine And.intro rfl ?_; refine And.intro rfl ?_; refine And.intro rfl ?_; refine And.intro rfl ?_; refine And.intro rfl ?_; refine And.intro rfl ?_; refine And.intro rfl ?_; refine And.intro rfl ?_; refine And.intro rfl ?_; refine And.intro rfl ?_; refine And.intro rfl ?_; refine And.intro rfl ?_; refine And.intro rfl ?_; refine And.intro rfl ?_; refine And.intro rfl ?_; exact True.intro)))); (focus (apply wl_take; exact rfl; exact rfl; exact rfl; refine bT ?_; (with_reducible assumption); apply wl_val; apply opv_fa; exact fa_sC (by decide); exact rfl; exact rfl; apply wl_take; exact rfl; exact rfl; exact rfl; refine bT ?_; (with_reducible assumption); apply wl_val; apply opv_ldX; exact rfl; assumption; exact c1_int; exact rfl; exact rfl; apply wl_take; exact rfl; exact rfl; exact rfl; refine bT ?_; (with_reducible assumption); refine wl_bin rfl rfl bin_eql rfl ?_; apply wl_take; exact rfl; exact rfl; exact rfl; refine bT ?_; (with_reducible assumption); refine wl_mv rfl rfl ?_; apply wl_take; exact rfl; exact rfl; exact rfl; refine bF ?_; (with_reducible assumption); apply wl_val; apply opv_fa; exact fa_sC (by decide); exact rfl; exact rfl; apply wl_take; exact rfl; exact rfl; exact rfl; refine bF ?_; (with_reducible assumption); apply wl_val; apply opv_ldX; exact rfl; assumption; exact c1_str; exact rfl; exact rfl; apply wl_take; exact rfl; exact rfl; exact rfl; refine bF ?_; (with_reducible assumption); refine wl_bin rfl rfl bin_eqlS rfl ?_; apply wl_take; exact rfl; exact rfl; exact rfl; refine bT ?_; (with_reducible assumption); apply wl_val; apply opv_pickF; exact rfl; refine bF ?_; (with_reducible assumption); exact rfl; exact rfl; apply wl_val; apply opv_pickT; exact rfl; refine bT ?_; (with_reducible assumption); exact rfl; exact rfl; refine wl_nil ?_; refine we_cut _ ⟨rfl, rfl⟩ ⟨congrArg (fun b => some (Value.bool b)) ?e31_1, ?s31_1⟩; (case e31_1 => ((simp [hc0, hc1]; done))); (case s31_1 => (refine And.intro rfl ?_; refine And.intro rfl ?_; refine And.intro rfl ?_; refine And.intro rfl ?_; refine And.intro rfl ?_; refine And.intro rfl ?_; refine And.intro rfl ?_; refine And.intro rfl ?_; refine And.intro rfl ?_; refine And.intro rfl ?_; refine And.intro rfl ?_; refine And.intro rfl ?_; refine And.intro rfl ?_; refine And.intro rfl ?_; refine And.intro rfl ?_; refine And.intro rfl ?_; exact True.intro)))))); (focus (by_cases hc1 : (x.kind = 3); (focus (apply wl_skip; exact rfl; exact rfl; exact rfl; refine bFn ?_; (with_reducible assumption); exact rfl; apply wl_skip; exact rfl; exact rfl; exact rfl; refine bFn ?_; (with_reducible assumption); exact rfl; apply wl_skip; exact rfl; exact rfl; exact rfl; refine bFn ?_; (with_reducible assumption); exact rfl; apply wl_skip; exact rfl; exact rfl; exact rfl; refine bFn ?_; (with_reducible assumption); exact rfl; apply wl_skipU; exact rfl; exact rfl; exact rfl; exact rfl; apply wl_skipU; exact rfl; exact rfl; exact rfl; exact rfl; apply wl_skipU; exact rfl; exact rfl; exact rfl; exact rfl; apply wl_skip; exact rfl; exact rfl; exact rfl; refine bFn ?_; (with_reducible assumption); exact rfl; apply wl_val; apply opv_pickF; exact rfl; refine bF ?_; (with_reducible assumption); exact rfl; exact rfl; refine wl_nil ?_; refine we_cut _ ⟨rfl, rfl⟩ ⟨congrArg (fun b => some (Value.bool b)) ?e31_2, ?s31_2⟩; (case e31_2 => ((simp_all; done))); (case s31_2 => (refine And.intro rfl ?_; refine And.intro rfl ?_; refine And.intro rfl ?_; refine And.intro rfl ?_; refine And.intro rfl ?_; refine And.intro rfl ?_; refine And.intro rfl ?_; refine And.intro rfl ?_; refine And.intro rfl ?_; refine And.intro rfl ?_; refine And.intro rfl ?_; refine And.intro rfl ?_; refine And.intro rfl ?_; refine And.intro rfl ?_; refine And.intro rfl ?_; refine And.intro rfl ?_; exact True.intro)))); (focus (apply wl_skip; exact rfl; exact rfl; exact rfl; refine bFn ?_; (with_reducible assumption); exact rfl; apply wl_skip; exact rfl; exact rfl; exact rfl; refine bFn ?_; (with_reducible assumption); exact rfl; apply wl_skip; exact rfl; exact rfl; exact rfl; refine bFn ?_; (with_reducible assumption); exact rfl; apply wl_skip; exact rfl; exact rfl; exact rfl; refine bFn ?_; (with_reducible assumption); exact rfl; apply wl_skipU; exact rfl; exact rfl; exact rfl; exact rfl; apply wl_skipU; exact rfl; exact rfl; exact rfl; exact rfl; apply wl_skipU; exact rfl; exact rfl; exact rfl; exact rfl; apply wl_skip; exact rfl; exact rfl; exact rfl; refine bFn ?_; (with_reducible assumption); exact rfl; apply wl_val; apply opv_pickF; exact rfl; refine bF ?_; (with_reducible assumption); exact rfl; exact rfl; refine wl_nil ?_; refine we_cut _ ⟨rfl, rfl⟩ ⟨congrArg (fun b => some (Value.bool b)) ?e31_3, ?s31_3⟩; (case e31_3 => ((simp [hc0, hc1]; done))); (case s31_3 => (refine And.intro rfl ?_; refine And.intro rfl ?_; refine And.intro rfl ?_; refine And.intro rfl ?_; refine And.intro rfl ?_; refine And.intro rfl ?_; refine And.intro rfl ?_; refine And.intro rfl ?_; refine And.intro rfl ?_; refine And.intro rfl ?_; refine And.intro rfl ?_; refine And.intro rfl ?_; refine And.intro rfl ?_; refine And.intro rfl ?_; refine And.intro rfl ?_; refine And.intro rfl ?_; exact True.intro)))))))); dsimp only [List.drop]
  refine wl_mv rfl rfl ?_
  refine wl_cutV 10 49 (.bool (decide ((((x.kind = 1 ∨ x.tr = false) ∧ (x.kind = 2 ∨ x.num = 0)) ∧ (x.kind = 3 ∨ x.text = [])) ∧ (x.kind = 4 ∨ (x.data.length : Int) = 0)))) ?c44 ?_; (case c44 => (dsimp only [List.take]; by_cases hc0 : (((x.kind = 1 ∨ x.tr = false) ∧ (x.kind = 2 ∨ x.num = 0)) ∧ (x.kind = 3 ∨ x.text = [])); (focus (by_cases hc1 : (x.kind = 4); (focus (apply wl_take; exact rfl; exact rfl; exact rfl; refine bT ?_; (with_reducible assumption); apply wl_val; apply opv_fa; exact fa_sC (by decide); exact rfl; exact rfl; apply wl_take; exact rfl; exact rfl; exact rfl; refine bT ?_; (with_reducible assumption); apply wl_val; apply opv_ldX; exact rfl; assumption; exact c1_int; exact rfl; exact rfl; apply wl_take; exact rfl; exact rfl; exact rfl; refine bT ?_; (with_reducible assumption); refine wl_bin rfl rfl bin_eql rfl ?_; apply wl_take; exact rfl; exact rfl; exact rfl; refine bT ?_; (with_reducible assumption); refine wl_mv rfl rfl ?_; apply wl_skip; exact rfl; exact rfl; exact rfl; refine bTn ?_; (with_reducible assumption); exact rfl; apply wl_skip; exact rfl; exact rfl; exact rfl; refine bTn ?_; (with_reducible assumption); exact rfl; apply wl_skip; exact rfl; exact rfl; exact rfl; refine bTn ?_; (with_reducible assumption); exact rfl; apply wl_skip; exact rfl; exact rfl; exact rfl; refine bTn ?_; (with_reducible assumption); exact rfl; apply wl_take; exact rfl; exact rfl; exact rfl; refine bT ?_; (with_reducible assumption); apply wl_val; apply opv_pickT; exact rfl; refine bT ?_; (with_reducible assumption); exact rfl; exact rfl; apply wl_val; apply opv_pickT; exact rfl; refine bT ?_; (with_reducible assumption); exact rfl; exact rfl; refine wl_nil ?_; refine we_cut _ ⟨rfl, rfl⟩ ⟨congrArg (fun b => some (Value.bool b)) ?e44_0, ?s44_0⟩; (case e44_0 => ((simp_all; done))); (case s44_0 => (refine And.intro rfl ?_; refine And.intro rfl ?_; refine And.intro rfl ?_; refine And.intro rfl ?_; refine And.intro rfl ?_; refine And.intro rfl ?_; refine And.intro rfl ?_; refine And.intro rfl ?_; refine And.intro rfl ?_; refine And.intro rfl ?_; refine And.intro rfl ?_; refine And.intro rfl ?_; refine And.intro rfl ?_; refine And.intro rfl ?_; refine And.intro rfl ?_; refine And.intro rfl ?_; refine And.intro rfl ?_; refine And.intro rfl ?_; exact True.intro)))); (focus (apply wl_take; exact rfl; exact rfl; exact rfl; refine bT ?_; (with_reducible assumption); apply wl_val; apply opv_fa; exact fa_sC (by decide); exact rfl; exact rfl; apply wl_take; exact rfl; exact rfl; exact rfl; refine bT ?_; (with_reducible assumption); apply wl_val; apply opv_ldX; exact rfl; assumption; exact c1_int; exact rfl; exact rfl; apply wl_take; exact rfl; exact rfl; exact rfl; refine bT ?_; (with_reducible assumption); refine wl_bin rfl rfl bin_eql rfl ?_; apply wl_take; exact rfl; exact rfl; exact rfl; refine bT ?_; (with_reducible assumption); refine wl_mv rfl rfl ?_; apply wl_take; exact rfl; exact rfl; exact rfl; refine bF ?_; (with_reducible assumption); apply wl_val; apply opv_fa; exact fa_sC (by decide); exact rfl; exact rfl; apply wl_take; exact rfl; exact rfl; exact rfl; refine bF ?_; (with_reducible assumption); apply wl_val; apply opv_ldX; exact rfl; assumption; exact c1_by; exact rfl; exact rfl; apply wl_take; exact rfl; exact rfl; exact rfl; refine bF ?_; (with_reducible assumption); apply wl_val; apply opv_len; exact rfl; exact tyB.sl; exact rfl; apply wl_take; exact rfl; exact rfl; exact rfl; refine bF ?_; (with_reducible assumption); refine wl_bin rfl rfl bin_eql rfl ?_; apply wl_take; exact rfl; exact rfl; exact rfl; refine bT ?_; (with_reducible assumption); apply wl_val; apply opv_pickF; exact rfl; refine bF ?_; (with_reducible assumption); exact rfl; exact rfl; apply wl_val; apply opv_pickT; exact rfl; refine bT ?_; (with_reducible assumption); exact rfl; exact rfl; refine wl_nil ?_; refine we_cut _ ⟨rfl, rfl⟩ ⟨congrArg (fun b => some (Value.bool b)) ?e44_1, ?s44_1⟩; (case e44_1 => ((simp [hc0, hc1]; done))); (case s44_1 => (refine And.intro rfl ?_; refine And.intro rfl ?_; refine And.intro rfl ?_; refine And.intro rfl ?_; refine And.intro rfl ?_; refine And.intro rfl ?_; refine And.intro rfl ?_; refine And.intro rfl ?_; refine And.intro rfl ?_; refine And.intro rfl ?_; refine And.intro rfl ?_; refine And.intro rfl ?_; refine And.intro rfl ?_; refine And.intro rfl ?_; refine And.intro rfl ?_; refine And.intro rfl ?_; refine And.intro rfl ?_; refine And.intro rfl ?_; exact True.intro)))))); (focus (by_cases hc1 : (x.kind = 4); (focus (apply wl_skip; exact rfl; exact rfl; exact rfl; refine bFn ?_; (with_reducible assumption); exact rfl; apply wl_skip; exact rfl; exact rfl; exact rfl; refine bFn ?_; (with_reducible assumption); exact rfl; apply wl_skip; exact rfl; exact rfl; exact rfl; refine bFn ?_; (with_reducible assumption); exact rfl; apply wl_skip; exact rfl; exact rfl; exact rfl; refine bFn ?_; (with_reducible assumption); exact rfl; apply wl_skipU; exact rfl; exact rfl; exact rfl; exact rfl; apply wl_skipU; exact rfl; exact rfl; exact rfl; exact rfl; apply wl_skipU; exact rfl; exact rfl; exact rfl; exact rfl; apply wl_skipU; exact rfl; exact rfl; exact rfl; exact rfl; apply wl_skip; exact rfl; exact rfl; exact rfl; refine bFn ?_; (with_reducible assumption); exact rfl; apply wl_val; apply opv_pickF; exact rfl; refine bF ?_; (with_reducible assumption); exact rfl; exact rfl; refine wl_nil ?_; refine we_cut _ ⟨rfl, rfl⟩ ⟨congrArg (fun b => some (Value.bool b)) ?e44_2, ?s44_2⟩; (case e44_2 => ((simp_all; done))); (case s44_2 => (refine And.intro rfl ?_; refine And.intro rfl ?_; refine And.intro rfl ?_; refine And.intro rfl ?_; refine And.intro rfl ?_; refine And.intro rfl ?_; refine And.intro rfl ?_; refine And.intro rfl ?_; refine And.intro rfl ?_; refine And.intro rfl ?_; refine And.intro rfl ?_; refine And.intro rfl ?_; refine And.intro rfl ?_; refine And.intro rfl ?_; refine And.intro rfl ?_; refine And.intro rfl ?_; refine And.intro rfl ?_; refine And.intro rfl ?_; exact True.intro)))); (focus (apply wl_skip; exact rfl; exact rfl; exact rfl; refine bFn ?_; (with_reducible assumption); exact rfl; apply wl_skip; exact rfl; exact rfl; exact rfl; refine bFn ?_; (with_reducible assumption); exact rfl; apply wl_skip; exact rfl; exact rfl; exact rfl; refine bFn ?_; (with_reducible assumption); exact rfl; apply wl_skip; exact rfl; exact rfl; exact rfl; refine bFn ?_; (with_reducible assumption); exact rfl; apply wl_skipU; exact rfl; exact rfl; exact rfl; exact rfl; apply wl_skipU; exact rfl; exact rfl; exact rfl; exact rfl; apply wl_skipU; exact rfl; exact rfl; exact rfl; exact rfl; apply wl_skipU; exact rfl; exact rfl; exact rfl; exact rfl; apply wl_skip; exact rfl; exact rfl; exact rfl; refine bFn ?_; (with_reducible assumption); exact rfl; apply wl_val; apply opv_pickF; exact rfl; refine bF ?_; (with_reducible assumption); exact rfl; exact rfl; refine wl_nil ?_; refine we_cut _ ⟨rfl, rfl⟩ ⟨congrArg (fun b => some (Value.bool b)) ?e44_3, ?s44_3⟩; (case e44_3 => ((simp [hc0, hc1]; done))); (case s44_3 => (refine And.intro rfl ?_; refine And.intro rfl ?_; refine And.intro rfl ?_; refine And.intro rfl ?_; refine And.intro rfl ?_; refine And.intro rfl ?_; refine And.intro rfl ?_; refine And.intro rfl ?_; refine And.intro rfl ?_; refine And.intro rfl ?_; refine And.intro rfl ?_; refine And.intro rfl ?_; refine And.intro rfl ?_; refine And.intro rfl ?_; refine And.intro rfl ?_; refine And.intro rfl ?_; refine And.intro rfl ?_; refine And.intro rfl ?_; exact True.intro)))))))); dsimp only [List.drop]
  refine wl_as rfl rfl ?_; refine wl_ns ?_; refine wc_ret ?_
  refine we_ret1 rfl rfl ⟨_, rfl, congrArg Value.bool ?_, hb1⟩
  have e : ((x.data.length : Int) = 0) ↔ x.data = [] := by rw [← List.length_eq_zero_iff]; omega
  rw [goodC, decide_eq_decide, e]
  constructor
  · rintro ⟨⟨⟨h, h'⟩, h2⟩, h3⟩; exact ⟨by omega, by omega, h, h', h2, h3⟩
  · rintro ⟨_, _, h, h', h2, h3⟩; exact ⟨⟨⟨h, h'⟩, h2⟩, h3⟩
end Go.Proofs.Ytcjiecclmepboaa


/-
  Walks over the smallest functions of layer 1: Copy, Equal, Cmp of the references, PutU of both.
-/
namespace Go.Proofs.Ytcjiecclmepboaa
open Go.RowKit

theorem copy_any {A : Option Addr} {n c : Nat} {xs : List UInt8} {w : World} (hr : RdB w A xs) (hn : xs.length = n) (hl : xs.length ≤ 140737488355328) : CallsV Try.prog 25 #[.slice A n c] w (RetB w xs) := by
  subst hn
  refine calls_in (N := _) Try.func25 rfl Try.ntmps25 rfl ?_; show WC _ _ _ _ _ _
  refine wc_sr ?_; refine wl_as rfl rfl ?_; refine wl_ns ?_; refine wc_sr ?_
  refine wl_bs (vs := []) tyB trivial rfl (by decide) rfl fun A1 w1 ho hb _ => ?_
  refine wl_mv rfl rfl ?_
  refine wl_app tyB rfl ho rfl (RdB.below hr hb) (bvs_one _) (by omega) (by simp only [maxLen]; omega) hb.size rfl fun A' c' w' ho' hg _ => ?_
  refine wl_as rfl rfl ?_; refine wl_ns ?_; refine wc_ret ?_
  refine we_ret1 rfl rfl ⟨_, rfl, A', c', by simp, ?_, ?_⟩
  · have := ho'; simp only [Nat.zero_add, List.nil_append] at this; exact this
  · exact hg.below hb ho (Nat.le_refl _) hb.size

theorem equal_any {A B : Option Addr} {n m c d : Nat} {xs ys : List UInt8} {w : World} (hx : RdB w A xs) (hy : RdB w B ys) (hn : xs.length = n) (hm : ys.length = m) (hlx : xs.length ≤ maxLen) :
    CallsV Try.prog 21 #[.slice A n c, .slice B m d] w fun v w' => v = .bool (decide (xs = ys)) ∧ Below w.heap.size w w' := by
  subst hn hm
  simp only [maxLen] at hlx
  refine calls_in (N := _) Try.func21 rfl Try.ntmps21 rfl ?_; show WC _ _ _ _ _ _
  refine wc_sr ?_; refine wl_as rfl rfl ?_; refine wl_ns ?_; refine wc_seq ?_; refine wc_sr ?_; refine wl_mv rfl rfl ?_; apply wl_val; apply opv_len; exact rfl; exact tyB.sl; exact rfl; refine wl_mv rfl rfl ?_; apply wl_val; apply opv_len; exact rfl; exact tyB.sl; exact rfl; refine wl_bin rfl rfl bin_neq rfl ?_; refine wl_ns ?_
  refine wc_cond rfl (fun h => ?_) (fun h => ?_)
  · refine wc_sr ?_; refine wl_as rfl rfl ?_; refine wl_ns ?_; refine wc_ret ?_; refine we_seq_ret ?_
    refine we_ret1 rfl rfl ⟨_, rfl, ?_, Below.refl _ _⟩
    have hne : ¬ xs = ys := fun e => h (by rw [e])
    simp [hne]
  · have hlen : xs.length = ys.length := by omega
    refine wc_skip ?_; refine we_seq ?_; refine wc_seq ?_; refine wc_sr ?_; refine wl_as rfl rfl ?_; refine wl_ns ?_; refine wc_block ?_
    refine wc_loop (fun L wr m => ∃ k : Nat, L = [(0, .slice A xs.length c), (1, .slice B ys.length d), (5, .int .i64 k)] ∧ k ≤ xs.length ∧ xs.take k = ys.take k ∧ Below w.heap.size w wr ∧ m = xs.length - k)
      [(0, .slice A xs.length c), (1, .slice B ys.length d), (5, .int .i64 (0 : Nat))] xs.length ⟨0, rfl, by omega, rfl, Below.refl _ _, rfl⟩ ⟨rfl, rfl, rfl, trivial⟩ ?_
    rintro _ wr m ⟨k, rfl, hk, heq, hbel, rfl⟩
    have hrx := RdB.below hx hbel
    have hry := RdB.below hy hbel
    refine wc_seq ?_; refine wc_sr ?_; refine wl_mv rfl rfl ?_; refine wl_mv rfl rfl ?_; apply wl_val; apply opv_len; exact rfl; exact tyB.sl; exact rfl; refine wl_bin rfl rfl bin_lss rfl ?_; refine wl_ns ?_
    refine wc_cond rfl (fun h1 => ?_) (fun h1 => ?_)
    · refine wc_skip ?_; refine we_seq ?_; refine wc_seq ?_; refine wc_block ?_; refine wc_seq ?_
      refine wc_drawB mixed (by kernel_rfl) ?_
      apply wq_val; intro _ hw_; apply opv_move; exact rfl; exact rfl; apply wq_val; intro _ hw_; apply opv_move; exact rfl; exact rfl
      refine wq_by tyB rfl rfl hrx rfl (by omega) rfl rfl fun p1 x hxk => ?_
      apply wq_val; intro _ hw_; apply opv_move; exact rfl; exact rfl; apply wq_val; intro _ hw_; apply opv_move; exact rfl; exact rfl
      refine wq_by tyB rfl rfl hry rfl (by omega) rfl rfl fun p2 y hyk => ?_
      apply wq_val; intro _ hw_; apply opv_bin; exact rfl; exact rfl; exact bin_neq; exact rfl; refine wq_nil fun w1 hw1 => ?_
      have hb1 := hbel.trans (hw1.mono hbel.size)
      refine we_seq ?_
      refine wc_cond rfl (fun h2 => ?_) (fun h2 => ?_)
      · refine wc_sr ?_; refine wl_as rfl rfl ?_; refine wl_ns ?_; refine wc_ret ?_; refine we_block_ret ?_; refine we_seq_ret ?_; refine we_loop_ret ?_; refine we_block_ret ?_; refine we_seq_ret ?_
        refine we_ret1 rfl rfl ⟨_, rfl, ?_, hb1⟩
        have hne : ¬ xs = ys := fun e => by subst e; rw [hxk] at hyk; cases hyk; exact h2 rfl
        simp [hne]
      · refine wc_skip ?_; refine we_block_norm ?_; refine we_seq ?_; refine wc_region ?_; refine wl_mv rfl rfl ?_; apply wl_val; apply opv_bin; exact rfl; exact rfl; exact bin_add64 (by omega); exact rfl; refine wl_as rfl rfl ?_; refine wl_nil ?_
        refine we_loop [(0, .slice A xs.length c), (1, .slice B ys.length d), (5, .int .i64 (k + 1 : Nat))] (xs.length - (k + 1)) ⟨k + 1, rfl, by omega, ?_, hb1, rfl⟩ (by omega) ⟨rfl, rfl, by simp [lookT], trivial⟩
        have : x = y := UInt8.toNat_inj.1 (by omega)
        rw [take_get hxk, take_get hyk, heq, this]
    · refine wc_exit ?_; refine we_seq_exit ?_; refine we_loop_exit ?_; refine we_block_exit ?_; refine we_seq ?_; refine wc_sr ?_; refine wl_as rfl rfl ?_; refine wl_ns ?_; refine wc_ret ?_
      refine we_ret1 rfl rfl ⟨_, rfl, ?_, hbel⟩
      have hkl : k = xs.length := by omega
      rw [hkl, List.take_length, hlen, List.take_length] at heq
      simp [heq]
theorem equal_yes {A B : Option Addr} {n m c d : Nat} {xs ys : List UInt8} {w : World} (he : xs = ys) (hx : RdB w A xs) (hy : RdB w B ys) (hn : xs.length = n) (hm : ys.length = m) (hlx : xs.length ≤ maxLen) :
    CallsV Try.prog 21 #[.slice A n c, .slice B m d] w fun v w' => v = .bool true ∧ Below w.heap.size w w' :=
  (equal_any hx hy hn hm hlx).mono fun v w' ⟨h, hb⟩ => ⟨by rw [h]; simp [he], hb⟩
end Go.Proofs.Ytcjiecclmepboaa


/-
  Plain functions on lists of bytes, for layer 1 (codec): bytes with an end are read back; numbers of eight bytes; frames; what stands next. Nothing here names the program or the model.
-/
namespace Go.Proofs.Ytcjiecclmepboaa

/-- The bytes at the head of a list: acc is what has been read, n how many bytes that took; bytes, count, error. -/
def gotAux : List UInt8 → Nat → List UInt8 → List UInt8 × Nat × Nat
  | _, _, [] => ([], 0, 5)
  | _, _, [_] => ([], 0, 5)
  | acc, n, x :: y :: r =>
    if x = 0 then (if y = 1 then (acc, n + 2, 0) else if y = 255 then gotAux (acc ++ [0]) (n + 2) r else ([], 0, 3))
    else gotAux (acc ++ [x]) (n + 1) (y :: r)
def getOrd (b : List UInt8) (p : Int) : List UInt8 × Int × Nat :=
  if p < 0 ∨ (b.length : Int) < p then ([], 0, 1) else
  match gotAux [] 0 (b.drop p.toNat) with
  | (xs, k, 0) => (xs, p + k, 0)
  | (_, _, e) => ([], 0, e)

theorem got_nil {acc : List UInt8} {n : Nat} : gotAux acc n [] = ([], 0, 5) := by simp [gotAux]
theorem got_plain {acc : List UInt8} {n : Nat} {x : UInt8} {r : List UInt8} (h : ¬ x = 0) : gotAux acc n (x :: r) = gotAux (acc ++ [x]) (n + 1) r := by
  cases r with
  | nil => simp [gotAux]
  | cons y r => rw [gotAux, if_neg h]
theorem got_end {acc : List UInt8} {n : Nat} {x : UInt8} : gotAux acc n [x] = ([], 0, 5) := by simp [gotAux]
theorem got_fin {acc : List UInt8} {n : Nat} {r : List UInt8} : gotAux acc n (0 :: 1 :: r) = (acc, n + 2, 0) := by simp [gotAux]
theorem got_esc {acc : List UInt8} {n : Nat} {r : List UInt8} : gotAux acc n (0 :: 255 :: r) = gotAux (acc ++ [0]) (n + 2) r := by simp [gotAux]
theorem got_bad {acc : List UInt8} {n : Nat} {y : UInt8} {r : List UInt8} (h1 : ¬ y = 1) (h2 : ¬ y = 255) : gotAux acc n (0 :: y :: r) = ([], 0, 3) := by simp [gotAux, h1, h2]
theorem getOrd_arg {b : List UInt8} {p : Int} (h : ¬ (0 ≤ p ∧ p ≤ b.length)) : getOrd b p = ([], 0, 1) := by
  rw [getOrd, if_pos (by omega)]
theorem getOrd_ok {b xs : List UInt8} {q k : Nat} (hq : q ≤ b.length) (h : gotAux [] 0 (b.drop q) = (xs, k, 0)) : getOrd b q = (xs, (q : Int) + k, 0) := by
  rw [getOrd, if_neg (by omega)]
  simp [h]
theorem getOrd_bad {b : List UInt8} {q e : Nat} (hq : q ≤ b.length) (h : gotAux [] 0 (b.drop q) = ([], 0, e + 1)) : getOrd b q = ([], 0, e + 1) := by
  rw [getOrd, if_neg (by omega)]
  simp [h]
theorem esc_cons (x : UInt8) (r : List UInt8) : esc (x :: r) = (if x = 0 then [0, 255] else [x]) ++ esc r := by simp [esc]
theorem got_ord (t : List UInt8) : ∀ (xs acc : List UInt8) (n : Nat), gotAux acc n (esc xs ++ (0 :: 1 :: t)) = (acc ++ xs, n + (esc xs).length + 2, 0)
  | [], acc, n => by simp [esc, gotAux]
  | x :: xs, acc, n => by
    rw [esc_cons]
    by_cases h : x = 0
    · subst h
      simp only [if_true, List.cons_append, List.nil_append]
      rw [got_esc, got_ord t xs]
      simp; omega
    · simp only [if_neg h, List.cons_append, List.nil_append]
      rw [got_plain h, got_ord t xs]
      simp; omega
theorem getOrd_ordText (xs : List UInt8) : getOrd (ordText xs) 0 = (xs, ((ordText xs).length : Int), 0) := by
  have h := got_ord [] xs [] 0
  have e : gotAux [] 0 ((ordText xs).drop 0) = (xs, (ordText xs).length, 0) := by
    rw [List.drop_zero]; unfold ordText; rw [h]; simp
  have := getOrd_ok (b := ordText xs) (q := 0) (by omega) e
  simpa using this
theorem got_length : ∀ (f : Nat) (l acc : List UInt8) (n : Nat) (xs : List UInt8) (k e : Nat), l.length ≤ f → gotAux acc n l = (xs, k, e) → xs.length ≤ acc.length + l.length
  | f, [], acc, n, xs, k, e, _, h => by rw [got_nil] at h; injection h with h _; subst h; simp
  | 0, _ :: _, _, _, _, _, _, hf, _ => by simp at hf
  | f + 1, [x], acc, n, xs, k, e, _, h => by rw [got_end] at h; injection h with h _; subst h; simp
  | f + 1, x :: y :: r, acc, n, xs, k, e, hf, h => by
    simp only [List.length_cons] at hf
    by_cases h0 : x = 0
    · subst h0
      by_cases h1 : y = 1
      · subst h1; rw [got_fin] at h; injection h with h _; subst h; simp
      · by_cases h2 : y = 255
        · subst h2; rw [got_esc] at h
          have := got_length f r _ _ _ _ _ (by omega) h
          simp at this ⊢; omega
        · rw [got_bad h1 h2] at h; injection h with h _; subst h; simp
    · rw [got_plain h0] at h
      have := got_length f (y :: r) _ _ _ _ _ (by simp; omega) h
      simp at this ⊢; omega
theorem getOrd_length {b xs : List UInt8} {p x : Int} {e : Nat} (h : getOrd b p = (xs, x, e)) : xs.length ≤ b.length := by
  rw [getOrd] at h
  split at h
  · injection h with h _; subst h; simp
  · cases hg : gotAux [] 0 (b.drop p.toNat) with
    | mk ys ke =>
      obtain ⟨k, e'⟩ := ke
      rw [hg] at h
      have := got_length _ _ _ _ _ _ _ (Nat.le_refl _) hg
      rw [List.length_drop] at this
      cases e' with
      | zero => simp only [Prod.mk.injEq] at h; obtain ⟨rfl, _⟩ := h; simp at this; omega
      | succ _ => simp only [Prod.mk.injEq] at h; obtain ⟨rfl, _⟩ := h; simp

/-! ### What stands next -/
def nextB (p : List UInt8) : List UInt8 :=
  match p.reverse.dropWhile (· == 255) with
  | [] => []
  | x :: r => r.reverse ++ [x + 1]
theorem dropWhile_all : ∀ (l r : List UInt8), (∀ y ∈ l, y = 255) → (l ++ r).dropWhile (· == 255) = r.dropWhile (· == 255)
  | [], r, _ => rfl
  | x :: l, r, h => by
    have hx := h x (List.mem_cons_self ..)
    subst hx
    rw [List.cons_append, List.dropWhile_cons_of_pos (by rfl)]
    exact dropWhile_all l r fun y hy => h y (List.mem_cons_of_mem _ hy)
theorem next_none {p : List UInt8} (h : ∀ y ∈ p, y = 255) : nextB p = [] := by
  have := dropWhile_all p.reverse [] (fun y hy => h y (List.mem_reverse.1 hy))
  rw [List.append_nil] at this
  unfold nextB; rw [this]; rfl
theorem next_some {p : List UInt8} {k : Nat} {x : UInt8} (hx : p[k]? = some x) (hne : ¬ x = 255) (h : ∀ y ∈ p.drop (k + 1), y = 255) : nextB p = p.take k ++ [x + 1] := by
  have e : p = p.take k ++ x :: p.drop (k + 1) := by rw [← drop_get hx, List.take_append_drop]
  have e2 : p.reverse = (p.drop (k + 1)).reverse ++ (x :: (p.take k).reverse) := by
    rw [show p.reverse = (p.take k ++ x :: p.drop (k + 1)).reverse by rw [← e]]; simp
  have e3 := dropWhile_all (p.drop (k + 1)).reverse (x :: (p.take k).reverse) (fun y hy => h y (List.mem_reverse.1 hy))
  rw [List.dropWhile_cons_of_neg (by simpa using hne)] at e3
  unfold nextB; rw [e2, e3]; simp
/-- Its form: what stands ahead of the last byte that isn't 255, and that byte raised. -/
theorem next_form (p : List UInt8) : (∀ y ∈ p, y = 255) ∧ nextB p = [] ∨ ∃ t x r, p = t ++ x :: r ∧ ¬ x = 255 ∧ (∀ y ∈ r, y = 255) ∧ nextB p = t ++ [x + 1] := by
  induction p with
  | nil => exact .inl ⟨by simp, rfl⟩
  | cons a p ih =>
    rcases ih with ⟨h, _⟩ | ⟨t, x, r, rfl, hx, hr, _⟩
    · by_cases ha : a = 255
      · have hall : ∀ y ∈ a :: p, y = 255 := by
          intro y hy
          rcases List.mem_cons.1 hy with rfl | hy
          · exact ha
          · exact h y hy
        exact .inl ⟨hall, next_none hall⟩
      · exact .inr ⟨[], a, p, rfl, ha, h, next_some (k := 0) rfl ha (by simpa using h)⟩
    · refine .inr ⟨a :: t, x, r, rfl, hx, hr, ?_⟩
      have := next_some (p := a :: (t ++ x :: r)) (k := t.length + 1) (x := x) (by simp) hx (by simpa using hr)
      rw [this]; simp
theorem lt_succ {x : UInt8} (h : ¬ x = 255) : x < x + 1 := by
  have h1 : x.toNat ≠ 255 := fun e => h (UInt8.toNat_inj.1 e)
  have h2 := x.toNat_lt
  rw [UInt8.lt_iff_toNat_lt, UInt8.toNat_add]
  simp; omega
theorem cmp_pre : ∀ (t a b : List UInt8), cmpB (t ++ a) (t ++ b) = cmpB a b
  | [], _, _ => rfl
  | x :: t, a, b => by rw [List.cons_append, List.cons_append, cmp_same, cmp_pre t]
theorem cmp_next {p tail : List UInt8} (h : nextB p ≠ []) : cmpB (p ++ tail) (nextB p) = -1 := by
  rcases next_form p with ⟨_, h'⟩ | ⟨t, x, r, rfl, hx, hr, hn⟩
  · exact absurd h' h
  · rw [hn, List.append_assoc, cmp_pre, List.cons_append, cmp_lt (lt_succ hx)]
theorem begins_of : ∀ (r o : List UInt8), (∀ y ∈ r, y = 255) → 0 ≤ cmpB o r → o.take r.length = r ∧ r.length ≤ o.length
  | [], o, _, _ => by simp
  | x :: r, [], _, h => by simp [cmpB] at h
  | x :: r, z :: o, hr, h => by
    have hx := hr x (List.mem_cons_self ..)
    subst hx
    by_cases hz : z = 255
    · subst hz
      rw [cmp_same] at h
      have := begins_of r o (fun y hy => hr y (List.mem_cons_of_mem _ hy)) h
      simp [this.1, this.2]
    · have : z < 255 := by
        have h1 : z.toNat ≠ 255 := fun e => hz (UInt8.toNat_inj.1 e)
        have h2 := z.toNat_lt
        rw [UInt8.lt_iff_toNat_lt]; simp; omega
      rw [cmp_lt this] at h; omega
theorem cmp_between : ∀ (t o r : List UInt8) (x : UInt8), ¬ x = 255 → (∀ y ∈ r, y = 255) → 0 ≤ cmpB o (t ++ x :: r) → ¬ (o.take (t ++ x :: r).length = t ++ x :: r ∧ (t ++ x :: r).length ≤ o.length) → 0 ≤ cmpB o (t ++ [x + 1])
  | t, [], r, x, _, _, h, _ => by cases t <;> simp [cmpB] at h
  | [], z :: o, r, x, hx, hr, h, hb => by
    simp only [List.nil_append] at h hb ⊢
    by_cases h1 : z < x
    · rw [cmp_lt h1] at h; omega
    · by_cases h2 : x < z
      · by_cases h3 : x + 1 < z
        · rw [cmp_gt h3]; omega
        · have : z = x + 1 := by
            have h4 : x.toNat ≠ 255 := fun e => hx (UInt8.toNat_inj.1 e)
            have h5 := x.toNat_lt
            have e : (x + 1).toNat = x.toNat + 1 := by rw [UInt8.toNat_add]; simp; omega
            rw [UInt8.lt_iff_toNat_lt] at h2 h3
            exact UInt8.toNat_inj.1 (by omega)
          subst this
          rw [cmp_same]
          cases o <;> simp [cmpB]
      · obtain rfl : z = x := by
          rw [UInt8.lt_iff_toNat_lt] at h1 h2
          exact UInt8.toNat_inj.1 (by omega)
        rw [cmp_same] at h
        have := begins_of r o hr h
        exact absurd (by simp [this.1, this.2]) hb
  | c :: t, z :: o, r, x, hx, hr, h, hb => by
    simp only [List.cons_append] at h hb ⊢
    by_cases h1 : z < c
    · rw [cmp_lt h1] at h; omega
    · by_cases h2 : c < z
      · rw [cmp_gt h2]; omega
      · obtain rfl : z = c := by
          rw [UInt8.lt_iff_toNat_lt] at h1 h2
          exact UInt8.toNat_inj.1 (by omega)
        rw [cmp_same] at h ⊢
        exact cmp_between t o r x hx hr h (fun hh => hb (by simpa using hh))
end Go.Proofs.Ytcjiecclmepboaa


/-
  Walks over bytes.Clone and over Next of the program and of the reference.
-/
namespace Go.Proofs.Ytcjiecclmepboaa
open Go.RowKit

theorem rd_none {w : World} {xs : List UInt8} (h : RdB w none xs) : xs = [] := by
  cases xs with
  | nil => rfl
  | cons x r => obtain ⟨_, _, h, _⟩ := h.2 (by simp); cases h

theorem clone_any {A : Option Addr} {n c : Nat} {xs : List UInt8} {w : World} (hr : RdB w A xs) (hn : xs.length = n) (hl : xs.length ≤ 140737488355328) : CallsV Try.prog 79 #[.slice A n c] w (RetB w xs) := by
  subst hn
  refine calls_in (N := _) Try.func79 rfl Try.ntmps79 rfl ?_; show WC _ _ _ _ _ _
  refine wc_sr ?_; refine wl_as rfl rfl ?_; refine wl_ns ?_; refine wc_seq ?_; refine wc_sr ?_; refine wl_mv rfl rfl ?_
  refine wl_val (opv_bin rfl rfl (bin_eqlSliceNil Try.underlying30)) rfl ?_
  refine wl_ns ?_
  refine wc_condB rfl (fun h => ?_) (fun h => ?_)
  · obtain rfl : A = none := by cases A <;> simp at h ⊢
    obtain rfl := rd_none hr
    refine wc_sr ?_; refine wl_as rfl rfl ?_; refine wl_ns ?_; refine wc_ret ?_; refine we_seq_ret ?_
    exact we_ret1 rfl rfl ⟨_, rfl, none, 0, rfl, Ow.nil _ _ _, Below.refl _ _⟩
  · refine wc_skip ?_; refine we_seq ?_; refine wc_sr ?_
    refine wl_bs (vs := []) tyB trivial rfl (by decide) rfl fun A1 w1 ho hb _ => ?_
    refine wl_mv rfl rfl ?_
    refine wl_app tyB rfl ho rfl (RdB.below hr hb) (bvs_one _) (by omega) (by simp only [maxLen]; omega) hb.size rfl fun A' c' w' ho' hg _ => ?_
    refine wl_as rfl rfl ?_; refine wl_ns ?_; refine wc_ret ?_
    refine we_ret1 rfl rfl ⟨_, rfl, A', c', by simp, ?_, ?_⟩
    · have := ho'; simp only [Nat.zero_add, List.nil_append] at this; exact this
    · exact hg.below hb ho (Nat.le_refl _) hb.size

theorem rd_pre {w : World} {A : Option Addr} {xs : List UInt8} {c h : Nat} (hr : RdB w A xs) (hh : h ≤ xs.length) (hc : xs.length ≤ c) : RdB w (cutA A c 0) (xs.take h) := by
  have := Rd.cut (l := 0) (h := h) hr (by omega) hh hc
  rw [bvs_cut] at this
  simp only [Nat.sub_zero, List.drop_zero] at this
  have e : (xs.take h).length = h := by simp; omega
  unfold RdB; rw [e]; exact this

theorem add1_val (x : UInt8) : Value.int .u8 (((x.toNat + 1) % 2 ^ IntKind.u8.bits : Nat) : Int) = bv (x + 1) := by
  rw [bv, UInt8.toNat_add]; rfl

end Go.Proofs.Ytcjiecclmepboaa


/-
  Walks over twin, Cell and what leans on it: values of any type, and their cells.
-/
namespace Go.Proofs.Ytcjiecclmepboaa
open Go.RowKit

/-- A value that a cell may hold. -/
inductive Va where
  | nil
  | bool (b : Bool)
  | int (n : Int)
  | text (s : List UInt8)
  | bytes (d : List UInt8)
def vaV : Va → Option Addr → Nat → Value
  | .nil, _, _ => .nilIface
  | .bool b, _, _ => .iface 4 (.bool b)
  | .int n, _, _ => .iface 2 (.int .i64 n)
  | .text s, _, _ => .iface 9 (str s)
  | .bytes d, A, c => .iface 30 (.slice A d.length c)
def vaC : Va → Ce
  | .nil => ⟨0, false, 0, [], []⟩
  | .bool b => ⟨1, b, 0, [], []⟩
  | .int n => ⟨2, false, n, [], []⟩
  | .text s => ⟨3, false, 0, s, []⟩
  | .bytes d => ⟨4, false, 0, [], d⟩
def ceVa (x : Ce) : Va := if x.kind = 1 then .bool x.tr else if x.kind = 2 then .int x.num else if x.kind = 3 then .text x.text else if x.kind = 4 then .bytes x.data else .nil
theorem vaC_ceVa {x : Ce} (h : goodC x = true) : vaC (ceVa x) = x := by
  have h := of_decide_eq_true h
  obtain ⟨k, b, n, s, d⟩ := x
  simp only at h
  have hk : k = 0 ∨ k = 1 ∨ k = 2 ∨ k = 3 ∨ k = 4 := by omega
  rcases hk with rfl | rfl | rfl | rfl | rfl <;> simp_all [ceVa, vaC]
/-- A cell and an error, the cell's bytes in new memory. -/
def RetCe (w : World) (x : Ce) (e : Int) (v : Value) (w' : World) : Prop :=
  ∃ (A : Option Addr) (c : Nat), v = .tuple #[.agg (ceV x A c).toArray, .int .i64 e] ∧ OwB w' w.heap.size A c x.data ∧ Below w.heap.size w w'
def zC : List Value := [.int .i64 0, .bool false, .int .i64 0, str [], .slice none 0 0]
theorem zeroC : (Try.prog.info? 53).map (·.zero) = some (some (.agg zC.toArray)) := by kernel_rfl
set_option maxHeartbeats 1000000 in
theorem cell_any {u : Va} {A : Option Addr} {c : Nat} {w : World} (hr : RdB w A (vaC u).data) (hl : (vaC u).data.length ≤ 140737488355328) :
    CallsV Try.prog 38 #[vaV u A c] w (RetCe w (vaC u) 0) := by
  refine calls_in (N := _) Try.func38 rfl Try.ntmps38 rfl ?_; show WC _ _ _ _ _ _
  refine wc_sr ?_
  refine wl_new (cs := zC) zeroC rfl fun g w1 hg a1 hb1 => ?_
  refine wl_as rfl rfl ?_; refine wl_ns ?_; refine wc_sr ?_
  refine wl_val (opv_build (vs := []) (cs := zC) trivial (by kernel_rfl)) rfl ?_
  refine wl_new (cs := zC) zeroC rfl fun g2 w2 hg2 a2 hb2 => ?_
  refine wl_storeS (cs' := zC) sC a2 rfl rfl rfl rfl fun w3 a3 g3 _ => ?_
  have hlt := a1.lt
  have b1 := (a1.bel hb2).grA g3 (fun a ha => by cases ha; exact (show g2 ≠ g by omega))
  have hb3 := g3.belowI (hb1.trans (hb2.mono hb1.size)) (by have := hb1.size; omega) (by have := hb1.size; have := hb2.size; omega)
  clear a1 a2
  unfold zC at a3
  cases u with
  | nil =>
    rw [vaV]
    refine wl_ns ?_; refine wc_seq ?_; refine wc_sr ?_; refine wl_mv rfl rfl ?_; apply wl_val; apply opv_bin; exact rfl; exact rfl; exact bin_eqlNN iAny.2; exact rfl; refine wl_ns ?_; apply wc_condTb; exact rfl; exact rfl; refine wc_sr ?_; apply wl_val; apply opv_loadX; exact rfl; assumption; exact sC; exact rfl
    refine wl_storeS (cs' := zC) sC b1 rfl rfl rfl rfl fun w4 a4 g4 _ => ?_
    have hb4 := g4.belowI hb3 (by omega) hb3.size
    refine wl_as rfl rfl ?_; refine wl_ns ?_; refine wc_ret ?_; refine we_seq_ret ?_
    exact we_retC1 rfl rfl rfl a4 sC ⟨_, rfl, none, 0, rfl, Ow.nil _ _ _, hb4⟩
  | bool b =>
    rw [vaV]
    refine wl_ns ?_; refine wc_seq ?_; refine wc_sr ?_; refine wl_mv rfl rfl ?_; apply wl_val; apply opv_bin; exact rfl; exact rfl; exact bin_eqlIN iAny.1; exact rfl; refine wl_ns ?_; apply wc_condFb; exact rfl; exact rfl; refine wc_skip ?_; refine we_seq ?_; refine wc_seq ?_; refine wc_sr ?_; refine wl_mv rfl rfl ?_; apply wl_val; apply opv_asT; kernel_rfl; exact rfl; exact rfl; refine wl_mv rfl rfl ?_; apply wl_val; apply opv_extract; exact rfl; exact rfl; exact rfl; apply wl_val; apply opv_extract; exact rfl; exact rfl; exact rfl; refine wl_as rfl rfl ?_; refine wl_as rfl rfl ?_; refine wl_ns ?_; refine wc_sr ?_; refine wl_mv rfl rfl ?_; refine wl_ns ?_; apply wc_condTb; exact rfl; exact rfl; refine wc_sr ?_; refine wl_mv rfl rfl ?_
    refine wl_val (opv_build (vs := [(0, .int .i64 1), (1, .bool b)]) (cs := [.int .i64 1, .bool b, .int .i64 0, str [], .slice none 0 0]) ⟨rfl, rfl, rfl, rfl, trivial⟩ (by kernel_rfl)) rfl ?_
    refine wl_storeS (cs' := [.int .i64 1, .bool b, .int .i64 0, str [], .slice none 0 0]) sC b1 rfl rfl rfl rfl fun w4 a4 g4 _ => ?_
    have hb4 := g4.belowI hb3 (by omega) hb3.size
    refine wl_as rfl rfl ?_; refine wl_ns ?_; refine wc_ret ?_; refine we_seq_ret ?_
    exact we_retC1 rfl rfl rfl a4 sC ⟨_, rfl, none, 0, rfl, Ow.nil _ _ _, hb4⟩
  | int n =>
    rw [vaV]
    refine wl_ns ?_; refine wc_seq ?_; refine wc_sr ?_; refine wl_mv rfl rfl ?_; apply wl_val; apply opv_bin; exact rfl; exact rfl; exact bin_eqlIN iAny.1; exact rfl; refine wl_ns ?_; apply wc_condFb; exact rfl; exact rfl; refine wc_skip ?_; refine we_seq ?_; refine wc_seq ?_; refine wc_sr ?_; refine wl_mv rfl rfl ?_; apply wl_val; apply opv_asF; kernel_rfl; exact z_bool; exact rfl; exact rfl; exact rfl; refine wl_mv rfl rfl ?_; apply wl_val; apply opv_extract; exact rfl; exact rfl; exact rfl; apply wl_val; apply opv_extract; exact rfl; exact rfl; exact rfl; refine wl_as rfl rfl ?_; refine wl_as rfl rfl ?_; refine wl_ns ?_; refine wc_sr ?_; refine wl_mv rfl rfl ?_; refine wl_ns ?_; apply wc_condFb; exact rfl; exact rfl; refine wc_skip ?_; refine we_seq ?_; refine wc_seq ?_; refine wc_sr ?_; refine wl_mv rfl rfl ?_; apply wl_val; apply opv_asT; kernel_rfl; exact rfl; exact rfl; refine wl_mv rfl rfl ?_; apply wl_val; apply opv_extract; exact rfl; exact rfl; exact rfl; apply wl_val; apply opv_extract; exact rfl; exact rfl; exact rfl; refine wl_as rfl rfl ?_; refine wl_as rfl rfl ?_; refine wl_ns ?_; refine wc_sr ?_; refine wl_mv rfl rfl ?_; refine wl_ns ?_; apply wc_condTb; exact rfl; exact rfl; refine wc_sr ?_; refine wl_mv rfl rfl ?_
    refine wl_val (opv_build (vs := [(0, .int .i64 2), (2, .int .i64 n)]) (cs := [.int .i64 2, .bool false, .int .i64 n, str [], .slice none 0 0]) ⟨rfl, rfl, rfl, rfl, trivial⟩ (by kernel_rfl)) rfl ?_
    refine wl_storeS (cs' := [.int .i64 2, .bool false, .int .i64 n, str [], .slice none 0 0]) sC b1 rfl rfl rfl rfl fun w4 a4 g4 _ => ?_
    have hb4 := g4.belowI hb3 (by omega) hb3.size
    refine wl_as rfl rfl ?_; refine wl_ns ?_; refine wc_ret ?_; refine we_seq_ret ?_
    exact we_retC1 rfl rfl rfl a4 sC ⟨_, rfl, none, 0, rfl, Ow.nil _ _ _, hb4⟩
  | text s =>
    rw [vaV]
    refine wl_ns ?_; refine wc_seq ?_; refine wc_sr ?_; refine wl_mv rfl rfl ?_; apply wl_val; apply opv_bin; exact rfl; exact rfl; exact bin_eqlIN iAny.1; exact rfl; refine wl_ns ?_; apply wc_condFb; exact rfl; exact rfl; refine wc_skip ?_; refine we_seq ?_; refine wc_seq ?_; refine wc_sr ?_; refine wl_mv rfl rfl ?_; apply wl_val; apply opv_asF; kernel_rfl; exact z_bool; exact rfl; exact rfl; exact rfl; refine wl_mv rfl rfl ?_; apply wl_val; apply opv_extract; exact rfl; exact rfl; exact rfl; apply wl_val; apply opv_extract; exact rfl; exact rfl; exact rfl; refine wl_as rfl rfl ?_; refine wl_as rfl rfl ?_; refine wl_ns ?_; refine wc_sr ?_; refine wl_mv rfl rfl ?_; refine wl_ns ?_; apply wc_condFb; exact rfl; exact rfl; refine wc_skip ?_; refine we_seq ?_; refine wc_seq ?_; refine wc_sr ?_; refine wl_mv rfl rfl ?_; apply wl_val; apply opv_asF; kernel_rfl; exact z_i64; exact rfl; exact rfl; exact rfl; refine wl_mv rfl rfl ?_; apply wl_val; apply opv_extract; exact rfl; exact rfl; exact rfl; apply wl_val; apply opv_extract; exact rfl; exact rfl; exact rfl; refine wl_as rfl rfl ?_; refine wl_as rfl rfl ?_; refine wl_ns ?_; refine wc_sr ?_; refine wl_mv rfl rfl ?_; refine wl_ns ?_; apply wc_condFb; exact rfl; exact rfl; refine wc_skip ?_; refine we_seq ?_; refine wc_seq ?_; refine wc_sr ?_; refine wl_mv rfl rfl ?_; apply wl_val; apply opv_asT; kernel_rfl; exact rfl; exact rfl; refine wl_mv rfl rfl ?_; apply wl_val; apply opv_extract; exact rfl; exact rfl; exact rfl; apply wl_val; apply opv_extract; exact rfl; exact rfl; exact rfl; refine wl_as rfl rfl ?_; refine wl_as rfl rfl ?_; refine wl_ns ?_; refine wc_sr ?_; refine wl_mv rfl rfl ?_; refine wl_ns ?_; apply wc_condTb; exact rfl; exact rfl; refine wc_sr ?_; refine wl_mv rfl rfl ?_
    refine wl_val (opv_build (vs := [(0, .int .i64 3), (3, str s)]) (cs := [.int .i64 3, .bool false, .int .i64 0, str s, .slice none 0 0]) ⟨rfl, rfl, rfl, rfl, trivial⟩ (by kernel_rfl)) rfl ?_
    refine wl_storeS (cs' := [.int .i64 3, .bool false, .int .i64 0, str s, .slice none 0 0]) sC b1 rfl rfl rfl rfl fun w4 a4 g4 _ => ?_
    have hb4 := g4.belowI hb3 (by omega) hb3.size
    refine wl_as rfl rfl ?_; refine wl_ns ?_; refine wc_ret ?_; refine we_seq_ret ?_
    exact we_retC1 rfl rfl rfl a4 sC ⟨_, rfl, none, 0, rfl, Ow.nil _ _ _, hb4⟩
  | bytes d =>
    have hr' : RdB w3 A d := RdB.below hr hb3
    rw [vaV]
    refine wl_ns ?_; refine wc_seq ?_; refine wc_sr ?_; refine wl_mv rfl rfl ?_; apply wl_val; apply opv_bin; exact rfl; exact rfl; exact bin_eqlIN iAny.1; exact rfl; refine wl_ns ?_; apply wc_condFb; exact rfl; exact rfl; refine wc_skip ?_; refine we_seq ?_; refine wc_seq ?_; refine wc_sr ?_; refine wl_mv rfl rfl ?_; apply wl_val; apply opv_asF; kernel_rfl; exact z_bool; exact rfl; exact rfl; exact rfl; refine wl_mv rfl rfl ?_; apply wl_val; apply opv_extract; exact rfl; exact rfl; exact rfl; apply wl_val; apply opv_extract; exact rfl; exact rfl; exact rfl; refine wl_as rfl rfl ?_; refine wl_as rfl rfl ?_; refine wl_ns ?_; refine wc_sr ?_; refine wl_mv rfl rfl ?_; refine wl_ns ?_; apply wc_condFb; exact rfl; exact rfl; refine wc_skip ?_; refine we_seq ?_; refine wc_seq ?_; refine wc_sr ?_; refine wl_mv rfl rfl ?_; apply wl_val; apply opv_asF; kernel_rfl; exact z_i64; exact rfl; exact rfl; exact rfl; refine wl_mv rfl rfl ?_; apply wl_val; apply opv_extract; exact rfl; exact rfl; exact rfl; apply wl_val; apply opv_extract; exact rfl; exact rfl; exact rfl; refine wl_as rfl rfl ?_; refine wl_as rfl rfl ?_; refine wl_ns ?_; refine wc_sr ?_; refine wl_mv rfl rfl ?_; refine wl_ns ?_; apply wc_condFb; exact rfl; exact rfl; refine wc_skip ?_; refine we_seq ?_; refine wc_seq ?_; refine wc_sr ?_; refine wl_mv rfl rfl ?_; apply wl_val; apply opv_asF; kernel_rfl; exact z_str; exact rfl; exact rfl; exact rfl; refine wl_mv rfl rfl ?_; apply wl_val; apply opv_extract; exact rfl; exact rfl; exact rfl; apply wl_val; apply opv_extract; exact rfl; exact rfl; exact rfl; refine wl_as rfl rfl ?_; refine wl_as rfl rfl ?_; refine wl_ns ?_; refine wc_sr ?_; refine wl_mv rfl rfl ?_; refine wl_ns ?_; apply wc_condFb; exact rfl; exact rfl; refine wc_skip ?_; refine we_seq ?_; refine wc_seq ?_; refine wc_sr ?_; refine wl_mv rfl rfl ?_; apply wl_val; apply opv_asT; kernel_rfl; exact rfl; exact rfl; refine wl_mv rfl rfl ?_; apply wl_val; apply opv_extract; exact rfl; exact rfl; exact rfl; apply wl_val; apply opv_extract; exact rfl; exact rfl; exact rfl; refine wl_as rfl rfl ?_; refine wl_as rfl rfl ?_; refine wl_ns ?_; refine wc_sr ?_; refine wl_mv rfl rfl ?_; refine wl_ns ?_; apply wc_condTb; exact rfl; exact rfl; refine wc_sr ?_; refine wl_mv rfl rfl ?_
    refine wl_call ok_bytes_Clone (clone_any hr' rfl hl) ⟨rfl, trivial⟩ rfl ?_
    rintro _ w5 ⟨B, e, rfl, o5, hb5⟩
    have b5 := b1.bel hb5
    have hb35 := hb3.trans (hb5.mono hb3.size)
    refine wl_val (opv_build (vs := [(0, .int .i64 4), (4, .slice B d.length e)]) (cs := [.int .i64 4, .bool false, .int .i64 0, str [], .slice B d.length e]) ⟨rfl, rfl, rfl, rfl, trivial⟩ (by kernel_rfl)) rfl ?_
    refine wl_storeS (cs' := [.int .i64 4, .bool false, .int .i64 0, str [], .slice B d.length e]) sC b5 rfl rfl rfl rfl fun w4 a4 g4 _ => ?_
    have hb4 := g4.belowI hb35 (by omega) hb35.size
    have hs3 := hb3.size
    have hgw : g < w3.heap.size := b1.lt
    have o4 : OwB w4 w.heap.size B e d := Ow.gr (base' := 0) (e' := 0) (Ow.mono o5 hs3) g4 fun a x ha hx => by
      cases hx
      have := (Ow.lt o5 a ha).1
      exact (show a.block ≠ g by omega)
    refine wl_as rfl rfl ?_; refine wl_ns ?_; refine wc_ret ?_; refine we_seq_ret ?_
    exact we_retC1 rfl rfl rfl a4 sC ⟨_, rfl, B, e, rfl, o4, hb4⟩
end Go.Proofs.Ytcjiecclmepboaa


/-
  Walks over twin, and over the functions that look into one value: Kind, IntOf, TextOf, BoolOf, BytesOf, MustInt, MustText.
-/
namespace Go.Proofs.Ytcjiecclmepboaa
open Go.RowKit

/-- A cell whose bytes lie in new memory. -/
def RetC (w : World) (x : Ce) (v : Value) (w' : World) : Prop := ∃ (A : Option Addr) (c : Nat), v = .agg (ceV x A c).toArray ∧ OwB w' w.heap.size A c x.data ∧ Below w.heap.size w w'
theorem twin_any {x : Ce} {A : Option Addr} {c : Nat} {w : World} (hr : RdB w A x.data) (hl : x.data.length ≤ 140737488355328) :
    CallsV Try.prog 34 #[.agg (ceV x A c).toArray] w (RetC w x) := by
  obtain ⟨k, b, n, s, d⟩ := x
  refine calls_in (N := _) Try.func34 rfl Try.ntmps34 rfl ?_; show WC _ _ _ _ _ _
  refine wc_sr ?_
  refine wl_box (cs := ceV ⟨k, b, n, s, d⟩ A c) rfl rfl fun g w1 hg a1 hb1 => ?_
  refine wl_new (cs := zC) zeroC rfl fun g2 w2 hg2 a2 hb2 => ?_
  have hlt0 := a1.lt
  replace a1 := a1.bel hb2
  replace hb2 := hb1.trans (hb2.mono hb1.size)
  have hr' : RdB w2 A d := RdB.below hr hb2
  unfold ceV at a1
  refine wl_ns ?_; refine wc_sr ?_; apply wl_val; apply opv_fa; exact fa_sC (by decide); exact rfl; exact rfl; apply wl_val; apply opv_ldX; exact rfl; assumption; exact c1_by; exact rfl; exact rfl
  refine wl_call ok_caissonref01_Copy (copy_any hr' rfl hl) ⟨rfl, trivial⟩ rfl ?_
  rintro _ w3 ⟨B, e, rfl, o3, hb3⟩
  have hlt := a2.lt
  have hlt1 := a1.lt
  have hs2 := hb2.size
  have a31 := a1.bel hb3
  have a32 := a2.bel hb3
  have hb13 := hb2.trans (hb3.mono hb2.size)
  apply wl_val; apply opv_fa; exact fa_sC (by decide); exact rfl; exact rfl
  refine wl_stA c1_by a31 rfl (show 0 + 4 < 5 by decide) rfl rfl fun w4 a41 g4 _ => ?_
  have hb4 := g4.belowI hb13 hg hb13.size
  have a42 := a32.grA g4 (fun a ha => by cases ha; exact (show g ≠ g2 by have := hb1.size; omega))
  have o4 : OwB w4 w2.heap.size B e d := Ow.gr (base' := 0) (e' := 0) o3 g4 fun a x ha hx => by
    cases hx
    have := (Ow.lt o3 a ha).1
    exact (show a.block ≠ g by omega)
  have a41' : Ar w4 g 53 [.int .i64 k, .bool b, .int .i64 n, str s, .slice B d.length e] := a41
  refine wl_ns ?_; refine wc_sr ?_; apply wl_val; apply opv_loadX; exact rfl; assumption; exact sC; exact rfl
  refine wl_storeS (cs' := ceV ⟨k, b, n, s, d⟩ B e) sC a42 rfl rfl rfl rfl fun w5 a5 g5 _ => ?_
  have hb5 := g5.belowI hb4 (by have := hb1.size; omega) hb4.size
  have o5 : OwB w5 w.heap.size B e d := Ow.gr (base' := 0) (e' := 0) (Ow.mono o4 hs2) g5 fun a x ha hx => by
    cases hx
    have := (Ow.lt o4 a ha).1
    exact (show a.block ≠ g2 by omega)
  refine wl_ns ?_; refine wc_ret ?_
  exact we_retC rfl rfl a5 sC ⟨_, rfl, B, e, rfl, o5, hb5⟩
theorem kind_any {u : Va} {A : Option Addr} {c : Nat} {w : World} (hr : RdB w A (vaC u).data) (hl : (vaC u).data.length ≤ 140737488355328) :
    CallsV Try.prog 39 #[vaV u A c] w fun v w' => v = .tuple #[.int .i64 (vaC u).kind, .int .i64 0] ∧ Below w.heap.size w w' := by
  refine calls_in (N := _) Try.func39 rfl Try.ntmps39 rfl ?_; show WC _ _ _ _ _ _
  refine wc_sr ?_; refine wl_as rfl rfl ?_; refine wl_as rfl rfl ?_; refine wl_ns ?_; refine wc_sr ?_; refine wl_mv rfl rfl ?_
  refine wl_call ok_cell_Cell (cell_any hr hl) ⟨rfl, trivial⟩ rfl ?_
  rintro _ w1 ⟨B, e, rfl, o1, hb1⟩
  obtain ⟨x, hx⟩ : ∃ x, vaC u = x := ⟨_, rfl⟩
  rw [hx] at o1 ⊢
  refine wl_mv rfl rfl ?_; apply wl_val; apply opv_extract; exact rfl; exact rfl; exact rfl; apply wl_val; apply opv_extract; exact rfl; exact rfl; exact rfl
  refine wl_new (cs := zC) zeroC rfl fun g2 w2 hg2 a2 hb2 => ?_
  refine wl_storeS (cs' := ceV x B e) sC a2 rfl rfl rfl rfl fun w3 a3 g3 _ => ?_
  have hb3 := g3.belowI (hb1.trans (hb2.mono hb1.size)) (by have := hb1.size; omega) (by have := hb1.size; have := hb2.size; omega)
  unfold ceV at a3
  refine wl_as rfl rfl ?_; refine wl_ns ?_; refine wc_sr ?_; apply wl_val; apply opv_fa; exact fa_sC (by decide); exact rfl; exact rfl; apply wl_val; apply opv_ldX; exact rfl; assumption; exact c1_int; exact rfl; exact rfl; refine wl_mv rfl rfl ?_; refine wl_as rfl rfl ?_; refine wl_as rfl rfl ?_; refine wl_ns ?_; refine wc_ret ?_
  exact we_ret2 rfl rfl rfl ⟨_, rfl, rfl, hb3⟩
end Go.Proofs.Ytcjiecclmepboaa
