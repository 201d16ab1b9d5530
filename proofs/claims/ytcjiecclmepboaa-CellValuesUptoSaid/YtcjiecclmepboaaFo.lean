
/-
  Walks over utf8.AppendRune and the builder's WriteRune, at runes that can be written.
-/
import Derived.Test.YtcjiecclmepboaaTe
import Derived.Test.YtcjiecclmepboaaSt
import Derived.Test.YtcjiecclmepboaaWf
namespace Go.Proofs.Ytcjiecclmepboaa
open Go.RowKit

theorem or_sum {a b i : Nat} (h : b < 2 ^ i) : 2 ^ i * a ||| b = 2 ^ i * a + b := (Nat.two_pow_add_eq_or_of_lt h a).symm
theorem or128b (x : Nat) : 128 ||| (x % 256 &&& 63) = 128 + x % 64 := by
  have e : x % 256 &&& 63 = x % 64 := by
    rw [show 63 = 2 ^ 6 - 1 from rfl, Nat.and_two_pow_sub_one_eq_mod]; omega
  rw [e]; exact or_sum (a := 1) (i := 7) (by omega)
theorem or192 {x : Nat} (h : x < 32) : 192 ||| x = 192 + x := or_sum (a := 3) (i := 6) (by omega)
theorem or224 {x : Nat} (h : x < 32) : 224 ||| x = 224 + x := or_sum (a := 7) (i := 5) (by omega)
theorem or240 {x : Nat} (h : x < 16) : 240 ||| x = 240 + x := or_sum (a := 15) (i := 4) (by omega)
/-- Bytes have come to be behind a row of the call's own. -/
def RetAp (w : World) (base : Nat) (A : Option Addr) (ys : List UInt8) (v : Value) (w' : World) : Prop :=
  ∃ (A' : Option Addr) (c' : Nat), v = .slice A' ys.length c' ∧ OwB w' base A' c' ys ∧ Gr w w' A ∧ (A'.map (·.block) = A.map (·.block) ∨ ∀ a', A' = some a' → w.heap.size ≤ a'.block)
theorem retAp {w w' : World} {base k c' : Nat} {A A' : Option Addr} {xs ys : List UInt8} {vs : List Value} (ho : Ow w' base 5 A' (xs.length + k) c' (bvs xs ++ vs)) (g : Gr w w' A) (hat : A'.map (·.block) = A.map (·.block) ∨ ∀ a', A' = some a' → w.heap.size ≤ a'.block)
    (hv : bvs ys = vs) : RetAp w base A (xs ++ ys) (.slice A' (xs.length + k) c') w' := by
  subst hv
  have hk : ys.length = k := by have := ho.len; simp [bvs_length] at this; omega
  subst hk
  exact ⟨A', c', by simp, OwB.app ho, g, hat⟩
set_option maxHeartbeats 2000000 in
set_option maxRecDepth 10000 in
theorem appendNon_any {w : World} {base c r : Nat} {A : Option Addr} {xs : List UInt8} (ho : OwB w base A c xs) (hb : base ≤ w.heap.size) (hl : xs.length ≤ 70368744177664) (hv : Val r) (h128 : 128 ≤ r) :
    CallsV Try.prog 112 #[.slice A xs.length c, .int .i32 (r : Int)] w (RetAp w base A (xs ++ enc r)) := by
  have hr : r ≤ 1114111 := by unfold Val at hv; omega
  refine calls_in (N := _) Try.func112 rfl Try.ntmps112 rfl ?_; show WC _ _ _ _ _ _
  refine wc_sr ?_; refine wl_as rfl rfl ?_; refine wl_ns ?_; refine wc_sr ?_; refine wl_mv rfl rfl ?_; apply wl_val; apply opv_convR; exact rfl; exact Try.underlying21; exact Try.underlying153; exact IntWalk.u32_in _ (by omega); exact rfl; refine wl_as rfl rfl ?_; refine wl_ns ?_; refine wc_block ?_; refine wc_sr ?_; refine wl_mv rfl rfl ?_; refine wl_bin rfl rfl bin_leq rfl ?_; refine wl_as rfl rfl ?_; refine wl_ns ?_
  refine wc_cond rfl (fun h1 => ?_) (fun h1 => ?_)
  · refine wc_sr ?_; refine wl_mv rfl rfl ?_; refine wl_mv rfl rfl ?_; apply wl_val; apply opv_bin; exact rfl; exact rfl; exact bin_shr (y := 6) (by simp only [IntKind.bits]; omega); exact rfl; apply wl_val; apply opv_convR; exact rfl; exact Try.underlying21; exact Try.underlying5; exact IntWalk.u8_in _ (by omega); exact rfl; apply wl_val; apply opv_bin; exact rfl; exact rfl; exact bin_or (a := 192) rfl (by decide) (by simp only [IntKind.bits]; omega); exact rfl; refine wl_mv rfl rfl ?_; apply wl_val; apply opv_convR; exact rfl; exact Try.underlying21; exact Try.underlying5; exact wrap_nat rfl _; exact rfl; apply wl_val; apply opv_bin; exact rfl; exact rfl; exact bin_and (b := 63) rfl (Nat.mod_lt _ (by decide)) (by decide); exact rfl; apply wl_val; apply opv_bin; exact rfl; exact rfl; exact bin_or (a := 128) rfl (by decide) (Nat.lt_of_le_of_lt Nat.and_le_right (by decide)); exact rfl
    refine wl_push (vs := [_, _]) tyB rfl ho ⟨rfl, rfl, rfl, rfl, rfl, rfl, trivial⟩ rfl (by decide) rfl (by omega) (by simp only [maxLen]; omega) hb rfl rfl fun q A2 c2 w2 o2 g2 hat => ?_
    refine wl_as rfl rfl ?_; refine wl_ns ?_; refine wc_ret ?_; refine we_block_ret ?_
    refine we_ret1 rfl rfl ⟨_, rfl, retAp o2 g2 hat ?_⟩
    rw [enc_two h128 (by omega)]
    simp only [bvs, List.map]
    rw [bv_of (by omega), bv_of (by omega), show (2 : Nat) ^ 6 = 64 from rfl, or192 (show r / 64 < 32 by omega), show 2 ^ IntKind.u8.bits = 256 from rfl, or128b]
  refine wc_seq ?_; refine wc_sr ?_; refine wl_mv rfl rfl ?_; refine wl_bin rfl rfl bin_lss rfl ?_; refine wl_as rfl rfl ?_; refine wl_ns ?_
  refine wc_cutE (fun L' w' => L' = [(0, .slice A xs.length c), (1, .int .i32 (r : Int)), (5, .int .u32 (r : Int)), (25, .bool (decide (r < 55296 ∨ (57343 < r ∧ r ≤ 65535))))] ∧ w = w') ?_ ?_
  · refine wc_cond rfl (fun h2 => ?_) (fun h2 => ?_)
    · refine wc_skip ?_
      refine we_cut _ ⟨rfl, rfl⟩ ⟨rfl, rfl, rfl, ?_, trivial⟩
      rw [decide_eq_true (show r < 55296 ∨ (57343 < r ∧ r ≤ 65535) by omega)]
      exact congrArg (fun b => some (Value.bool b)) (decide_eq_true h2)
    · refine wc_region ?_; refine wl_mv rfl rfl ?_; refine wl_bin rfl rfl bin_lss rfl ?_; refine wl_mv rfl rfl ?_
      refine wl_cutV 3 33 (.bool (decide ((57343 < (r : Int)) ∧ ((r : Int) ≤ 65535)))) ?c6 ?_; (case c6 => (dsimp only [List.take]; by_cases hc0 : (57343 < (r : Int)); (focus (apply wl_take; exact rfl; exact rfl; exact rfl; refine bT ?_; (with_reducible assumption); refine wl_mv rfl rfl ?_; apply wl_take; exact rfl; exact rfl; exact rfl; refine bT ?_; (with_reducible assumption); refine wl_bin rfl rfl bin_leq rfl ?_; apply wl_val; apply opv_pickT; exact rfl; refine bT ?_; (with_reducible assumption); exact rfl; exact rfl; refine wl_nil ?_; refine we_cut _ ⟨rfl, rfl⟩ ⟨congrArg (fun b => some (Value.bool b)) ?e6_0, ?s6_0⟩; (case e6_0 => ((simp [hc0]; done))); (case s6_0 => (refine And.intro rfl ?_; refine And.intro rfl ?_; refine And.intro rfl ?_; refine And.intro rfl ?_; refine And.intro rfl ?_; refine And.intro rfl ?_; refine And.intro rfl ?_; refine And.intro rfl ?_; refine And.intro rfl ?_; refine And.intro rfl ?_; refine And.intro rfl ?_; refine And.intro rfl ?_; refine And.intro rfl ?_; refine And.intro rfl ?_; refine And.intro rfl ?_; exact True.intro)))); (focus (apply wl_skip; exact rfl; exact rfl; exact rfl; refine bFn ?_; (with_reducible assumption); exact rfl; apply wl_skip; exact rfl; exact rfl; exact rfl; refine bFn ?_; (with_reducible assumption); exact rfl; apply wl_val; apply opv_pickF; exact rfl; refine bF ?_; (with_reducible assumption); exact rfl; exact rfl; refine wl_nil ?_; refine we_cut _ ⟨rfl, rfl⟩ ⟨congrArg (fun b => some (Value.bool b)) ?e6_1, ?s6_1⟩; (case e6_1 => ((simp [hc0]; done))); (case s6_1 => (refine And.intro rfl ?_; refine And.intro rfl ?_; refine And.intro rfl ?_; refine And.intro rfl ?_; refine And.intro rfl ?_; refine And.intro rfl ?_; refine And.intro rfl ?_; refine And.intro rfl ?_; refine And.intro rfl ?_; refine And.intro rfl ?_; refine And.intro rfl ?_; refine And.intro rfl ?_; refine And.intro rfl ?_; refine And.intro rfl ?_; refine And.intro rfl ?_; exact True.intro)))))); dsimp only [List.drop]
      refine wl_as rfl rfl ?_; refine wl_nil ?_
      refine we_cut _ ⟨rfl, rfl⟩ ⟨rfl, rfl, rfl, ?_, trivial⟩
      refine congrArg (fun b => some (Value.bool b)) ?_
      rw [Bool.eq_iff_iff]; simp only [decide_eq_true_eq]; omega
  rintro _ _ ⟨rfl, rfl⟩
  refine we_seq ?_
  refine wc_cond rfl (fun h2 => ?_) (fun h2 => ?_)
  · refine wc_sr ?_; refine wl_mv rfl rfl ?_; refine wl_mv rfl rfl ?_; apply wl_val; apply opv_bin; exact rfl; exact rfl; exact bin_shr (y := 12) (by simp only [IntKind.bits]; omega); exact rfl; apply wl_val; apply opv_convR; exact rfl; exact Try.underlying21; exact Try.underlying5; exact IntWalk.u8_in _ (by omega); exact rfl; apply wl_val; apply opv_bin; exact rfl; exact rfl; exact bin_or (a := 224) rfl (by decide) (by simp only [IntKind.bits]; omega); exact rfl; refine wl_mv rfl rfl ?_; apply wl_val; apply opv_bin; exact rfl; exact rfl; exact bin_shr (y := 6) (by simp only [IntKind.bits]; omega); exact rfl; apply wl_val; apply opv_convR; exact rfl; exact Try.underlying21; exact Try.underlying5; exact wrap_nat rfl _; exact rfl; apply wl_val; apply opv_bin; exact rfl; exact rfl; exact bin_and (b := 63) rfl (Nat.mod_lt _ (by decide)) (by decide); exact rfl; apply wl_val; apply opv_bin; exact rfl; exact rfl; exact bin_or (a := 128) rfl (by decide) (Nat.lt_of_le_of_lt Nat.and_le_right (by decide)); exact rfl; refine wl_mv rfl rfl ?_; apply wl_val; apply opv_convR; exact rfl; exact Try.underlying21; exact Try.underlying5; exact wrap_nat rfl _; exact rfl; apply wl_val; apply opv_bin; exact rfl; exact rfl; exact bin_and (b := 63) rfl (Nat.mod_lt _ (by decide)) (by decide); exact rfl; apply wl_val; apply opv_bin; exact rfl; exact rfl; exact bin_or (a := 128) rfl (by decide) (Nat.lt_of_le_of_lt Nat.and_le_right (by decide)); exact rfl
    refine wl_push (vs := [_, _, _]) tyB rfl ho ⟨rfl, rfl, rfl, rfl, rfl, rfl, rfl, rfl, rfl, trivial⟩ rfl (by decide) rfl (by omega) (by simp only [maxLen]; omega) hb rfl rfl fun q A2 c2 w2 o2 g2 hat => ?_
    refine wl_as rfl rfl ?_; refine wl_ns ?_; refine wc_ret ?_; refine we_block_ret ?_
    refine we_ret1 rfl rfl ⟨_, rfl, retAp o2 g2 hat ?_⟩
    rw [enc_three (by omega)]
    simp only [bvs, List.map]
    rw [bv_of (by omega), bv_of (by omega), bv_of (by omega), show (2 : Nat) ^ 6 = 64 from rfl, show (2 : Nat) ^ 12 = 4096 from rfl, or224 (show r / 4096 < 32 by omega), show 2 ^ IntKind.u8.bits = 256 from rfl, or128b, or128b]
  refine wc_sr ?_; refine wl_mv rfl rfl ?_; refine wl_bin rfl rfl bin_gtr rfl ?_; refine wl_mv rfl rfl ?_
  refine wl_cutV 3 56 (.bool (decide ((65535 < (r : Int)) ∧ ((r : Int) ≤ 1114111)))) ?c17 ?_; (case c17 => (dsimp only [List.take]; by_cases hc0 : (65535 < (r : Int)); (focus (apply wl_take; exact rfl; exact rfl; exact rfl; refine bT ?_; (with_reducible assumption); refine wl_mv rfl rfl ?_; apply wl_take; exact rfl; exact rfl; exact rfl; refine bT ?_; (with_reducible assumption); refine wl_bin rfl rfl bin_leq rfl ?_; apply wl_val; apply opv_pickT; exact rfl; refine bT ?_; (with_reducible assumption); exact rfl; exact rfl; refine wl_nil ?_; refine we_cut _ ⟨rfl, rfl⟩ ⟨congrArg (fun b => some (Value.bool b)) ?e17_0, ?s17_0⟩; (case e17_0 => ((simp [hc0]; done))); (case s17_0 => (refine And.intro rfl ?_; refine And.intro rfl ?_; refine And.intro rfl ?_; refine And.intro rfl ?_; refine And.intro rfl ?_; refine And.intro rfl ?_; refine And.intro rfl ?_; exact True.intro)))); (focus (apply wl_skip; exact rfl; exact rfl; exact rfl; refine bFn ?_; (with_reducible assumption); exact rfl; apply wl_skip; exact rfl; exact rfl; exact rfl; refine bFn ?_; (with_reducible assumption); exact rfl; apply wl_val; apply opv_pickF; exact rfl; refine bF ?_; (with_reducible assumption); exact rfl; exact rfl; refine wl_nil ?_; refine we_cut _ ⟨rfl, rfl⟩ ⟨congrArg (fun b => some (Value.bool b)) ?e17_1, ?s17_1⟩; (case e17_1 => ((simp [hc0]; done))); (case s17_1 => (refine And.intro rfl ?_; refine And.intro rfl ?_; refine And.intro rfl ?_; refine And.intro rfl ?_; refine And.intro rfl ?_; refine And.intro rfl ?_; refine And.intro rfl ?_; exact True.intro)))))); dsimp only [List.drop]
  refine wl_as rfl rfl ?_; refine wl_ns ?_
  refine wc_cond rfl (fun h3 => ?_) (fun h3 => absurd (show 65535 < (r : Int) ∧ (r : Int) ≤ 1114111 by unfold Val at hv; omega) h3)
  · refine wc_sr ?_; refine wl_mv rfl rfl ?_; refine wl_mv rfl rfl ?_; apply wl_val; apply opv_bin; exact rfl; exact rfl; exact bin_shr (y := 18) (by simp only [IntKind.bits]; omega); exact rfl; apply wl_val; apply opv_convR; exact rfl; exact Try.underlying21; exact Try.underlying5; exact IntWalk.u8_in _ (by omega); exact rfl; apply wl_val; apply opv_bin; exact rfl; exact rfl; exact bin_or (a := 240) rfl (by decide) (by simp only [IntKind.bits]; omega); exact rfl; refine wl_mv rfl rfl ?_; apply wl_val; apply opv_bin; exact rfl; exact rfl; exact bin_shr (y := 12) (by simp only [IntKind.bits]; omega); exact rfl; apply wl_val; apply opv_convR; exact rfl; exact Try.underlying21; exact Try.underlying5; exact wrap_nat rfl _; exact rfl; apply wl_val; apply opv_bin; exact rfl; exact rfl; exact bin_and (b := 63) rfl (Nat.mod_lt _ (by decide)) (by decide); exact rfl; apply wl_val; apply opv_bin; exact rfl; exact rfl; exact bin_or (a := 128) rfl (by decide) (Nat.lt_of_le_of_lt Nat.and_le_right (by decide)); exact rfl; refine wl_mv rfl rfl ?_; apply wl_val; apply opv_bin; exact rfl; exact rfl; exact bin_shr (y := 6) (by simp only [IntKind.bits]; omega); exact rfl; apply wl_val; apply opv_convR; exact rfl; exact Try.underlying21; exact Try.underlying5; exact wrap_nat rfl _; exact rfl; apply wl_val; apply opv_bin; exact rfl; exact rfl; exact bin_and (b := 63) rfl (Nat.mod_lt _ (by decide)) (by decide); exact rfl; apply wl_val; apply opv_bin; exact rfl; exact rfl; exact bin_or (a := 128) rfl (by decide) (Nat.lt_of_le_of_lt Nat.and_le_right (by decide)); exact rfl; refine wl_mv rfl rfl ?_; apply wl_val; apply opv_convR; exact rfl; exact Try.underlying21; exact Try.underlying5; exact wrap_nat rfl _; exact rfl; apply wl_val; apply opv_bin; exact rfl; exact rfl; exact bin_and (b := 63) rfl (Nat.mod_lt _ (by decide)) (by decide); exact rfl; apply wl_val; apply opv_bin; exact rfl; exact rfl; exact bin_or (a := 128) rfl (by decide) (Nat.lt_of_le_of_lt Nat.and_le_right (by decide)); exact rfl
    refine wl_push (vs := [_, _, _, _]) tyB rfl ho ⟨rfl, rfl, rfl, rfl, rfl, rfl, rfl, rfl, rfl, rfl, rfl, rfl, trivial⟩ rfl (by decide) rfl (by omega) (by simp only [maxLen]; omega) hb rfl rfl fun q A2 c2 w2 o2 g2 hat => ?_
    refine wl_as rfl rfl ?_; refine wl_ns ?_; refine wc_ret ?_; refine we_block_ret ?_
    refine we_ret1 rfl rfl ⟨_, rfl, retAp o2 g2 hat ?_⟩
    rw [enc_four (by omega) (by omega)]
    simp only [bvs, List.map]
    rw [bv_of (by omega), bv_of (by omega), bv_of (by omega), bv_of (by omega), show (2 : Nat) ^ 6 = 64 from rfl, show (2 : Nat) ^ 12 = 4096 from rfl, show (2 : Nat) ^ 18 = 262144 from rfl, or240 (show r / 262144 < 16 by omega), show 2 ^ IntKind.u8.bits = 256 from rfl, or128b, or128b, or128b]
theorem appendRune_any {w : World} {base c r : Nat} {A : Option Addr} {xs : List UInt8} (ho : OwB w base A c xs) (hb : base ≤ w.heap.size) (hl : xs.length ≤ 70368744177664) (hv : Val r) :
    CallsV Try.prog 97 #[.slice A xs.length c, .int .i32 (r : Int)] w (RetAp w base A (xs ++ enc r)) := by
  have hr : r ≤ 1114111 := by unfold Val at hv; omega
  refine calls_in (N := _) Try.func97 rfl Try.ntmps97 rfl ?_; show WC _ _ _ _ _ _
  refine wc_sr ?_; refine wl_as rfl rfl ?_; refine wl_ns ?_; refine wc_seq ?_; refine wc_sr ?_; refine wl_mv rfl rfl ?_; apply wl_val; apply opv_convR; exact rfl; exact Try.underlying21; exact Try.underlying153; exact IntWalk.u32_in _ (by omega); exact rfl; refine wl_bin rfl rfl bin_leq rfl ?_; refine wl_ns ?_
  refine wc_cond rfl (fun h1 => ?_) (fun h1 => ?_)
  · refine wc_sr ?_; refine wl_mv rfl rfl ?_; refine wl_mv rfl rfl ?_; apply wl_val; apply opv_convR; exact rfl; exact Try.underlying21; exact Try.underlying5; exact IntWalk.u8_in _ (by omega); exact rfl
    refine wl_push (vs := [_]) tyB rfl ho ⟨rfl, rfl, rfl, trivial⟩ rfl (by decide) rfl (by omega) (by simp only [maxLen]; omega) hb rfl rfl fun q A2 c2 w2 o2 g2 hat => ?_
    refine wl_as rfl rfl ?_; refine wl_ns ?_; refine wc_ret ?_; refine we_seq_ret ?_
    refine we_ret1 rfl rfl ⟨_, rfl, retAp o2 g2 hat ?_⟩
    rw [enc_one (by omega)]
    simp only [bvs, List.map]
    rw [bv_of (by omega)]
  · refine wc_skip ?_; refine we_seq ?_; refine wc_sr ?_; refine wl_mv rfl rfl ?_; refine wl_mv rfl rfl ?_
    refine wl_call ok_unicode_utf8_appendRuneNonASCII (appendNon_any ho hb hl hv (by omega)) ⟨rfl, rfl, trivial⟩ rfl ?_
    rintro v w2 h2
    refine wl_as rfl rfl ?_; refine wl_ns ?_; refine wc_ret ?_
    exact we_ret1 rfl rfl ⟨_, rfl, h2⟩

theorem ok_strings_Builder_copyCheck : CallOk Try.prog 96 := callOk Try.func96 (by kernel_rfl) rfl
theorem ok_strings_Builder_WriteRune : CallOk Try.prog 67 := callOk Try.func67 (by kernel_rfl) rfl
theorem ok_strings_Builder_String : CallOk Try.prog 68 := callOk Try.func68 (by kernel_rfl) rfl
/-- A builder in a block of its own that holds these bytes. -/
def Bd (w : World) (B b : Nat) (p : Value) (A : Option Addr) (c : Nat) (bs : List UInt8) : Prop :=
  B ≤ b ∧ Ar w b 101 [p, .slice A bs.length c] ∧ OwB w B A c bs ∧ (∀ a, A = some a → a.block ≠ b) ∧ (p = .pointer none ∨ p = .pointer (some ⟨b, 0, none⟩))
theorem fa_b0 : FieldAt Try.prog 101 0 0 := fieldAt_mk Try.underlying101 rfl rfl (by kernel_rfl)
theorem fa_b1 : FieldAt Try.prog 101 1 1 := fieldAt_mk Try.underlying101 rfl rfl (by kernel_rfl)
theorem c1_pb : Cell1 Try.prog 99 := ⟨by kernel_rfl, by rw [Try.underlying99]⟩
theorem c1_sb : Cell1 Try.prog 30 := ⟨by kernel_rfl, by rw [Try.underlying30]⟩
theorem run_infoB : ∃ j, Try.prog.info? 101 = some j ∧ j.size ≠ 0 := by
  have h : (Try.prog.info? 101).map (·.size) = some 2 := by kernel_rfl
  cases hq : Try.prog.info? 101 with
  | none => simp [hq] at h
  | some i => exact ⟨i, rfl, by have : i.size = 2 := by simpa [hq] using h
                                omega⟩
theorem noEscape_run (v : Value) (w : World) : (callFunc 111 #[v]).run Try.prog w = .ok (.value v) w := by
  rw [run_callFunc_extern Try.func111 (by kernel_rfl) rfl (by kernel_rfl) (e := Extern.AbiNoEscape.same) (by kernel_rfl)]
  simp only [Sem.run_bind, Lib.run_noEscape]
  simp
theorem copyCheck_any {w : World} {B b c : Nat} {p : Value} {A : Option Addr} {bs : List UInt8} (h : Bd w B b p A c bs) :
    CallsV Try.prog 96 #[.pointer (some ⟨b, 0, none⟩)] w fun v w' => Bd w' B b (.pointer (some ⟨b, 0, none⟩)) A c bs ∧ Gr w w' (some ⟨b, 0, none⟩) := by
  obtain ⟨hB, ha, ho, hne, hp⟩ := h
  obtain ⟨j, hj, hj0⟩ := run_infoB
  refine calls_in (N := _) Try.func96 rfl Try.ntmps96 rfl ?_; show WC _ _ _ _ _ _
  refine wc_sr ?_; refine wl_mv rfl rfl ?_
  refine wl_val (opv_nilOk rfl) rfl ?_
  skip
  refine wl_val (opv_fa fa_b0 rfl) rfl ?_
  refine wl_val (opv_ldA c1_pb ha rfl rfl) rfl ?_
  rcases hp with rfl | rfl
  · refine wl_bin rfl rfl (bin_eqlNilNil Try.underlying99) rfl ?_
    have hsh := ha.shape
    refine wl_ns ?_; apply wc_condTb; exact rfl; exact rfl; refine wc_region ?_; refine wl_mv rfl rfl ?_; refine wl_mv rfl rfl ?_
    refine wl_val (opv_convWith rfl (Lib.run_to_unsafe w ⟨b, 0, none⟩ Try.underlying99 Try.underlying151 hj hj0 hsh (by simp))) rfl ?_
    refine wl_ext (noEscape_run _ w) ⟨rfl, trivial⟩ rfl ?_
    refine wl_val (opv_convWith rfl (Lib.run_from_unsafe w ⟨b, 0, none⟩ Try.underlying151 Try.underlying99 hj hsh (by kernel_rfl))) rfl ?_
    refine wl_val (opv_nilOk rfl) rfl ?_
    skip
    refine wl_val (opv_fa fa_b0 rfl) rfl ?_
    refine wl_stA c1_pb ha rfl (by simp) rfl rfl fun w1 a1 g1 _ => ?_
    have o1 : OwB w1 B A c bs := Ow.gr (base' := 0) (e' := 0) ho g1 fun a b' ha hb' => by cases hb'; exact hne a ha
    have ha2 : Ar w1 b 101 [.pointer (some ⟨b, 0, none⟩), .slice A bs.length c] := a1
    refine wl_nil ?_
    exact we_end0 rfl ⟨_, rfl, ⟨hB, ha2, o1, hne, .inr rfl⟩, g1⟩
  · refine wl_bin rfl rfl (bin_eqlPtrNil Try.underlying99) rfl ?_
    refine wl_ns ?_; apply wc_condFb; exact rfl; exact rfl; refine wc_sr ?_; refine wl_mv rfl rfl ?_
    refine wl_val (opv_nilOk rfl) rfl ?_
    skip
    refine wl_val (opv_fa fa_b0 rfl) rfl ?_
    refine wl_val (opv_ldA c1_pb ha rfl rfl) rfl ?_
    refine wl_mv rfl rfl ?_
    refine wl_bin rfl rfl (bin_neqPtrSelf Try.underlying99 hj) rfl ?_
    refine wl_ns ?_; apply wc_condFb; exact rfl; exact rfl; refine wc_skip ?_
    exact we_end0 rfl ⟨_, rfl, ⟨hB, ha, ho, hne, .inr rfl⟩, Gr.refl _ _⟩
theorem writeRune_any {w : World} {B b c r : Nat} {p : Value} {A : Option Addr} {bs : List UInt8} (h : Bd w B b p A c bs) (hl : bs.length ≤ 70368744177664) (hv : Val r) :
    CallsV Try.prog 67 #[.pointer (some ⟨b, 0, none⟩), .int .i32 (r : Int)] w fun v w' => ∃ (A' : Option Addr) (c' : Nat) (w1 w2 : World), Bd w' B b (.pointer (some ⟨b, 0, none⟩)) A' c' (bs ++ enc r) ∧ Gr w w1 (some ⟨b, 0, none⟩) ∧ Gr w1 w2 A ∧ Gr w2 w' (some ⟨b, 0, none⟩) := by
  have hbw : b < w.heap.size := h.2.1.lt
  have hBb := h.1
  have hel := enc_length r
  refine calls_in (N := _) Try.func67 rfl Try.ntmps67 rfl ?_; show WC _ _ _ _ _ _
  refine wc_sr ?_; refine wl_as rfl rfl ?_; refine wl_as rfl rfl ?_; refine wl_ns ?_; refine wc_sr ?_; refine wl_mv rfl rfl ?_
  refine wl_call ok_strings_Builder_copyCheck (copyCheck_any h) ⟨rfl, trivial⟩ rfl ?_
  rintro _ w1 ⟨⟨hB, a1, o1, hne, hp⟩, g1⟩
  have hs1 := g1.size
  refine wl_ns ?_; refine wc_sr ?_; refine wl_mv rfl rfl ?_
  refine wl_val (opv_nilOk rfl) rfl ?_
  refine wl_val (opv_fa fa_b1 rfl) rfl ?_
  refine wl_val (opv_ldA c1_sb a1 rfl rfl) rfl ?_
  apply wl_val; apply opv_len; exact rfl; exact tyB.sl; exact rfl; refine wl_as rfl rfl ?_; refine wl_ns ?_; refine wc_sr ?_; refine wl_mv rfl rfl ?_; refine wl_mv rfl rfl ?_
  refine wl_val (opv_nilOk rfl) rfl ?_
  refine wl_val (opv_fa fa_b1 rfl) rfl ?_
  refine wl_val (opv_ldA c1_sb a1 rfl rfl) rfl ?_
  refine wl_mv rfl rfl ?_
  refine wl_call ok_unicode_utf8_AppendRune (appendRune_any o1 (by omega) hl hv) ⟨rfl, rfl, trivial⟩ rfl ?_
  rintro _ w2 ⟨A2, c2, rfl, o2, g2, hat⟩
  have hne2 : ∀ a, A2 = some a → a.block ≠ b := fun a ha hb => by
    rcases hat with hat | hat
    · rw [ha] at hat
      cases A with
      | none => simp at hat
      | some a0 => simp at hat; exact hne a0 rfl (hat ▸ hb)
    · have := hat a ha; omega
  have a2 := a1.grA g2 hne
  refine wl_val (opv_nilOk rfl) rfl ?_
  refine wl_val (opv_fa fa_b1 rfl) rfl ?_
  refine wl_stA c1_sb a2 rfl (by simp) rfl rfl fun w3 a3 g3 _ => ?_
  have ha3 : Ar w3 b 101 [.pointer (some ⟨b, 0, none⟩), .slice A2 (bs ++ enc r).length c2] := a3
  have o3 : OwB w3 B A2 c2 (bs ++ enc r) := Ow.gr (base' := 0) (e' := 0) o2 g3 fun a b' ha hb' => by cases hb'; exact hne2 a ha
  have hll : (bs ++ enc r).length ≤ 70368744177668 := by simp; omega
  refine wl_ns ?_; refine wc_sr ?_; refine wl_mv rfl rfl ?_
  refine wl_val (opv_nilOk rfl) rfl ?_
  refine wl_val (opv_fa fa_b1 rfl) rfl ?_
  refine wl_val (opv_ldA c1_sb ha3 rfl rfl) rfl ?_
  apply wl_val; apply opv_len; exact rfl; exact tyB.sl; exact rfl; refine wl_mv rfl rfl ?_; apply wl_val; apply opv_bin; exact rfl; exact rfl; exact bin_sub64 (by omega); exact rfl; refine wl_as rfl rfl ?_; refine wl_as rfl rfl ?_; refine wl_ns ?_; refine wc_ret ?_
  exact we_ret2 rfl rfl rfl ⟨_, rfl, A2, c2, w1, w2, ⟨hB, ha3, o3, hne2, .inr rfl⟩, g1, g2, g3⟩
end Go.Proofs.Ytcjiecclmepboaa
