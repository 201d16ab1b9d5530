/-
  The texts of this proof, joined: Tb, Tc, Td, Te, Pa, Wf, Fo, Shelf, Fp, Held, Fq, Sc.
-/
import Derived.Test.YtcjiecclmepboaaTotM1
import Derived.Laws.Externs
import Derived.Shelf.Strings.Builder1
import Derived.Shelf.Strings.FieldsFuncAny
import Derived.Test.YtcjiecclmepboaaProg
import Derived.OrdersHeld
import Derived.Deep.RegionHeld3

/-
  Walks over the small functions on runes: between, low, and the reference's wide, First, Low.
-/
namespace Go.Proofs.Ytcjiecclmepboaa
open Go.RowKit

theorem between_any (c lo hi : Int) (w : World) : CallsV Try.prog 95 #[.int .i32 c, .int .i32 lo, .int .i32 hi] w fun v w' => v = .bool (decide (lo ≤ c ∧ c ≤ hi)) ∧ w = w' := by
  refine calls_in (N := _) Try.func95 rfl Try.ntmps95 rfl ?_; show WC _ _ _ _ _ _
  refine wc_sr ?_; refine wl_as rfl rfl ?_; refine wl_ns ?_; refine wc_sr ?_; refine wl_mv rfl rfl ?_; refine wl_mv rfl rfl ?_; refine wl_bin rfl rfl bin_leq rfl ?_; refine wl_mv rfl rfl ?_
  refine wl_cutV 4 14 (.bool (decide ((lo ≤ c) ∧ (c ≤ hi)))) ?c1 ?_; (case c1 => (dsimp only [List.take]; by_cases hc0 : (lo ≤ c); (focus (apply wl_take; exact rfl; exact rfl; exact rfl; refine bT ?_; (with_reducible assumption); refine wl_mv rfl rfl ?_; apply wl_take; exact rfl; exact rfl; exact rfl; refine bT ?_; (with_reducible assumption); refine wl_mv rfl rfl ?_; apply wl_take; exact rfl; exact rfl; exact rfl; refine bT ?_; (with_reducible assumption); refine wl_bin rfl rfl bin_leq rfl ?_; apply wl_val; apply opv_pickT; exact rfl; refine bT ?_; (with_reducible assumption); exact rfl; exact rfl; refine wl_nil ?_; refine we_cut _ ⟨rfl, rfl⟩ ⟨congrArg (fun b => some (Value.bool b)) ?e1_0, ?s1_0⟩; (case e1_0 => ((simp [hc0]; done))); (case s1_0 => (refine And.intro rfl ?_; refine And.intro rfl ?_; refine And.intro rfl ?_; refine And.intro rfl ?_; refine And.intro rfl ?_; refine And.intro rfl ?_; refine And.intro rfl ?_; refine And.intro rfl ?_; exact True.intro)))); (focus (apply wl_skip; exact rfl; exact rfl; exact rfl; refine bFn ?_; (with_reducible assumption); exact rfl; apply wl_skip; exact rfl; exact rfl; exact rfl; refine bFn ?_; (with_reducible assumption); exact rfl; apply wl_skip; exact rfl; exact rfl; exact rfl; refine bFn ?_; (with_reducible assumption); exact rfl; apply wl_val; apply opv_pickF; exact rfl; refine bF ?_; (with_reducible assumption); exact rfl; exact rfl; refine wl_nil ?_; refine we_cut _ ⟨rfl, rfl⟩ ⟨congrArg (fun b => some (Value.bool b)) ?e1_1, ?s1_1⟩; (case e1_1 => ((simp [hc0]; done))); (case s1_1 => (refine And.intro rfl ?_; refine And.intro rfl ?_; refine And.intro rfl ?_; refine And.intro rfl ?_; refine And.intro rfl ?_; refine And.intro rfl ?_; refine And.intro rfl ?_; refine And.intro rfl ?_; exact True.intro)))))); dsimp only [List.drop]
  refine wl_as rfl rfl ?_; refine wl_ns ?_; refine wc_ret ?_
  exact we_ret1 rfl rfl ⟨_, rfl, rfl, rfl⟩
theorem lowN_same {c : Nat} (h : c = 215 ∨ c = 930) : lowN c = c := by rw [lowN, if_pos h]
theorem lowN_up {c : Nat} (h : ¬ (c = 215 ∨ c = 930)) (h2 : (65 ≤ c ∧ c ≤ 90) ∨ (192 ≤ c ∧ c ≤ 222) ∨ (913 ≤ c ∧ c ≤ 937) ∨ (1040 ≤ c ∧ c ≤ 1071)) : lowN c = c + 32 := by rw [lowN, if_neg h, if_pos h2]
theorem lowN_not {c : Nat} (h2 : ¬ ((65 ≤ c ∧ c ≤ 90) ∨ (192 ≤ c ∧ c ≤ 222) ∨ (913 ≤ c ∧ c ≤ 937) ∨ (1040 ≤ c ∧ c ≤ 1071))) : lowN c = c := by unfold lowN; rw [if_neg h2]; split <;> rfl
theorem low_any (c : Nat) (hc : c ≤ 1114111) (w : World) : CallsV Try.prog 65 #[.int .i32 (c : Int)] w fun v w' => v = .int .i32 (lowN c : Int) ∧ w = w' := by
  refine calls_in (N := _) Try.func65 rfl Try.ntmps65 rfl ?_; show WC _ _ _ _ _ _
  refine wc_sr ?_; refine wl_as rfl rfl ?_; refine wl_ns ?_; refine wc_seq ?_; refine wc_block ?_; refine wc_sr ?_; refine wl_mv rfl rfl ?_; refine wl_bin rfl rfl bin_eql rfl ?_; refine wl_mv rfl rfl ?_
  refine wl_cutV 3 9 (.bool (decide (((c : Int) = 215) ∨ ((c : Int) = 930)))) ?c9 ?_; (case c9 => (dsimp only [List.take]; by_cases hc0 : ((c : Int) = 215); (focus (apply wl_skip; exact rfl; exact rfl; exact rfl; refine bTn ?_; (with_reducible assumption); exact rfl; apply wl_skip; exact rfl; exact rfl; exact rfl; refine bTn ?_; (with_reducible assumption); exact rfl; apply wl_val; apply opv_pickT; exact rfl; refine bT ?_; (with_reducible assumption); exact rfl; exact rfl; refine wl_nil ?_; refine we_cut _ ⟨rfl, rfl⟩ ⟨congrArg (fun b => some (Value.bool b)) ?e9_0, ?s9_0⟩; (case e9_0 => ((simp [hc0]; done))); (case s9_0 => (refine And.intro rfl ?_; refine And.intro rfl ?_; refine And.intro rfl ?_; refine And.intro rfl ?_; refine And.intro rfl ?_; exact True.intro)))); (focus (apply wl_take; exact rfl; exact rfl; exact rfl; refine bF ?_; (with_reducible assumption); refine wl_mv rfl rfl ?_; apply wl_take; exact rfl; exact rfl; exact rfl; refine bF ?_; (with_reducible assumption); refine wl_bin rfl rfl bin_eql rfl ?_; apply wl_val; apply opv_pickF; exact rfl; refine bF ?_; (with_reducible assumption); exact rfl; exact rfl; refine wl_nil ?_; refine we_cut _ ⟨rfl, rfl⟩ ⟨congrArg (fun b => some (Value.bool b)) ?e9_1, ?s9_1⟩; (case e9_1 => ((simp [hc0]; done))); (case s9_1 => (refine And.intro rfl ?_; refine And.intro rfl ?_; refine And.intro rfl ?_; refine And.intro rfl ?_; refine And.intro rfl ?_; exact True.intro)))))); dsimp only [List.drop]
  refine wl_as rfl rfl ?_; refine wl_ns ?_
  refine wc_cond rfl (fun h => ?_) (fun h => ?_)
  · refine wc_sr ?_; refine wl_mv rfl rfl ?_; refine wl_as rfl rfl ?_; refine wl_ns ?_; refine wc_ret ?_; refine we_block_ret ?_; refine we_seq_ret ?_
    exact we_ret1 rfl rfl ⟨_, rfl, by rw [lowN_same (by omega)], rfl⟩
  have h' : ¬ (c = 215 ∨ c = 930) := by omega
  refine wc_seq ?_; refine wc_sr ?_; refine wl_mv rfl rfl ?_; apply wl_callX (vs := [_, _, _]) ok_text_between; exact ⟨rfl, rfl, rfl, trivial⟩; exact rfl; exact between_any _ _ _ _; rintro _ _ ⟨rfl, rfl⟩; refine wl_as rfl rfl ?_; refine wl_ns ?_
  refine wc_cond rfl (fun h1 => ?_) (fun h1 => ?_)
  · refine wc_skip ?_; refine we_seq ?_; apply wc_decT; exact rfl; (with_reducible assumption); refine wc_sr ?_; refine wl_mv rfl rfl ?_; apply wl_val; apply opv_bin; exact rfl; exact rfl; exact bin_add32 (by omega); exact rfl; refine wl_as rfl rfl ?_; refine wl_ns ?_; refine wc_ret ?_; refine we_block_ret ?_; refine we_seq_ret ?_
    exact we_ret1 rfl rfl ⟨_, rfl, by rw [lowN_up h' (by omega)]; rfl, rfl⟩
  refine wc_sr ?_; refine wl_mv rfl rfl ?_; apply wl_callX (vs := [_, _, _]) ok_text_between; exact ⟨rfl, rfl, rfl, trivial⟩; exact rfl; exact between_any _ _ _ _; rintro _ _ ⟨rfl, rfl⟩; refine wl_as rfl rfl ?_; refine wl_ns ?_
  refine wc_cond rfl (fun h2 => ?_) (fun h2 => ?_)
  · refine wc_skip ?_; refine we_seq ?_; apply wc_decT; exact rfl; (with_reducible assumption); refine wc_sr ?_; refine wl_mv rfl rfl ?_; apply wl_val; apply opv_bin; exact rfl; exact rfl; exact bin_add32 (by omega); exact rfl; refine wl_as rfl rfl ?_; refine wl_ns ?_; refine wc_ret ?_; refine we_block_ret ?_; refine we_seq_ret ?_
    exact we_ret1 rfl rfl ⟨_, rfl, by rw [lowN_up h' (by omega)]; rfl, rfl⟩
  refine wc_sr ?_; refine wl_mv rfl rfl ?_; apply wl_callX (vs := [_, _, _]) ok_text_between; exact ⟨rfl, rfl, rfl, trivial⟩; exact rfl; exact between_any _ _ _ _; rintro _ _ ⟨rfl, rfl⟩; refine wl_as rfl rfl ?_; refine wl_ns ?_
  refine wc_cond rfl (fun h3 => ?_) (fun h3 => ?_)
  · refine wc_skip ?_; refine we_seq ?_; apply wc_decT; exact rfl; (with_reducible assumption); refine wc_sr ?_; refine wl_mv rfl rfl ?_; apply wl_val; apply opv_bin; exact rfl; exact rfl; exact bin_add32 (by omega); exact rfl; refine wl_as rfl rfl ?_; refine wl_ns ?_; refine wc_ret ?_; refine we_block_ret ?_; refine we_seq_ret ?_
    exact we_ret1 rfl rfl ⟨_, rfl, by rw [lowN_up h' (by omega)]; rfl, rfl⟩
  refine wc_region ?_; refine wl_mv rfl rfl ?_; apply wl_callX (vs := [_, _, _]) ok_text_between; exact ⟨rfl, rfl, rfl, trivial⟩; exact rfl; exact between_any _ _ _ _; rintro _ _ ⟨rfl, rfl⟩; refine wl_as rfl rfl ?_; refine wl_ns ?_
  refine wc_cond rfl (fun h4 => ?_) (fun h4 => ?_)
  · refine wc_sr ?_; refine wl_mv rfl rfl ?_; apply wl_val; apply opv_bin; exact rfl; exact rfl; exact bin_add32 (by omega); exact rfl; refine wl_as rfl rfl ?_; refine wl_ns ?_; refine wc_ret ?_; refine we_block_ret ?_; refine we_seq_ret ?_
    exact we_ret1 rfl rfl ⟨_, rfl, by rw [lowN_up h' (by omega)]; rfl, rfl⟩
  refine wc_skip ?_; refine we_block_norm ?_; refine we_seq ?_; refine wc_sr ?_; refine wl_mv rfl rfl ?_; refine wl_as rfl rfl ?_; refine wl_ns ?_; refine wc_ret ?_
  exact we_ret1 rfl rfl ⟨_, rfl, by rw [lowN_not (by omega)], rfl⟩
end Go.Proofs.Ytcjiecclmepboaa

/-
  Walks over the reference's First and Runes.
-/
namespace Go.Proofs.Ytcjiecclmepboaa
open Go.RowKit

end Go.Proofs.Ytcjiecclmepboaa

/-
  Walks over the functions that go through a text's runes: Len, Runes, Clip, and the reference's Runes.
-/
namespace Go.Proofs.Ytcjiecclmepboaa
open Go.RowKit

end Go.Proofs.Ytcjiecclmepboaa

/-
  Walks over the reference's Runes, Put and Fold.
-/
namespace Go.Proofs.Ytcjiecclmepboaa
open Go.RowKit

end Go.Proofs.Ytcjiecclmepboaa

/-
  Plain functions on lists of bytes, for layer 1 (codec), and what is true of them. Nothing here names the program or the model.
-/
namespace Go.Proofs.Ytcjiecclmepboaa

/-- A number in groups of seven bits. -/
def putU (n : Nat) : List UInt8 := if n < 128 then [UInt8.ofNat n] else UInt8.ofNat (n % 128 + 128) :: putU (n / 128)

/-- The number at the head of a list: n is what has been read, i how many bytes; value, count, error. -/
def getAux : Nat → Nat → List UInt8 → Nat × Nat × Nat
  | _, _, [] => (0, 0, 5)
  | i, n, x :: r =>
    if (i = 9 ∧ 1 < x.toNat) ∨ (x.toNat = 0 ∧ 0 < i) then (0, 0, 3)
    else if x.toNat < 128 then (n + x.toNat * 128 ^ i, i + 1, 0)
    else getAux (i + 1) (n + (x.toNat - 128) * 128 ^ i) r

/-- The number at a place: value, place behind it, error. -/
def getU (b : List UInt8) (p : Int) : Nat × Int × Nat :=
  if p < 0 ∨ (b.length : Int) < p then (0, 0, 1) else
  match getAux 0 0 (b.drop p.toNat) with
  | (n, k, 0) => (n, p + k, 0)
  | (_, _, e) => (0, 0, e)

theorem take_get {l : List UInt8} {k : Nat} {b : UInt8} (h : l[k]? = some b) : l.take (k + 1) = l.take k ++ [b] := by
  rw [List.take_add_one, h]; rfl

/-- Bytes with an end, in their order. -/
def esc (l : List UInt8) : List UInt8 := l.flatMap fun x => if x = 0 then [0, 255] else [x]
def ordText (l : List UInt8) : List UInt8 := esc l ++ [0, 1]
theorem esc_take {l : List UInt8} {k : Nat} {b : UInt8} (h : l[k]? = some b) : esc (l.take (k + 1)) = esc (l.take k) ++ if b = 0 then [0, 255] else [b] := by
  rw [take_get h]; simp [esc]
theorem esc_length (l : List UInt8) : (esc l).length ≤ 2 * l.length := by
  induction l with
  | nil => simp [esc]
  | cons x r ih =>
    have : esc (x :: r) = (if x = 0 then [0, 255] else [x]) ++ esc r := by simp [esc]
    rw [this, List.length_append, List.length_cons]
    split <;> simp <;> omega
theorem toNat_zero {b : UInt8} : (b.toNat : Int) = 0 ↔ b = 0 := by
  constructor
  · intro h; exact UInt8.toNat_inj.1 (by simp; omega)
  · rintro rfl; rfl

end Go.Proofs.Ytcjiecclmepboaa

/-
  Walks over the comparisons of layer 1: Cmp of the reference; bytes.Compare, whose work the model does itself, and codec.Cmp.
-/
namespace Go.Proofs.Ytcjiecclmepboaa
open Go.RowKit

/-- A call that the model carries out itself. -/
theorem wl_ext {P : Program} {N : Nat} {ops : Array Oper} {Q : Exit → Act → World → Prop} {rest : List Oper} {L : FL} {w w' : World} {d : Nat} {f : FuncId} {xs : List Operand} {ats : Array TypeId} {ty : TypeId} {pos : String} {aft : Array Edge} {vs : List Value} {v : Value}
    (hr : (callFunc f vs.toArray).run P w = .ok (.value v) w') (hx : Looks L xs vs) (hd : Nat.blt d N = true) (h : WL P N ops Q rest ((d, v) :: L) w') :
    WL P N ops Q (⟨some d, .call { callee := .value (.func f), args := xs.toArray, argTypes := ats }, ty, pos, aft, none⟩ :: rest) L w := by
  refine wl_val (w' := w') (fun ρ o hρ ho _ => ?_) hd h
  have hf : ρ (.func f) = .func (.func f) #[] #[] := hρ _ _ rfl
  have hm := Looks.map hρ hx
  unfold execOp
  simp only [ho, resolve, Deferred.ofValue, hf, Sem.run_bind, Sem.run_pure, Result.andThen_ok, invoke]
  have : (#[] ++ Array.map ρ xs.toArray ++ #[]) = vs.toArray := by simp [hm]
  rw [this]
  exact hr

end Go.Proofs.Ytcjiecclmepboaa

/-
  Walks over utf8.AppendRune and the builder's WriteRune, at runes that can be written.
-/
namespace Go.Proofs.Ytcjiecclmepboaa
open Go.RowKit

theorem or_sum {a b i : Nat} (h : b < 2 ^ i) : 2 ^ i * a ||| b = 2 ^ i * a + b := (Nat.two_pow_add_eq_or_of_lt h a).symm
theorem or128b (x : Nat) : 128 ||| (x % 256 &&& 63) = 128 + x % 64 := by
  have e : x % 256 &&& 63 = x % 64 := by
    rw [show 63 = 2 ^ 6 - 1 from rfl, Nat.and_two_pow_sub_one_eq_mod]; omega
  rw [e]; exact or_sum (a := 1) (i := 7) (by omega)
theorem or192 {x : Nat} (h : x < 32) : 192 ||| x = 192 + x := or_sum (a := 3) (i := 6) (by omega)
theorem or224 {x : Nat} (h : x < 32) : 224 ||| x = 224 + x := or_sum (a := 7) (i := 5) (by omega)
theorem or240 {x : Nat} (h : x < 16) : 240 ||| x = 240 + x := or_sum (a := 15) (i := 4) (by omega)
/-- Bytes have come to be behind a row of the call's own. -/
def RetAp (w : World) (base : Nat) (A : Option Addr) (ys : List UInt8) (v : Value) (w' : World) : Prop :=
  ∃ (A' : Option Addr) (c' : Nat), v = .slice A' ys.length c' ∧ OwB w' base A' c' ys ∧ Gr w w' A ∧ (A'.map (·.block) = A.map (·.block) ∨ ∀ a', A' = some a' → w.heap.size ≤ a'.block)
theorem retAp {w w' : World} {base k c' : Nat} {A A' : Option Addr} {xs ys : List UInt8} {vs : List Value} (ho : Ow w' base 5 A' (xs.length + k) c' (bvs xs ++ vs)) (g : Gr w w' A) (hat : A'.map (·.block) = A.map (·.block) ∨ ∀ a', A' = some a' → w.heap.size ≤ a'.block)
    (hv : bvs ys = vs) : RetAp w base A (xs ++ ys) (.slice A' (xs.length + k) c') w' := by
  subst hv
  have hk : ys.length = k := by have := ho.len; simp [bvs_length] at this; omega
  subst hk
  exact ⟨A', c', by simp, OwB.app ho, g, hat⟩
set_option maxHeartbeats 2000000 in
set_option maxRecDepth 10000 in
theorem appendNon_any {w : World} {base c r : Nat} {A : Option Addr} {xs : List UInt8} (ho : OwB w base A c xs) (hb : base ≤ w.heap.size) (hl : xs.length ≤ 70368744177664) (hv : Val r) (h128 : 128 ≤ r) :
    CallsV Try.prog 112 #[.slice A xs.length c, .int .i32 (r : Int)] w (RetAp w base A (xs ++ enc r)) := by
  have hr : r ≤ 1114111 := by unfold Val at hv; omega
  refine calls_in (N := _) Try.func112 rfl Try.ntmps112 rfl ?_; show WC _ _ _ _ _ _
  refine wc_sr ?_; refine wl_as rfl rfl ?_; refine wl_ns ?_; refine wc_sr ?_; refine wl_mv rfl rfl ?_; apply wl_val; apply opv_convR; exact rfl; exact Try.underlying21; exact Try.underlying153; exact IntWalk.u32_in _ (by omega); exact rfl; refine wl_as rfl rfl ?_; refine wl_ns ?_; refine wc_block ?_; refine wc_sr ?_; refine wl_mv rfl rfl ?_; refine wl_bin rfl rfl bin_leq rfl ?_; refine wl_as rfl rfl ?_; refine wl_ns ?_
  refine wc_cond rfl (fun h1 => ?_) (fun h1 => ?_)
  · refine wc_sr ?_; refine wl_mv rfl rfl ?_; refine wl_mv rfl rfl ?_; apply wl_val; apply opv_bin; exact rfl; exact rfl; exact bin_shr (y := 6) (by simp only [IntKind.bits]; omega); exact rfl; apply wl_val; apply opv_convR; exact rfl; exact Try.underlying21; exact Try.underlying5; exact IntWalk.u8_in _ (by omega); exact rfl; apply wl_val; apply opv_bin; exact rfl; exact rfl; exact bin_or (a := 192) rfl (by decide) (by simp only [IntKind.bits]; omega); exact rfl; refine wl_mv rfl rfl ?_; apply wl_val; apply opv_convR; exact rfl; exact Try.underlying21; exact Try.underlying5; exact wrap_nat rfl _; exact rfl; apply wl_val; apply opv_bin; exact rfl; exact rfl; exact bin_and (b := 63) rfl (Nat.mod_lt _ (by decide)) (by decide); exact rfl; apply wl_val; apply opv_bin; exact rfl; exact rfl; exact bin_or (a := 128) rfl (by decide) (Nat.lt_of_le_of_lt Nat.and_le_right (by decide)); exact rfl
    refine wl_push (vs := [_, _]) tyB rfl ho ⟨rfl, rfl, rfl, rfl, rfl, rfl, trivial⟩ rfl (by decide) rfl (by omega) (by simp only [maxLen]; omega) hb rfl rfl fun q A2 c2 w2 o2 g2 hat => ?_
    refine wl_as rfl rfl ?_; refine wl_ns ?_; refine wc_ret ?_; refine we_block_ret ?_
    refine we_ret1 rfl rfl ⟨_, rfl, retAp o2 g2 hat ?_⟩
    rw [enc_two h128 (by omega)]
    simp only [bvs, List.map]
    rw [bv_of (by omega), bv_of (by omega), show (2 : Nat) ^ 6 = 64 from rfl, or192 (show r / 64 < 32 by omega), show 2 ^ IntKind.u8.bits = 256 from rfl, or128b]
  refine wc_seq ?_; refine wc_sr ?_; refine wl_mv rfl rfl ?_; refine wl_bin rfl rfl bin_lss rfl ?_; refine wl_as rfl rfl ?_; refine wl_ns ?_
  refine wc_cutE (fun L' w' => L' = [(0, .slice A xs.length c), (1, .int .i32 (r : Int)), (5, .int .u32 (r : Int)), (25, .bool (decide (r < 55296 ∨ (57343 < r ∧ r ≤ 65535))))] ∧ w = w') ?_ ?_
  · refine wc_cond rfl (fun h2 => ?_) (fun h2 => ?_)
    · refine wc_skip ?_
      refine we_cut _ ⟨rfl, rfl⟩ ⟨rfl, rfl, rfl, ?_, trivial⟩
      rw [decide_eq_true (show r < 55296 ∨ (57343 < r ∧ r ≤ 65535) by omega)]
      exact congrArg (fun b => some (Value.bool b)) (decide_eq_true h2)
    · refine wc_region ?_; refine wl_mv rfl rfl ?_; refine wl_bin rfl rfl bin_lss rfl ?_; refine wl_mv rfl rfl ?_
      refine wl_cutV 3 33 (.bool (decide ((57343 < (r : Int)) ∧ ((r : Int) ≤ 65535)))) ?c6 ?_; (case c6 => (dsimp only [List.take]; by_cases hc0 : (57343 < (r : Int)); (focus (apply wl_take; exact rfl; exact rfl; exact rfl; refine bT ?_; (with_reducible assumption); refine wl_mv rfl rfl ?_; apply wl_take; exact rfl; exact rfl; exact rfl; refine bT ?_; (with_reducible assumption); refine wl_bin rfl rfl bin_leq rfl ?_; apply wl_val; apply opv_pickT; exact rfl; refine bT ?_; (with_reducible assumption); exact rfl; exact rfl; refine wl_nil ?_; refine we_cut _ ⟨rfl, rfl⟩ ⟨congrArg (fun b => some (Value.bool b)) ?e6_0, ?s6_0⟩; (case e6_0 => ((simp [hc0]; done))); (case s6_0 => (refine And.intro rfl ?_; refine And.intro rfl ?_; refine And.intro rfl ?_; refine And.intro rfl ?_; refine And.intro rfl ?_; refine And.intro rfl ?_; refine And.intro rfl ?_; refine And.intro rfl ?_; refine And.intro rfl ?_; refine And.intro rfl ?_; refine And.intro rfl ?_; refine And.intro rfl ?_; refine And.intro rfl ?_; refine And.intro rfl ?_; refine And.intro rfl ?_; exact True.intro)))); (focus (apply wl_skip; exact rfl; exact rfl; exact rfl; refine bFn ?_; (with_reducible assumption); exact rfl; apply wl_skip; exact rfl; exact rfl; exact rfl; refine bFn ?_; (with_reducible assumption); exact rfl; apply wl_val; apply opv_pickF; exact rfl; refine bF ?_; (with_reducible assumption); exact rfl; exact rfl; refine wl_nil ?_; refine we_cut _ ⟨rfl, rfl⟩ ⟨congrArg (fun b => some (Value.bool b)) ?e6_1, ?s6_1⟩; (case e6_1 => ((simp [hc0]; done))); (case s6_1 => (refine And.intro rfl ?_; refine And.intro rfl ?_; refine And.intro rfl ?_; refine And.intro rfl ?_; refine And.intro rfl ?_; refine And.intro rfl ?_; refine And.intro rfl ?_; refine And.intro rfl ?_; refine And.intro rfl ?_; refine And.intro rfl ?_; refine And.intro rfl ?_; refine And.intro rfl ?_; refine And.intro rfl ?_; refine And.intro rfl ?_; refine And.intro rfl ?_; exact True.intro)))))); dsimp only [List.drop]
      refine wl_as rfl rfl ?_; refine wl_nil ?_
      refine we_cut _ ⟨rfl, rfl⟩ ⟨rfl, rfl, rfl, ?_, trivial⟩
      refine congrArg (fun b => some (Value.bool b)) ?_
      rw [Bool.eq_iff_iff]; simp only [decide_eq_true_eq]; omega
  rintro _ _ ⟨rfl, rfl⟩
  refine we_seq ?_
  refine wc_cond rfl (fun h2 => ?_) (fun h2 => ?_)
  · refine wc_sr ?_; refine wl_mv rfl rfl ?_; refine wl_mv rfl rfl ?_; apply wl_val; apply opv_bin; exact rfl; exact rfl; exact bin_shr (y := 12) (by simp only [IntKind.bits]; omega); exact rfl; apply wl_val; apply opv_convR; exact rfl; exact Try.underlying21; exact Try.underlying5; exact IntWalk.u8_in _ (by omega); exact rfl; apply wl_val; apply opv_bin; exact rfl; exact rfl; exact bin_or (a := 224) rfl (by decide) (by simp only [IntKind.bits]; omega); exact rfl; refine wl_mv rfl rfl ?_; apply wl_val; apply opv_bin; exact rfl; exact rfl; exact bin_shr (y := 6) (by simp only [IntKind.bits]; omega); exact rfl; apply wl_val; apply opv_convR; exact rfl; exact Try.underlying21; exact Try.underlying5; exact wrap_nat rfl _; exact rfl; apply wl_val; apply opv_bin; exact rfl; exact rfl; exact bin_and (b := 63) rfl (Nat.mod_lt _ (by decide)) (by decide); exact rfl; apply wl_val; apply opv_bin; exact rfl; exact rfl; exact bin_or (a := 128) rfl (by decide) (Nat.lt_of_le_of_lt Nat.and_le_right (by decide)); exact rfl; refine wl_mv rfl rfl ?_; apply wl_val; apply opv_convR; exact rfl; exact Try.underlying21; exact Try.underlying5; exact wrap_nat rfl _; exact rfl; apply wl_val; apply opv_bin; exact rfl; exact rfl; exact bin_and (b := 63) rfl (Nat.mod_lt _ (by decide)) (by decide); exact rfl; apply wl_val; apply opv_bin; exact rfl; exact rfl; exact bin_or (a := 128) rfl (by decide) (Nat.lt_of_le_of_lt Nat.and_le_right (by decide)); exact rfl
    refine wl_push (vs := [_, _, _]) tyB rfl ho ⟨rfl, rfl, rfl, rfl, rfl, rfl, rfl, rfl, rfl, trivial⟩ rfl (by decide) rfl (by omega) (by simp only [maxLen]; omega) hb rfl rfl fun q A2 c2 w2 o2 g2 hat => ?_
    refine wl_as rfl rfl ?_; refine wl_ns ?_; refine wc_ret ?_; refine we_block_ret ?_
    refine we_ret1 rfl rfl ⟨_, rfl, retAp o2 g2 hat ?_⟩
    rw [enc_three (by omega)]
    simp only [bvs, List.map]
    rw [bv_of (by omega), bv_of (by omega), bv_of (by omega), show (2 : Nat) ^ 6 = 64 from rfl, show (2 : Nat) ^ 12 = 4096 from rfl, or224 (show r / 4096 < 32 by omega), show 2 ^ IntKind.u8.bits = 256 from rfl, or128b, or128b]
  refine wc_sr ?_; refine wl_mv rfl rfl ?_; refine wl_bin rfl rfl bin_gtr rfl ?_; refine wl_mv rfl rfl ?_
  refine wl_cutV 3 56 (.bool (decide ((65535 < (r : Int)) ∧ ((r : Int) ≤ 1114111)))) ?c17 ?_; (case c17 => (dsimp only [List.take]; by_cases hc0 : (65535 < (r : Int)); (focus (apply wl_take; exact rfl; exact rfl; exact rfl; refine bT ?_; (with_reducible assumption); refine wl_mv rfl rfl ?_; apply wl_take; exact rfl; exact rfl; exact rfl; refine bT ?_; (with_reducible assumption); refine wl_bin rfl rfl bin_leq rfl ?_; apply wl_val; apply opv_pickT; exact rfl; refine bT ?_; (with_reducible assumption); exact rfl; exact rfl; refine wl_nil ?_; refine we_cut _ ⟨rfl, rfl⟩ ⟨congrArg (fun b => some (Value.bool b)) ?e17_0, ?s17_0⟩; (case e17_0 => ((simp [hc0]; done))); (case s17_0 => (refine And.intro rfl ?_; refine And.intro rfl ?_; refine And.intro rfl ?_; refine And.intro rfl ?_; refine And.intro rfl ?_; refine And.intro rfl ?_; refine And.intro rfl ?_; exact True.intro)))); (focus (apply wl_skip; exact rfl; exact rfl; exact rfl; refine bFn ?_; (with_reducible assumption); exact rfl; apply wl_skip; exact rfl; exact rfl; exact rfl; refine bFn ?_; (with_reducible assumption); exact rfl; apply wl_val; apply opv_pickF; exact rfl; refine bF ?_; (with_reducible assumption); exact rfl; exact rfl; refine wl_nil ?_; refine we_cut _ ⟨rfl, rfl⟩ ⟨congrArg (fun b => some (Value.bool b)) ?e17_1, ?s17_1⟩; (case e17_1 => ((simp [hc0]; done))); (case s17_1 => (refine And.intro rfl ?_; refine And.intro rfl ?_; refine And.intro rfl ?_; refine And.intro rfl ?_; refine And.intro rfl ?_; refine And.intro rfl ?_; refine And.intro rfl ?_; exact True.intro)))))); dsimp only [List.drop]
  refine wl_as rfl rfl ?_; refine wl_ns ?_
  refine wc_cond rfl (fun h3 => ?_) (fun h3 => absurd (show 65535 < (r : Int) ∧ (r : Int) ≤ 1114111 by unfold Val at hv; omega) h3)
  · refine wc_sr ?_; refine wl_mv rfl rfl ?_; refine wl_mv rfl rfl ?_; apply wl_val; apply opv_bin; exact rfl; exact rfl; exact bin_shr (y := 18) (by simp only [IntKind.bits]; omega); exact rfl; apply wl_val; apply opv_convR; exact rfl; exact Try.underlying21; exact Try.underlying5; exact IntWalk.u8_in _ (by omega); exact rfl; apply wl_val; apply opv_bin; exact rfl; exact rfl; exact bin_or (a := 240) rfl (by decide) (by simp only [IntKind.bits]; omega); exact rfl; refine wl_mv rfl rfl ?_; apply wl_val; apply opv_bin; exact rfl; exact rfl; exact bin_shr (y := 12) (by simp only [IntKind.bits]; omega); exact rfl; apply wl_val; apply opv_convR; exact rfl; exact Try.underlying21; exact Try.underlying5; exact wrap_nat rfl _; exact rfl; apply wl_val; apply opv_bin; exact rfl; exact rfl; exact bin_and (b := 63) rfl (Nat.mod_lt _ (by decide)) (by decide); exact rfl; apply wl_val; apply opv_bin; exact rfl; exact rfl; exact bin_or (a := 128) rfl (by decide) (Nat.lt_of_le_of_lt Nat.and_le_right (by decide)); exact rfl; refine wl_mv rfl rfl ?_; apply wl_val; apply opv_bin; exact rfl; exact rfl; exact bin_shr (y := 6) (by simp only [IntKind.bits]; omega); exact rfl; apply wl_val; apply opv_convR; exact rfl; exact Try.underlying21; exact Try.underlying5; exact wrap_nat rfl _; exact rfl; apply wl_val; apply opv_bin; exact rfl; exact rfl; exact bin_and (b := 63) rfl (Nat.mod_lt _ (by decide)) (by decide); exact rfl; apply wl_val; apply opv_bin; exact rfl; exact rfl; exact bin_or (a := 128) rfl (by decide) (Nat.lt_of_le_of_lt Nat.and_le_right (by decide)); exact rfl; refine wl_mv rfl rfl ?_; apply wl_val; apply opv_convR; exact rfl; exact Try.underlying21; exact Try.underlying5; exact wrap_nat rfl _; exact rfl; apply wl_val; apply opv_bin; exact rfl; exact rfl; exact bin_and (b := 63) rfl (Nat.mod_lt _ (by decide)) (by decide); exact rfl; apply wl_val; apply opv_bin; exact rfl; exact rfl; exact bin_or (a := 128) rfl (by decide) (Nat.lt_of_le_of_lt Nat.and_le_right (by decide)); exact rfl
    refine wl_push (vs := [_, _, _, _]) tyB rfl ho ⟨rfl, rfl, rfl, rfl, rfl, rfl, rfl, rfl, rfl, rfl, rfl, rfl, trivial⟩ rfl (by decide) rfl (by omega) (by simp only [maxLen]; omega) hb rfl rfl fun q A2 c2 w2 o2 g2 hat => ?_
    refine wl_as rfl rfl ?_; refine wl_ns ?_; refine wc_ret ?_; refine we_block_ret ?_
    refine we_ret1 rfl rfl ⟨_, rfl, retAp o2 g2 hat ?_⟩
    rw [enc_four (by omega) (by omega)]
    simp only [bvs, List.map]
    rw [bv_of (by omega), bv_of (by omega), bv_of (by omega), bv_of (by omega), show (2 : Nat) ^ 6 = 64 from rfl, show (2 : Nat) ^ 12 = 4096 from rfl, show (2 : Nat) ^ 18 = 262144 from rfl, or240 (show r / 262144 < 16 by omega), show 2 ^ IntKind.u8.bits = 256 from rfl, or128b, or128b, or128b]
theorem appendRune_any {w : World} {base c r : Nat} {A : Option Addr} {xs : List UInt8} (ho : OwB w base A c xs) (hb : base ≤ w.heap.size) (hl : xs.length ≤ 70368744177664) (hv : Val r) :
    CallsV Try.prog 97 #[.slice A xs.length c, .int .i32 (r : Int)] w (RetAp w base A (xs ++ enc r)) := by
  have hr : r ≤ 1114111 := by unfold Val at hv; omega
  refine calls_in (N := _) Try.func97 rfl Try.ntmps97 rfl ?_; show WC _ _ _ _ _ _
  refine wc_sr ?_; refine wl_as rfl rfl ?_; refine wl_ns ?_; refine wc_seq ?_; refine wc_sr ?_; refine wl_mv rfl rfl ?_; apply wl_val; apply opv_convR; exact rfl; exact Try.underlying21; exact Try.underlying153; exact IntWalk.u32_in _ (by omega); exact rfl; refine wl_bin rfl rfl bin_leq rfl ?_; refine wl_ns ?_
  refine wc_cond rfl (fun h1 => ?_) (fun h1 => ?_)
  · refine wc_sr ?_; refine wl_mv rfl rfl ?_; refine wl_mv rfl rfl ?_; apply wl_val; apply opv_convR; exact rfl; exact Try.underlying21; exact Try.underlying5; exact IntWalk.u8_in _ (by omega); exact rfl
    refine wl_push (vs := [_]) tyB rfl ho ⟨rfl, rfl, rfl, trivial⟩ rfl (by decide) rfl (by omega) (by simp only [maxLen]; omega) hb rfl rfl fun q A2 c2 w2 o2 g2 hat => ?_
    refine wl_as rfl rfl ?_; refine wl_ns ?_; refine wc_ret ?_; refine we_seq_ret ?_
    refine we_ret1 rfl rfl ⟨_, rfl, retAp o2 g2 hat ?_⟩
    rw [enc_one (by omega)]
    simp only [bvs, List.map]
    rw [bv_of (by omega)]
  · refine wc_skip ?_; refine we_seq ?_; refine wc_sr ?_; refine wl_mv rfl rfl ?_; refine wl_mv rfl rfl ?_
    refine wl_call ok_unicode_utf8_appendRuneNonASCII (appendNon_any ho hb hl hv (by omega)) ⟨rfl, rfl, trivial⟩ rfl ?_
    rintro v w2 h2
    refine wl_as rfl rfl ?_; refine wl_ns ?_; refine wc_ret ?_
    exact we_ret1 rfl rfl ⟨_, rfl, h2⟩

theorem ok_strings_Builder_copyCheck : CallOk Try.prog 96 := callOk Try.func96 (by kernel_rfl) rfl
theorem ok_strings_Builder_WriteRune : CallOk Try.prog 67 := callOk Try.func67 (by kernel_rfl) rfl
theorem ok_strings_Builder_String : CallOk Try.prog 68 := callOk Try.func68 (by kernel_rfl) rfl
/-- A builder in a block of its own that holds these bytes. -/
def Bd (w : World) (B b : Nat) (p : Value) (A : Option Addr) (c : Nat) (bs : List UInt8) : Prop :=
  B ≤ b ∧ Ar w b 101 [p, .slice A bs.length c] ∧ OwB w B A c bs ∧ (∀ a, A = some a → a.block ≠ b) ∧ (p = .pointer none ∨ p = .pointer (some ⟨b, 0, none⟩))
theorem fa_b0 : FieldAt Try.prog 101 0 0 := fieldAt_mk Try.underlying101 rfl rfl (by kernel_rfl)
theorem fa_b1 : FieldAt Try.prog 101 1 1 := fieldAt_mk Try.underlying101 rfl rfl (by kernel_rfl)
theorem c1_pb : Cell1 Try.prog 99 := ⟨by kernel_rfl, by rw [Try.underlying99]⟩
theorem c1_sb : Cell1 Try.prog 30 := ⟨by kernel_rfl, by rw [Try.underlying30]⟩
theorem run_infoB : ∃ j, Try.prog.info? 101 = some j ∧ j.size ≠ 0 := by
  have h : (Try.prog.info? 101).map (·.size) = some 2 := by kernel_rfl
  cases hq : Try.prog.info? 101 with
  | none => simp [hq] at h
  | some i => exact ⟨i, rfl, by have : i.size = 2 := by simpa [hq] using h
                                omega⟩
theorem noEscape_run (v : Value) (w : World) : (callFunc 111 #[v]).run Try.prog w = .ok (.value v) w := by
  rw [run_callFunc_extern Try.func111 (by kernel_rfl) rfl (by kernel_rfl) (e := Extern.AbiNoEscape.same) (by kernel_rfl)]
  simp only [Sem.run_bind, Lib.run_noEscape]
  simp
theorem copyCheck_any {w : World} {B b c : Nat} {p : Value} {A : Option Addr} {bs : List UInt8} (h : Bd w B b p A c bs) :
    CallsV Try.prog 96 #[.pointer (some ⟨b, 0, none⟩)] w fun v w' => Bd w' B b (.pointer (some ⟨b, 0, none⟩)) A c bs ∧ Gr w w' (some ⟨b, 0, none⟩) := by
  obtain ⟨hB, ha, ho, hne, hp⟩ := h
  obtain ⟨j, hj, hj0⟩ := run_infoB
  refine calls_in (N := _) Try.func96 rfl Try.ntmps96 rfl ?_; show WC _ _ _ _ _ _
  refine wc_sr ?_; refine wl_mv rfl rfl ?_
  refine wl_val (opv_nilOk rfl) rfl ?_
  skip
  refine wl_val (opv_fa fa_b0 rfl) rfl ?_
  refine wl_val (opv_ldA c1_pb ha rfl rfl) rfl ?_
  rcases hp with rfl | rfl
  · refine wl_bin rfl rfl (bin_eqlNilNil Try.underlying99) rfl ?_
    have hsh := ha.shape
    refine wl_ns ?_; apply wc_condTb; exact rfl; exact rfl; refine wc_region ?_; refine wl_mv rfl rfl ?_; refine wl_mv rfl rfl ?_
    refine wl_val (opv_convWith rfl (Lib.run_to_unsafe w ⟨b, 0, none⟩ Try.underlying99 Try.underlying151 hj hj0 hsh (by simp))) rfl ?_
    refine wl_ext (noEscape_run _ w) ⟨rfl, trivial⟩ rfl ?_
    refine wl_val (opv_convWith rfl (Lib.run_from_unsafe w ⟨b, 0, none⟩ Try.underlying151 Try.underlying99 hj hsh (by kernel_rfl))) rfl ?_
    refine wl_val (opv_nilOk rfl) rfl ?_
    skip
    refine wl_val (opv_fa fa_b0 rfl) rfl ?_
    refine wl_stA c1_pb ha rfl (by simp) rfl rfl fun w1 a1 g1 _ => ?_
    have o1 : OwB w1 B A c bs := Ow.gr (base' := 0) (e' := 0) ho g1 fun a b' ha hb' => by cases hb'; exact hne a ha
    have ha2 : Ar w1 b 101 [.pointer (some ⟨b, 0, none⟩), .slice A bs.length c] := a1
    refine wl_nil ?_
    exact we_end0 rfl ⟨_, rfl, ⟨hB, ha2, o1, hne, .inr rfl⟩, g1⟩
  · refine wl_bin rfl rfl (bin_eqlPtrNil Try.underlying99) rfl ?_
    refine wl_ns ?_; apply wc_condFb; exact rfl; exact rfl; refine wc_sr ?_; refine wl_mv rfl rfl ?_
    refine wl_val (opv_nilOk rfl) rfl ?_
    skip
    refine wl_val (opv_fa fa_b0 rfl) rfl ?_
    refine wl_val (opv_ldA c1_pb ha rfl rfl) rfl ?_
    refine wl_mv rfl rfl ?_
    refine wl_bin rfl rfl (bin_neqPtrSelf Try.underlying99 hj) rfl ?_
    refine wl_ns ?_; apply wc_condFb; exact rfl; exact rfl; refine wc_skip ?_
    exact we_end0 rfl ⟨_, rfl, ⟨hB, ha, ho, hne, .inr rfl⟩, Gr.refl _ _⟩
theorem writeRune_any {w : World} {B b c r : Nat} {p : Value} {A : Option Addr} {bs : List UInt8} (h : Bd w B b p A c bs) (hl : bs.length ≤ 70368744177664) (hv : Val r) :
    CallsV Try.prog 67 #[.pointer (some ⟨b, 0, none⟩), .int .i32 (r : Int)] w fun v w' => ∃ (A' : Option Addr) (c' : Nat) (w1 w2 : World), Bd w' B b (.pointer (some ⟨b, 0, none⟩)) A' c' (bs ++ enc r) ∧ Gr w w1 (some ⟨b, 0, none⟩) ∧ Gr w1 w2 A ∧ Gr w2 w' (some ⟨b, 0, none⟩) := by
  have hbw : b < w.heap.size := h.2.1.lt
  have hBb := h.1
  have hel := enc_length r
  refine calls_in (N := _) Try.func67 rfl Try.ntmps67 rfl ?_; show WC _ _ _ _ _ _
  refine wc_sr ?_; refine wl_as rfl rfl ?_; refine wl_as rfl rfl ?_; refine wl_ns ?_; refine wc_sr ?_; refine wl_mv rfl rfl ?_
  refine wl_call ok_strings_Builder_copyCheck (copyCheck_any h) ⟨rfl, trivial⟩ rfl ?_
  rintro _ w1 ⟨⟨hB, a1, o1, hne, hp⟩, g1⟩
  have hs1 := g1.size
  refine wl_ns ?_; refine wc_sr ?_; refine wl_mv rfl rfl ?_
  refine wl_val (opv_nilOk rfl) rfl ?_
  refine wl_val (opv_fa fa_b1 rfl) rfl ?_
  refine wl_val (opv_ldA c1_sb a1 rfl rfl) rfl ?_
  apply wl_val; apply opv_len; exact rfl; exact tyB.sl; exact rfl; refine wl_as rfl rfl ?_; refine wl_ns ?_; refine wc_sr ?_; refine wl_mv rfl rfl ?_; refine wl_mv rfl rfl ?_
  refine wl_val (opv_nilOk rfl) rfl ?_
  refine wl_val (opv_fa fa_b1 rfl) rfl ?_
  refine wl_val (opv_ldA c1_sb a1 rfl rfl) rfl ?_
  refine wl_mv rfl rfl ?_
  refine wl_call ok_unicode_utf8_AppendRune (appendRune_any o1 (by omega) hl hv) ⟨rfl, rfl, trivial⟩ rfl ?_
  rintro _ w2 ⟨A2, c2, rfl, o2, g2, hat⟩
  have hne2 : ∀ a, A2 = some a → a.block ≠ b := fun a ha hb => by
    rcases hat with hat | hat
    · rw [ha] at hat
      cases A with
      | none => simp at hat
      | some a0 => simp at hat; exact hne a0 rfl (hat ▸ hb)
    · have := hat a ha; omega
  have a2 := a1.grA g2 hne
  refine wl_val (opv_nilOk rfl) rfl ?_
  refine wl_val (opv_fa fa_b1 rfl) rfl ?_
  refine wl_stA c1_sb a2 rfl (by simp) rfl rfl fun w3 a3 g3 _ => ?_
  have ha3 : Ar w3 b 101 [.pointer (some ⟨b, 0, none⟩), .slice A2 (bs ++ enc r).length c2] := a3
  have o3 : OwB w3 B A2 c2 (bs ++ enc r) := Ow.gr (base' := 0) (e' := 0) o2 g3 fun a b' ha hb' => by cases hb'; exact hne2 a ha
  have hll : (bs ++ enc r).length ≤ 70368744177668 := by simp; omega
  refine wl_ns ?_; refine wc_sr ?_; refine wl_mv rfl rfl ?_
  refine wl_val (opv_nilOk rfl) rfl ?_
  refine wl_val (opv_fa fa_b1 rfl) rfl ?_
  refine wl_val (opv_ldA c1_sb ha3 rfl rfl) rfl ?_
  apply wl_val; apply opv_len; exact rfl; exact tyB.sl; exact rfl; refine wl_mv rfl rfl ?_; apply wl_val; apply opv_bin; exact rfl; exact rfl; exact bin_sub64 (by omega); exact rfl; refine wl_as rfl rfl ?_; refine wl_as rfl rfl ?_; refine wl_ns ?_; refine wc_ret ?_
  exact we_ret2 rfl rfl rfl ⟨_, rfl, A2, c2, w1, w2, ⟨hB, ha3, o3, hne2, .inr rfl⟩, g1, g2, g3⟩
end Go.Proofs.Ytcjiecclmepboaa

/-
  Contracts of Go's library that the kit's shelf holds, as its tool laid them at this seat: Try.Builder_String_any, Try.strings_FieldsFunc_runes.
-/
namespace Go.Proofs
open Go.Shelf
def Try.lays169_ren : Go.Shelf.Ren := ⟨fun | 169 => 68 | n => n, fun | 70 => 99 | 9 => 9 | 0 => 0 | 72 => 101 | 37 => 30 | 127 => 137 | 3 => 3 | 5 => 5 | n => n, fun | n => n⟩
theorem Try.lays169 : Go.Proofs.Lays.n169 Try.prog Try.lays169_ren := {
  mixed := by kernel_rfl
  f169 := Try.func68.trans (congrArg some (by kernel_rfl))
  t0 := Try.underlying0
  a0 := Try.isAgg0
  z0 := Try.sizeOf0
  v0 := Try.zeroValue0
  t3 := Try.underlying3
  a3 := Try.isAgg3
  z3 := Try.sizeOf3
  v3 := Try.zeroValue3
  t9 := Try.underlying9
  a9 := Try.isAgg9
  z9 := Try.sizeOf9
  v9 := Try.zeroValue9
  t37 := Try.underlying30
  a37 := Try.isAgg30
  z37 := Try.sizeOf30
  v37 := Try.zeroValue30
  t70 := Try.underlying99
  a70 := Try.isAgg99
  z70 := Try.sizeOf99
  v70 := Try.zeroValue99
  t72 := Try.underlying101
  a72 := Try.isAgg101
  z72 := Try.sizeOf101
  v72 := Try.zeroValue101
  t127 := Try.underlying137
  a127 := Try.isAgg137
  z127 := Try.sizeOf137
  v127 := Try.zeroValue137 }
theorem Try.Builder_Extra_169 : Builder.Extra Try.prog Try.lays169_ren := {
  sizeBuilder := by kernel_rfl
  liesBuilder := by kernel_rfl
  t5 := Try.underlying5
  a5 := Try.isAgg5
  z5 := Try.sizeOf5
  v5 := Try.zeroValue5
  infoByte := by kernel_rfl
  cellsByte := by kernel_rfl
  sizeByte := by kernel_rfl
  neB5 := by decide }
open Go.RowKit in
theorem Try.Builder_String_any (B b : Nat) (l : List UInt8) (w : World) (h : Lib.IsBuilder 101 5 B b (Lib.byteCells l) w) (hBw : B ≤ w.heap.size) :
    Calls Try.prog 68 #[.pointer (some ⟨b, 0, none⟩)] w fun e w' => e = .returned (.string ⟨l.toArray⟩) ∧ Below B w w' := Any.Builder_String_any Try.lays169 Try.Builder_Extra_169 B b l w h hBw
end Go.Proofs

/-
  The walk over Fold, and the fixed fact of the laws of texts.
-/
namespace Go.Proofs.Ytcjiecclmepboaa
open Go.RowKit

section
variable {w w' : World} {B b c : Nat} {p : Value} {A X : Option Addr} {bs : List UInt8}
theorem Bd.gr (h : Bd w B b p A c bs) (g : Gr w w' X) (h1 : ∀ a, X = some a → a.block ≠ b) (h2 : ∀ a x, A = some a → X = some x → a.block ≠ x.block) : Bd w' B b p A c bs :=
  ⟨h.1, h.2.1.grA g h1, Ow.gr (base' := 0) (e' := 0) h.2.2.1 g h2, h.2.2.2.1, h.2.2.2.2⟩
theorem Bd.is (h : Bd w B b p A c bs) : Lib.IsBuilder 101 5 B b (Lib.byteCells bs) w := by
  obtain ⟨hB, ha, ho, hne, hp⟩ := h
  have hat : Lib.BuilderAt 101 5 B b p (Lib.byteCells bs) w := by
    refine ⟨hB, .slice A bs.length c, ha, ?_, ?_⟩
    · have : (Lib.byteCells bs).length = bs.length := by simp [Lib.byteCells]
      rw [this]; exact ho
    · rw [ownBlock_slice]
      cases A with
      | none => simp
      | some a => have := hne a rfl; simpa using this
  rcases hp with rfl | rfl
  · exact .inl hat
  · exact .inr hat
end
theorem bString_any {w : World} {B b c : Nat} {p : Value} {A : Option Addr} {bs : List UInt8} (h : Bd w B b p A c bs) :
    CallsV Try.prog 68 #[.pointer (some ⟨b, 0, none⟩)] w fun v w' => v = str bs ∧ Below B w w' :=
  (Try.Builder_String_any B b bs w h.is (Nat.le_trans h.1 (Nat.le_of_lt h.2.1.lt))).mono fun _ _ ⟨h1, h2⟩ => ⟨_, h1, rfl, h2⟩
theorem fold_any {l : List UInt8} (hl : l.length ≤ 1099511627776) (w : World) : CallsV Try.prog 18 #[str l] w fun v w' => v = str (foldB l) ∧ Below w.heap.size w w' := by
  refine calls_in (N := _) Try.func18 rfl Try.ntmps18 rfl ?_; show WC _ _ _ _ _ _
  refine wc_sr ?_; refine wl_as rfl rfl ?_; refine wl_ns ?_; refine wc_sr ?_
  refine wl_alloc (z := .agg #[.pointer none, .slice none 0 0]) (by kernel_rfl) rfl fun w1 a1 hb1 hs1 => ?_
  have d1 : Bd w1 w.heap.size w.heap.size (.pointer none) none 0 [] := ⟨Nat.le_refl _, a1, Ow.nil _ _ _, by simp, .inl rfl⟩
  refine wl_ns ?_; refine wc_seq ?_; refine wc_sr ?_; refine wl_mv rfl rfl ?_
  refine wl_range tyStr rfl rfl fun k w2 hk i2 hb2 => ?_
  have d2 : Bd w2 w.heap.size w.heap.size (.pointer none) none 0 [] := ⟨Nat.le_refl _, d1.2.1.bel hb2, Ow.nil _ _ _, by simp, .inl rfl⟩
  have hwk : w.heap.size < k := by omega
  obtain ⟨b, hb0⟩ : ∃ b, w.heap.size = b := ⟨_, rfl⟩
  have hbb := hb1.trans (hb2.mono hb1.size)
  refine wl_ns ?_; refine wc_block ?_
  refine wc_loop (fun L wr m => ∃ (q : Nat) (done : List Nat) (p : Value) (A : Option Addr) (c : Nat), L = [(3, .pointer (some ⟨w.heap.size, 0, none⟩)), (7, .pointer (some ⟨k, 0, none⟩))] ∧ Bd wr w.heap.size w.heap.size p A c (encs (done.map lowN)) ∧ It wr k l q ∧ Below w.heap.size w wr ∧ q ≤ l.length ∧ done.length ≤ q ∧ done ++ rs (l.drop q) = rs l ∧ m = l.length - q)
    [(3, .pointer (some ⟨w.heap.size, 0, none⟩)), (7, .pointer (some ⟨k, 0, none⟩))] l.length ⟨0, [], .pointer none, none, 0, rfl, d2, i2, hbb, by omega, by simp, rfl, rfl⟩ ⟨rfl, rfl, trivial⟩ ?_
  rintro _ w3 m ⟨q, done, p, A, c, rfl, d3, i3, hb3, hq, hn, he, rfl⟩
  have hel := encs_length (done.map lowN)
  rw [List.length_map] at hel
  refine wc_sr ?_
  by_cases hlt : q < l.length
  · have hd := dec_at hlt
    have hlv := lowN_val (dec_val (l.drop q))
    rw [rs_step hlt] at he
    refine wl_next rfl i3 hlt rfl fun w4 i4 g4 hs4 => ?_
    have d4 := d3.gr g4 (fun a ha => by cases ha; exact (show k ≠ w.heap.size by omega)) (fun a x ha hx => by cases hx; exact i3.ne_own d3.2.2.1 a ha)
    have hb4 := g4.belowI hb3 (by omega) hb3.size
    apply wl_val; apply opv_extract; exact rfl; exact rfl; exact rfl; refine wl_ns ?_; refine wc_seq ?_; apply wc_condTb; exact rfl; exact rfl; refine wc_skip ?_; refine we_seq ?_; refine wc_block ?_; refine wc_sr ?_; apply wl_val; apply opv_extract; exact rfl; exact rfl; exact rfl; refine wl_as rfl rfl ?_; refine wl_ns ?_; refine wc_region ?_; refine wl_mv rfl rfl ?_; apply wl_callX (vs := [_]) ok_text_low; exact ⟨rfl, trivial⟩; exact rfl; exact low_any _ (dec_le _) _; rintro _ _ ⟨rfl, rfl⟩
    refine wl_call ok_strings_Builder_WriteRune (writeRune_any d4 (by omega) hlv) ⟨rfl, rfl, trivial⟩ rfl ?_
    rintro _ w7 ⟨A7, c7, w5, w6, d7, g5, g6, g7⟩
    have i5 := i4.gr' g5 fun a ha => by cases ha; exact (show w.heap.size ≠ k by omega)
    have i6 := i5.gr' g6 fun a ha => i4.ne_own d4.2.2.1 a ha
    have i7 := i6.gr' g7 fun a ha => by cases ha; exact (show w.heap.size ≠ k by omega)
    have hb5 := g5.belowI hb4 (Nat.le_refl _) hb4.size
    have hb6 := g6.below hb5 (Ow.gr (base' := 0) (e' := 0) d4.2.2.1 g5 fun a x ha hx => by cases hx; exact d4.2.2.2.1 a ha) (Nat.le_refl _) hb5.size
    have hb7 := g7.belowI hb6 (Nat.le_refl _) hb6.size
    have e7 : encs (done.map lowN) ++ enc (lowN (dec (l.drop q)).1) = encs ((done ++ [(dec (l.drop q)).1]).map lowN) := by
      rw [List.map_append, encs_append]; simp [encs]
    rw [e7] at d7
    refine wl_nil ?_; refine we_block_norm ?_
    refine we_loop [(3, .pointer (some ⟨w.heap.size, 0, none⟩)), (7, .pointer (some ⟨k, 0, none⟩))] (l.length - (q + (dec (l.drop q)).2)) ⟨_, _, _, A7, c7, rfl, d7, i7, hb7, hd.2.1, by simp; omega, by rw [List.append_assoc]; exact he, rfl⟩ (by omega) ⟨rfl, rfl, trivial⟩
  · refine wl_nextE rfl i3 hlt rfl ?_
    rw [rs_end hlt, List.append_nil] at he
    subst he
    apply wl_val; apply opv_extract; exact rfl; exact rfl; exact rfl; refine wl_ns ?_; refine wc_seq ?_; apply wc_condFb; exact rfl; exact rfl; refine wc_exit ?_; refine we_seq_exit ?_; refine we_loop_exit ?_; refine we_block_exit ?_; refine we_seq ?_; refine wc_sr ?_
    refine wl_call ok_strings_Builder_String (bString_any d3) ⟨rfl, trivial⟩ rfl ?_
    rintro _ w4 ⟨rfl, hb4⟩
    refine wl_as rfl rfl ?_; refine wl_ns ?_; refine wc_ret ?_
    exact we_ret1 rfl rfl ⟨_, rfl, rfl, hb3.trans hb4⟩
end Go.Proofs.Ytcjiecclmepboaa

/-
  The engine's rules for a region whose order Go leaves open and which makes memory: operations that yield one value in every world of a class are taken first; where one operation alone may come up, it is carried out. Nothing here names the program.
-/
namespace Go.Proofs.Ytcjiecclmepboaa
open Go.RowKit

section
variable {P : Program} {N : Nat} {ops : Array Oper} {Q : Exit → Act → World → Prop} {S : World → Prop} {fuel : Nat} {listed : Array Bool} {L : FL} {w : World}

end
end Go.Proofs.Ytcjiecclmepboaa

/-
  The fixed fact of the laws of texts.
-/
namespace Go.Proofs.Ytcjiecclmepboaa
open Go.RowKit
/-- True is handed back, and nothing that stood has changed. -/
abbrev RetTr (w : World) (v : Value) (w' : World) : Prop := v = .bool true ∧ Below w.heap.size w w'

end Go.Proofs.Ytcjiecclmepboaa

/-
  The cells of values: their struct type's facts, and walks over the functions that only read one or make one: twin, Good, Same.
-/
namespace Go.Proofs.Ytcjiecclmepboaa
open Go.RowKit

theorem sC : StT Try.prog 53 5 := ⟨by kernel_rfl, by kernel_rfl⟩
theorem fa_sC {k : Nat} (h : k < 5) : FieldAt Try.prog 53 k k := by
  match k, h with
  | 0, _ => exact fieldAt_mk Try.underlying53 rfl rfl (by kernel_rfl)
  | 1, _ => exact fieldAt_mk Try.underlying53 rfl rfl (by kernel_rfl)
  | 2, _ => exact fieldAt_mk Try.underlying53 rfl rfl (by kernel_rfl)
  | 3, _ => exact fieldAt_mk Try.underlying53 rfl rfl (by kernel_rfl)
  | 4, _ => exact fieldAt_mk Try.underlying53 rfl rfl (by kernel_rfl)
theorem c1_int : Cell1 Try.prog 3 := ⟨by kernel_rfl, by rw [Try.underlying3]⟩
theorem c1_bool : Cell1 Try.prog 4 := ⟨by kernel_rfl, by rw [Try.underlying4]⟩
theorem c1_i64 : Cell1 Try.prog 2 := ⟨by kernel_rfl, by rw [Try.underlying2]⟩
theorem c1_str : Cell1 Try.prog 9 := ⟨by kernel_rfl, by rw [Try.underlying9]⟩
theorem c1_by : Cell1 Try.prog 30 := ⟨by kernel_rfl, by rw [Try.underlying30]⟩
theorem z_bool : (Try.prog.info? 4).map (·.zero) = some (some (.bool false)) := by kernel_rfl
theorem z_i64 : (Try.prog.info? 2).map (·.zero) = some (some (.int .i64 (0 : Nat))) := by kernel_rfl
theorem z_str : (Try.prog.info? 9).map (·.zero) = some (some (str [])) := by kernel_rfl
theorem iAny : Try.prog.isIface 20 = true ∧ Try.prog.underlying 20 = some (.interface #[]) := ⟨by kernel_rfl, Try.underlying20⟩
/-- A cell: its kind, what it holds of each. -/
structure Ce where
  kind : Int
  tr : Bool
  num : Int
  text : List UInt8
  data : List UInt8
/-- A cell as values, its bytes behind A. -/
def ceV (x : Ce) (A : Option Addr) (c : Nat) : List Value := [.int .i64 x.kind, .bool x.tr, .int .i64 x.num, str x.text, .slice A x.data.length c]
/-- Is a cell in form? -/
def goodC (x : Ce) : Bool := decide (0 ≤ x.kind ∧ x.kind ≤ 4 ∧ (x.kind = 1 ∨ x.tr = false) ∧ (x.kind = 2 ∨ x.num = 0) ∧ (x.kind = 3 ∨ x.text = []) ∧ (x.kind = 4 ∨ x.data = []))
theorem good_any {x : Ce} {A : Option Addr} {c : Nat} {w : World} : CallsV Try.prog 36 #[.agg (ceV x A c).toArray] w fun v w' => v = .bool (goodC x) ∧ Below w.heap.size w w' := by
  refine calls_in (N := _) Try.func36 rfl Try.ntmps36 rfl ?_; show WC _ _ _ _ _ _
  refine wc_sr ?_
  refine wl_box (cs := ceV x A c) rfl rfl fun g w1 hg a1 hb1 => ?_
  unfold ceV at a1
  refine wl_as rfl rfl ?_; refine wl_ns ?_; refine wc_seq ?_; refine wc_sr ?_; apply wl_val; apply opv_fa; exact fa_sC (by decide); exact rfl; exact rfl; apply wl_val; apply opv_ldX; exact rfl; assumption; exact c1_int; exact rfl; exact rfl; refine wl_bin rfl rfl bin_lss rfl ?_; refine wl_mv rfl rfl ?_
  refine wl_cutV 4 10 (.bool (decide ((x.kind < 0) ∨ (4 < x.kind)))) ?c2 ?_; (case c2 => (dsimp only [List.take]; by_cases hc0 : (x.kind < 0); (focus (apply wl_skip; exact rfl; exact rfl; exact rfl; refine bTn ?_; (with_reducible assumption); exact rfl; apply wl_skip; exact rfl; exact rfl; exact rfl; refine bTn ?_; (with_reducible assumption); exact rfl; apply wl_skip; exact rfl; exact rfl; exact rfl; refine bTn ?_; (with_reducible assumption); exact rfl; apply wl_val; apply opv_pickT; exact rfl; refine bT ?_; (with_reducible assumption); exact rfl; exact rfl; refine wl_nil ?_; refine we_cut _ ⟨rfl, rfl⟩ ⟨congrArg (fun b => some (Value.bool b)) ?e2_0, ?s2_0⟩; (case e2_0 => ((simp [hc0]; done))); (case s2_0 => (refine And.intro rfl ?_; refine And.intro rfl ?_; refine And.intro rfl ?_; refine And.intro rfl ?_; refine And.intro rfl ?_; refine And.intro rfl ?_; refine And.intro rfl ?_; exact True.intro)))); (focus (apply wl_take; exact rfl; exact rfl; exact rfl; refine bF ?_; (with_reducible assumption); apply wl_val; apply opv_fa; exact fa_sC (by decide); exact rfl; exact rfl; apply wl_take; exact rfl; exact rfl; exact rfl; refine bF ?_; (with_reducible assumption); apply wl_val; apply opv_ldX; exact rfl; assumption; exact c1_int; exact rfl; exact rfl; apply wl_take; exact rfl; exact rfl; exact rfl; refine bF ?_; (with_reducible assumption); refine wl_bin rfl rfl bin_gtr rfl ?_; apply wl_val; apply opv_pickF; exact rfl; refine bF ?_; (with_reducible assumption); exact rfl; exact rfl; refine wl_nil ?_; refine we_cut _ ⟨rfl, rfl⟩ ⟨congrArg (fun b => some (Value.bool b)) ?e2_1, ?s2_1⟩; (case e2_1 => ((simp [hc0]; done))); (case s2_1 => (refine And.intro rfl ?_; refine And.intro rfl ?_; refine And.intro rfl ?_; refine And.intro rfl ?_; refine And.intro rfl ?_; refine And.intro rfl ?_; refine And.intro rfl ?_; exact True.intro)))))); dsimp only [List.drop]
  refine wl_ns ?_
  refine wc_cond rfl (fun h1 => ?_) (fun h1 => ?_)
  · refine wc_sr ?_; refine wl_as rfl rfl ?_; refine wl_ns ?_; refine wc_ret ?_; refine we_seq_ret ?_
    exact we_ret1 rfl rfl ⟨_, rfl, congrArg Value.bool (by rw [goodC, Bool.eq_iff_iff]; simp only [decide_eq_true_eq, Bool.false_eq_true, false_iff]; omega), hb1⟩
  refine wc_skip ?_; refine we_seq ?_; refine wc_sr ?_; apply wl_val; apply opv_fa; exact fa_sC (by decide); exact rfl; exact rfl; apply wl_val; apply opv_ldX; exact rfl; assumption; exact c1_int; exact rfl; exact rfl; refine wl_bin rfl rfl bin_eql rfl ?_; refine wl_mv rfl rfl ?_
  refine wl_cutV 4 18 (.bool (decide ((x.kind = 1) ∨ (x.tr = false)))) ?c11 ?_; (case c11 => (dsimp only [List.take]; by_cases hc0 : (x.kind = 1); (focus (apply wl_skip; exact rfl; exact rfl; exact rfl; refine bTn ?_; (with_reducible assumption); exact rfl; apply wl_skip; exact rfl; exact rfl; exact rfl; refine bTn ?_; (with_reducible assumption); exact rfl; apply wl_skip; exact rfl; exact rfl; exact rfl; refine bTn ?_; (with_reducible assumption); exact rfl; apply wl_val; apply opv_pickT; exact rfl; refine bT ?_; (with_reducible assumption); exact rfl; exact rfl; refine wl_nil ?_; refine we_cut _ ⟨rfl, rfl⟩ ⟨congrArg (fun b => some (Value.bool b)) ?e11_0, ?s11_0⟩; (case e11_0 => ((simp [hc0]; done))); (case s11_0 => (refine And.intro rfl ?_; refine And.intro rfl ?_; refine And.intro rfl ?_; refine And.intro rfl ?_; refine And.intro rfl ?_; refine And.intro rfl ?_; refine And.intro rfl ?_; refine And.intro rfl ?_; refine And.intro rfl ?_; refine And.intro rfl ?_; refine And.intro rfl ?_; refine And.intro rfl ?_; exact True.intro)))); (focus (apply wl_take; exact rfl; exact rfl; exact rfl; refine bF ?_; (with_reducible assumption); apply wl_val; apply opv_fa; exact fa_sC (by decide); exact rfl; exact rfl; apply wl_take; exact rfl; exact rfl; exact rfl; refine bF ?_; (with_reducible assumption); apply wl_val; apply opv_ldX; exact rfl; assumption; exact c1_bool; exact rfl; exact rfl; apply wl_take; exact rfl; exact rfl; exact rfl; refine bF ?_; (with_reducible assumption); apply wl_val; apply opv_not; exact rfl; exact rfl; apply wl_val; apply opv_pickF; exact rfl; refine bF ?_; (with_reducible assumption); exact rfl; exact rfl; refine wl_nil ?_; refine we_cut _ ⟨rfl, rfl⟩ ⟨congrArg (fun b => some (Value.bool b)) ?e11_1, ?s11_1⟩; (case e11_1 => ((simp [hc0]; done))); (case s11_1 => (refine And.intro rfl ?_; refine And.intro rfl ?_; refine And.intro rfl ?_; refine And.intro rfl ?_; refine And.intro rfl ?_; refine And.intro rfl ?_; refine And.intro rfl ?_; refine And.intro rfl ?_; refine And.intro rfl ?_; refine And.intro rfl ?_; refine And.intro rfl ?_; refine And.intro rfl ?_; exact True.intro)))))); dsimp only [List.drop]
  refine wl_mv rfl rfl ?_
  refine wl_cutV 9 28 (.bool (decide ((x.kind = 1 ∨ x.tr = false) ∧ (x.kind = 2 ∨ x.num = 0)))) ?c18 ?_; (case c18 => (dsimp only [List.take]; by_cases hc0 : (x.kind = 1 ∨ x.tr = false); (focus (by_cases hc1 : (x.kind = 2); (focus (apply wl_take; exact rfl; exact rfl; exact rfl; refine bT ?_; (with_reducible assumption); apply wl_val; apply opv_fa; exact fa_sC (by decide); exact rfl; exact rfl; apply wl_take; exact rfl; exact rfl; exact rfl; refine bT ?_; (with_reducible assumption); apply wl_val; apply opv_ldX; exact rfl; assumption; exact c1_int; exact rfl; exact rfl; apply wl_take; exact rfl; exact rfl; exact rfl; refine bT ?_; (with_reducible assumption); refine wl_bin rfl rfl bin_eql rfl ?_; apply wl_take; exact rfl; exact rfl; exact rfl; refine bT ?_; (with_reducible assumption); refine wl_mv rfl rfl ?_; apply wl_skip; exact rfl; exact rfl; exact rfl; refine bTn ?_; (with_reducible assumption); exact rfl; apply wl_skip; exact rfl; exact rfl; exact rfl; refine bTn ?_; (with_reducible assumption); exact rfl; apply wl_skip; exact rfl; exact rfl; exact rfl; refine bTn ?_; (with_reducible assumption); exact rfl; apply wl_take; exact rfl; exact rfl; exact rfl; refine bT ?_; (with_reducible assumption); apply wl_val; apply opv_pickT; exact rfl; refine bT ?_; (with_reducible assumption); exact rfl; exact rfl; apply wl_val; apply opv_pickT; exact rfl; refine bT ?_; (with_reducible assumption); exact rfl; exact rfl; refine wl_nil ?_; refine we_cut _ ⟨rfl, rfl⟩ ⟨congrArg (fun b => some (Value.bool b)) ?e18_0, ?s18_0⟩; (case e18_0 => ((simp_all; done))); (case s18_0 => (refine And.intro rfl ?_; refine And.intro rfl ?_; refine And.intro rfl ?_; refine And.intro rfl ?_; refine And.intro rfl ?_; refine And.intro rfl ?_; refine And.intro rfl ?_; refine And.intro rfl ?_; refine And.intro rfl ?_; refine And.intro rfl ?_; refine And.intro rfl ?_; refine And.intro rfl ?_; refine And.intro rfl ?_; refine And.intro rfl ?_; exact True.intro)))); (focus (apply wl_take; exact rfl; exact rfl; exact rfl; refine bT ?_; (with_reducible assumption); apply wl_val; apply opv_fa; exact fa_sC (by decide); exact rfl; exact rfl; apply wl_take; exact rfl; exact rfl; exact rfl; refine bT ?_; (with_reducible assumption); apply wl_val; apply opv_ldX; exact rfl; assumption; exact c1_int; exact rfl; exact rfl; apply wl_take; exact rfl; exact rfl; exact rfl; refine bT ?_; (with_reducible assumption); refine wl_bin rfl rfl bin_eql rfl ?_; apply wl_take; exact rfl; exact rfl; exact rfl; refine bT ?_; (with_reducible assumption); refine wl_mv rfl rfl ?_; apply wl_take; exact rfl; exact rfl; exact rfl; refine bF ?_; (with_reducible assumption); apply wl_val; apply opv_fa; exact fa_sC (by decide); exact rfl; exact rfl; apply wl_take; exact rfl; exact rfl; exact rfl; refine bF ?_; (with_reducible assumption); apply wl_val; apply opv_ldX; exact rfl; assumption; exact c1_i64; exact rfl; exact rfl; apply wl_take; exact rfl; exact rfl; exact rfl; refine bF ?_; (with_reducible assumption); refine wl_bin rfl rfl bin_eql rfl ?_; apply wl_take; exact rfl; exact rfl; exact rfl; refine bT ?_; (with_reducible assumption); apply wl_val; apply opv_pickF; exact rfl; refine bF ?_; (with_reducible assumption); exact rfl; exact rfl; apply wl_val; apply opv_pickT; exact rfl; refine bT ?_; (with_reducible assumption); exact rfl; exact rfl; refine wl_nil ?_; refine we_cut _ ⟨rfl, rfl⟩ ⟨congrArg (fun b => some (Value.bool b)) ?e18_1, ?s18_1⟩; (case e18_1 => ((simp [hc0, hc1]; done))); (case s18_1 => (refine And.intro rfl ?_; refine And.intro rfl ?_; refine And.intro rfl ?_; refine And.intro rfl ?_; refine And.intro rfl ?_; refine And.intro rfl ?_; refine And.intro rfl ?_; refine And.intro rfl ?_; refine And.intro rfl ?_; refine And.intro rfl ?_; refine And.intro rfl ?_; refine And.intro rfl ?_; refine And.intro rfl ?_; refine And.intro rfl ?_; exact True.intro)))))); (focus (by_cases hc1 : (x.kind = 2); (focus (apply wl_skip; exact rfl; exact rfl; exact rfl; refine bFn ?_; (with_reducible assumption); exact rfl; apply wl_skip; exact rfl; exact rfl; exact rfl; refine bFn ?_; (with_reducible assumption); exact rfl; apply wl_skip; exact rfl; exact rfl; exact rfl; refine bFn ?_; (with_reducible assumption); exact rfl; apply wl_skip; exact rfl; exact rfl; exact rfl; refine bFn ?_; (with_reducible assumption); exact rfl; apply wl_skipU; exact rfl; exact rfl; exact rfl; exact rfl; apply wl_skipU; exact rfl; exact rfl; exact rfl; exact rfl; apply wl_skipU; exact rfl; exact rfl; exact rfl; exact rfl; apply wl_skip; exact rfl; exact rfl; exact rfl; refine bFn ?_; (with_reducible assumption); exact rfl; apply wl_val; apply opv_pickF; exact rfl; refine bF ?_; (with_reducible assumption); exact rfl; exact rfl; refine wl_nil ?_; refine we_cut _ ⟨rfl, rfl⟩ ⟨congrArg (fun b => some (Value.bool b)) ?e18_2, ?s18_2⟩; (case e18_2 => ((simp_all; done))); (case s18_2 => (refine And.intro rfl ?_; refine And.intro rfl ?_; refine And.intro rfl ?_; refine And.intro rfl ?_; refine And.intro rfl ?_; refine And.intro rfl ?_; refine And.intro rfl ?_; refine And.intro rfl ?_; refine And.intro rfl ?_; refine And.intro rfl ?_; refine And.intro rfl ?_; refine And.intro rfl ?_; refine And.intro rfl ?_; refine And.intro rfl ?_; exact True.intro)))); (focus (apply wl_skip; exact rfl; exact rfl; exact rfl; refine bFn ?_; (with_reducible assumption); exact rfl; apply wl_skip; exact rfl; exact rfl; exact rfl; refine bFn ?_; (with_reducible assumption); exact rfl; apply wl_skip; exact rfl; exact rfl; exact rfl; refine bFn ?_; (with_reducible assumption); exact rfl; apply wl_skip; exact rfl; exact rfl; exact rfl; refine bFn ?_; (with_reducible assumption); exact rfl; apply wl_skipU; exact rfl; exact rfl; exact rfl; exact rfl; apply wl_skipU; exact rfl; exact rfl; exact rfl; exact rfl; apply wl_skipU; exact rfl; exact rfl; exact rfl; exact rfl; apply wl_skip; exact rfl; exact rfl; exact rfl; refine bFn ?_; (with_reducible assumption); exact rfl; apply wl_val; apply opv_pickF; exact rfl; refine bF ?_; (with_reducible assumption); exact rfl; exact rfl; refine wl_nil ?_; refine we_cut _ ⟨rfl, rfl⟩ ⟨congrArg (fun b => some (Value.bool b)) ?e18_3, ?s18_3⟩; (case e18_3 => ((simp [hc0, hc1]; done))); (case s18_3 => (refine And.intro rfl ?_; refine And.intro rfl ?_; refine And.intro rfl ?_; refine And.intro rfl ?_; refine And.intro rfl ?_; refine And.intro rfl ?_; refine And.intro rfl ?_; refine And.intro rfl ?_; refine And.intro rfl ?_; refine And.intro rfl ?_; refine And.intro rfl ?_; refine And.intro rfl ?_; refine And.intro rfl ?_; refine And.intro rfl ?_; exact True.intro)))))))); dsimp only [List.drop]
  refine wl_mv rfl rfl ?_
  refine wl_cutV 9 38 (.bool (decide (((x.kind = 1 ∨ x.tr = false) ∧ (x.kind = 2 ∨ x.num = 0)) ∧ (x.kind = 3 ∨ x.text = [])))) ?c31 ?_; (case c31 => (dsimp only [List.take]; by_cases hc0 : ((x.kind = 1 ∨ x.tr = false) ∧ (x.kind = 2 ∨ x.num = 0)); (focus (by_cases hc1 : (x.kind = 3); (focus (apply wl_take; exact rfl; exact rfl; exact rfl; refine bT ?_; (with_reducible assumption); apply wl_val; apply opv_fa; exact fa_sC (by decide); exact rfl; exact rfl; apply wl_take; exact rfl; exact rfl; exact rfl; refine bT ?_; (with_reducible assumption); apply wl_val; apply opv_ldX; exact rfl; assumption; exact c1_int; exact rfl; exact rfl; apply wl_take; exact rfl; exact rfl; exact rfl; refine bT ?_; (with_reducible assumption); refine wl_bin rfl rfl bin_eql rfl ?_; apply wl_take; exact rfl; exact rfl; exact rfl; refine bT ?_; (with_reducible assumption); refine wl_mv rfl rfl ?_; apply wl_skip; exact rfl; exact rfl; exact rfl; refine bTn ?_; (with_reducible assumption); exact rfl; apply wl_skip; exact rfl; exact rfl; exact rfl; refine bTn ?_; (with_reducible assumption); exact rfl; apply wl_skip; exact rfl; exact rfl; exact rfl; refine bTn ?_; (with_reducible assumption); exact rfl; apply wl_take; exact rfl; exact rfl; exact rfl; refine bT ?_; (with_reducible assumption); apply wl_val; apply opv_pickT; exact rfl; refine bT ?_; (with_reducible assumption); exact rfl; exact rfl; apply wl_val; apply opv_pickT; exact rfl; refine bT ?_; (with_reducible assumption); exact rfl; exact rfl; refine wl_nil ?_; refine we_cut _ ⟨rfl, rfl⟩ ⟨congrArg (fun b => some (Value.bool b)) ?e31_0, ?s31_0⟩; (case e31_0 => ((simp_all; done))); (case s31_0 => (refine And.intro rfl ?_; refine And.intro rfl ?_; refine And.intro rfl ?_; refine And.intro rfl ?_; refine And.intro rfl ?_; refine And.intro rfl ?_; refine And.intro rfl ?_; refine And.intro rfl ?_; refine And.intro rfl ?_; refine And.intro rfl ?_; refine And.intro rfl ?_; refine And.intro rfl ?_; refine And.intro rfl ?_; refine And.intro rfl ?_; refine And.intro rfl ?_; refine And.intro rfl ?_; exact True.intro)))); (focus (apply wl_take; exact rfl; exact rfl; exact rfl; refine bT ?_; (with_reducible assumption); apply wl_val; apply opv_fa; exact fa_sC (by decide); exact rfl; exact rfl; apply wl_take; exact rfl; exact rfl; exact rfl; refine bT ?_; (with_reducible assumption); apply wl_val; apply opv_ldX; exact rfl; assumption; exact c1_int; exact rfl; exact rfl; apply wl_take; exact rfl; exact rfl; exact rfl; refine bT ?_; (with_reducible assumption); refine wl_bin rfl rfl bin_eql rfl ?_; apply wl_take; exact rfl; exact rfl; exact rfl; refine bT ?_; (with_reducible assumption); refine wl_mv rfl rfl ?_; apply wl_take; exact rfl; exact rfl; exact rfl; refine bF ?_; (with_reducible assumption); apply wl_val; apply opv_fa; exact fa_sC (by decide); exact rfl; exact rfl; apply wl_take; exact rfl; exact rfl; exact rfl; refine bF ?_; (with_reducible assumption); apply wl_val; apply opv_ldX; exact rfl; assumption; exact c1_str; exact rfl; exact rfl; apply wl_take; exact rfl; exact rfl; exact rfl; refine bF ?_; (with_reducible assumption); refine wl_bin rfl rfl bin_eqlS rfl ?_; apply wl_take; exact rfl; exact rfl; exact rfl; refine bT ?_; (with_reducible assumption); apply wl_val; apply opv_pickF; exact rfl; refine bF ?_; (with_reducible assumption); exact rfl; exact rfl; apply wl_val; apply opv_pickT; exact rfl; refine bT ?_; (with_reducible assumption); exact rfl; exact rfl; refine wl_nil ?_; refine we_cut _ ⟨rfl, rfl⟩ ⟨congrArg (fun b => some (Value.bool b)) ?e31_1, ?s31_1⟩; (case e31_1 => ((simp [hc0, hc1]; done))); (case s31_1 => (refine And.intro rfl ?_; refine And.intro rfl ?_; refine And.intro rfl ?_; refine And.intro rfl ?_; refine And.intro rfl ?_; refine And.intro rfl ?_; refine And.intro rfl ?_; refine And.intro rfl ?_; refine And.intro rfl ?_; refine And.intro rfl ?_; refine And.intro rfl ?_; refine And.intro rfl ?_; refine And.intro rfl ?_; refine And.intro rfl ?_; refine And.intro rfl ?_; refine And.intro rfl ?_; exact True.intro)))))); (focus (by_cases hc1 : (x.kind = 3); (focus (apply wl_skip; exact rfl; exact rfl; exact rfl; refine bFn ?_; (with_reducible assumption); exact rfl; apply wl_skip; exact rfl; exact rfl; exact rfl; refine bFn ?_; (with_reducible assumption); exact rfl; apply wl_skip; exact rfl; exact rfl; exact rfl; refine bFn ?_; (with_reducible assumption); exact rfl; apply wl_skip; exact rfl; exact rfl; exact rfl; refine bFn ?_; (with_reducible assumption); exact rfl; apply wl_skipU; exact rfl; exact rfl; exact rfl; exact rfl; apply wl_skipU; exact rfl; exact rfl; exact rfl; exact rfl; apply wl_skipU; exact rfl; exact rfl; exact rfl; exact rfl; apply wl_skip; exact rfl; exact rfl; exact rfl; refine bFn ?_; (with_reducible assumption); exact rfl; apply wl_val; apply opv_pickF; exact rfl; refine bF ?_; (with_reducible assumption); exact rfl; exact rfl; refine wl_nil ?_; refine we_cut _ ⟨rfl, rfl⟩ ⟨congrArg (fun b => some (Value.bool b)) ?e31_2, ?s31_2⟩; (case e31_2 => ((simp_all; done))); (case s31_2 => (refine And.intro rfl ?_; refine And.intro rfl ?_; refine And.intro rfl ?_; refine And.intro rfl ?_; refine And.intro rfl ?_; refine And.intro rfl ?_; refine And.intro rfl ?_; refine And.intro rfl ?_; refine And.intro rfl ?_; refine And.intro rfl ?_; refine And.intro rfl ?_; refine And.intro rfl ?_; refine And.intro rfl ?_; refine And.intro rfl ?_; refine And.intro rfl ?_; refine And.intro rfl ?_; exact True.intro)))); (focus (apply wl_skip; exact rfl; exact rfl; exact rfl; refine bFn ?_; (with_reducible assumption); exact rfl; apply wl_skip; exact rfl; exact rfl; exact rfl; refine bFn ?_; (with_reducible assumption); exact rfl; apply wl_skip; exact rfl; exact rfl; exact rfl; refine bFn ?_; (with_reducible assumption); exact rfl; apply wl_skip; exact rfl; exact rfl; exact rfl; refine bFn ?_; (with_reducible assumption); exact rfl; apply wl_skipU; exact rfl; exact rfl; exact rfl; exact rfl; apply wl_skipU; exact rfl; exact rfl; exact rfl; exact rfl; apply wl_skipU; exact rfl; exact rfl; exact rfl; exact rfl; apply wl_skip; exact rfl; exact rfl; exact rfl; refine bFn ?_; (with_reducible assumption); exact rfl; apply wl_val; apply opv_pickF; exact rfl; refine bF ?_; (with_reducible assumption); exact rfl; exact rfl; refine wl_nil ?_; refine we_cut _ ⟨rfl, rfl⟩ ⟨congrArg (fun b => some (Value.bool b)) ?e31_3, ?s31_3⟩; (case e31_3 => ((simp [hc0, hc1]; done))); (case s31_3 => (refine And.intro rfl ?_; refine And.intro rfl ?_; refine And.intro rfl ?_; refine And.intro rfl ?_; refine And.intro rfl ?_; refine And.intro rfl ?_; refine And.intro rfl ?_; refine And.intro rfl ?_; refine And.intro rfl ?_; refine And.intro rfl ?_; refine And.intro rfl ?_; refine And.intro rfl ?_; refine And.intro rfl ?_; refine And.intro rfl ?_; refine And.intro rfl ?_; refine And.intro rfl ?_; exact True.intro)))))))); dsimp only [List.drop]
  refine wl_mv rfl rfl ?_
  refine wl_cutV 10 49 (.bool (decide ((((x.kind = 1 ∨ x.tr = false) ∧ (x.kind = 2 ∨ x.num = 0)) ∧ (x.kind = 3 ∨ x.text = [])) ∧ (x.kind = 4 ∨ (x.data.length : Int) = 0)))) ?c44 ?_; (case c44 => (dsimp only [List.take]; by_cases hc0 : (((x.kind = 1 ∨ x.tr = false) ∧ (x.kind = 2 ∨ x.num = 0)) ∧ (x.kind = 3 ∨ x.text = [])); (focus (by_cases hc1 : (x.kind = 4); (focus (apply wl_take; exact rfl; exact rfl; exact rfl; refine bT ?_; (with_reducible assumption); apply wl_val; apply opv_fa; exact fa_sC (by decide); exact rfl; exact rfl; apply wl_take; exact rfl; exact rfl; exact rfl; refine bT ?_; (with_reducible assumption); apply wl_val; apply opv_ldX; exact rfl; assumption; exact c1_int; exact rfl; exact rfl; apply wl_take; exact rfl; exact rfl; exact rfl; refine bT ?_; (with_reducible assumption); refine wl_bin rfl rfl bin_eql rfl ?_; apply wl_take; exact rfl; exact rfl; exact rfl; refine bT ?_; (with_reducible assumption); refine wl_mv rfl rfl ?_; apply wl_skip; exact rfl; exact rfl; exact rfl; refine bTn ?_; (with_reducible assumption); exact rfl; apply wl_skip; exact rfl; exact rfl; exact rfl; refine bTn ?_; (with_reducible assumption); exact rfl; apply wl_skip; exact rfl; exact rfl; exact rfl; refine bTn ?_; (with_reducible assumption); exact rfl; apply wl_skip; exact rfl; exact rfl; exact rfl; refine bTn ?_; (with_reducible assumption); exact rfl; apply wl_take; exact rfl; exact rfl; exact rfl; refine bT ?_; (with_reducible assumption); apply wl_val; apply opv_pickT; exact rfl; refine bT ?_; (with_reducible assumption); exact rfl; exact rfl; apply wl_val; apply opv_pickT; exact rfl; refine bT ?_; (with_reducible assumption); exact rfl; exact rfl; refine wl_nil ?_; refine we_cut _ ⟨rfl, rfl⟩ ⟨congrArg (fun b => some (Value.bool b)) ?e44_0, ?s44_0⟩; (case e44_0 => ((simp_all; done))); (case s44_0 => (refine And.intro rfl ?_; refine And.intro rfl ?_; refine And.intro rfl ?_; refine And.intro rfl ?_; refine And.intro rfl ?_; refine And.intro rfl ?_; refine And.intro rfl ?_; refine And.intro rfl ?_; refine And.intro rfl ?_; refine And.intro rfl ?_; refine And.intro rfl ?_; refine And.intro rfl ?_; refine And.intro rfl ?_; refine And.intro rfl ?_; refine And.intro rfl ?_; refine And.intro rfl ?_; refine And.intro rfl ?_; refine And.intro rfl ?_; exact True.intro)))); (focus (apply wl_take; exact rfl; exact rfl; exact rfl; refine bT ?_; (with_reducible assumption); apply wl_val; apply opv_fa; exact fa_sC (by decide); exact rfl; exact rfl; apply wl_take; exact rfl; exact rfl; exact rfl; refine bT ?_; (with_reducible assumption); apply wl_val; apply opv_ldX; exact rfl; assumption; exact c1_int; exact rfl; exact rfl; apply wl_take; exact rfl; exact rfl; exact rfl; refine bT ?_; (with_reducible assumption); refine wl_bin rfl rfl bin_eql rfl ?_; apply wl_take; exact rfl; exact rfl; exact rfl; refine bT ?_; (with_reducible assumption); refine wl_mv rfl rfl ?_; apply wl_take; exact rfl; exact rfl; exact rfl; refine bF ?_; (with_reducible assumption); apply wl_val; apply opv_fa; exact fa_sC (by decide); exact rfl; exact rfl; apply wl_take; exact rfl; exact rfl; exact rfl; refine bF ?_; (with_reducible assumption); apply wl_val; apply opv_ldX; exact rfl; assumption; exact c1_by; exact rfl; exact rfl; apply wl_take; exact rfl; exact rfl; exact rfl; refine bF ?_; (with_reducible assumption); apply wl_val; apply opv_len; exact rfl; exact tyB.sl; exact rfl; apply wl_take; exact rfl; exact rfl; exact rfl; refine bF ?_; (with_reducible assumption); refine wl_bin rfl rfl bin_eql rfl ?_; apply wl_take; exact rfl; exact rfl; exact rfl; refine bT ?_; (with_reducible assumption); apply wl_val; apply opv_pickF; exact rfl; refine bF ?_; (with_reducible assumption); exact rfl; exact rfl; apply wl_val; apply opv_pickT; exact rfl; refine bT ?_; (with_reducible assumption); exact rfl; exact rfl; refine wl_nil ?_; refine we_cut _ ⟨rfl, rfl⟩ ⟨congrArg (fun b => some (Value.bool b)) ?e44_1, ?s44_1⟩; (case e44_1 => ((simp [hc0, hc1]; done))); (case s44_1 => (refine And.intro rfl ?_; refine And.intro rfl ?_; refine And.intro rfl ?_; refine And.intro rfl ?_; refine And.intro rfl ?_; refine And.intro rfl ?_; refine And.intro rfl ?_; refine And.intro rfl ?_; refine And.intro rfl ?_; refine And.intro rfl ?_; refine And.intro rfl ?_; refine And.intro rfl ?_; refine And.intro rfl ?_; refine And.intro rfl ?_; refine And.intro rfl ?_; refine And.intro rfl ?_; refine And.intro rfl ?_; refine And.intro rfl ?_; exact True.intro)))))); (focus (by_cases hc1 : (x.kind = 4); (focus (apply wl_skip; exact rfl; exact rfl; exact rfl; refine bFn ?_; (with_reducible assumption); exact rfl; apply wl_skip; exact rfl; exact rfl; exact rfl; refine bFn ?_; (with_reducible assumption); exact rfl; apply wl_skip; exact rfl; exact rfl; exact rfl; refine bFn ?_; (with_reducible assumption); exact rfl; apply wl_skip; exact rfl; exact rfl; exact rfl; refine bFn ?_; (with_reducible assumption); exact rfl; apply wl_skipU; exact rfl; exact rfl; exact rfl; exact rfl; apply wl_skipU; exact rfl; exact rfl; exact rfl; exact rfl; apply wl_skipU; exact rfl; exact rfl; exact rfl; exact rfl; apply wl_skipU; exact rfl; exact rfl; exact rfl; exact rfl; apply wl_skip; exact rfl; exact rfl; exact rfl; refine bFn ?_; (with_reducible assumption); exact rfl; apply wl_val; apply opv_pickF; exact rfl; refine bF ?_; (with_reducible assumption); exact rfl; exact rfl; refine wl_nil ?_; refine we_cut _ ⟨rfl, rfl⟩ ⟨congrArg (fun b => some (Value.bool b)) ?e44_2, ?s44_2⟩; (case e44_2 => ((simp_all; done))); (case s44_2 => (refine And.intro rfl ?_; refine And.intro rfl ?_; refine And.intro rfl ?_; refine And.intro rfl ?_; refine And.intro rfl ?_; refine And.intro rfl ?_; refine And.intro rfl ?_; refine And.intro rfl ?_; refine And.intro rfl ?_; refine And.intro rfl ?_; refine And.intro rfl ?_; refine And.intro rfl ?_; refine And.intro rfl ?_; refine And.intro rfl ?_; refine And.intro rfl ?_; refine And.intro rfl ?_; refine And.intro rfl ?_; refine And.intro rfl ?_; exact True.intro)))); (focus (apply wl_skip; exact rfl; exact rfl; exact rfl; refine bFn ?_; (with_reducible assumption); exact rfl; apply wl_skip; exact rfl; exact rfl; exact rfl; refine bFn ?_; (with_reducible assumption); exact rfl; apply wl_skip; exact rfl; exact rfl; exact rfl; refine bFn ?_; (with_reducible assumption); exact rfl; apply wl_skip; exact rfl; exact rfl; exact rfl; refine bFn ?_; (with_reducible assumption); exact rfl; apply wl_skipU; exact rfl; exact rfl; exact rfl; exact rfl; apply wl_skipU; exact rfl; exact rfl; exact rfl; exact rfl; apply wl_skipU; exact rfl; exact rfl; exact rfl; exact rfl; apply wl_skipU; exact rfl; exact rfl; exact rfl; exact rfl; apply wl_skip; exact rfl; exact rfl; exact rfl; refine bFn ?_; (with_reducible assumption); exact rfl; apply wl_val; apply opv_pickF; exact rfl; refine bF ?_; (with_reducible assumption); exact rfl; exact rfl; refine wl_nil ?_; refine we_cut _ ⟨rfl, rfl⟩ ⟨congrArg (fun b => some (Value.bool b)) ?e44_3, ?s44_3⟩; (case e44_3 => ((simp [hc0, hc1]; done))); (case s44_3 => (refine And.intro rfl ?_; refine And.intro rfl ?_; refine And.intro rfl ?_; refine And.intro rfl ?_; refine And.intro rfl ?_; refine And.intro rfl ?_; refine And.intro rfl ?_; refine And.intro rfl ?_; refine And.intro rfl ?_; refine And.intro rfl ?_; refine And.intro rfl ?_; refine And.intro rfl ?_; refine And.intro rfl ?_; refine And.intro rfl ?_; refine And.intro rfl ?_; refine And.intro rfl ?_; refine And.intro rfl ?_; refine And.intro rfl ?_; exact True.intro)))))))); dsimp only [List.drop]
  refine wl_as rfl rfl ?_; refine wl_ns ?_; refine wc_ret ?_
  refine we_ret1 rfl rfl ⟨_, rfl, congrArg Value.bool ?_, hb1⟩
  have e : ((x.data.length : Int) = 0) ↔ x.data = [] := by rw [← List.length_eq_zero_iff]; omega
  rw [goodC, decide_eq_decide, e]
  constructor
  · rintro ⟨⟨⟨h, h'⟩, h2⟩, h3⟩; exact ⟨by omega, by omega, h, h', h2, h3⟩
  · rintro ⟨_, _, h, h', h2, h3⟩; exact ⟨⟨⟨h, h'⟩, h2⟩, h3⟩
end Go.Proofs.Ytcjiecclmepboaa
