/-
  The texts of this proof, joined: Wb, Pc, Wh, Pd, Wi, Wj, Pe, Wk, Wm, Wc, We, Tk, Sl, Sm.
-/
import Derived.Test.YtcjiecclmepboaaTotM1
import Derived.Test.YtcjiecclmepboaaTotM2
import Derived.Test.YtcjiecclmepboaaTotM3

/-
  Walks over PutU of the program and of the reference, inside, and GetU of both.
-/
namespace Go.Proofs.Ytcjiecclmepboaa
open Go.RowKit

def PutI (w : World) (n : Nat) (s : Nat) : FL → World → Nat → Prop := fun L wr m =>
  ∃ (pre : List UInt8) (A : Option Addr) (c : Nat), L = [(0, .int .u64 m), (s, .slice A pre.length c)] ∧ OwB wr w.heap.size A c pre ∧ putU n = pre ++ putU m ∧ Below w.heap.size w wr ∧ m < 2 ^ (64 - 7 * pre.length) ∧ 7 * pre.length ≤ 63
theorem PutI.next {w wr w' : World} {n m s : Nat} {pre : List UInt8} {A A' : Option Addr} {c c' : Nat} {v : Value} (hown : OwB wr w.heap.size A c pre) (heq : putU n = pre ++ putU m) (hbel : Below w.heap.size w wr) (hm : m < 2 ^ (64 - 7 * pre.length)) (hl : 7 * pre.length ≤ 63)
    (h : 128 ≤ m) (ho : Ow w' w.heap.size 5 A' (pre.length + 1) c' (bvs pre ++ [v])) (hg : Gr wr w' A) (hv : bv (UInt8.ofNat (m % 128 + 128)) = v) :
    PutI w n s [(0, .int .u64 (m / 128 : Nat)), (s, .slice A' (pre.length + 1) c')] w' (m / 128) := by
  have h7 : 8 ≤ 64 - 7 * pre.length := by
    rcases Nat.lt_or_ge 7 (64 - 7 * pre.length) with h' | h'
    · exact h'
    · have := Nat.lt_of_lt_of_le hm (Nat.pow_le_pow_right (by decide) h'); omega
  refine ⟨pre ++ [UInt8.ofNat (m % 128 + 128)], A', c', by simp, OwB.snoc ho hv, ?_, hg.below hbel hown (Nat.le_refl _) hbel.size, ?_, ?_⟩
  · rw [heq, putU, if_neg (by omega)]; simp
  · refine Nat.div_lt_of_lt_mul ?_
    rw [show 128 = 2 ^ 7 from rfl, ← Nat.pow_add]
    simp only [List.length_append, List.length_cons, List.length_nil]
    rw [show 7 + (64 - 7 * (pre.length + (0 + 1))) = 64 - 7 * pre.length by omega]
    exact hm
  · simp; omega

end Go.Proofs.Ytcjiecclmepboaa

/-
  Plain laws of lists: tuples of written lists, frames, numbers of eight bytes. No program in sight.
-/
namespace Go.Proofs.Ytcjiecclmepboaa

/-! ### Tuples -/

theorem take_getR {α : Type} {l : List α} {k : Nat} {b : α} (h : l[k]? = some b) : l.take (k + 1) = l.take k ++ [b] := by
  rw [List.take_add_one, h]; rfl
end Go.Proofs.Ytcjiecclmepboaa

/-
  Walks over Copies and Equals of the references.
-/
namespace Go.Proofs.Ytcjiecclmepboaa
open Go.RowKit

end Go.Proofs.Ytcjiecclmepboaa

/-
  Plain laws of frames. No program in sight.
-/
namespace Go.Proofs.Ytcjiecclmepboaa

/-- The parts behind place q; out: those ahead of it. -/
def partsF : Nat → List UInt8 → Nat → List (List UInt8) → List (List UInt8) × Nat
  | 0, _, _, out => (out, 0)
  | f + 1, b, q, out =>
    if b.length ≤ q then (out, 0)
    else if (getU b q).2.2 = 0 then
      if b.length < (getU b q).2.1.toNat + (getU b q).1 then ([], 5)
      else partsF f b ((getU b q).2.1.toNat + (getU b q).1) (out ++ [(b.take ((getU b q).2.1.toNat + (getU b q).1)).drop (getU b q).2.1.toNat])
    else ([], (getU b q).2.2)
def parts (b : List UInt8) : List (List UInt8) × Nat := partsF b.length b 0 []

end Go.Proofs.Ytcjiecclmepboaa

/-
  Walks over Frame and Parts of the program and of the references.
-/
namespace Go.Proofs.Ytcjiecclmepboaa
open Go.RowKit

end Go.Proofs.Ytcjiecclmepboaa

/-
  Walks over Parts of the program and of the reference.
-/
namespace Go.Proofs.Ytcjiecclmepboaa
open Go.RowKit

end Go.Proofs.Ytcjiecclmepboaa

/-
  Plain laws of numbers written in eight bytes, the greatest first. No program in sight.
-/
namespace Go.Proofs.Ytcjiecclmepboaa

/-- The lowest k bytes of a number, the greatest first. -/
def ordK : Nat → Nat → List UInt8
  | 0, _ => []
  | k + 1, n => ordK k (n / 256) ++ [UInt8.ofNat n]
def ordU (n : Nat) : List UInt8 := ordK 8 n

theorem ordK_length : ∀ (k n : Nat), (ordK k n).length = k
  | 0, _ => rfl
  | k + 1, n => by simp [ordK, ordK_length k]
theorem ordU_length (n : Nat) : (ordU n).length = 8 := ordK_length 8 n
theorem ordK_get : ∀ (k n i : Nat), i < k → (ordK k n)[i]? = some (UInt8.ofNat (n / 256 ^ (k - 1 - i)))
  | 0, _, _, h => by omega
  | k + 1, n, i, h => by
    rw [ordK]
    by_cases hi : i < k
    · rw [List.getElem?_append_left (by rw [ordK_length]; exact hi), ordK_get k _ i hi, Nat.div_div_eq_div_mul]
      have e : 256 * 256 ^ (k - 1 - i) = 256 ^ (k + 1 - 1 - i) := by
        rw [show k + 1 - 1 - i = (k - 1 - i) + 1 by omega, Nat.pow_succ, Nat.mul_comm]
      rw [e]
    · have : i = k := by omega
      subst this
      rw [List.getElem?_append_right (by rw [ordK_length]; omega), ordK_length]
      simp
theorem xor_top {u : Nat} (h : u < 2 ^ 64) : u ^^^ 9223372036854775808 = (u + 9223372036854775808) % 18446744073709551616 := by
  rw [show 9223372036854775808 = 2 ^ 63 from rfl, show 18446744073709551616 = 2 ^ 64 from rfl]
  apply Nat.eq_of_testBit_eq
  intro j
  rw [Nat.testBit_xor, Nat.testBit_mod_two_pow, Nat.add_comm]
  rcases Nat.lt_trichotomy j 63 with hj | hj | hj
  · rw [Nat.testBit_two_pow_of_ne (by omega), Nat.testBit_two_pow_add_gt hj]
    have : j < 64 := by omega
    simp [this]
  · subst hj
    rw [Nat.testBit_two_pow_self, Nat.testBit_two_pow_add_eq]
    simp
  · rw [Nat.testBit_two_pow_of_ne (by omega), Nat.testBit_lt_two_pow (Nat.lt_of_lt_of_le h (Nat.pow_le_pow_right (by decide) (by omega)))]
    have : ¬ j < 64 := by omega
    simp [this]
end Go.Proofs.Ytcjiecclmepboaa

/-
  Walks over the numbers of eight bytes of the program and of the references.
-/
namespace Go.Proofs.Ytcjiecclmepboaa
open Go.RowKit

theorem fill_up {α : Type} {l : List α} {z x : α} {k m : Nat} (h : l[k]? = some x) : (l.take k ++ List.replicate (m + 1) z).set k x = l.take (k + 1) ++ List.replicate m z := by
  have hk := (List.getElem?_eq_some_iff.1 h).1
  have e : (l.take k).length = k := by simp; omega
  rw [List.set_append_right _ _ (by omega), e, Nat.sub_self, List.replicate_succ, List.set_cons_zero, take_getR h]
  simp
theorem byte_of (m : Nat) : Value.int .u8 ((m % 2 ^ IntKind.u8.bits : Nat) : Int) = bv (UInt8.ofNat m) := by
  simp [bv, IntKind.bits]

theorem ordU_any (n : Nat) (hn : n < 2 ^ 64) (w : World) : CallsV Try.prog 102 #[.int .u64 n] w (RetB w (ordU n)) := by
  refine calls_in (N := _) Try.func102 rfl Try.ntmps102 rfl ?_; show WC _ _ _ _ _ _
  refine wc_sr ?_; refine wl_as rfl rfl ?_; refine wl_ns ?_; refine wc_sr ?_
  refine wl_mk (n := 8) (c := 8) tyB rfl rfl rfl rfl (by omega) (by omega) (by simp only [maxLen]; omega) rfl fun A1 w1 o1 hb1 _ => ?_
  refine wl_as rfl rfl ?_; refine wl_ns ?_; refine wc_seq ?_; refine wc_sr ?_; refine wl_mv rfl rfl ?_; apply wl_val; apply opv_len; exact rfl; exact tyB.sl; exact rfl; refine wl_mv rfl rfl ?_; refine wl_ns ?_; refine wc_block ?_
  refine wc_loop (fun L wr m => ∃ k : Nat, L = [(0, .int .u64 (n : Int)), (3, .slice A1 8 8), (7, .int .i64 (8 : Int)), (8, .int .i64 (k : Int))] ∧ k ≤ 8 ∧ Ow wr w.heap.size 5 A1 8 8 (bvs ((ordU n).take k ++ List.replicate (8 - k) 0)) ∧ Below w.heap.size w wr ∧ m = 8 - k)
    [(0, .int .u64 (n : Int)), (3, .slice A1 8 8), (7, .int .i64 (8 : Int)), (8, .int .i64 (0 : Nat))] 8 ⟨0, rfl, by omega, by simpa [bvs, bv] using o1, hb1, rfl⟩ ⟨rfl, rfl, rfl, rfl, trivial⟩ ?_
  rintro _ w2 m ⟨k, rfl, hk, o2, hb2, rfl⟩
  refine wc_sr ?_; refine wl_bin rfl rfl bin_lss rfl ?_; refine wl_ns ?_; refine wc_seq ?_
  refine wc_cond rfl (fun h1 => ?_) (fun h1 => ?_)
  · have hg := ordK_get 8 n k (by omega)
    have hk7 : k ≤ 7 := by omega
    refine wc_skip ?_; refine we_seq ?_; refine wc_seq ?_; refine wc_block ?_; refine wc_sr ?_; refine wl_mv rfl rfl ?_; refine wl_as rfl rfl ?_; refine wl_ns ?_; refine wc_region ?_; refine wl_mv rfl rfl ?_; refine wl_mv rfl rfl ?_; refine wl_mv rfl rfl ?_; refine wl_mv rfl rfl ?_; apply wl_val; apply opv_bin; exact rfl; exact rfl; exact bin_sub64 (by omega); exact rfl
    refine wl_val (opv_bin rfl rfl ((bin_mul64 (by omega)).to (show _ = Value.int .i64 ((8 * (7 - k) : Nat) : Int) from by congr 1; omega))) rfl ?_
    refine wl_val (opv_bin rfl rfl (bin_shr hn)) rfl ?_
    apply wl_val; apply opv_convR; exact rfl; exact Try.underlying121; exact Try.underlying5; exact wrap_nat rfl _; exact rfl
    refine wl_set (kk := k) tyB rfl rfl o2 rfl (by omega) (fun _ => rfl) rfl rfl fun p w3 o3 g3 _ => ?_
    have hb3 := g3.below hb2 o2 (Nat.le_refl _) hb2.size
    rw [byte_of, bvs_set, show 8 - k = (7 - k) + 1 by omega, Nat.pow_mul, fill_up (l := ordU n) (by rw [ordU, hg])] at o3
    refine wl_nil ?_; refine we_block_norm ?_; refine we_seq ?_; refine wc_region ?_; apply wl_val; apply opv_bin; exact rfl; exact rfl; exact bin_add64 (by omega); exact rfl; refine wl_mv rfl rfl ?_; refine wl_nil ?_
    refine we_loop [(0, .int .u64 (n : Int)), (3, .slice A1 8 8), (7, .int .i64 (8 : Int)), (8, .int .i64 ((k + 1 : Nat) : Int))] (8 - (k + 1)) ⟨k + 1, rfl, by omega, by rw [show 8 - (k + 1) = 7 - k by omega]; exact o3, hb3, rfl⟩ (by omega) ⟨rfl, rfl, rfl, rfl, trivial⟩
  · obtain rfl : k = 8 := by omega
    have e : (ordU n).take 8 ++ List.replicate (8 - 8) 0 = ordU n := by rw [List.take_of_length_le (by rw [ordU_length]; omega)]; simp
    rw [e] at o2
    refine wc_exit ?_; refine we_seq_exit ?_; refine we_loop_exit ?_; refine we_block_exit ?_; refine we_seq ?_; refine wc_sr ?_; refine wl_mv rfl rfl ?_; refine wl_as rfl rfl ?_; refine wl_ns ?_; refine wc_ret ?_
    exact we_ret1 rfl rfl ⟨_, rfl, A1, 8, by rw [ordU_length], by unfold OwB; rw [ordU_length]; exact o2, hb2⟩

end Go.Proofs.Ytcjiecclmepboaa

/-
  Walks over OrdI and the reading of eight bytes, of the program and of the references.
-/
namespace Go.Proofs.Ytcjiecclmepboaa
open Go.RowKit

/-- A signed number as the unsigned one that stands in its place. -/
def lift (i : Int) : Nat := (i + 9223372036854775808).toNat
theorem lift_lt {i : Int} (h : -9223372036854775808 ≤ i ∧ i ≤ 9223372036854775807) : lift i < 2 ^ 64 := by
  unfold lift; omega
theorem lift_wrap {i : Int} (h : -9223372036854775808 ≤ i ∧ i ≤ 9223372036854775807) : ∃ u : Nat, IntKind.u64.wrap i = u ∧ u < 2 ^ 64 ∧ (u + 9223372036854775808) % 18446744073709551616 = lift i := by
  unfold lift
  have e : IntKind.u64.wrap i = i % 18446744073709551616 := by simp [IntKind.wrap, IntKind.bits, IntKind.signed]
  rw [e]
  by_cases h0 : 0 ≤ i
  · exact ⟨i.toNat, by omega, by omega, by omega⟩
  · exact ⟨(i + 18446744073709551616).toNat, by omega, by omega, by omega⟩

theorem ordI_any (i : Int) (hi : -9223372036854775808 ≤ i ∧ i ≤ 9223372036854775807) (w : World) : CallsV Try.prog 84 #[.int .i64 i] w (RetB w (ordU (lift i))) := by
  obtain ⟨u, hu, hlt, hl⟩ := lift_wrap hi
  have hll := lift_lt hi
  refine calls_in (N := _) Try.func84 rfl Try.ntmps84 rfl ?_; show WC _ _ _ _ _ _
  refine wc_sr ?_; refine wl_as rfl rfl ?_; refine wl_ns ?_; refine wc_sr ?_; refine wl_mv rfl rfl ?_
  refine wl_val (opv_convR rfl Try.underlying2 Try.underlying121 hu) rfl ?_
  refine wl_val (opv_bin (b := .int .u64 (9223372036854775808 : Nat)) rfl rfl (bin_xor rfl hlt (by decide))) rfl ?_
  rw [xor_top hlt, hl]
  refine wl_call ok_codec_OrdU (ordU_any _ hll _) ⟨rfl, trivial⟩ rfl ?_
  rintro _ w2 ⟨A2, c2, rfl, o2, h2⟩
  refine wl_as rfl rfl ?_; refine wl_ns ?_; refine wc_ret ?_
  exact we_ret1 rfl rfl ⟨_, rfl, A2, c2, rfl, o2, h2⟩

end Go.Proofs.Ytcjiecclmepboaa

/-
  Walks over OrdText of the program and of the reference.
-/
namespace Go.Proofs.Ytcjiecclmepboaa
open Go.RowKit

theorem ordText_any {A : Option Addr} {n c : Nat} {xs : List UInt8} {w : World} (hr : RdB w A xs) (hn : xs.length = n) (hl : xs.length ≤ 1099511627776) : CallsV Try.prog 69 #[.slice A n c] w (RetB w (ordText xs)) := by
  subst hn
  refine calls_in (N := _) Try.func69 rfl Try.ntmps69 rfl ?_; show WC _ _ _ _ _ _
  refine wc_sr ?_; refine wl_as rfl rfl ?_; refine wl_ns ?_; refine wc_sr ?_; refine wl_mv rfl rfl ?_; apply wl_val; apply opv_len; exact rfl; exact tyB.sl; exact rfl; apply wl_val; apply opv_bin; exact rfl; exact rfl; exact bin_add64 (by omega); exact rfl
  refine wl_mk (n := 0) (c := xs.length + 2) tyB rfl rfl rfl (by simp) (by omega) (by omega) (by simp only [maxLen]; omega) rfl fun A1 w1 ho1 hb1 _ => ?_
  refine wl_as rfl rfl ?_; refine wl_ns ?_; refine wc_seq ?_; refine wc_sr ?_; refine wl_mv rfl rfl ?_; apply wl_val; apply opv_len; exact rfl; exact tyB.sl; exact rfl; refine wl_mv rfl rfl ?_; refine wl_ns ?_; refine wc_block ?_
  refine wc_loop (fun L wr m => ∃ (k : Nat) (A' : Option Addr) (c' : Nat), L = [(10, .slice A xs.length c), (11, .int .i64 (xs.length : Int)), (12, .int .i64 (k : Int)), (3, .slice A' (esc (xs.take k)).length c')] ∧ k ≤ xs.length ∧ OwB wr w.heap.size A' c' (esc (xs.take k)) ∧ Below w.heap.size w wr ∧ m = xs.length - k)
    [(10, .slice A xs.length c), (11, .int .i64 (xs.length : Int)), (12, .int .i64 (0 : Nat)), (3, .slice A1 0 (xs.length + 2))] xs.length ⟨0, A1, _, rfl, by omega, ho1, hb1, rfl⟩ ⟨rfl, rfl, rfl, rfl, trivial⟩ ?_
  rintro _ wr m ⟨k, A', c', rfl, hk, ho, hb, rfl⟩
  have hsz := hb.size
  have hrx := RdB.below hr hb
  have hel := esc_length (xs.take k)
  rw [List.length_take] at hel
  refine wc_sr ?_; refine wl_bin rfl rfl bin_lss rfl ?_; refine wl_ns ?_; refine wc_seq ?_
  refine wc_cond rfl (fun h1 => ?_) (fun h1 => ?_)
  · obtain ⟨x, hx⟩ : ∃ x, xs[k]? = some x := ⟨_, List.getElem?_eq_getElem (by omega)⟩
    have ht := esc_take hx
    refine wc_skip ?_; refine we_seq ?_; refine wc_seq ?_; refine wc_block ?_; refine wc_sr ?_; apply wl_byK (T := tyB) (hr := hrx) (hb := hx); exact rfl; exact rfl; exact rfl; exact rfl; exact rfl; intro _; refine wl_as rfl rfl ?_; refine wl_ns ?_; refine wc_sr ?_; refine wl_mv rfl rfl ?_; refine wl_mv rfl rfl ?_
    refine wl_push (vs := [_]) tyB rfl ho ⟨rfl, rfl, rfl, trivial⟩ rfl (by decide) rfl (by omega) (by simp only [maxLen]; omega) hsz rfl rfl fun p2 A2 c2 w2 ho2 hg2 hat2 => ?_
    have hb2 := hg2.below hb ho (Nat.le_refl _) hsz
    have hsz2 := hb2.size
    refine wl_as rfl rfl ?_; refine wl_ns ?_; refine wc_sr ?_; refine wl_mv rfl rfl ?_; refine wl_bin rfl rfl bin_eql rfl ?_; refine wl_ns ?_
    refine wc_cond rfl (fun h2 => ?_) (fun h2 => ?_)
    · have h0 := toNat_zero.1 h2
      rw [if_pos h0] at ht
      refine wc_region ?_; refine wl_mv rfl rfl ?_
      refine wl_push (vs := [_]) tyB rfl ho2 ⟨rfl, rfl, rfl, trivial⟩ rfl (by decide) rfl (by omega) (by simp only [maxLen]; omega) hsz2 rfl rfl fun p3 A3 c3 w3 ho3 hg3 hat3 => ?_
      have hb3 := hg3.below hb2 ho2 (Nat.le_refl _) hsz2
      refine wl_as rfl rfl ?_; refine wl_nil ?_; refine we_block_norm ?_; refine we_seq ?_; refine wc_region ?_; apply wl_val; apply opv_bin; exact rfl; exact rfl; exact bin_add64 (by omega); exact rfl; refine wl_mv rfl rfl ?_; refine wl_nil ?_
      refine we_loop [(10, .slice A xs.length c), (11, .int .i64 (xs.length : Int)), (12, .int .i64 ((k + 1 : Nat) : Int)), (3, .slice A3 (esc (xs.take (k + 1))).length c3)] (xs.length - (k + 1)) ⟨k + 1, A3, c3, rfl, by omega, ?_, hb3, rfl⟩ (by omega) ⟨rfl, rfl, rfl, ?_, trivial⟩
      · rw [ht, show esc (xs.take k) ++ [0, 255] = (esc (xs.take k) ++ [0]) ++ [255] by simp]
        have h4 : Ow w2 w.heap.size 5 A2 (esc (xs.take k) ++ [0]).length c2 (bvs (esc (xs.take k) ++ [0])) := OwB.snoc ho2 (by rw [h0]; rfl)
        refine OwB.snoc (v := .int .u8 255) ?_ rfl
        rw [bvs_append, List.length_append]
        rw [h0] at ho3
        simpa [bvs, bv] using ho3
      · rw [ht]; simp; rfl
    · have h0 : ¬ x = 0 := fun e => h2 (toNat_zero.2 e)
      rw [if_neg h0] at ht
      refine wc_skip ?_; refine we_block_norm ?_; refine we_seq ?_; refine wc_region ?_; apply wl_val; apply opv_bin; exact rfl; exact rfl; exact bin_add64 (by omega); exact rfl; refine wl_mv rfl rfl ?_; refine wl_nil ?_
      refine we_loop [(10, .slice A xs.length c), (11, .int .i64 (xs.length : Int)), (12, .int .i64 ((k + 1 : Nat) : Int)), (3, .slice A2 (esc (xs.take (k + 1))).length c2)] (xs.length - (k + 1)) ⟨k + 1, A2, c2, rfl, by omega, ?_, hb2, rfl⟩ (by omega) ⟨rfl, rfl, rfl, ?_, trivial⟩
      · rw [ht]; exact OwB.snoc ho2 rfl
      · rw [ht]; simp; rfl
  · have hke : k = xs.length := by omega
    subst hke
    rw [List.take_length] at ho hel ⊢
    rw [Nat.min_self] at hel
    refine wc_exit ?_; refine we_seq_exit ?_; refine we_loop_exit ?_; refine we_block_exit ?_; refine we_seq ?_; refine wc_sr ?_; refine wl_mv rfl rfl ?_
    refine wl_push (vs := [_, _]) tyB rfl ho ⟨rfl, rfl, rfl, rfl, rfl, rfl, trivial⟩ rfl (by decide) rfl (by omega) (by simp only [maxLen]; omega) hsz rfl rfl fun p2 A2 c2 w2 ho2 hg2 hat2 => ?_
    refine wl_as rfl rfl ?_; refine wl_ns ?_; refine wc_ret ?_
    refine we_ret1 rfl rfl ⟨_, rfl, A2, c2, ?_, OwB.snoc2 ho2 rfl rfl, hg2.below hb ho (Nat.le_refl _) hsz⟩
    simp [ordText]

end Go.Proofs.Ytcjiecclmepboaa

/-
  Walks over GetOrdText of the program and of the reference.
-/
namespace Go.Proofs.Ytcjiecclmepboaa
open Go.RowKit

end Go.Proofs.Ytcjiecclmepboaa

/-
  Walks over the keys of texts, and the law TextKeys.
-/
namespace Go.Proofs.Ytcjiecclmepboaa
open Go.RowKit

/-- The key of a text. -/
def keyB (l : List UInt8) : List UInt8 := ordText (foldB l) ++ ordText l
theorem ordText_length (l : List UInt8) : (ordText l).length ≤ 2 * l.length + 2 := by
  have := esc_length l
  simp [ordText]; omega
theorem key_any {l : List UInt8} (hl : l.length ≤ 68719476736) (w : World) : CallsV Try.prog 19 #[str l] w (RetB w (keyB l)) := by
  have hf := foldB_length l
  have h1 := ordText_length (foldB l)
  have h2 := ordText_length l
  have hb := Below.refl w.heap.size w
  refine calls_in (N := _) Try.func19 rfl Try.ntmps19 rfl ?_; show WC _ _ _ _ _ _
  refine wc_sr ?_; refine wl_as rfl rfl ?_; refine wl_ns ?_; refine wc_sr ?_; refine wl_mv rfl rfl ?_
  refine wl_call ok_text_Fold (fold_any (l := l) (by omega) w) ⟨rfl, trivial⟩ rfl ?_
  rintro _ w1 ⟨rfl, hbx⟩

  replace hb := hb.trans (hbx.mono hb.size)
  refine wl_toBytes tyStr Try.underlying30 Try.underlying5 rfl rfl fun A2 c2 w2 r2 hc2 hb2 => ?_
  replace hb := hb.trans (hb2.mono hb.size)
  refine wl_call ok_codec_OrdText (ordText_any r2 rfl (by omega)) ⟨rfl, trivial⟩ rfl ?_
  rintro _ w3 ⟨A3, c3, rfl, o3, hb3⟩
  have hs3 : w.heap.size ≤ w2.heap.size := hb.size
  replace hb := hb.trans (hb3.mono hb.size)
  refine wl_mv rfl rfl ?_
  refine wl_toBytes tyStr Try.underlying30 Try.underlying5 rfl rfl fun A4 c4 w4 r4 hc4 hb4 => ?_
  replace o3 := OwB.below o3 hb4
  replace hb := hb.trans (hb4.mono hb.size)
  refine wl_call ok_codec_OrdText (ordText_any r4 rfl (by omega)) ⟨rfl, trivial⟩ rfl ?_
  rintro _ w5 ⟨A5, c5, rfl, o5, hb5⟩
  replace o3 := OwB.below o3 hb5
  replace hb := hb.trans (hb5.mono hb.size)
  have hs5 : w2.heap.size ≤ w5.heap.size := by have := hb3.size; have := hb4.size; have := hb5.size; omega
  refine wl_app tyB rfl o3 rfl o5.rd (bvs_one _) (by omega) (by simp only [maxLen]; omega) hs5 rfl fun A6 c6 w6 o6 g6 _ => ?_
  have hb6 := g6.below hb o3 hs3 hb.size
  refine wl_as rfl rfl ?_; refine wl_ns ?_; refine wc_ret ?_
  refine we_ret1 rfl rfl ⟨_, rfl, A6, c6, ?_, Ow.mono (OwB.app o6) hs3, hb6⟩
  rw [← List.length_append]; rfl

end Go.Proofs.Ytcjiecclmepboaa

/-
  Rows of values of any type, and of cells.
-/
namespace Go.Proofs.Ytcjiecclmepboaa
open Go.RowKit

theorem tkA : RowK Try.prog 47 20 1 .nilIface 16 := ⟨Try.underlying47, by kernel_rfl, rfl, by decide⟩
theorem tkC : RowK Try.prog 46 53 5 (.agg zC.toArray) 64 := ⟨Try.underlying46, by kernel_rfl, by simp [zC, Value.cells], by decide⟩
/-- A cell that holds a value, one that holds a cell of values. -/
def vaEl (u : Va) : El where
  P w S cs := ∃ (A : Option Addr) (c : Nat), cs = [vaV u A c] ∧ (byEl (vaC u).data).P w S [.slice A (vaC u).data.length c]
  move := by rintro w w' S S' cs ⟨A, c, h, hb⟩ hz hm; exact ⟨A, c, h, El.move _ hb hz hm⟩
def ceEl (x : Ce) : El where
  P w S cs := ∃ (A : Option Addr) (c : Nat), cs = ceV x A c ∧ (byEl x.data).P w S [.slice A x.data.length c]
  move := by rintro w w' S S' cs ⟨A, c, h, hb⟩ hz hm; exact ⟨A, c, h, El.move _ hb hz hm⟩
theorem byEl.rd {w : World} {S : Nat → Prop} {xs : List UInt8} {A : Option Addr} {c : Nat} (h : (byEl xs).P w S [.slice A xs.length c]) : RdB w A xs ∧ xs.length ≤ c := by
  obtain ⟨A', c', h1, h2, h3, _⟩ := h
  simp only [List.cons.injEq, Value.slice.injEq, and_true] at h1
  obtain ⟨rfl, _, rfl⟩ := h1
  exact ⟨h3, h2⟩
theorem byEl.own {w : World} {base : Nat} {S : Nat → Prop} {xs : List UInt8} {A : Option Addr} {c : Nat} (h : OwB w base A c xs) (hs : ∀ a, A = some a → base ≤ a.block → a.block < w.heap.size → S a.block) : (byEl xs).P w S [.slice A xs.length c] :=
  byEl.mk h.rd h.cap fun a ha _ => by have := Ow.lt h a ha; exact hs a ha this.1 this.2
theorem vaV_one (u : Va) (A : Option Addr) (c : Nat) : (vaV u A c).oneCell' = true := by cases u <;> rfl
/-- What a value must be to be written. -/
structure VaOk (u : Va) : Prop where
  num : -9223372036854775808 ≤ (vaC u).num ∧ (vaC u).num ≤ 9223372036854775807
  text : (vaC u).text.length ≤ 68719476736
  data : (vaC u).data.length ≤ 68719476736
/-- A value's key. -/
def key1 : Va → List UInt8
  | .nil => [0]
  | .bool b => [1, if b then 1 else 0]
  | .int n => 2 :: ordU (lift n)
  | .text s => 3 :: keyB s
  | .bytes d => 4 :: ordText d
def keysB (us : List Va) : List UInt8 := us.flatMap key1
theorem keysB_take {us : List Va} {k : Nat} {u : Va} (h : us[k]? = some u) : keysB (us.take (k + 1)) = keysB (us.take k) ++ key1 u := by
  rw [take_getR h]; simp [keysB]
theorem keysB_le (us : List Va) (k : Nat) : (keysB (us.take k)).length ≤ (keysB us).length := by
  have := congrArg List.length (show keysB (us.take k) ++ keysB (us.drop k) = keysB us by rw [keysB, keysB, ← List.flatMap_append, List.take_append_drop]; rfl)
  simp at this; omega
end Go.Proofs.Ytcjiecclmepboaa

/-
  The walk over Key.
-/
namespace Go.Proofs.Ytcjiecclmepboaa
open Go.RowKit

theorem c1_any : Cell1 Try.prog 20 := ⟨by kernel_rfl, by rw [Try.underlying20]⟩
theorem truth_any {b : Bool} {w : World} : CallsV Try.prog 81 #[.bool b] w fun v w' => v = .int .i64 (if b then 1 else 0 : Nat) ∧ w = w' := by
  refine calls_in (N := _) Try.func81 rfl Try.ntmps81 rfl ?_; show WC _ _ _ _ _ _
  cases b with
  | true => (refine wc_sr ?_; refine wl_as rfl rfl ?_; refine wl_ns ?_; refine wc_seq ?_; refine wc_sr ?_; refine wl_mv rfl rfl ?_; refine wl_ns ?_; apply wc_condTb; exact rfl; exact rfl; refine wc_sr ?_; refine wl_as rfl rfl ?_; refine wl_ns ?_; refine wc_ret ?_; refine we_seq_ret ?_; exact we_ret1 rfl rfl ⟨_, rfl, rfl, rfl⟩)
  | false => (refine wc_sr ?_; refine wl_as rfl rfl ?_; refine wl_ns ?_; refine wc_seq ?_; refine wc_sr ?_; refine wl_mv rfl rfl ?_; refine wl_ns ?_; apply wc_condFb; exact rfl; exact rfl; refine wc_skip ?_; refine we_seq ?_; refine wc_sr ?_; refine wl_as rfl rfl ?_; refine wl_ns ?_; refine wc_ret ?_; exact we_ret1 rfl rfl ⟨_, rfl, rfl, rfl⟩)
def KeyI (w : World) (us : List Va) (A : Option Addr) (c : Nat) : FL → World → Nat → Prop := fun L wr m =>
  ∃ (k : Nat) (P : Option Addr) (cp : Nat), L = [(4, .slice P (keysB (us.take k)).length cp), (9, .slice A us.length c), (10, .int .i64 (us.length : Int)), (11, .int .i64 (k : Int))] ∧ k ≤ us.length ∧ OwB wr w.heap.size P cp (keysB (us.take k)) ∧ Below w.heap.size w wr ∧ m = us.length - k
theorem key_next {w w' : World} {us : List Va} {A : Option Addr} {c k : Nat} {P : Option Addr} {cp n : Nat} {vs : List Value} {u : Va} (hu : us[k]? = some u) (ho : Ow w' w.heap.size 5 P n cp vs) (hn : (keysB (us.take k)).length + (key1 u).length = n) (hv : bvs (keysB (us.take k)) ++ bvs (key1 u) = vs) (hb : Below w.heap.size w w') {m : Nat} (hm : m = us.length - k) :
    ∃ m', KeyI w us A c [(4, .slice P n cp), (9, .slice A us.length c), (10, .int .i64 (us.length : Int)), (11, .int .i64 ((k + 1 : Nat) : Int))] w' m' ∧ m' < m := by
  have hlt := (List.getElem?_eq_some_iff.1 hu).1
  have e := keysB_take hu
  have el : n = (keysB (us.take (k + 1))).length := by rw [e, List.length_append, hn]
  refine ⟨us.length - (k + 1), ⟨k + 1, P, cp, by rw [el], by omega, ?_, hb, rfl⟩, by omega⟩
  unfold OwB
  rw [← el, e, bvs_append, hv]
  exact ho
set_option maxHeartbeats 2000000 in
theorem cellKey_any {A : Option Addr} {n c : Nat} {us : List Va} {w : World} (hr : RdR 1 w All A (us.map vaEl)) (hn : us.length = n) (hok : ∀ u ∈ us, VaOk u) (hl : (keysB us).length ≤ 137438953472) (hl2 : us.length ≤ maxLen) :
    CallsV Try.prog 49 #[.slice A n c] w fun v w' => ∃ (B : Option Addr) (cB : Nat), v = .tuple #[.slice B (keysB us).length cB, .int .i64 0] ∧ OwB w' w.heap.size B cB (keysB us) ∧ Below w.heap.size w w' := by
  subst hn
  have hmax : maxLen = 9223372036854775807 := rfl
  refine calls_in (N := _) Try.func49 rfl Try.ntmps49 rfl ?_; show WC _ _ _ _ _ _
  refine wc_sr ?_; refine wl_as rfl rfl ?_; refine wl_as rfl rfl ?_; refine wl_ns ?_; refine wc_sr ?_; refine wl_as rfl rfl ?_; refine wl_ns ?_; refine wc_seq ?_; refine wc_sr ?_; refine wl_mv rfl rfl ?_; apply wl_val; apply opv_len; exact rfl; exact tkA.sl; exact rfl; refine wl_mv rfl rfl ?_; refine wl_ns ?_; refine wc_block ?_
  refine wc_loop (KeyI w us A c) [(4, .slice none 0 0), (9, .slice A us.length c), (10, .int .i64 (us.length : Int)), (11, .int .i64 (0 : Nat))] us.length ⟨0, none, 0, rfl, by omega, Ow.nil _ _ _, Below.refl _ _, rfl⟩ ⟨rfl, rfl, rfl, rfl, trivial⟩ ?_
  rintro _ w1 m ⟨k, P, cp, rfl, hk, o1, hb, hm⟩
  have hle := keysB_le us k
  refine wc_sr ?_; refine wl_bin rfl rfl bin_lss rfl ?_; refine wl_ns ?_; refine wc_seq ?_
  refine wc_cond rfl (fun h1 => ?_) (fun h1 => ?_)
  · obtain ⟨u, hu⟩ : ∃ u, us[k]? = some u := ⟨_, List.getElem?_eq_getElem (by omega)⟩
    have hle2 := keysB_le us (k + 1)
    rw [keysB_take hu, List.length_append] at hle2
    have hou := hok u (List.mem_of_getElem? hu)
    obtain ⟨b, o, cs, rfl, _, _, ⟨X, cx, rfl, hx⟩, hw⟩ := RdR.at (k := 1) (by decide) hr (E := vaEl u) (i := k) (by rw [List.getElem?_map, hu]; rfl)
    have i1 := hw.below hb
    have hP : ∀ a, P = some a → a.block < w1.heap.size := fun a ha => (Ow.lt o1 a ha).2
    have rx := (byEl.rd hx).1.below hb
    refine wc_skip ?_; refine we_seq ?_; refine wc_seq ?_; refine wc_block ?_; refine wc_sr ?_; apply wl_val; apply opv_idxG tkA; exact rfl; exact rfl; exact rfl; omega; exact rfl; apply wl_val; apply opv_ldW0; exact rfl; assumption; exact c1_any; exact rfl; exact rfl; refine wl_as rfl rfl ?_; refine wl_ns ?_; refine wc_sr ?_; refine wl_mv rfl rfl ?_
    refine wl_call ok_cell_Cell (cell_any rx (by have := hou.data; omega)) ⟨rfl, trivial⟩ rfl ?_; rintro _ _ ⟨B, cB, rfl, o2, hbx⟩; replace o1 := OwB.below o1 hbx; replace hb := hb.trans (hbx.mono hb.size); clear hbx
    refine wl_mv rfl rfl ?_; apply wl_val; apply opv_extract; exact rfl; exact rfl; exact rfl; apply wl_val; apply opv_extract; exact rfl; exact rfl; exact rfl
    refine wl_var (cs := ceV (vaC u) B cB) zeroC sC rfl (fun _ => rfl) (by first | rfl | simp [Value.oneCell'] | simp [ceV, Value.oneCell']) rfl fun g3 _ hg3 a3 hbx => ?_; replace o1 := OwB.below o1 hbx; replace o2 := OwB.below o2 hbx; replace hb := hb.trans (hbx.mono hb.size); clear hbx
    unfold ceV at a3
    obtain ⟨K, hK⟩ : ∃ K, (keysB (us.take k)).length = K := ⟨_, rfl⟩
    have q1 := Ow.re o1 hK
    rw [hK] at hle hle2 ⊢
    clear o1 i1 rx
    cases u with
    | nil =>
      simp only [vaC] at a3
      simp only [key1, List.length_cons, List.length_nil] at hle2
      refine wl_as rfl rfl ?_; refine wl_ns ?_; refine wc_seq ?_; refine wc_sr ?_; refine wl_mv rfl rfl ?_; refine wl_bin rfl rfl bin_neq rfl ?_; refine wl_ns ?_; apply wc_condFb; exact rfl; exact rfl; refine wc_skip ?_; refine we_seq ?_; refine wc_sr ?_; refine wl_mv rfl rfl ?_; apply wl_val; apply opv_fa; exact fa_sC (by decide); exact rfl; exact rfl; apply wl_val; apply opv_ldX; exact rfl; assumption; exact c1_int; exact rfl; exact rfl; apply wl_val; apply opv_convR; exact rfl; exact Try.underlying3; exact Try.underlying5; exact IntWalk.u8_in _ (by omega); exact rfl
      refine wl_push (vs := [_]) tyB rfl q1 ⟨rfl, rfl, rfl, trivial⟩ rfl (by decide) rfl (by omega) (by simp only [maxLen]; omega) hb.size rfl rfl fun _ _ _ _ hO hG _ => ?_; (try replace a3 := Ar.grA a3 hG (Ar.ne_ow a3 q1 rfl)); replace hb := hG.below hb q1 (Nat.le_refl _) hb.size; replace q1 := hO; clear hO hG
      refine wl_as rfl rfl ?_; refine wl_ns ?_; refine wc_sr ?_; apply wl_val; apply opv_fa; exact fa_sC (by decide); exact rfl; exact rfl; apply wl_val; apply opv_ldX; exact rfl; assumption; exact c1_int; exact rfl; exact rfl; refine wl_ns ?_; refine wc_block ?_; refine wc_sr ?_; refine wl_bin rfl rfl bin_eql rfl ?_; refine wl_as rfl rfl ?_; refine wl_ns ?_; apply wc_condFb; exact rfl; exact rfl; refine wc_sr ?_; refine wl_bin rfl rfl bin_eql rfl ?_; refine wl_as rfl rfl ?_; refine wl_ns ?_; apply wc_condFb; exact rfl; exact rfl; refine wc_sr ?_; refine wl_bin rfl rfl bin_eql rfl ?_; refine wl_as rfl rfl ?_; refine wl_ns ?_; apply wc_condFb; exact rfl; exact rfl; refine wc_sr ?_; refine wl_bin rfl rfl bin_eql rfl ?_; refine wl_as rfl rfl ?_; refine wl_ns ?_; apply wc_condFb; exact rfl; exact rfl; refine wc_skip ?_; refine we_block_norm ?_; refine we_block_norm ?_; refine we_seq ?_; refine wc_region ?_; apply wl_val; apply opv_bin; exact rfl; exact rfl; exact bin_add64 (by omega); exact rfl; refine wl_mv rfl rfl ?_; refine wl_nil ?_
      obtain ⟨m', hI, hlt⟩ := key_next (A := some ⟨b, o, none⟩) (c := c) hu q1 (by simp [key1, hK]) rfl hb hm
      exact we_loop _ m' hI hlt ⟨rfl, rfl, rfl, by simp [lookT], trivial⟩
    | bool t =>
      simp only [vaC] at a3
      simp only [key1, List.length_cons, List.length_nil] at hle2
      refine wl_as rfl rfl ?_; refine wl_ns ?_; refine wc_seq ?_; refine wc_sr ?_; refine wl_mv rfl rfl ?_; refine wl_bin rfl rfl bin_neq rfl ?_; refine wl_ns ?_; apply wc_condFb; exact rfl; exact rfl; refine wc_skip ?_; refine we_seq ?_; refine wc_sr ?_; refine wl_mv rfl rfl ?_; apply wl_val; apply opv_fa; exact fa_sC (by decide); exact rfl; exact rfl; apply wl_val; apply opv_ldX; exact rfl; assumption; exact c1_int; exact rfl; exact rfl; apply wl_val; apply opv_convR; exact rfl; exact Try.underlying3; exact Try.underlying5; exact IntWalk.u8_in _ (by omega); exact rfl
      refine wl_push (vs := [_]) tyB rfl q1 ⟨rfl, rfl, rfl, trivial⟩ rfl (by decide) rfl (by omega) (by simp only [maxLen]; omega) hb.size rfl rfl fun _ _ _ _ hO hG _ => ?_; replace a3 := Ar.grA a3 hG (Ar.ne_ow a3 q1 rfl); replace hb := hG.below hb q1 (Nat.le_refl _) hb.size; replace q1 := hO; clear hO hG
      refine wl_as rfl rfl ?_; refine wl_ns ?_; refine wc_sr ?_; apply wl_val; apply opv_fa; exact fa_sC (by decide); exact rfl; exact rfl; apply wl_val; apply opv_ldX; exact rfl; assumption; exact c1_int; exact rfl; exact rfl; refine wl_ns ?_; refine wc_block ?_; refine wc_sr ?_; refine wl_bin rfl rfl bin_eql rfl ?_; refine wl_as rfl rfl ?_; refine wl_ns ?_; apply wc_condTb; exact rfl; exact rfl; refine wc_region ?_; refine wl_mv rfl rfl ?_; apply wl_val; apply opv_fa; exact fa_sC (by decide); exact rfl; exact rfl; apply wl_val; apply opv_ldX; exact rfl; assumption; exact c1_bool; exact rfl; exact rfl
      refine wl_call ok_cell_truth truth_any ⟨rfl, trivial⟩ rfl ?_
      rintro _ _ ⟨rfl, rfl⟩
      have hlt : (if t then 1 else 0 : Nat) < 256 := by cases t <;> decide
      apply wl_val; apply opv_convR; exact rfl; exact Try.underlying3; exact Try.underlying5; exact IntWalk.u8_in _ (by omega); exact rfl
      refine wl_push (vs := [_]) tyB rfl q1 ⟨rfl, rfl, rfl, trivial⟩ rfl (by decide) rfl (by omega) (by simp only [maxLen]; omega) hb.size rfl rfl fun _ _ _ _ hO hG _ => ?_; (try replace a3 := Ar.grA a3 hG (Ar.ne_ow a3 q1 rfl)); replace hb := hG.below hb q1 (Nat.le_refl _) hb.size; replace q1 := hO; clear hO hG
      refine wl_as rfl rfl ?_; refine wl_nil ?_; refine we_block_norm ?_; refine we_block_norm ?_; refine we_seq ?_; refine wc_region ?_; apply wl_val; apply opv_bin; exact rfl; exact rfl; exact bin_add64 (by omega); exact rfl; refine wl_mv rfl rfl ?_; refine wl_nil ?_
      obtain ⟨m', hI, hlt⟩ := key_next (A := some ⟨b, o, none⟩) (c := c) hu q1 (by simp [key1, hK]) (by cases t <;> simp [key1, bvs, bv]) hb hm
      exact we_loop _ m' hI hlt ⟨rfl, rfl, rfl, by simp [lookT], trivial⟩
    | int n =>
      simp only [vaC] at a3
      simp only [key1, List.length_cons, ordU_length] at hle2
      refine wl_as rfl rfl ?_; refine wl_ns ?_; refine wc_seq ?_; refine wc_sr ?_; refine wl_mv rfl rfl ?_; refine wl_bin rfl rfl bin_neq rfl ?_; refine wl_ns ?_; apply wc_condFb; exact rfl; exact rfl; refine wc_skip ?_; refine we_seq ?_; refine wc_sr ?_; refine wl_mv rfl rfl ?_; apply wl_val; apply opv_fa; exact fa_sC (by decide); exact rfl; exact rfl; apply wl_val; apply opv_ldX; exact rfl; assumption; exact c1_int; exact rfl; exact rfl; apply wl_val; apply opv_convR; exact rfl; exact Try.underlying3; exact Try.underlying5; exact IntWalk.u8_in _ (by omega); exact rfl
      refine wl_push (vs := [_]) tyB rfl q1 ⟨rfl, rfl, rfl, trivial⟩ rfl (by decide) rfl (by omega) (by simp only [maxLen]; omega) hb.size rfl rfl fun _ _ _ _ hO hG _ => ?_; replace a3 := Ar.grA a3 hG (Ar.ne_ow a3 q1 rfl); replace hb := hG.below hb q1 (Nat.le_refl _) hb.size; replace q1 := hO; clear hO hG
      refine wl_as rfl rfl ?_; refine wl_ns ?_; refine wc_sr ?_; apply wl_val; apply opv_fa; exact fa_sC (by decide); exact rfl; exact rfl; apply wl_val; apply opv_ldX; exact rfl; assumption; exact c1_int; exact rfl; exact rfl; refine wl_ns ?_; refine wc_block ?_; refine wc_sr ?_; refine wl_bin rfl rfl bin_eql rfl ?_; refine wl_as rfl rfl ?_; refine wl_ns ?_; apply wc_condFb; exact rfl; exact rfl; refine wc_sr ?_; refine wl_bin rfl rfl bin_eql rfl ?_; refine wl_as rfl rfl ?_; refine wl_ns ?_; apply wc_condTb; exact rfl; exact rfl; refine wc_region ?_; refine wl_mv rfl rfl ?_; apply wl_val; apply opv_fa; exact fa_sC (by decide); exact rfl; exact rfl; apply wl_val; apply opv_ldX; exact rfl; assumption; exact c1_i64; exact rfl; exact rfl
      refine wl_call ok_codec_OrdI (ordI_any n hou.num _) ⟨rfl, trivial⟩ rfl ?_; rintro _ _ ⟨Y, cy, rfl, o3, hbx⟩; replace q1 := Ow.bel q1 hbx; replace hb := hb.trans (hbx.mono hb.size); clear hbx
      rw [ordU_length]
      refine wl_app tyB rfl q1 rfl (Ow.re o3 (ordU_length _)).rd (bvs_one _) (by omega) (by simp only [maxLen]; omega) hb.size rfl fun _ _ _ hO hG _ => ?_; (try replace a3 := Ar.grA a3 hG (Ar.ne_ow a3 q1 rfl)); replace hb := hG.below hb q1 (Nat.le_refl _) hb.size; replace q1 := hO; clear hO hG
      refine wl_as rfl rfl ?_; refine wl_nil ?_; refine we_block_norm ?_; refine we_block_norm ?_; refine we_seq ?_; refine wc_region ?_; apply wl_val; apply opv_bin; exact rfl; exact rfl; exact bin_add64 (by omega); exact rfl; refine wl_mv rfl rfl ?_; refine wl_nil ?_
      obtain ⟨m', hI, hlt⟩ := key_next (A := some ⟨b, o, none⟩) (c := c) hu q1 (by simp [key1, hK, ordU_length]) (by simp [key1, bvs, bv]) hb hm
      exact we_loop _ m' hI hlt ⟨rfl, rfl, rfl, by simp [lookT], trivial⟩
    | text s =>
      simp only [vaC] at a3
      simp only [key1, List.length_cons] at hle2
      refine wl_as rfl rfl ?_; refine wl_ns ?_; refine wc_seq ?_; refine wc_sr ?_; refine wl_mv rfl rfl ?_; refine wl_bin rfl rfl bin_neq rfl ?_; refine wl_ns ?_; apply wc_condFb; exact rfl; exact rfl; refine wc_skip ?_; refine we_seq ?_; refine wc_sr ?_; refine wl_mv rfl rfl ?_; apply wl_val; apply opv_fa; exact fa_sC (by decide); exact rfl; exact rfl; apply wl_val; apply opv_ldX; exact rfl; assumption; exact c1_int; exact rfl; exact rfl; apply wl_val; apply opv_convR; exact rfl; exact Try.underlying3; exact Try.underlying5; exact IntWalk.u8_in _ (by omega); exact rfl
      refine wl_push (vs := [_]) tyB rfl q1 ⟨rfl, rfl, rfl, trivial⟩ rfl (by decide) rfl (by omega) (by simp only [maxLen]; omega) hb.size rfl rfl fun _ _ _ _ hO hG _ => ?_; replace a3 := Ar.grA a3 hG (Ar.ne_ow a3 q1 rfl); replace hb := hG.below hb q1 (Nat.le_refl _) hb.size; replace q1 := hO; clear hO hG
      refine wl_as rfl rfl ?_; refine wl_ns ?_; refine wc_sr ?_; apply wl_val; apply opv_fa; exact fa_sC (by decide); exact rfl; exact rfl; apply wl_val; apply opv_ldX; exact rfl; assumption; exact c1_int; exact rfl; exact rfl; refine wl_ns ?_; refine wc_block ?_; refine wc_sr ?_; refine wl_bin rfl rfl bin_eql rfl ?_; refine wl_as rfl rfl ?_; refine wl_ns ?_; apply wc_condFb; exact rfl; exact rfl; refine wc_sr ?_; refine wl_bin rfl rfl bin_eql rfl ?_; refine wl_as rfl rfl ?_; refine wl_ns ?_; apply wc_condFb; exact rfl; exact rfl; refine wc_sr ?_; refine wl_bin rfl rfl bin_eql rfl ?_; refine wl_as rfl rfl ?_; refine wl_ns ?_; apply wc_condTb; exact rfl; exact rfl; refine wc_region ?_; refine wl_mv rfl rfl ?_; apply wl_val; apply opv_fa; exact fa_sC (by decide); exact rfl; exact rfl; apply wl_val; apply opv_ldX; exact rfl; assumption; exact c1_str; exact rfl; exact rfl
      refine wl_call ok_text_Key (key_any (l := s) hou.text _) ⟨rfl, trivial⟩ rfl ?_; rintro _ _ ⟨Y, cy, rfl, o3, hbx⟩; replace q1 := Ow.bel q1 hbx; replace hb := hb.trans (hbx.mono hb.size); clear hbx
      refine wl_app tyB rfl q1 rfl o3.rd (bvs_one _) (by omega) (by simp only [maxLen]; omega) hb.size rfl fun _ _ _ hO hG _ => ?_; (try replace a3 := Ar.grA a3 hG (Ar.ne_ow a3 q1 rfl)); replace hb := hG.below hb q1 (Nat.le_refl _) hb.size; replace q1 := hO; clear hO hG
      refine wl_as rfl rfl ?_; refine wl_nil ?_; refine we_block_norm ?_; refine we_block_norm ?_; refine we_seq ?_; refine wc_region ?_; apply wl_val; apply opv_bin; exact rfl; exact rfl; exact bin_add64 (by omega); exact rfl; refine wl_mv rfl rfl ?_; refine wl_nil ?_
      obtain ⟨m', hI, hlt⟩ := key_next (A := some ⟨b, o, none⟩) (c := c) hu q1 (by simp [key1, hK]; omega) (by simp [key1, bvs, bv]) hb hm
      exact we_loop _ m' hI hlt ⟨rfl, rfl, rfl, by simp [lookT], trivial⟩
    | bytes d =>
      simp only [vaC] at a3 o2
      simp only [key1, List.length_cons] at hle2
      refine wl_as rfl rfl ?_; refine wl_ns ?_; refine wc_seq ?_; refine wc_sr ?_; refine wl_mv rfl rfl ?_; refine wl_bin rfl rfl bin_neq rfl ?_; refine wl_ns ?_; apply wc_condFb; exact rfl; exact rfl; refine wc_skip ?_; refine we_seq ?_; refine wc_sr ?_; refine wl_mv rfl rfl ?_; apply wl_val; apply opv_fa; exact fa_sC (by decide); exact rfl; exact rfl; apply wl_val; apply opv_ldX; exact rfl; assumption; exact c1_int; exact rfl; exact rfl; apply wl_val; apply opv_convR; exact rfl; exact Try.underlying3; exact Try.underlying5; exact IntWalk.u8_in _ (by omega); exact rfl
      refine wl_push (vs := [_]) tyB rfl q1 ⟨rfl, rfl, rfl, trivial⟩ rfl (by decide) rfl (by omega) (by simp only [maxLen]; omega) hb.size rfl rfl fun _ _ _ _ hO hG _ => ?_; replace a3 := Ar.grA a3 hG (Ar.ne_ow a3 q1 rfl); replace o2 := Ow.gr2 o2 hG hP; replace hb := hG.below hb q1 (Nat.le_refl _) hb.size; replace q1 := hO; clear hO hG
      refine wl_as rfl rfl ?_; refine wl_ns ?_; refine wc_sr ?_; apply wl_val; apply opv_fa; exact fa_sC (by decide); exact rfl; exact rfl; apply wl_val; apply opv_ldX; exact rfl; assumption; exact c1_int; exact rfl; exact rfl; refine wl_ns ?_; refine wc_block ?_; refine wc_sr ?_; refine wl_bin rfl rfl bin_eql rfl ?_; refine wl_as rfl rfl ?_; refine wl_ns ?_; apply wc_condFb; exact rfl; exact rfl; refine wc_sr ?_; refine wl_bin rfl rfl bin_eql rfl ?_; refine wl_as rfl rfl ?_; refine wl_ns ?_; apply wc_condFb; exact rfl; exact rfl; refine wc_sr ?_; refine wl_bin rfl rfl bin_eql rfl ?_; refine wl_as rfl rfl ?_; refine wl_ns ?_; apply wc_condFb; exact rfl; exact rfl; refine wc_sr ?_; refine wl_bin rfl rfl bin_eql rfl ?_; refine wl_as rfl rfl ?_; refine wl_ns ?_; apply wc_condTb; exact rfl; exact rfl; refine wc_region ?_; refine wl_mv rfl rfl ?_; apply wl_val; apply opv_fa; exact fa_sC (by decide); exact rfl; exact rfl; apply wl_val; apply opv_ldX; exact rfl; assumption; exact c1_by; exact rfl; exact rfl
      refine wl_call ok_codec_OrdText (ordText_any (OwB.rd o2) rfl (by have : d.length ≤ 68719476736 := hou.data; omega)) ⟨rfl, trivial⟩ rfl ?_; rintro _ _ ⟨Y, cy, rfl, o3, hbx⟩; replace q1 := Ow.bel q1 hbx; replace hb := hb.trans (hbx.mono hb.size); clear hbx
      refine wl_app tyB rfl q1 rfl o3.rd (bvs_one _) (by omega) (by simp only [maxLen]; omega) hb.size rfl fun _ _ _ hO hG _ => ?_; (try replace a3 := Ar.grA a3 hG (Ar.ne_ow a3 q1 rfl)); replace hb := hG.below hb q1 (Nat.le_refl _) hb.size; replace q1 := hO; clear hO hG
      refine wl_as rfl rfl ?_; refine wl_nil ?_; refine we_block_norm ?_; refine we_block_norm ?_; refine we_seq ?_; refine wc_region ?_; apply wl_val; apply opv_bin; exact rfl; exact rfl; exact bin_add64 (by omega); exact rfl; refine wl_mv rfl rfl ?_; refine wl_nil ?_
      obtain ⟨m', hI, hlt⟩ := key_next (A := some ⟨b, o, none⟩) (c := c) hu q1 (by simp [key1, hK]; omega) (by simp [key1, bvs, bv]) hb hm
      exact we_loop _ m' hI hlt ⟨rfl, rfl, rfl, by simp [lookT], trivial⟩
  · obtain rfl : k = us.length := by omega
    rw [List.take_length] at o1 ⊢
    refine wc_exit ?_; refine we_seq_exit ?_; refine we_loop_exit ?_; refine we_block_exit ?_; refine we_seq ?_; refine wc_sr ?_; refine wl_mv rfl rfl ?_; refine wl_as rfl rfl ?_; refine wl_as rfl rfl ?_; refine wl_ns ?_; refine wc_ret ?_
    exact we_ret2 rfl rfl rfl ⟨_, rfl, P, cp, rfl, o1, hb⟩
end Go.Proofs.Ytcjiecclmepboaa
