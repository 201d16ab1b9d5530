/-
  The texts of this proof, joined: Wj, Pe, Wk, Wm, Args, Op, A1, A2, A3, A4, A5, Mp, Za, Zb, Zd, Ib, Iv, Ya, Ic, Id.
-/
import Derived.Test.YtdgagffieobiiaaJouM2
import Derived.Test.YtdgagffieobiiaaJouM1
import Derived.ProofKit
import Derived.OpenShut
import Derived.JoinedCond
import Derived.SizedLaws
import Derived.Deep.Matrix
import Derived.Carry
import Derived.Deep.Slices
import Derived.ChangeMaps5
import Derived.MapKept
import Derived.Maps.RangeRun
import Derived.Deep.MidRow

/-
  Walks over Parts of the program and of the reference.
-/
namespace Go.Proofs.Ytdgagffieobiiaa
open Go.RowKit

theorem rd_cut {w : World} {A : Option Addr} {xs : List UInt8} {c l h : Nat} (hr : RdB w A xs) (h1 : l ≤ h) (hh : h ≤ xs.length) (hc : xs.length ≤ c) : RdB w (cutA A c l) ((xs.take h).drop l) := by
  have := Rd.cut (l := l) (h := h) hr h1 hh hc
  rw [bvs_cut] at this
  have e : ((xs.take h).drop l).length = h - l := by simp; omega
  unfold RdB; rw [e]; exact this
def RetP (w : World) (x : List (List UInt8) × Nat) (v : Value) (w' : World) : Prop :=
  ∃ (A : Option Addr) (c : Nat), v = .tuple #[.slice A x.1.length c, .int .i64 (x.2 : Int)] ∧ OwBB w' w.heap.size A c x.1 ∧ Below w.heap.size w w'

theorem parts_any {A : Option Addr} {n c : Nat} {xs : List UInt8} {w : World} (hr : RdB w A xs) (hn : xs.length = n) (hc : xs.length ≤ c) (hl : xs.length ≤ 1099511627776) : CallsV Try.prog 47 #[.slice A n c] w (RetP w (parts xs)) := by
  subst hn
  refine calls_in (N := _) Try.func47 rfl Try.ntmps47 rfl ?_; show WC _ _ _ _ _ _
  refine wc_sr ?_; refine wl_as rfl rfl ?_; refine wl_as rfl rfl ?_; refine wl_ns ?_; refine wc_sr ?_; refine wl_as rfl rfl ?_; refine wl_ns ?_; refine wc_seq ?_; refine wc_sr ?_; refine wl_as rfl rfl ?_; refine wl_ns ?_; refine wc_block ?_
  refine wc_loop (fun L wr m => ∃ (q f : Nat) (out : List (List UInt8)) (P : Option Addr) (cp : Nat), L = [(0, .slice A xs.length c), (4, .slice P out.length cp), (5, .int .i64 (q : Int))] ∧ q ≤ xs.length ∧ xs.length - q ≤ f ∧ parts xs = partsF f xs q out ∧ out.length ≤ q ∧ OwBB wr w.heap.size P cp out ∧ Below w.heap.size w wr ∧ m = xs.length - q)
    [(0, .slice A xs.length c), (4, .slice none 0 0), (5, .int .i64 (0 : Nat))] xs.length ⟨0, xs.length, [], none, 0, rfl, by omega, by omega, rfl, by simp, OwBB.nil _ _, Below.refl _ _, rfl⟩ ⟨rfl, rfl, rfl, trivial⟩ ?_
  rintro _ w1 m ⟨q, f, out, P, cp, rfl, hq, hf, hp, hol, o1, hb1, rfl⟩
  refine wc_seq ?_; refine wc_sr ?_; refine wl_mv rfl rfl ?_; refine wl_mv rfl rfl ?_; apply wl_val; apply opv_len; exact rfl; exact tyB.sl; exact rfl; refine wl_bin rfl rfl bin_lss rfl ?_; refine wl_ns ?_
  refine wc_cond rfl (fun h1 => ?_) (fun h1 => ?_)
  · obtain ⟨f, rfl⟩ : ∃ g, f = g + 1 := ⟨f - 1, by omega⟩
    obtain ⟨n, x, e, hu⟩ : ∃ n x e, getU xs q = (n, x, e) := ⟨_, _, _, rfl⟩
    have r1 := RdB.below hr hb1
    refine wc_skip ?_; refine we_seq ?_; refine wc_block ?_; refine wc_sr ?_; refine wl_mv rfl rfl ?_; refine wl_mv rfl rfl ?_
    refine wl_call ok_codec_GetU (getU_at hu r1 rfl (by simp only [maxLen]; omega) (by omega)) ⟨rfl, rfl, trivial⟩ rfl ?_
    rintro _ w2 ⟨rfl, h2⟩
    have hb2 := hb1.trans (h2.mono hb1.size)
    replace o1 := o1.below h2
    replace r1 := RdB.below r1 h2
    refine wl_mv rfl rfl ?_; apply wl_val; apply opv_extract; exact rfl; exact rfl; exact rfl; apply wl_val; apply opv_extract; exact rfl; exact rfl; exact rfl; apply wl_val; apply opv_extract; exact rfl; exact rfl; exact rfl; refine wl_as rfl rfl ?_; refine wl_as rfl rfl ?_; refine wl_as rfl rfl ?_; refine wl_ns ?_; refine wc_seq ?_; refine wc_sr ?_; refine wl_mv rfl rfl ?_; refine wl_bin rfl rfl bin_neq rfl ?_; refine wl_ns ?_
    by_cases he : e = 0
    · subst he
      obtain ⟨k, rfl, hqk, hkl⟩ := getU_next hu
      have hnf : n < 18446744073709551616 := by have := getU_fits xs q; rw [hu] at this; exact this
      refine wc_cond rfl (fun h => absurd rfl h) (fun _ => ?_)
      have e1 : IntKind.u64.wrap ((xs.length : Int) - k) = (xs.length : Int) - k := IntWalk.u64_in _ (by omega)
      refine wc_skip ?_; refine we_seq ?_; refine wc_seq ?_; refine wc_sr ?_; refine wl_mv rfl rfl ?_; refine wl_mv rfl rfl ?_; apply wl_val; apply opv_len; exact rfl; exact tyB.sl; exact rfl; refine wl_mv rfl rfl ?_; apply wl_val; apply opv_bin; exact rfl; exact rfl; exact bin_sub64 (by omega); exact rfl; apply wl_val; apply opv_convR; exact rfl; exact Try.underlying3; exact Try.underlying47; exact IntWalk.u64_in _ (by omega); exact rfl; refine wl_bin rfl rfl bin_gtr rfl ?_; refine wl_ns ?_
      refine wc_cond rfl (fun h3 => ?_) (fun h3 => ?_)
      · refine wc_sr ?_; refine wl_as rfl rfl ?_; refine wl_as rfl rfl ?_; refine wl_ns ?_; refine wc_ret ?_; refine we_seq_ret ?_; refine we_block_ret ?_; refine we_loop_ret ?_; refine we_block_ret ?_; refine we_seq_ret ?_
        refine we_ret2 rfl rfl rfl ⟨_, rfl, ?_⟩
        rw [hp, partsF_short (by omega) hu (by omega)]
        exact ⟨none, 0, rfl, OwBB.nil _ _, hb2⟩
      · have hkn : k + n ≤ xs.length := by omega
        refine wc_skip ?_; refine we_seq ?_; refine wc_sr ?_; refine wl_mv rfl rfl ?_; refine wl_mv rfl rfl ?_; apply wl_val; apply opv_convR; exact rfl; exact Try.underlying47; exact Try.underlying3; exact IntWalk.i64_in _ (by omega); exact rfl; apply wl_val; apply opv_bin; exact rfl; exact rfl; exact bin_add64 (by omega); exact rfl; refine wl_as rfl rfl ?_; refine wl_ns ?_; refine wc_region ?_; refine wl_mv rfl rfl ?_; refine wl_mv rfl rfl ?_; refine wl_mv rfl rfl ?_; refine wl_mv rfl rfl ?_
        refine wl_sl (l := k) (h := k + n) tyB rfl ⟨_, rfl⟩ ⟨_, by simp only [Int.natCast_add]; rfl⟩ (by omega) (by omega) rfl ?_
        refine wl_call ok_bytes_Clone (clone_any (rd_cut r1 (by omega) hkn hc) (by simp; omega) (by simp; omega)) ⟨rfl, trivial⟩ rfl ?_
        rintro _ w3 ⟨A3, c3, rfl, o3, h3⟩
        have hb3 := hb2.trans (h3.mono hb2.size)
        refine wl_pushR o1 h3 hb2.size o3 hb3 rfl (by omega) rfl rfl rfl rfl rfl fun p A4 c4 w4 o4 hb4 => ?_
        refine wl_as rfl rfl ?_; refine wl_nil ?_; refine we_block_norm ?_
        refine we_loop [(0, .slice A xs.length c), (4, .slice A4 (out ++ [(xs.take (k + n)).drop k]).length c4), (5, .int .i64 ((k + n : Nat) : Int))] (xs.length - (k + n)) ⟨k + n, f, _, A4, c4, rfl, hkn, by omega, ?_, by simp; omega, o4, hb4, rfl⟩ (by omega) ⟨rfl, by rw [List.length_append]; rfl, by rw [Int.natCast_add]; rfl, trivial⟩
        rw [hp, partsF_step (by omega) hu (by omega)]
    · refine wc_cond rfl (fun _ => ?_) (fun h => absurd (fun h' => he (by exact_mod_cast h')) h)
      refine wc_sr ?_; refine wl_mv rfl rfl ?_; refine wl_as rfl rfl ?_; refine wl_as rfl rfl ?_; refine wl_ns ?_; refine wc_ret ?_; refine we_seq_ret ?_; refine we_block_ret ?_; refine we_loop_ret ?_; refine we_block_ret ?_; refine we_seq_ret ?_
      refine we_ret2 rfl rfl rfl ⟨_, rfl, ?_⟩
      rw [hp, partsF_err (by omega) hu he]
      exact ⟨none, 0, rfl, OwBB.nil _ _, hb2⟩
  · refine wc_exit ?_; refine we_seq_exit ?_; refine we_loop_exit ?_; refine we_block_exit ?_; refine we_seq ?_; refine wc_sr ?_; refine wl_mv rfl rfl ?_; refine wl_as rfl rfl ?_; refine wl_as rfl rfl ?_; refine wl_ns ?_; refine wc_ret ?_
    refine we_ret2 rfl rfl rfl ⟨_, rfl, ?_⟩
    rw [hp, partsF_end (by omega)]
    exact ⟨P, cp, rfl, o1, hb1⟩

end Go.Proofs.Ytdgagffieobiiaa

/-
  Plain laws of numbers written in eight bytes, the greatest first. No program in sight.
-/
namespace Go.Proofs.Ytdgagffieobiiaa

/-- The lowest k bytes of a number, the greatest first. -/
def ordK : Nat → Nat → List UInt8
  | 0, _ => []
  | k + 1, n => ordK k (n / 256) ++ [UInt8.ofNat n]
def ordU (n : Nat) : List UInt8 := ordK 8 n
def numB (l : List UInt8) : Nat := l.foldl (fun n x => n * 256 + x.toNat) 0
def getOrdU (b : List UInt8) (p : Int) : Nat × Int × Nat :=
  if p < 0 ∨ (b.length : Int) < p then (0, 0, 1)
  else if (b.length : Int) - p < 8 then (0, 0, 5)
  else (numB ((b.drop p.toNat).take 8), p + 8, 0)

theorem ordK_length : ∀ (k n : Nat), (ordK k n).length = k
  | 0, _ => rfl
  | k + 1, n => by simp [ordK, ordK_length k]
theorem ordU_length (n : Nat) : (ordU n).length = 8 := ordK_length 8 n
theorem numB_snoc (l : List UInt8) (x : UInt8) : numB (l ++ [x]) = numB l * 256 + x.toNat := by simp [numB]
theorem numB_ordK : ∀ (k n : Nat), numB (ordK k n) = n % 256 ^ k
  | 0, n => by simp [ordK, numB, Nat.mod_one]
  | k + 1, n => by
    rw [ordK, numB_snoc, numB_ordK k]
    rw [Nat.pow_succ, Nat.mul_comm (256 ^ k) 256, Nat.mod_mul]
    simp
    omega
theorem numB_ordU {n : Nat} (h : n < 2 ^ 64) : numB (ordU n) = n := by
  rw [ordU, numB_ordK]; exact Nat.mod_eq_of_lt h
theorem ordK_numB : ∀ (k : Nat) (l : List UInt8), l.length = k → ordK k (numB l) = l
  | 0, l, h => by simp [ordK, List.length_eq_zero_iff.1 h]
  | k + 1, l, h => by
    have hne : l ≠ [] := by rintro rfl; simp at h
    have e := List.dropLast_concat_getLast hne
    rw [← e, numB_snoc, ordK]
    have hx := (l.getLast hne).toNat_lt
    have e1 : (numB l.dropLast * 256 + (l.getLast hne).toNat) / 256 = numB l.dropLast := by omega
    rw [e1, ordK_numB k _ (by simp [h])]
    congr 2
    apply UInt8.toNat_inj.1
    simp
theorem numB_lt (l : List UInt8) : numB l < 256 ^ l.length := by
  have h := numB_ordK l.length (numB l)
  rw [ordK_numB _ l rfl] at h
  rw [h]; exact Nat.mod_lt _ (Nat.pow_pos (by decide))
theorem ordK_get : ∀ (k n i : Nat), i < k → (ordK k n)[i]? = some (UInt8.ofNat (n / 256 ^ (k - 1 - i)))
  | 0, _, _, h => by omega
  | k + 1, n, i, h => by
    rw [ordK]
    by_cases hi : i < k
    · rw [List.getElem?_append_left (by rw [ordK_length]; exact hi), ordK_get k _ i hi, Nat.div_div_eq_div_mul]
      have e : 256 * 256 ^ (k - 1 - i) = 256 ^ (k + 1 - 1 - i) := by
        rw [show k + 1 - 1 - i = (k - 1 - i) + 1 by omega, Nat.pow_succ, Nat.mul_comm]
      rw [e]
    · have : i = k := by omega
      subst this
      rw [List.getElem?_append_right (by rw [ordK_length]; omega), ordK_length]
      simp
theorem numB_step {l : List UInt8} {k : Nat} {x : UInt8} (h : l[k]? = some x) : numB (l.take (k + 1)) = numB (l.take k) * 256 + x.toNat := by
  rw [take_getR h, numB_snoc]
theorem xor_top {u : Nat} (h : u < 2 ^ 64) : u ^^^ 9223372036854775808 = (u + 9223372036854775808) % 18446744073709551616 := by
  rw [show 9223372036854775808 = 2 ^ 63 from rfl, show 18446744073709551616 = 2 ^ 64 from rfl]
  apply Nat.eq_of_testBit_eq
  intro j
  rw [Nat.testBit_xor, Nat.testBit_mod_two_pow, Nat.add_comm]
  rcases Nat.lt_trichotomy j 63 with hj | hj | hj
  · rw [Nat.testBit_two_pow_of_ne (by omega), Nat.testBit_two_pow_add_gt hj]
    have : j < 64 := by omega
    simp [this]
  · subst hj
    rw [Nat.testBit_two_pow_self, Nat.testBit_two_pow_add_eq]
    simp
  · rw [Nat.testBit_two_pow_of_ne (by omega), Nat.testBit_lt_two_pow (Nat.lt_of_lt_of_le h (Nat.pow_le_pow_right (by decide) (by omega)))]
    have : ¬ j < 64 := by omega
    simp [this]
theorem getOrdU_arg {b : List UInt8} {p : Int} (h : ¬ (0 ≤ p ∧ p ≤ b.length)) : getOrdU b p = (0, 0, 1) := by
  rw [getOrdU, if_pos (by omega)]
theorem getOrdU_end {b : List UInt8} {p : Int} (h : 0 ≤ p ∧ p ≤ b.length) (h8 : (b.length : Int) - p < 8) : getOrdU b p = (0, 0, 5) := by
  rw [getOrdU, if_neg (by omega), if_pos h8]
theorem getOrdU_ok {b : List UInt8} {q : Nat} (h : q + 8 ≤ b.length) : getOrdU b q = (numB ((b.drop q).take 8), (q : Int) + 8, 0) := by
  rw [getOrdU, if_neg (by omega), if_neg (by omega)]; simp
theorem getOrdU_cases (b : List UInt8) (p : Int) : (∃ e : Nat, ¬ e = 0 ∧ getOrdU b p = (0, 0, e)) ∨ ∃ q : Nat, p = q ∧ q + 8 ≤ b.length ∧ getOrdU b p = (numB ((b.drop q).take 8), (q : Int) + 8, 0) := by
  by_cases h : 0 ≤ p ∧ p ≤ b.length
  · by_cases h8 : (b.length : Int) - p < 8
    · exact .inl ⟨5, by decide, getOrdU_end h h8⟩
    · obtain ⟨q, rfl⟩ := Int.eq_ofNat_of_zero_le h.1
      exact .inr ⟨q, rfl, by omega, getOrdU_ok (by omega)⟩
  · exact .inl ⟨1, by decide, getOrdU_arg h⟩
end Go.Proofs.Ytdgagffieobiiaa

/-
  Walks over the numbers of eight bytes of the program and of the references.
-/
namespace Go.Proofs.Ytdgagffieobiiaa
open Go.RowKit

theorem fill_up {α : Type} {l : List α} {z x : α} {k m : Nat} (h : l[k]? = some x) : (l.take k ++ List.replicate (m + 1) z).set k x = l.take (k + 1) ++ List.replicate m z := by
  have hk := (List.getElem?_eq_some_iff.1 h).1
  have e : (l.take k).length = k := by simp; omega
  rw [List.set_append_right _ _ (by omega), e, Nat.sub_self, List.replicate_succ, List.set_cons_zero, take_getR h]
  simp
theorem byte_of (m : Nat) : Value.int .u8 ((m % 2 ^ IntKind.u8.bits : Nat) : Int) = bv (UInt8.ofNat m) := by
  simp [bv, IntKind.bits]

theorem ordU_any (n : Nat) (hn : n < 2 ^ 64) (w : World) : CallsV Try.prog 56 #[.int .u64 n] w (RetB w (ordU n)) := by
  refine calls_in (N := _) Try.func56 rfl Try.ntmps56 rfl ?_; show WC _ _ _ _ _ _
  refine wc_sr ?_; refine wl_as rfl rfl ?_; refine wl_ns ?_; refine wc_sr ?_
  refine wl_mk (n := 8) (c := 8) tyB rfl rfl rfl rfl (by omega) (by omega) (by simp only [maxLen]; omega) rfl fun A1 w1 o1 hb1 _ => ?_
  refine wl_as rfl rfl ?_; refine wl_ns ?_; refine wc_seq ?_; refine wc_sr ?_; refine wl_mv rfl rfl ?_; apply wl_val; apply opv_len; exact rfl; exact tyB.sl; exact rfl; refine wl_mv rfl rfl ?_; refine wl_ns ?_; refine wc_block ?_
  refine wc_loop (fun L wr m => ∃ k : Nat, L = [(0, .int .u64 (n : Int)), (3, .slice A1 8 8), (7, .int .i64 (8 : Int)), (8, .int .i64 (k : Int))] ∧ k ≤ 8 ∧ Ow wr w.heap.size 5 A1 8 8 (bvs ((ordU n).take k ++ List.replicate (8 - k) 0)) ∧ Below w.heap.size w wr ∧ m = 8 - k)
    [(0, .int .u64 (n : Int)), (3, .slice A1 8 8), (7, .int .i64 (8 : Int)), (8, .int .i64 (0 : Nat))] 8 ⟨0, rfl, by omega, by simpa [bvs, bv] using o1, hb1, rfl⟩ ⟨rfl, rfl, rfl, rfl, trivial⟩ ?_
  rintro _ w2 m ⟨k, rfl, hk, o2, hb2, rfl⟩
  refine wc_sr ?_; refine wl_bin rfl rfl bin_lss rfl ?_; refine wl_ns ?_; refine wc_seq ?_
  refine wc_cond rfl (fun h1 => ?_) (fun h1 => ?_)
  · have hg := ordK_get 8 n k (by omega)
    have hk7 : k ≤ 7 := by omega
    refine wc_skip ?_; refine we_seq ?_; refine wc_seq ?_; refine wc_block ?_; refine wc_sr ?_; refine wl_mv rfl rfl ?_; refine wl_as rfl rfl ?_; refine wl_ns ?_; refine wc_region ?_; refine wl_mv rfl rfl ?_; refine wl_mv rfl rfl ?_; refine wl_mv rfl rfl ?_; refine wl_mv rfl rfl ?_; apply wl_val; apply opv_bin; exact rfl; exact rfl; exact bin_sub64 (by omega); exact rfl
    refine wl_val (opv_bin rfl rfl ((bin_mul64 (by omega)).to (show _ = Value.int .i64 ((8 * (7 - k) : Nat) : Int) from by congr 1; omega))) rfl ?_
    refine wl_val (opv_bin rfl rfl (bin_shr hn)) rfl ?_
    apply wl_val; apply opv_convR; exact rfl; exact Try.underlying47; exact Try.underlying5; exact wrap_nat rfl _; exact rfl
    refine wl_set (kk := k) tyB rfl rfl o2 rfl (by omega) (fun _ => rfl) rfl rfl fun p w3 o3 g3 _ => ?_
    have hb3 := g3.below hb2 o2 (Nat.le_refl _) hb2.size
    rw [byte_of, bvs_set, show 8 - k = (7 - k) + 1 by omega, Nat.pow_mul, fill_up (l := ordU n) (by rw [ordU, hg])] at o3
    refine wl_nil ?_; refine we_block_norm ?_; refine we_seq ?_; refine wc_region ?_; apply wl_val; apply opv_bin; exact rfl; exact rfl; exact bin_add64 (by omega); exact rfl; refine wl_mv rfl rfl ?_; refine wl_nil ?_
    refine we_loop [(0, .int .u64 (n : Int)), (3, .slice A1 8 8), (7, .int .i64 (8 : Int)), (8, .int .i64 ((k + 1 : Nat) : Int))] (8 - (k + 1)) ⟨k + 1, rfl, by omega, by rw [show 8 - (k + 1) = 7 - k by omega]; exact o3, hb3, rfl⟩ (by omega) ⟨rfl, rfl, rfl, rfl, trivial⟩
  · obtain rfl : k = 8 := by omega
    have e : (ordU n).take 8 ++ List.replicate (8 - 8) 0 = ordU n := by rw [List.take_of_length_le (by rw [ordU_length]; omega)]; simp
    rw [e] at o2
    refine wc_exit ?_; refine we_seq_exit ?_; refine we_loop_exit ?_; refine we_block_exit ?_; refine we_seq ?_; refine wc_sr ?_; refine wl_mv rfl rfl ?_; refine wl_as rfl rfl ?_; refine wl_ns ?_; refine wc_ret ?_
    exact we_ret1 rfl rfl ⟨_, rfl, A1, 8, by rw [ordU_length], by unfold OwB; rw [ordU_length]; exact o2, hb2⟩

end Go.Proofs.Ytdgagffieobiiaa

/-
  Walks over OrdI and the reading of eight bytes, of the program and of the references.
-/
namespace Go.Proofs.Ytdgagffieobiiaa
open Go.RowKit

/-- A signed number as the unsigned one that stands in its place. -/
def lift (i : Int) : Nat := (i + 9223372036854775808).toNat
theorem lift_lt {i : Int} (h : -9223372036854775808 ≤ i ∧ i ≤ 9223372036854775807) : lift i < 2 ^ 64 := by
  unfold lift; omega
theorem lift_wrap {i : Int} (h : -9223372036854775808 ≤ i ∧ i ≤ 9223372036854775807) : ∃ u : Nat, IntKind.u64.wrap i = u ∧ u < 2 ^ 64 ∧ (u + 9223372036854775808) % 18446744073709551616 = lift i := by
  unfold lift
  have e : IntKind.u64.wrap i = i % 18446744073709551616 := by simp [IntKind.wrap, IntKind.bits, IntKind.signed]
  rw [e]
  by_cases h0 : 0 ≤ i
  · exact ⟨i.toNat, by omega, by omega, by omega⟩
  · exact ⟨(i + 18446744073709551616).toNat, by omega, by omega, by omega⟩

theorem ordI_any (i : Int) (hi : -9223372036854775808 ≤ i ∧ i ≤ 9223372036854775807) (w : World) : CallsV Try.prog 42 #[.int .i64 i] w (RetB w (ordU (lift i))) := by
  obtain ⟨u, hu, hlt, hl⟩ := lift_wrap hi
  have hll := lift_lt hi
  refine calls_in (N := _) Try.func42 rfl Try.ntmps42 rfl ?_; show WC _ _ _ _ _ _
  refine wc_sr ?_; refine wl_as rfl rfl ?_; refine wl_ns ?_; refine wc_sr ?_; refine wl_mv rfl rfl ?_
  refine wl_val (opv_convR rfl Try.underlying2 Try.underlying47 hu) rfl ?_
  refine wl_val (opv_bin (b := .int .u64 (9223372036854775808 : Nat)) rfl rfl (bin_xor rfl hlt (by decide))) rfl ?_
  rw [xor_top hlt, hl]
  refine wl_call ok_codec_OrdU (ordU_any _ hll _) ⟨rfl, trivial⟩ rfl ?_
  rintro _ w2 ⟨A2, c2, rfl, o2, h2⟩
  refine wl_as rfl rfl ?_; refine wl_ns ?_; refine wc_ret ?_
  exact we_ret1 rfl rfl ⟨_, rfl, A2, c2, rfl, o2, h2⟩
theorem or_byte {n : Nat} (x : UInt8) : n * 2 ^ 8 ||| x.toNat = n * 256 + x.toNat := by
  rw [show n * 256 = 2 ^ 8 * n by omega, Nat.two_pow_add_eq_or_of_lt x.toNat_lt]
theorem numB_lt' (l : List UInt8) (k : Nat) (h : k ≤ 7) : numB (l.take k) < 72057594037927936 := by
  refine Nat.lt_of_lt_of_le (numB_lt _) ?_
  refine Nat.le_trans (Nat.pow_le_pow_right (by decide) (show (l.take k).length ≤ 7 by simp; omega)) (by decide)

theorem getOrdU_any {A : Option Addr} {n c : Nat} {xs : List UInt8} {p : Int} {w : World} (hr : RdB w A xs) (hn : xs.length = n) (hc : xs.length ≤ c) (hl : xs.length ≤ 1125899906842624) (hp : -9223372036854775808 ≤ p ∧ p ≤ 9223372036854775807) :
    CallsV Try.prog 69 #[.slice A n c, .int .i64 p] w (RetN w (getOrdU xs p)) := by
  subst hn
  refine calls_in (N := _) Try.func69 rfl Try.ntmps69 rfl ?_; show WC _ _ _ _ _ _
  refine wc_sr ?_; refine wl_as rfl rfl ?_; refine wl_as rfl rfl ?_; refine wl_as rfl rfl ?_; refine wl_ns ?_; refine wc_seq ?_; refine wc_sr ?_; refine wl_mv rfl rfl ?_; refine wl_mv rfl rfl ?_
  refine wl_call ok_codec_inside (inside_any p w) ⟨rfl, rfl, trivial⟩ rfl ?_
  rintro _ _ ⟨rfl, rfl⟩
  apply wl_val; apply opv_notD; exact rfl; exact rfl; refine wl_ns ?_
  refine wc_cond rfl (fun h => ?_) (fun h => ?_)
  · refine wc_sr ?_; refine wl_as rfl rfl ?_; refine wl_as rfl rfl ?_; refine wl_as rfl rfl ?_; refine wl_ns ?_; refine wc_ret ?_; refine we_seq_ret ?_
    exact we_ret3 rfl rfl rfl rfl ⟨_, rfl, by rw [getOrdU_arg h]; rfl, Below.refl _ _⟩
  · have h' : 0 ≤ p ∧ p ≤ xs.length := by simpa using h
    obtain ⟨q, rfl⟩ := Int.eq_ofNat_of_zero_le h'.1
    refine wc_skip ?_; refine we_seq ?_; refine wc_seq ?_; refine wc_sr ?_; refine wl_mv rfl rfl ?_; apply wl_val; apply opv_len; exact rfl; exact tyB.sl; exact rfl; refine wl_mv rfl rfl ?_; apply wl_val; apply opv_bin; exact rfl; exact rfl; exact bin_sub64 (by omega); exact rfl; refine wl_bin rfl rfl bin_lss rfl ?_; refine wl_ns ?_
    refine wc_cond rfl (fun h8 => ?_) (fun h8 => ?_)
    · refine wc_sr ?_; refine wl_as rfl rfl ?_; refine wl_as rfl rfl ?_; refine wl_as rfl rfl ?_; refine wl_ns ?_; refine wc_ret ?_; refine we_seq_ret ?_
      exact we_ret3 rfl rfl rfl rfl ⟨_, rfl, by rw [getOrdU_end h' h8]; rfl, Below.refl _ _⟩
    · have hq : q + 8 ≤ xs.length := by omega
      refine wc_skip ?_; refine we_seq ?_; refine wc_sr ?_; refine wl_as rfl rfl ?_; refine wl_ns ?_; refine wc_seq ?_; refine wc_sr ?_; refine wl_mv rfl rfl ?_; refine wl_mv rfl rfl ?_; refine wl_mv rfl rfl ?_; apply wl_val; apply opv_bin; exact rfl; exact rfl; exact bin_add64 (by omega); exact rfl
      refine wl_sl (l := q) (h := q + 8) tyB rfl ⟨_, rfl⟩ ⟨_, by simp only [Int.natCast_add]; rfl⟩ (by omega) (by omega) rfl ?_
      have r1 := rd_cut hr (show q ≤ q + 8 by omega) hq hc
      have el : (xs.take (q + 8)).drop q = (xs.drop q).take 8 := by rw [List.drop_take]; congr 1; omega
      rw [el] at r1
      have hlen : ((xs.drop q).take 8).length = 8 := by simp; omega
      obtain ⟨ys, hys⟩ : ∃ ys, (xs.drop q).take 8 = ys := ⟨_, rfl⟩
      rw [hys] at r1 hlen
      unfold RdB at r1
      rw [hlen] at r1
      rw [show q + 8 - q = 8 by omega]
      apply wl_val; apply opv_len; exact rfl; exact tyB.sl; exact rfl; refine wl_mv rfl rfl ?_; refine wl_ns ?_; refine wc_block ?_
      refine wc_loop (fun L wr m => ∃ k : Nat, L = [(1, .int .i64 (q : Int)), (7, .int .u64 (numB (ys.take k) : Int)), (23, .slice (cutA A c q) 8 (c - q)), (24, .int .i64 (8 : Int)), (25, .int .i64 (k : Int))] ∧ k ≤ 8 ∧ w = wr ∧ m = 8 - k)
        [(1, .int .i64 (q : Int)), (7, .int .u64 (0 : Nat)), (23, .slice (cutA A c q) 8 (c - q)), (24, .int .i64 (8 : Int)), (25, .int .i64 (0 : Nat))] 8 ⟨0, rfl, by omega, rfl, rfl⟩ ⟨rfl, rfl, rfl, rfl, rfl, trivial⟩ ?_
      rintro _ _ m ⟨k, rfl, hk, rfl, rfl⟩
      refine wc_sr ?_; refine wl_bin rfl rfl bin_lss rfl ?_; refine wl_ns ?_; refine wc_seq ?_
      refine wc_cond rfl (fun h1 => ?_) (fun h1 => ?_)
      · obtain ⟨x, hx⟩ : ∃ x, ys[k]? = some x := ⟨_, List.getElem?_eq_getElem (by omega)⟩
        have hnl := numB_lt' ys k (by omega)
        refine wc_skip ?_; refine we_seq ?_; refine wc_seq ?_; refine wc_block ?_; refine wc_sr ?_; apply wl_byK (T := tyB) (hr := r1) (hb := hx); exact rfl; exact rfl; exact rfl; exact rfl; exact rfl; intro _; refine wl_as rfl rfl ?_; refine wl_ns ?_; refine wc_region ?_; refine wl_mv rfl rfl ?_
        refine wl_val ((opv_bin (b := .int .u64 (8 : Nat)) rfl rfl (bin_shl rfl)).to (congrArg (fun z : Nat => Value.int .u64 (z : Int)) (Nat.mod_eq_of_lt (show numB (ys.take k) * 2 ^ 8 < 2 ^ IntKind.u64.bits from by simp only [IntKind.bits]; omega)))) rfl ?_
        have hxl := x.toNat_lt
        refine wl_mv rfl rfl ?_; apply wl_val; apply opv_convR; exact rfl; exact Try.underlying5; exact Try.underlying47; exact IntWalk.u64_in _ (by omega); exact rfl
        refine wl_val (opv_bin rfl rfl (bin_or rfl (by simp only [IntKind.bits]; omega) (by simp only [IntKind.bits]; omega))) rfl ?_
        rw [or_byte, ← numB_step hx]
        refine wl_as rfl rfl ?_; refine wl_nil ?_; refine we_block_norm ?_; refine we_seq ?_; refine wc_region ?_; apply wl_val; apply opv_bin; exact rfl; exact rfl; exact bin_add64 (by omega); exact rfl; refine wl_mv rfl rfl ?_; refine wl_nil ?_
        refine we_loop [(1, .int .i64 (q : Int)), (7, .int .u64 (numB (ys.take (k + 1)) : Int)), (23, .slice (cutA A c q) 8 (c - q)), (24, .int .i64 (8 : Int)), (25, .int .i64 ((k + 1 : Nat) : Int))] (8 - (k + 1)) ⟨k + 1, rfl, by omega, rfl, rfl⟩ (by omega) ⟨rfl, rfl, rfl, rfl, rfl, trivial⟩
      · obtain rfl : k = 8 := by omega
        rw [List.take_of_length_le (by omega)]
        refine wc_exit ?_; refine we_seq_exit ?_; refine we_loop_exit ?_; refine we_block_exit ?_; refine we_seq ?_; refine wc_sr ?_; refine wl_mv rfl rfl ?_; refine wl_mv rfl rfl ?_; apply wl_val; apply opv_bin; exact rfl; exact rfl; exact bin_add64 (by omega); exact rfl; refine wl_as rfl rfl ?_; refine wl_as rfl rfl ?_; refine wl_as rfl rfl ?_; refine wl_ns ?_; refine wc_ret ?_
        exact we_ret3 rfl rfl rfl rfl ⟨_, rfl, by rw [getOrdU_ok hq, hys]; rfl, Below.refl _ _⟩

/-- What GetOrdI answers. -/
def RetI (w : World) (r : Nat × Int × Nat) (v : Value) (w' : World) : Prop :=
  v = .tuple #[.int .i64 (if r.2.2 = 0 then (r.1 : Int) - 9223372036854775808 else 0), .int .i64 r.2.1, .int .i64 (r.2.2 : Int)] ∧ Below w.heap.size w w'
theorem getOrdI_any {A : Option Addr} {n c : Nat} {xs : List UInt8} {p : Int} {w : World} (hr : RdB w A xs) (hn : xs.length = n) (hc : xs.length ≤ c) (hl : xs.length ≤ 1125899906842624) (hp : -9223372036854775808 ≤ p ∧ p ≤ 9223372036854775807) :
    CallsV Try.prog 60 #[.slice A n c, .int .i64 p] w (RetI w (getOrdU xs p)) := by
  refine calls_in (N := _) Try.func60 rfl Try.ntmps60 rfl ?_; show WC _ _ _ _ _ _
  refine wc_sr ?_; refine wl_as rfl rfl ?_; refine wl_as rfl rfl ?_; refine wl_as rfl rfl ?_; refine wl_ns ?_; refine wc_sr ?_; refine wl_mv rfl rfl ?_; refine wl_mv rfl rfl ?_
  refine wl_call ok_codec_GetOrdU (getOrdU_any hr hn hc hl hp) ⟨rfl, rfl, trivial⟩ rfl ?_
  rintro _ w2 ⟨rfl, hb⟩
  rcases getOrdU_cases xs p with ⟨e, he, hv⟩ | ⟨q, rfl, hq, hv⟩
  · rw [hv]
    refine wl_mv rfl rfl ?_; apply wl_val; apply opv_extract; exact rfl; exact rfl; exact rfl; apply wl_val; apply opv_extract; exact rfl; exact rfl; exact rfl; apply wl_val; apply opv_extract; exact rfl; exact rfl; exact rfl; refine wl_as rfl rfl ?_; refine wl_as rfl rfl ?_; refine wl_as rfl rfl ?_; refine wl_ns ?_; refine wc_seq ?_; refine wc_sr ?_; refine wl_mv rfl rfl ?_; refine wl_bin rfl rfl bin_neq rfl ?_; refine wl_ns ?_
    refine wc_cond rfl (fun _ => ?_) (fun h => absurd (fun h' => he (by exact_mod_cast h')) h)
    refine wc_sr ?_; refine wl_mv rfl rfl ?_; refine wl_as rfl rfl ?_; refine wl_as rfl rfl ?_; refine wl_as rfl rfl ?_; refine wl_ns ?_; refine wc_ret ?_; refine we_seq_ret ?_
    exact we_ret3 rfl rfl rfl rfl ⟨_, rfl, by simp only [if_neg he], hb⟩
  · rw [hv]
    have hlt : numB ((xs.drop q).take 8) < 2 ^ 64 := by
      refine Nat.lt_of_lt_of_le (numB_lt _) ?_
      refine Nat.le_trans (Nat.pow_le_pow_right (by decide) (show ((xs.drop q).take 8).length ≤ 8 by simp; omega)) (by decide)
    obtain ⟨v, hvv⟩ : ∃ v, numB ((xs.drop q).take 8) = v := ⟨_, rfl⟩
    rw [hvv] at hlt ⊢
    refine wl_mv rfl rfl ?_; apply wl_val; apply opv_extract; exact rfl; exact rfl; exact rfl; apply wl_val; apply opv_extract; exact rfl; exact rfl; exact rfl; apply wl_val; apply opv_extract; exact rfl; exact rfl; exact rfl; refine wl_as rfl rfl ?_; refine wl_as rfl rfl ?_; refine wl_as rfl rfl ?_; refine wl_ns ?_; refine wc_seq ?_; refine wc_sr ?_; refine wl_mv rfl rfl ?_; refine wl_bin rfl rfl bin_neq rfl ?_; refine wl_ns ?_
    refine wc_cond rfl (fun h => absurd rfl h) (fun _ => ?_)
    refine wc_skip ?_; refine we_seq ?_; refine wc_sr ?_; refine wl_mv rfl rfl ?_
    refine wl_val (opv_bin (b := .int .u64 (9223372036854775808 : Nat)) rfl rfl (bin_xor rfl hlt (by decide))) rfl ?_
    rw [xor_top hlt]
    refine wl_val (opv_convR rfl Try.underlying47 Try.underlying2 (r := (v : Int) - 9223372036854775808) ?_) rfl ?_
    · rw [IntKind.wrap_i64]; omega
    refine wl_mv rfl rfl ?_; refine wl_mv rfl rfl ?_; refine wl_as rfl rfl ?_; refine wl_as rfl rfl ?_; refine wl_as rfl rfl ?_; refine wl_ns ?_; refine wc_ret ?_
    exact we_ret3 rfl rfl rfl rfl ⟨_, rfl, rfl, hb⟩
end Go.Proofs.Ytdgagffieobiiaa

/-
  How the arguments of a law are read: bytes, and lists of bytes; what a bound on all that is read gives.
-/
namespace Go.Proofs.Ytdgagffieobiiaa
open Go.RowKit Go.ChangeShapes Go.WideShapes Go.ChangeAt

theorem own : ownKnob Try.prog.godebug = none := by kernel_rfl
theorem laidOut : laidOutB Try.prog = true := by kernel_rfl

theorem bulk_one {H : Type} (d : DataW H) : 1 ≤ Rows.uptoBulk d := by
  cases d with
  | lit l => cases l <;> simp [Rows.uptoBulk]
  | nil => simp [Rows.uptoBulk]
  | ptr d => simp [Rows.uptoBulk]
  | slice elems spare => simp [Rows.uptoBulk]
  | agg parts => simp [Rows.uptoBulk]
  | iface t d => simp [Rows.uptoBulk]
  | map entries => simp [Rows.uptoBulk]
  | held h => simp [Rows.uptoBulk]
theorem bulk_len {H : Type} (l : List (DataW H)) : l.length ≤ Rows.uptoBulkAll l := by
  induction l with
  | nil => simp [Rows.uptoBulkAll]
  | cons x r ih => have := bulk_one x; simp only [Rows.uptoBulkAll, List.length_cons]; omega

section
variable {H : Type} {enc : TypeId × Value → H} {W : World} {a0 : Option Addr} {len0 cap0 : Nat} {d0 : DataW H} {p0 : List MemPlace}

theorem bytes_of {w : World} {x : Addr} {zs : List Int} {n : Nat} (hn : n ≤ zs.length) (hcell : ∀ i, i < zs.length → w.cell? (x.add i) = some (.int .u8 (zs.getD i 0))) (hw : ∀ z ∈ zs, (Lit.int .u8 z).wf = true) :
    ∃ xs : List UInt8, xs.length = n ∧ RdB w (some x) xs := by
  refine ⟨(zs.take n).map fun z => UInt8.ofNat z.toNat, by simp; omega, by simp [bvs], fun h0 => ?_⟩
  have hpos : 0 < zs.length := by simp at h0; omega
  obtain ⟨b, o, spot⟩ := x
  have hc := hcell 0 hpos
  have hspot : spot = none := by simpa [Addr.add] using World.cell?_spot hc
  subst hspot
  refine ⟨b, o, rfl, World.block_lt_of_cell? w _ (by simpa [Addr.add] using hc), fun j u hu => ?_⟩
  simp only [bvs, List.map_map, List.getElem?_map, List.getElem?_take] at hu
  by_cases hj : j < n
  · rw [if_pos hj] at hu
    have hjz : j < zs.length := by omega
    rw [List.getElem?_eq_getElem hjz] at hu
    simp only [Option.map_some, Option.some.injEq, Function.comp_apply] at hu
    have h1 := hcell j hjz
    rw [Addr.add_lit] at h1
    rw [h1, ← hu]
    have hz := hw zs[j] (List.getElem_mem hjz)
    have hb : 0 ≤ zs[j] ∧ zs[j] ≤ 255 := by simpa [Lit.wf, IntKind.min, IntKind.max, IntKind.signed, IntKind.bits] using hz
    have e : zs.getD j 0 = zs[j] := by simp [List.getD, List.getElem?_eq_getElem hjz]
    have e2 : zs[j].toNat % 256 = zs[j].toNat := Nat.mod_eq_of_lt (by omega)
    rw [e]
    simp [bv, e2]
    omega
  · rw [if_neg hj] at hu; cases hu

theorem arg_bytes (h0 : DataW.Trod enc Try.prog W 0 (fun _ => true) true 30 (.slice a0 len0 cap0) d0 p0) :
    ∃ xs : List UInt8, xs.length = len0 ∧ RdB W a0 xs ∧ len0 ≤ cap0 ∧ cap0 ≤ maxLen ∧ len0 + 1 ≤ Rows.uptoBulk d0 ∧ ((d0 = .nil ∧ cap0 = 0) ∨ ∃ e s, d0 = .slice e s ∧ e.length + s.length = cap0) := by
  obtain ⟨fuel, hf⟩ := h0
  rcases open_ints Try.underlying30 Try.underlying5 (by kernel_rfl) hf with ⟨hcs, hx⟩ | ⟨x, l, c, zs, hcs, _, hl, hm, hz, hx, hcell, hwz⟩
  · simp [Value.cells] at hcs
    obtain ⟨rfl, rfl, rfl⟩ := hcs
    injection hx with hd _
    subst hd
    exact ⟨[], rfl, Rd.nil _ _, by omega, by simp [maxLen], by simp [Rows.uptoBulk], .inl ⟨rfl, rfl⟩⟩
  · simp [Value.cells] at hcs
    obtain ⟨rfl, rfl, rfl⟩ := hcs
    injection hx with hd _
    have hz' : zs.length = cap0 := by simpa using hz
    obtain ⟨xs, h1, h2⟩ := bytes_of (n := len0) (by omega) hcell hwz
    have h3 := bulk_len (H := H) (lits .u8 (zs.take len0))
    refine ⟨xs, h1, h2, hl, hm, ?_, .inr ⟨_, _, hd, by simp [lits]; omega⟩⟩
    rw [hd]
    simp only [Rows.uptoBulk]
    simp [lits] at h3 ⊢
    omega
end
end Go.Proofs.Ytdgagffieobiiaa

/-
  How arguments of any type are read: a reading of a type as data, for numbers, texts, bytes, slices of what can be read; structs are opened field by field.
-/
namespace Go.Proofs.Ytdgagffieobiiaa
open Go.RowKit Go.ChangeShapes Go.WideShapes Go.ChangeAt Go.Deep

/-- A cell that holds a row of elements. -/
def rowEl (k : Nat) (els : List El) : El where
  P w S cs := ∃ (A : Option Addr) (c : Nat), cs = [.slice A els.length c] ∧ els.length ≤ c ∧ RdR k w S A els ∧ 0 < k
  move := by rintro w w' S S' cs ⟨A, c, h, hc, hb, hk⟩ hz hm; exact ⟨A, c, h, hc, RdR.move hk hb hz hm, hk⟩
theorem rowEl.rd {k : Nat} {els : List El} {w : World} {S : Nat → Prop} {A : Option Addr} {n c : Nat} (h : (rowEl k els).P w S [.slice A n c]) : els.length = n ∧ n ≤ c ∧ RdR k w S A els := by
  obtain ⟨A', c', h1, h2, h3, _⟩ := h
  simp only [List.cons.injEq, Value.slice.injEq, and_true] at h1
  obtain ⟨rfl, rfl, rfl⟩ := h1
  exact ⟨rfl, h2, h3⟩
theorem rowEl.mk {k : Nat} {els : List El} {w : World} {S : Nat → Prop} {A : Option Addr} {c : Nat} (h : RdR k w S A els) (hc : els.length ≤ c) (hk : 0 < k) : (rowEl k els).P w S [.slice A els.length c] := ⟨A, c, rfl, hc, h, hk⟩

/-- What stands at type t is read as some a, in k cells; its bulk; what is known of a. -/
def Opens (P : Program) (t : TypeId) {α : Type} (R : α → El) (k : Nat) (bulk : α → Nat) (ok : α → Prop) : Prop :=
  ∀ {H : Type} (enc : TypeId × Value → H) (W : World) (fuel : Nat) (cs : List Value) (x : DataW H × List MemPlace), DataW.trod enc P W 0 (fun _ => true) true fuel t cs = some x →
    ∃ a, (R a).P W All cs ∧ cs.length = k ∧ ok a ∧ bulk a + 1 ≤ Rows.uptoBulk x.1
section
variable {P : Program} {t e : TypeId} {α : Type} {R : α → El} {k : Nat} {bulk : α → Nat} {ok : α → Prop}
theorem opens_int {ik : IntKind} (ht : P.underlying t = some (.int ik)) : Opens P t (fun n : Int => vEl (.int ik n)) 1 (fun _ => 0) (fun n => (Lit.int ik n).wf = true) := fun enc W fuel cs x h => by
  obtain ⟨n, rfl, rfl, hw⟩ := DataW.trod_int ht h
  exact ⟨n, rfl, rfl, hw, by simp [Rows.uptoBulk]⟩
theorem opens_bool (ht : P.underlying t = some .bool) : Opens P t (fun b : Bool => vEl (.bool b)) 1 (fun _ => 0) (fun _ => True) := fun enc W fuel cs x h => by
  obtain ⟨n, rfl, rfl⟩ := DataW.trod_bool ht h
  exact ⟨n, rfl, rfl, trivial, by simp [Rows.uptoBulk]⟩
theorem opens_str (ht : P.underlying t = some .string) : Opens P t (fun s : List UInt8 => vEl (str s)) 1 (fun s => s.length) (fun _ => True) := fun enc W fuel cs x h => by
  obtain ⟨s, rfl, rfl, _⟩ := DataW.trod_string ht h
  obtain ⟨l, rfl⟩ := str_of s
  exact ⟨l, rfl, rfl, trivial, by simp [Rows.uptoBulk]⟩
def sumB (bulk : α → Nat) (l : List α) : Nat := (l.map fun a => bulk a + 1).sum
theorem sumB_cons (a : α) (l : List α) : sumB bulk (a :: l) = bulk a + 1 + sumB bulk l := by simp [sumB]
theorem sumB_mem {l : List α} {a : α} (h : a ∈ l) : bulk a + 1 ≤ sumB bulk l := by
  induction l with
  | nil => cases h
  | cons x l ih =>
    rw [sumB_cons]
    rcases List.mem_cons.1 h with rfl | h
    · omega
    · have := ih h; omega
theorem sumB_len (l : List α) : l.length ≤ sumB bulk l := by
  induction l with
  | nil => simp
  | cons x l ih => rw [sumB_cons]; simp only [List.length_cons]; omega
theorem opens_slice {z : Value} {bytes : Nat} (T : RowK P t e k z bytes) (hC : P.cellsOf e = k) (he : Opens P e R k bulk ok) :
    Opens P t (fun l : List α => rowEl k (l.map R)) 1 (sumB bulk) (fun l => (∀ a ∈ l, ok a)) := fun {H} enc W fuel cs x h => by
  rcases open_slice T.sl h with ⟨rfl, rfl⟩ | ⟨a, len, cap, m, n, D, Pl, rfl, hb, hl, hm, hmm, rfl, hi⟩
  · exact ⟨[], ⟨none, 0, rfl, by simp, RdR.nil _, T.pos⟩, rfl, by simp, by simp [sumB, Rows.uptoBulk]⟩
  · have hmc : m = cap := by simpa using hmm
    subst hmc
    rw [hC] at hi
    have each : ∀ i, i < m → ∃ (v : α) (cs' : List Value), (R v).P W All cs' ∧ cs'.length = k ∧ ok v ∧ bulk v + 1 ≤ Rows.uptoBulk (D i) ∧ ∀ j u, cs'[j]? = some u → W.cell? (a.add (i * k + j)) = some u := by
      intro i him
      obtain ⟨cs', hc, ht'⟩ := hi i him
      obtain ⟨v, h1, h2, h3, h4⟩ := he enc W n cs' _ ht'
      obtain ⟨_, hcl, hat⟩ := World.cells?_some hc
      refine ⟨v, cs', h1, h2, h3, h4, fun j u hu => ?_⟩
      have hj : j < k := by have := (List.getElem?_eq_some_iff.1 hu).1; omega
      rw [← Go.Deep.add_add, hat j hj, hu]
    have hch : ∃ (V : Nat → Option α) (C : Nat → List Value), ∀ i, i < m → ∃ v, V i = some v ∧ (R v).P W All (C i) ∧ (C i).length = k ∧ ok v ∧ bulk v + 1 ≤ Rows.uptoBulk (D i) ∧ ∀ j u, (C i)[j]? = some u → W.cell? (a.add (i * k + j)) = some u :=
      ⟨fun i => if h : i < m then some (Classical.choose (each i h)) else none, fun i => if h : i < m then Classical.choose (Classical.choose_spec (each i h)) else [], fun i him => ⟨Classical.choose (each i him), by simp only [dif_pos him], by simp only [dif_pos him]; exact Classical.choose_spec (Classical.choose_spec (each i him))⟩⟩
    obtain ⟨V, C, hV⟩ := hch
    have build : ∀ q, q ≤ m → ∃ l : List α, l.length = q ∧ (∀ i, i < q → l[i]? = V i) ∧ (∀ v ∈ l, ok v) ∧ sumB bulk l ≤ Rows.uptoBulkAll ((List.range q).map D) := by
      intro q
      induction q with
      | zero => intro _; exact ⟨[], rfl, by simp, by simp, by simp [sumB]⟩
      | succ q ih =>
        intro hq
        obtain ⟨l, h1, h2, h3, h4⟩ := ih (by omega)
        obtain ⟨v, hv, _, _, hok, hbk, _⟩ := hV q (by omega)
        refine ⟨l ++ [v], by simp [h1], fun i hi => ?_, fun u hu => ?_, ?_⟩
        · by_cases hiq : i < q
          · rw [List.getElem?_append_left (by omega)]; exact h2 i hiq
          · obtain rfl : i = q := by omega
            rw [← h1, List.getElem?_concat_length, h1, hv]
        · rcases List.mem_append.1 hu with hu | hu
          · exact h3 u hu
          · simp at hu; subst hu; exact hok
        · have e1 : ∀ (l : List α) (v : α), sumB bulk (l ++ [v]) = sumB bulk l + (bulk v + 1) := fun l v => by simp [sumB]
          have e2 : ∀ (l : List (DataW H)) (d : DataW H), Rows.uptoBulkAll (l ++ [d]) = Rows.uptoBulkAll l + Rows.uptoBulk d := by
            intro l d
            induction l with
            | nil => simp [Rows.uptoBulkAll]
            | cons x l ih => simp only [List.cons_append, Rows.uptoBulkAll, ih]; omega
          rw [e1, List.range_succ, List.map_append, List.map_cons, List.map_nil, e2]; omega
    obtain ⟨l, hlen, hget, hok, hsum⟩ := build len hl
    subst hlen
    refine ⟨l, ⟨some a, m, by simp, by simpa using hl, ⟨(List.range l.length).map C, ⟨by simp, fun i cs hi' => ?_⟩, ?_, fun _ _ _ => trivial⟩, T.pos⟩, rfl, hok, ?_⟩
    · rw [List.getElem?_map] at hi'
      by_cases hil : i < l.length
      · rw [List.getElem?_range hil] at hi'
        simp only [Option.map_some, Option.some.injEq] at hi'
        subst hi'
        obtain ⟨v, hv, hp, hk, _⟩ := hV i (by omega)
        refine ⟨hk, R v, ?_, hp⟩
        rw [List.getElem?_map, hget i hil, hv]; rfl
      · rw [List.getElem?_eq_none (by simp; omega)] at hi'; simp at hi'
    · have hks : ∀ cs ∈ (List.range l.length).map C, cs.length = k := by
        intro cs hcs
        obtain ⟨i, hi', rfl⟩ := List.mem_map.1 hcs
        obtain ⟨v, _, _, hk, _⟩ := hV i (by have := List.mem_range.1 hi'; omega)
        exact hk
      have hfl : ((List.range l.length).map C).flatten.length = l.length * k := by
        rw [List.length_flatten]
        have : ((List.range l.length).map C).map List.length = List.replicate l.length k := by
          apply List.ext_getElem?
          intro i
          rw [List.getElem?_map, List.getElem?_map, List.getElem?_replicate]
          by_cases hil : i < l.length
          · rw [List.getElem?_range hil, if_pos hil]
            simp only [Option.map_some]
            rw [hks _ (List.mem_map.2 ⟨i, List.mem_range.2 hil, rfl⟩)]
          · rw [if_neg hil, List.getElem?_eq_none (by simp; omega)]; rfl
        rw [this]; simp
      refine ⟨by simpa using hfl, fun hpos => ?_⟩
      simp only [List.length_map] at hpos
      have hk0 := T.pos
      have hl0 : 0 < l.length := by
        rcases Nat.eq_zero_or_pos l.length with h0 | h0
        · rw [h0] at hpos; simp at hpos
        · exact h0
      obtain ⟨b, o, spot⟩ := a
      obtain ⟨v0, _, _, hk0', _, _, hc0⟩ := hV 0 (by omega)
      obtain ⟨u0, hu0⟩ : ∃ u, (C 0)[0]? = some u := ⟨_, List.getElem?_eq_getElem (by omega)⟩
      have hc00 := hc0 0 u0 hu0
      have hspot : spot = none := by simpa [Addr.add] using World.cell?_spot hc00
      subst hspot
      refine ⟨b, o, rfl, World.block_lt_of_cell? W _ (by simpa [Addr.add] using hc00), fun j u hu => ?_⟩
      have hjl : j < l.length * k := by rw [← hfl]; exact (List.getElem?_eq_some_iff.1 hu).1
      have hi0 : j / k < l.length := (Nat.div_lt_iff_lt_mul hk0).2 hjl
      have hjk : j % k < k := Nat.mod_lt _ hk0
      obtain ⟨v, hv, _, hk', _, _, hc⟩ := hV (j / k) (by omega)
      obtain ⟨u', hu'⟩ : ∃ u', (C (j / k))[j % k]? = some u' := ⟨_, List.getElem?_eq_getElem (by omega)⟩
      have hf := flat_get hks (i := j / k) (j := j % k) (by rw [List.getElem?_map, List.getElem?_range hi0]; rfl) hu'
      rw [Nat.div_add_mod'] at hf
      rw [hu] at hf
      cases hf
      have := hc _ u hu'
      rw [Nat.div_add_mod', Addr.add_lit] at this
      exact this
    · simp only [Rows.uptoBulk]; omega
theorem len1 {α : Type _} {l : List α} (h : l.length = 1) : ∃ a0, l = [a0] := match l, h with | [a0], _ => ⟨a0, rfl⟩
theorem len2 {α : Type _} {l : List α} (h : l.length = 2) : ∃ a0 a1, l = [a0, a1] := match l, h with | [a0, a1], _ => ⟨a0, a1, rfl⟩
theorem len5 {α : Type _} {l : List α} (h : l.length = 5) : ∃ a0 a1 a2 a3 a4, l = [a0, a1, a2, a3, a4] := match l, h with | [a0, a1, a2, a3, a4], _ => ⟨a0, a1, a2, a3, a4, rfl⟩
theorem field_at {H : Type} {enc : TypeId × Value → H} {w : World} {base : Nat} {spare : Nat → Bool} {held : Bool} {n : Nat} {fs : Array Field} {cs : List Value} {xs : List (DataW H × List MemPlace)}
    (hf : ∀ (i : Nat) (f : Field), fs[i]? = some f → DataW.trod enc P w base spare held n f.type ((cs.drop f.offset).take (P.cellsOf f.type)) = xs[i]?) {i off k : Nat} {f : Field} {t : TypeId}
    (hi : fs[i]? = some f) (ht : f.type = t) (ho : f.offset = off) (hk : P.cellsOf t = k) : DataW.trod enc P w base spare held n t ((cs.drop off).take k) = xs[i]? := by
  subst ht ho hk; exact hf i f hi
end
theorem opens_bytes : Opens Try.prog 30 byEl 1 (fun l => l.length) (fun _ => True) := fun enc W fuel cs x h => by
  have hs : (∃ a len cap, cs = [.slice a len cap]) := by
    rcases open_slice Try.underlying30 h with ⟨rfl, _⟩ | ⟨a, len, cap, m, n, D, Pl, rfl, _⟩
    · exact ⟨_, _, _, rfl⟩
    · exact ⟨_, _, _, rfl⟩
  obtain ⟨a, len, cap, rfl⟩ := hs
  obtain ⟨xs, hl, hr, hc, hm, hb, _⟩ := arg_bytes (enc := enc) (W := W) (a0 := a) (len0 := len) (cap0 := cap) (d0 := x.1) (p0 := x.2) ⟨fuel, by simpa [Value.cells] using h⟩
  subst hl
  exact ⟨xs, byEl.mk hr hc fun _ _ _ => trivial, rfl, trivial, hb⟩
end Go.Proofs.Ytdgagffieobiiaa

/-
  Rows of values of any type, and of cells.
-/
namespace Go.Proofs.Ytdgagffieobiiaa
open Go.RowKit
open Go.RowKit Go.ChangeShapes Go.WideShapes Go.ChangeAt Go.Deep
theorem tkA : RowK Try.prog 49 20 1 .nilIface 16 := ⟨Try.underlying49, by kernel_rfl, rfl, by decide⟩
theorem tkC : RowK Try.prog 50 60 5 (.agg zC.toArray) 64 := ⟨Try.underlying50, by kernel_rfl, by simp [zC, Value.cells], by decide⟩
/-- A cell that holds a value, one that holds a cell of values. -/
def vaEl (u : Va) : El where
  P w S cs := ∃ (A : Option Addr) (c : Nat), cs = [vaV u A c] ∧ (byEl (vaC u).data).P w S [.slice A (vaC u).data.length c]
  move := by rintro w w' S S' cs ⟨A, c, h, hb⟩ hz hm; exact ⟨A, c, h, El.move _ hb hz hm⟩
def ceEl (x : Ce) : El where
  P w S cs := ∃ (A : Option Addr) (c : Nat), cs = ceV x A c ∧ (byEl x.data).P w S [.slice A x.data.length c]
  move := by rintro w w' S S' cs ⟨A, c, h, hb⟩ hz hm; exact ⟨A, c, h, El.move _ hb hz hm⟩
theorem byEl.rd {w : World} {S : Nat → Prop} {xs : List UInt8} {A : Option Addr} {c : Nat} (h : (byEl xs).P w S [.slice A xs.length c]) : RdB w A xs ∧ xs.length ≤ c := by
  obtain ⟨A', c', h1, h2, h3, _⟩ := h
  simp only [List.cons.injEq, Value.slice.injEq, and_true] at h1
  obtain ⟨rfl, _, rfl⟩ := h1
  exact ⟨h3, h2⟩
theorem byEl.own {w : World} {base : Nat} {S : Nat → Prop} {xs : List UInt8} {A : Option Addr} {c : Nat} (h : OwB w base A c xs) (hs : ∀ a, A = some a → base ≤ a.block → a.block < w.heap.size → S a.block) : (byEl xs).P w S [.slice A xs.length c] :=
  byEl.mk h.rd h.cap fun a ha _ => by have := Ow.lt h a ha; exact hs a ha this.1 this.2
theorem vaV_one (u : Va) (A : Option Addr) (c : Nat) : (vaV u A c).oneCell' = true := by cases u <;> rfl
/-- What a value must be to be written. -/
structure VaOk (u : Va) : Prop where
  num : -9223372036854775808 ≤ (vaC u).num ∧ (vaC u).num ≤ 9223372036854775807
  text : (vaC u).text.length ≤ 68719476736
  data : (vaC u).data.length ≤ 68719476736
theorem c1_any : Cell1 Try.prog 20 := ⟨by kernel_rfl, by rw [Try.underlying20]⟩
theorem truth_any {b : Bool} {w : World} : CallsV Try.prog 41 #[.bool b] w fun v w' => v = .int .i64 (if b then 1 else 0 : Nat) ∧ w = w' := by
  refine calls_in (N := _) Try.func41 rfl Try.ntmps41 rfl ?_; show WC _ _ _ _ _ _
  cases b with
  | true => (refine wc_sr ?_; refine wl_as rfl rfl ?_; refine wl_ns ?_; refine wc_seq ?_; refine wc_sr ?_; refine wl_mv rfl rfl ?_; refine wl_ns ?_; apply wc_condTb; exact rfl; exact rfl; refine wc_sr ?_; refine wl_as rfl rfl ?_; refine wl_ns ?_; refine wc_ret ?_; refine we_seq_ret ?_; exact we_ret1 rfl rfl ⟨_, rfl, rfl, rfl⟩)
  | false => (refine wc_sr ?_; refine wl_as rfl rfl ?_; refine wl_ns ?_; refine wc_seq ?_; refine wc_sr ?_; refine wl_mv rfl rfl ?_; refine wl_ns ?_; apply wc_condFb; exact rfl; exact rfl; refine wc_skip ?_; refine we_seq ?_; refine wc_sr ?_; refine wl_as rfl rfl ?_; refine wl_ns ?_; refine wc_ret ?_; exact we_ret1 rfl rfl ⟨_, rfl, rfl, rfl⟩)
/-- The texts and bytes of a cell, counted. -/
def ceB (x : Ce) : Nat := x.text.length + x.data.length
structure CeOk (x : Ce) : Prop where
  kind : -9223372036854775808 ≤ x.kind ∧ x.kind ≤ 9223372036854775807
  num : -9223372036854775808 ≤ x.num ∧ x.num ≤ 9223372036854775807
theorem ceEl.rd {w : World} {S : Nat → Prop} {x : Ce} {cs : List Value} (h : (ceEl x).P w S cs) : ∃ A c, cs = ceV x A c ∧ RdB w A x.data ∧ x.data.length ≤ c := by
  obtain ⟨A, c, h1, h2⟩ := h
  exact ⟨A, c, h1, byEl.rd h2⟩
theorem vaEl.rd {w : World} {S : Nat → Prop} {u : Va} {cs : List Value} (h : (vaEl u).P w S cs) : ∃ A c, cs = [vaV u A c] ∧ RdB w A (vaC u).data ∧ (vaC u).data.length ≤ c := by
  obtain ⟨A, c, h1, h2⟩ := h
  exact ⟨A, c, h1, byEl.rd h2⟩
theorem take_map {α β : Type} {l : List α} {k : Nat} {x : α} (f : α → β) (h : l[k]? = some x) : (l.take (k + 1)).map f = (l.take k).map f ++ [f x] := by rw [take_getR h]; simp
theorem ceV_all (x : Ce) (A : Option Addr) (c : Nat) : ∀ u ∈ [ceV x A c].flatten, u.oneCell' = true := by simp [ceV, Value.oneCell']
theorem vaV_all (u : Va) (A : Option Addr) (c : Nat) : ∀ v ∈ [[vaV u A c]].flatten, v.oneCell' = true := by simp [vaV_one]
/-- The cells in form. -/
def goodL (l : List Ce) : List Ce := l.filter goodC
theorem goodL_take {l : List Ce} {k : Nat} {x : Ce} (h : l[k]? = some x) : goodL (l.take (k + 1)) = goodL (l.take k) ++ if goodC x then [x] else [] := by
  rw [take_getR h, goodL, goodL, List.filter_append]
  cases hg : goodC x <;> simp [hg]
theorem goodL_le (l : List Ce) : (goodL l).length ≤ l.length := List.length_filter_le _ _
end Go.Proofs.Ytdgagffieobiiaa

/-
  Plain laws of values written in frames.
-/
namespace Go.Proofs.Ytdgagffieobiiaa
open Go.RowKit
/-- The number that stands in the place of an unsigned one. -/
def drop63 (n : Nat) : Int := (n : Int) - 9223372036854775808
theorem drop_lift {i : Int} (h : -9223372036854775808 ≤ i ∧ i ≤ 9223372036854775807) : drop63 (lift i) = i := by unfold drop63 lift; omega
theorem getOrdU_le {b : List UInt8} {q : Nat} (h : (getOrdU b q).2.2 = 0) : q + 8 ≤ b.length ∧ getOrdU b q = (numB ((b.drop q).take 8), (q : Int) + 8, 0) := by
  rcases getOrdU_cases b q with ⟨e, he, h1⟩ | ⟨q', hq, h1, h2⟩
  · rw [h1] at h; exact absurd h he
  · obtain rfl : q = q' := by omega
    exact ⟨h1, h2⟩
def vaB (u : Va) : Nat := (vaC u).text.length + (vaC u).data.length
theorem u8_eq {k : UInt8} {n : Nat} (h : ((k.toNat : Int) = (n : Nat))) (hn : n < 256) : k = UInt8.ofNat n := by
  apply UInt8.toNat_inj.1; rw [UInt8.toNat_ofNat', Nat.mod_eq_of_lt hn]; omega
/-- A row of values, or none and an error. -/
def RetVs (w : World) (r : List Va × Nat) (v : Value) (w' : World) : Prop :=
  ∃ (B : Option Addr) (c : Nat), v = .tuple #[.slice B r.1.length c, .int .i64 (r.2 : Nat)] ∧ OwR 1 20 w' w.heap.size (fun b => w.heap.size ≤ b) B c (r.1.map vaEl) ∧ Below w.heap.size w w'
theorem parts_size (b : List UInt8) : (parts b).1.length + (parts b).1.flatten.length ≤ b.length := partsF_size b.length b 0 [] (by omega) (by simp)
/-- A value as a part. -/
def enc1 : Va → List UInt8
  | .nil => [0]
  | .bool b => [1, if b then 1 else 0]
  | .int n => 2 :: ordU (lift n)
  | .text s => 3 :: s
  | .bytes d => 4 :: d
def encV (us : List Va) : List UInt8 := framed (us.map enc1)
/-- The value of a part: of its first byte and the rest. -/
def partK (k : UInt8) (r : List UInt8) : Option Va :=
    if k = 0 then (if r = [] then some .nil else none)
    else if k = 1 then (if r = [0] then some (.bool false) else if r = [1] then some (.bool true) else none)
    else if k = 2 then (if r.length = 8 then some (.int (drop63 (numB r))) else none)
    else if k = 3 then some (.text r)
    else if k = 4 then some (.bytes r)
    else none
def partV : List UInt8 → Option Va
  | [] => none
  | k :: r => partK k r
theorem partV_enc {u : Va} (h : VaOk u) : partV (enc1 u) = some u := by
  cases u with
  | nil => rfl
  | bool b => cases b <;> rfl
  | int n => simp [enc1, partV, partK, ordU_length, numB_ordU (lift_lt (i := n) h.num), drop_lift (i := n) h.num]
  | text s => rfl
  | bytes d => rfl
def decL : List (List UInt8) → Option (List Va)
  | [] => some []
  | p :: ps => match partV p with
    | none => none
    | some u => (decL ps).map (u :: ·)
def decV (b : List UInt8) : List Va × Nat :=
  if (parts b).2 = 0 then (match decL (parts b).1 with | some us => (us, 0) | none => ([], 3)) else ([], (parts b).2)
theorem decL_snoc : ∀ (ps : List (List UInt8)) (us : List Va) (p : List UInt8) (u : Va), decL ps = some us → partV p = some u → decL (ps ++ [p]) = some (us ++ [u])
  | [], us, p, u, h, hp => by cases h; simp [decL, hp]
  | q :: ps, us, p, u, h, hp => by
    simp only [List.cons_append, decL] at h ⊢
    cases hq : partV q with
    | none => rw [hq] at h; cases h
    | some v =>
      rw [hq] at h
      simp only at h ⊢
      cases hd : decL ps with
      | none => rw [hd] at h; cases h
      | some vs =>
        rw [hd] at h; cases h
        rw [decL_snoc ps vs p u hd hp]; rfl
theorem decL_none : ∀ {ps : List (List UInt8)} {k : Nat} {p : List UInt8}, ps[k]? = some p → partV p = none → decL ps = none
  | [], _, _, h, _ => by simp at h
  | q :: ps, 0, p, h, hp => by simp at h; subst h; simp [decL, hp]
  | q :: ps, k + 1, p, h, hp => by
    have := decL_none (ps := ps) (by simpa using h) hp
    simp only [decL]
    cases partV q with
    | none => rfl
    | some v => simp [this]
theorem decL_len : ∀ {ps : List (List UInt8)} {us : List Va}, decL ps = some us → us.length = ps.length
  | [], us, h => by cases h; rfl
  | q :: ps, us, h => by
    simp only [decL] at h
    cases hq : partV q with
    | none => rw [hq] at h; cases h
    | some v =>
      rw [hq] at h
      cases hd : decL ps with
      | none => rw [hd] at h; cases h
      | some vs => rw [hd] at h; cases h; simp [decL_len hd]
theorem decL_map : ∀ {us : List Va}, (∀ u ∈ us, VaOk u) → decL (us.map enc1) = some us
  | [], _ => rfl
  | u :: us, h => by
    simp only [List.map_cons, decL, partV_enc (h u (by simp)), decL_map (us := us) (fun v hv => h v (List.mem_cons_of_mem _ hv))]; rfl
theorem enc1_length (u : Va) : (enc1 u).length ≤ 8 * (vaB u + 1) + 1 := by
  cases u <;> simp [enc1, vaB, vaC, ordU_length] <;> omega
theorem decV_enc {us : List Va} (h : ∀ u ∈ us, VaOk u) : decV (encV us) = (us, 0) := by
  have hp : parts (encV us) = (us.map enc1, 0) := parts_framed fun r hr => by
    obtain ⟨u, hu, rfl⟩ := List.mem_map.1 hr
    have h1 := enc1_length u
    have h2 := (h u hu).text
    have h3 := (h u hu).data
    have e : vaB u = (vaC u).text.length + (vaC u).data.length := rfl
    omega
  rw [decV, hp]
  simp only [if_true, decL_map h]
end Go.Proofs.Ytdgagffieobiiaa

/-
  Walk over Encode of values.
-/
namespace Go.Proofs.Ytdgagffieobiiaa
open Go.RowKit
theorem encs_flat : ∀ (us : List Va), (us.map enc1).flatten.length + us.length ≤ 10 * sumB vaB us
  | [] => by simp
  | u :: us => by
    have ih := encs_flat us
    have h1 := enc1_length u
    rw [sumB_cons, List.map_cons, List.flatten_cons, List.length_append, List.length_cons]; omega
theorem OwB.of' {w : World} {base n c : Nat} {A : Option Addr} {vs : List Value} {ys : List UInt8} (h : Ow w base 5 A n c vs) (hn : ys.length = n) (hv : bvs ys = vs) : OwB w base A c ys := by subst hn hv; exact h
def EncI (w : World) (us : List Va) (A : Option Addr) (c : Nat) : FL → World → Nat → Prop := fun L wr m =>
  ∃ (k : Nat) (P : Option Addr) (cp : Nat), L = [(4, .slice P k cp), (10, .slice A us.length c), (11, .int .i64 (us.length : Int)), (12, .int .i64 (k : Int))] ∧ k ≤ us.length ∧ OwBB wr w.heap.size P cp ((us.take k).map enc1) ∧ Below w.heap.size w wr ∧ m = us.length - k
set_option maxHeartbeats 2000000 in
theorem encode_any {A : Option Addr} {n c : Nat} {us : List Va} {w : World} (hr : RdR 1 w All A (us.map vaEl)) (hn : us.length = n) (hok : ∀ u ∈ us, VaOk u) (hl : sumB vaB us ≤ 1073741824) :
    CallsV Try.prog 20 #[.slice A n c] w fun v w' => ∃ (B : Option Addr) (cB : Nat), v = .tuple #[.slice B (encV us).length cB, .int .i64 0] ∧ OwB w' w.heap.size B cB (encV us) ∧ Below w.heap.size w w' := by
  subst hn
  have hmax : maxLen = 9223372036854775807 := rfl
  have hul := sumB_len (bulk := vaB) us
  have hef := encs_flat us
  refine calls_in (N := _) Try.func20 rfl Try.ntmps20 rfl ?_; show WC _ _ _ _ _ _
  refine wc_sr ?_; refine wl_as rfl rfl ?_; refine wl_as rfl rfl ?_; refine wl_ns ?_; refine wc_sr ?_; refine wl_as rfl rfl ?_; refine wl_ns ?_; refine wc_seq ?_; refine wc_sr ?_; refine wl_mv rfl rfl ?_; apply wl_val; apply opv_len; exact rfl; exact tkA.sl; exact rfl; refine wl_mv rfl rfl ?_; refine wl_ns ?_; refine wc_block ?_
  refine wc_loop (EncI w us A c) [(4, .slice none 0 0), (10, .slice A us.length c), (11, .int .i64 (us.length : Int)), (12, .int .i64 (0 : Nat))] us.length ⟨0, none, 0, rfl, by omega, OwBB.nil _ _, Below.refl _ _, rfl⟩ ⟨rfl, rfl, rfl, rfl, trivial⟩ ?_
  rintro _ w1 m ⟨k, P, cp, rfl, hk, O1, hb0, rfl⟩
  refine wc_sr ?_; refine wl_bin rfl rfl bin_lss rfl ?_; refine wl_ns ?_; refine wc_seq ?_
  refine wc_cond rfl (fun h1 => ?_) (fun h1 => ?_)
  · obtain ⟨u, hu⟩ : ∃ u, us[k]? = some u := ⟨_, List.getElem?_eq_getElem (by omega)⟩
    have hou := hok u (List.mem_of_getElem? hu)
    have hbu := sumB_mem (bulk := vaB) (List.mem_of_getElem? hu)
    have hbe : vaB u = (vaC u).text.length + (vaC u).data.length := rfl
    obtain ⟨b, o, cs, rfl, _, _, hx, hw⟩ := RdR.at (k := 1) (by decide) hr (E := vaEl u) (i := k) (by rw [List.getElem?_map, hu]; rfl)
    obtain ⟨X, cx, rfl, rx, _⟩ := vaEl.rd hx
    have i1 := hw.below hb0
    replace rx := rx.below hb0
    have hb := Below.refl w1.heap.size w1
    refine wc_skip ?_; refine we_seq ?_; refine wc_seq ?_; refine wc_block ?_; refine wc_sr ?_; apply wl_val; apply opv_idxG tkA; exact rfl; exact rfl; exact rfl; omega; exact rfl; apply wl_val; apply opv_ldW0; exact rfl; assumption; exact c1_any; exact rfl; exact rfl; refine wl_as rfl rfl ?_; refine wl_ns ?_; refine wc_sr ?_; refine wl_mv rfl rfl ?_
    refine wl_call ok_cell_Cell (cell_any rx (by omega)) ⟨rfl, trivial⟩ rfl ?_; rintro _ _ ⟨B, cB, rfl, o2, hbx⟩; replace hb := hb.trans (hbx.mono hb.size); clear hbx
    refine wl_mv rfl rfl ?_; apply wl_val; apply opv_extract; exact rfl; exact rfl; exact rfl; apply wl_val; apply opv_extract; exact rfl; exact rfl; exact rfl
    refine wl_var (cs := ceV (vaC u) B cB) zeroC sC rfl (fun _ => rfl) (by first | rfl | simp [Value.oneCell'] | simp [ceV, Value.oneCell']) rfl fun g7 _ hg7 a7 hbx => ?_; replace o2 := OwB.below o2 hbx; replace hb := hb.trans (hbx.mono hb.size); clear hbx
    unfold ceV at a7
    cases u with
    | nil =>
      simp only [vaC] at a7
      refine wl_as rfl rfl ?_; refine wl_ns ?_; refine wc_seq ?_; refine wc_sr ?_; refine wl_mv rfl rfl ?_; refine wl_bin rfl rfl bin_neq rfl ?_; refine wl_ns ?_; apply wc_condFb; exact rfl; exact rfl; refine wc_skip ?_; refine we_seq ?_; refine wc_sr ?_; apply wl_val; apply opv_fa; exact fa_sC (by decide); exact rfl; exact rfl; apply wl_val; apply opv_ldX; exact rfl; assumption; exact c1_int; exact rfl; exact rfl; apply wl_val; apply opv_convR; exact rfl; exact Try.underlying3; exact Try.underlying5; exact IntWalk.u8_in _ (by omega); exact rfl
      refine wl_bs (vs := [bv 0]) tyB ⟨rfl, rfl, rfl, trivial⟩ rfl (by decide) rfl fun E e q3 hbx _ => ?_
      replace a7 := Ar.bel a7 hbx
      replace q3 := Ow.mono q3 hb.size
      replace hb := hb.trans (hbx.mono hb.size)
      clear hbx
      refine wl_as rfl rfl ?_; refine wl_ns ?_; refine wc_seq ?_; refine wc_sr ?_; apply wl_val; apply opv_fa; exact fa_sC (by decide); exact rfl; exact rfl; apply wl_val; apply opv_ldX; exact rfl; assumption; exact c1_int; exact rfl; exact rfl; refine wl_ns ?_; refine wc_block ?_; refine wc_sr ?_; refine wl_bin rfl rfl bin_eql rfl ?_; refine wl_as rfl rfl ?_; refine wl_ns ?_; apply wc_condFb; exact rfl; exact rfl; refine wc_sr ?_; refine wl_bin rfl rfl bin_eql rfl ?_; refine wl_as rfl rfl ?_; refine wl_ns ?_; apply wc_condFb; exact rfl; exact rfl; refine wc_sr ?_; refine wl_bin rfl rfl bin_eql rfl ?_; refine wl_as rfl rfl ?_; refine wl_ns ?_; apply wc_condFb; exact rfl; exact rfl; refine wc_sr ?_; refine wl_bin rfl rfl bin_eql rfl ?_; refine wl_as rfl rfl ?_; refine wl_ns ?_; apply wc_condFb; exact rfl; exact rfl; refine wc_skip ?_; refine we_block_norm ?_; refine we_seq ?_; refine wc_region ?_; refine wl_mv rfl rfl ?_; refine wl_mv rfl rfl ?_
      refine wl_pushR (wf := w) (r := enc1 .nil) O1 hb hb0.size q3 (hb0.trans (hb.mono hb0.size)) (by simp; omega) (by omega) rfl rfl rfl rfl rfl fun _ A9 c9 w9 O9 hb9 => ?_
      refine wl_as rfl rfl ?_; refine wl_nil ?_; refine we_block_norm ?_; refine we_seq ?_; refine wc_region ?_; apply wl_val; apply opv_bin; exact rfl; exact rfl; exact bin_add64 (by omega); exact rfl; refine wl_mv rfl rfl ?_; refine wl_nil ?_
      refine we_loop _ (us.length - (k + 1)) ⟨k + 1, _, _, rfl, by omega, by rw [take_map _ hu]; exact O9, hb9, rfl⟩ (by omega) ⟨rfl, rfl, rfl, by simp [lookT], trivial⟩
    | bool t =>
      simp only [vaC] at a7
      refine wl_as rfl rfl ?_; refine wl_ns ?_; refine wc_seq ?_; refine wc_sr ?_; refine wl_mv rfl rfl ?_; refine wl_bin rfl rfl bin_neq rfl ?_; refine wl_ns ?_; apply wc_condFb; exact rfl; exact rfl; refine wc_skip ?_; refine we_seq ?_; refine wc_sr ?_; apply wl_val; apply opv_fa; exact fa_sC (by decide); exact rfl; exact rfl; apply wl_val; apply opv_ldX; exact rfl; assumption; exact c1_int; exact rfl; exact rfl; apply wl_val; apply opv_convR; exact rfl; exact Try.underlying3; exact Try.underlying5; exact IntWalk.u8_in _ (by omega); exact rfl
      refine wl_bs (vs := [bv 1]) tyB ⟨rfl, rfl, rfl, trivial⟩ rfl (by decide) rfl fun E e q3 hbx _ => ?_
      replace a7 := Ar.bel a7 hbx
      replace q3 := Ow.mono q3 hb.size
      replace hb := hb.trans (hbx.mono hb.size)
      clear hbx
      refine wl_as rfl rfl ?_; refine wl_ns ?_; refine wc_seq ?_; refine wc_sr ?_; apply wl_val; apply opv_fa; exact fa_sC (by decide); exact rfl; exact rfl; apply wl_val; apply opv_ldX; exact rfl; assumption; exact c1_int; exact rfl; exact rfl; refine wl_ns ?_; refine wc_block ?_; refine wc_sr ?_; refine wl_bin rfl rfl bin_eql rfl ?_; refine wl_as rfl rfl ?_; refine wl_ns ?_; apply wc_condTb; exact rfl; exact rfl; refine wc_region ?_; refine wl_mv rfl rfl ?_; apply wl_val; apply opv_fa; exact fa_sC (by decide); exact rfl; exact rfl; apply wl_val; apply opv_ldX; exact rfl; assumption; exact c1_bool; exact rfl; exact rfl
      refine wl_call ok_cell_truth truth_any ⟨rfl, trivial⟩ rfl ?_
      rintro _ _ ⟨rfl, rfl⟩
      have hlt : (if t then 1 else 0 : Nat) < 256 := by cases t <;> decide
      apply wl_val; apply opv_convR; exact rfl; exact Try.underlying3; exact Try.underlying5; exact IntWalk.u8_in _ (by omega); exact rfl
      refine wl_push (vs := [_]) tyB rfl q3 ⟨rfl, rfl, rfl, trivial⟩ rfl (by decide) rfl (by omega) (by simp only [maxLen]; omega) hb.size rfl rfl fun _ _ _ _ hO hG _ => ?_; (try replace a7 := Ar.grA a7 hG (Ar.ne_ow a7 q3 rfl)); replace hb := hG.below hb q3 (Nat.le_refl _) hb.size; replace q3 := hO; clear hO hG
      refine wl_as rfl rfl ?_; refine wl_nil ?_; refine we_block_norm ?_; refine we_seq ?_; refine wc_region ?_; refine wl_mv rfl rfl ?_; refine wl_mv rfl rfl ?_
      refine wl_pushR (wf := w) (r := enc1 (.bool t)) O1 hb hb0.size (by cases t <;> exact q3) (hb0.trans (hb.mono hb0.size)) (by simp; omega) (by omega) rfl rfl rfl rfl rfl fun _ A9 c9 w9 O9 hb9 => ?_
      refine wl_as rfl rfl ?_; refine wl_nil ?_; refine we_block_norm ?_; refine we_seq ?_; refine wc_region ?_; apply wl_val; apply opv_bin; exact rfl; exact rfl; exact bin_add64 (by omega); exact rfl; refine wl_mv rfl rfl ?_; refine wl_nil ?_
      refine we_loop _ (us.length - (k + 1)) ⟨k + 1, _, _, rfl, by omega, by rw [take_map _ hu]; exact O9, hb9, rfl⟩ (by omega) ⟨rfl, rfl, rfl, by simp [lookT], trivial⟩
    | int n =>
      simp only [vaC] at a7
      refine wl_as rfl rfl ?_; refine wl_ns ?_; refine wc_seq ?_; refine wc_sr ?_; refine wl_mv rfl rfl ?_; refine wl_bin rfl rfl bin_neq rfl ?_; refine wl_ns ?_; apply wc_condFb; exact rfl; exact rfl; refine wc_skip ?_; refine we_seq ?_; refine wc_sr ?_; apply wl_val; apply opv_fa; exact fa_sC (by decide); exact rfl; exact rfl; apply wl_val; apply opv_ldX; exact rfl; assumption; exact c1_int; exact rfl; exact rfl; apply wl_val; apply opv_convR; exact rfl; exact Try.underlying3; exact Try.underlying5; exact IntWalk.u8_in _ (by omega); exact rfl
      refine wl_bs (vs := [bv 2]) tyB ⟨rfl, rfl, rfl, trivial⟩ rfl (by decide) rfl fun E e q3 hbx _ => ?_
      replace a7 := Ar.bel a7 hbx
      replace q3 := Ow.mono q3 hb.size
      replace hb := hb.trans (hbx.mono hb.size)
      clear hbx
      refine wl_as rfl rfl ?_; refine wl_ns ?_; refine wc_seq ?_; refine wc_sr ?_; apply wl_val; apply opv_fa; exact fa_sC (by decide); exact rfl; exact rfl; apply wl_val; apply opv_ldX; exact rfl; assumption; exact c1_int; exact rfl; exact rfl; refine wl_ns ?_; refine wc_block ?_; refine wc_sr ?_; refine wl_bin rfl rfl bin_eql rfl ?_; refine wl_as rfl rfl ?_; refine wl_ns ?_; apply wc_condFb; exact rfl; exact rfl; refine wc_sr ?_; refine wl_bin rfl rfl bin_eql rfl ?_; refine wl_as rfl rfl ?_; refine wl_ns ?_; apply wc_condTb; exact rfl; exact rfl; refine wc_region ?_; refine wl_mv rfl rfl ?_; apply wl_val; apply opv_fa; exact fa_sC (by decide); exact rfl; exact rfl; apply wl_val; apply opv_ldX; exact rfl; assumption; exact c1_i64; exact rfl; exact rfl
      refine wl_call ok_codec_OrdI (ordI_any n hou.num _) ⟨rfl, trivial⟩ rfl ?_; rintro _ _ ⟨Y, cy, rfl, o3, hbx⟩; replace q3 := Ow.bel q3 hbx; replace hb := hb.trans (hbx.mono hb.size); clear hbx
      rw [ordU_length]
      refine wl_app tyB rfl q3 rfl (Ow.re o3 (ordU_length _)).rd (bvs_one _) (by omega) (by simp only [maxLen]; omega) hb.size rfl fun _ _ _ hO hG _ => ?_; (try replace a7 := Ar.grA a7 hG (Ar.ne_ow a7 q3 rfl)); replace hb := hG.below hb q3 (Nat.le_refl _) hb.size; replace q3 := hO; clear hO hG
      refine wl_as rfl rfl ?_; refine wl_nil ?_; refine we_block_norm ?_; refine we_seq ?_; refine wc_region ?_; refine wl_mv rfl rfl ?_; refine wl_mv rfl rfl ?_
      have ho : OwB _ w1.heap.size _ _ (enc1 (.int n)) := OwB.of' q3 (by simp [enc1, ordU_length]) (by simp [enc1, bvs, bv])
      refine wl_pushR (wf := w) (r := enc1 (.int n)) O1 hb hb0.size ho (hb0.trans (hb.mono hb0.size)) (by simp; omega) (by omega) rfl (by simp [enc1, ordU_length, look, lookT]) rfl rfl rfl fun _ A9 c9 w9 O9 hb9 => ?_
      refine wl_as rfl rfl ?_; refine wl_nil ?_; refine we_block_norm ?_; refine we_seq ?_; refine wc_region ?_; apply wl_val; apply opv_bin; exact rfl; exact rfl; exact bin_add64 (by omega); exact rfl; refine wl_mv rfl rfl ?_; refine wl_nil ?_
      refine we_loop _ (us.length - (k + 1)) ⟨k + 1, _, _, rfl, by omega, by rw [take_map _ hu]; exact O9, hb9, rfl⟩ (by omega) ⟨rfl, rfl, rfl, by simp [lookT], trivial⟩
    | text s =>
      simp only [vaC] at a7
      refine wl_as rfl rfl ?_; refine wl_ns ?_; refine wc_seq ?_; refine wc_sr ?_; refine wl_mv rfl rfl ?_; refine wl_bin rfl rfl bin_neq rfl ?_; refine wl_ns ?_; apply wc_condFb; exact rfl; exact rfl; refine wc_skip ?_; refine we_seq ?_; refine wc_sr ?_; apply wl_val; apply opv_fa; exact fa_sC (by decide); exact rfl; exact rfl; apply wl_val; apply opv_ldX; exact rfl; assumption; exact c1_int; exact rfl; exact rfl; apply wl_val; apply opv_convR; exact rfl; exact Try.underlying3; exact Try.underlying5; exact IntWalk.u8_in _ (by omega); exact rfl
      refine wl_bs (vs := [bv 3]) tyB ⟨rfl, rfl, rfl, trivial⟩ rfl (by decide) rfl fun E e q3 hbx _ => ?_
      replace a7 := Ar.bel a7 hbx
      replace q3 := Ow.mono q3 hb.size
      replace hb := hb.trans (hbx.mono hb.size)
      clear hbx
      refine wl_as rfl rfl ?_; refine wl_ns ?_; refine wc_seq ?_; refine wc_sr ?_; apply wl_val; apply opv_fa; exact fa_sC (by decide); exact rfl; exact rfl; apply wl_val; apply opv_ldX; exact rfl; assumption; exact c1_int; exact rfl; exact rfl; refine wl_ns ?_; refine wc_block ?_; refine wc_sr ?_; refine wl_bin rfl rfl bin_eql rfl ?_; refine wl_as rfl rfl ?_; refine wl_ns ?_; apply wc_condFb; exact rfl; exact rfl; refine wc_sr ?_; refine wl_bin rfl rfl bin_eql rfl ?_; refine wl_as rfl rfl ?_; refine wl_ns ?_; apply wc_condFb; exact rfl; exact rfl; refine wc_sr ?_; refine wl_bin rfl rfl bin_eql rfl ?_; refine wl_as rfl rfl ?_; refine wl_ns ?_; apply wc_condTb; exact rfl; exact rfl; refine wc_region ?_; refine wl_mv rfl rfl ?_; apply wl_val; apply opv_fa; exact fa_sC (by decide); exact rfl; exact rfl; apply wl_val; apply opv_ldX; exact rfl; assumption; exact c1_str; exact rfl; exact rfl
      refine wl_appS tyB tyStr rfl q3 rfl (by have : s.length ≤ 68719476736 := hou.text; omega) hb.size rfl fun _ _ _ hO hG => ?_
      replace hb := hG.below hb q3 (Nat.le_refl _) hb.size
      refine wl_as rfl rfl ?_; refine wl_nil ?_; refine we_block_norm ?_; refine we_seq ?_; refine wc_region ?_; refine wl_mv rfl rfl ?_; refine wl_mv rfl rfl ?_
      have ho : OwB _ w1.heap.size _ _ (enc1 (.text s)) := OwB.of' hO (by simp [enc1]; omega) (by simp [enc1, bvs, bv])
      refine wl_pushR (wf := w) (r := enc1 (.text s)) O1 hb hb0.size ho (hb0.trans (hb.mono hb0.size)) (by simp; omega) (by omega) rfl (by simp [enc1, look, lookT]; omega) rfl rfl rfl fun _ A9 c9 w9 O9 hb9 => ?_
      refine wl_as rfl rfl ?_; refine wl_nil ?_; refine we_block_norm ?_; refine we_seq ?_; refine wc_region ?_; apply wl_val; apply opv_bin; exact rfl; exact rfl; exact bin_add64 (by omega); exact rfl; refine wl_mv rfl rfl ?_; refine wl_nil ?_
      refine we_loop _ (us.length - (k + 1)) ⟨k + 1, _, _, rfl, by omega, by rw [take_map _ hu]; exact O9, hb9, rfl⟩ (by omega) ⟨rfl, rfl, rfl, by simp [lookT], trivial⟩
    | bytes d =>
      simp only [vaC] at a7 o2
      refine wl_as rfl rfl ?_; refine wl_ns ?_; refine wc_seq ?_; refine wc_sr ?_; refine wl_mv rfl rfl ?_; refine wl_bin rfl rfl bin_neq rfl ?_; refine wl_ns ?_; apply wc_condFb; exact rfl; exact rfl; refine wc_skip ?_; refine we_seq ?_; refine wc_sr ?_; apply wl_val; apply opv_fa; exact fa_sC (by decide); exact rfl; exact rfl; apply wl_val; apply opv_ldX; exact rfl; assumption; exact c1_int; exact rfl; exact rfl; apply wl_val; apply opv_convR; exact rfl; exact Try.underlying3; exact Try.underlying5; exact IntWalk.u8_in _ (by omega); exact rfl
      refine wl_bs (vs := [bv 4]) tyB ⟨rfl, rfl, rfl, trivial⟩ rfl (by decide) rfl fun E e q3 hbx _ => ?_
      replace a7 := Ar.bel a7 hbx
      replace o2 := OwB.below o2 hbx
      replace q3 := Ow.mono q3 hb.size
      replace hb := hb.trans (hbx.mono hb.size)
      clear hbx
      refine wl_as rfl rfl ?_; refine wl_ns ?_; refine wc_seq ?_; refine wc_sr ?_; apply wl_val; apply opv_fa; exact fa_sC (by decide); exact rfl; exact rfl; apply wl_val; apply opv_ldX; exact rfl; assumption; exact c1_int; exact rfl; exact rfl; refine wl_ns ?_; refine wc_block ?_; refine wc_sr ?_; refine wl_bin rfl rfl bin_eql rfl ?_; refine wl_as rfl rfl ?_; refine wl_ns ?_; apply wc_condFb; exact rfl; exact rfl; refine wc_sr ?_; refine wl_bin rfl rfl bin_eql rfl ?_; refine wl_as rfl rfl ?_; refine wl_ns ?_; apply wc_condFb; exact rfl; exact rfl; refine wc_sr ?_; refine wl_bin rfl rfl bin_eql rfl ?_; refine wl_as rfl rfl ?_; refine wl_ns ?_; apply wc_condFb; exact rfl; exact rfl; refine wc_sr ?_; refine wl_bin rfl rfl bin_eql rfl ?_; refine wl_as rfl rfl ?_; refine wl_ns ?_; apply wc_condTb; exact rfl; exact rfl; refine wc_region ?_; refine wl_mv rfl rfl ?_; apply wl_val; apply opv_fa; exact fa_sC (by decide); exact rfl; exact rfl; apply wl_val; apply opv_ldX; exact rfl; assumption; exact c1_by; exact rfl; exact rfl
      have hd : d.length ≤ 68719476736 := hou.data
      refine wl_app tyB rfl q3 rfl (OwB.rd o2) (bvs_one _) (by omega) (by simp only [maxLen]; omega) hb.size rfl fun _ _ _ hO hG _ => ?_
      replace hb := hG.below hb q3 (Nat.le_refl _) hb.size
      refine wl_as rfl rfl ?_; refine wl_nil ?_; refine we_block_norm ?_; refine we_seq ?_; refine wc_region ?_; refine wl_mv rfl rfl ?_; refine wl_mv rfl rfl ?_
      have ho : OwB _ w1.heap.size _ _ (enc1 (.bytes d)) := OwB.of' hO (by simp [enc1]; omega) (by simp [enc1, bvs, bv])
      refine wl_pushR (wf := w) (r := enc1 (.bytes d)) O1 hb hb0.size ho (hb0.trans (hb.mono hb0.size)) (by simp; omega) (by omega) rfl (by simp [enc1, look, lookT]; omega) rfl rfl rfl fun _ A9 c9 w9 O9 hb9 => ?_
      refine wl_as rfl rfl ?_; refine wl_nil ?_; refine we_block_norm ?_; refine we_seq ?_; refine wc_region ?_; apply wl_val; apply opv_bin; exact rfl; exact rfl; exact bin_add64 (by omega); exact rfl; refine wl_mv rfl rfl ?_; refine wl_nil ?_
      refine we_loop _ (us.length - (k + 1)) ⟨k + 1, _, _, rfl, by omega, by rw [take_map _ hu]; exact O9, hb9, rfl⟩ (by omega) ⟨rfl, rfl, rfl, by simp [lookT], trivial⟩
  · obtain rfl : k = us.length := by omega
    rw [List.take_length] at O1
    have hb := hb0
    refine wc_exit ?_; refine we_seq_exit ?_; refine we_loop_exit ?_; refine we_block_exit ?_; refine we_seq ?_; refine wc_sr ?_; refine wl_mv rfl rfl ?_
    refine wl_call ok_codec_Frame (frame_any O1.rd (by simp) (by rw [List.length_map]; omega)) ⟨rfl, trivial⟩ rfl ?_; rintro _ _ ⟨B, cB, rfl, o2, hbx⟩; replace hb := hb.trans (hbx.mono hb.size); clear hbx
    refine wl_as rfl rfl ?_; refine wl_as rfl rfl ?_; refine wl_ns ?_; refine wc_ret ?_
    exact we_ret2 rfl rfl rfl ⟨_, rfl, B, cB, rfl, Ow.mono o2 hb0.size, hb⟩
end Go.Proofs.Ytdgagffieobiiaa

/-
  Walk over the value of a part.
-/
namespace Go.Proofs.Ytdgagffieobiiaa
open Go.RowKit
/-- The value of a part, and whether it is one. -/
def RetPt (w : World) (p : List UInt8) (v : Value) (w' : World) : Prop :=
  ∃ (u : Va) (B : Option Addr) (c : Nat), v = .tuple #[vaV u B c, .bool (partV p).isSome] ∧ (∀ u', partV p = some u' → u = u' ∧ OwB w' w.heap.size B c (vaC u).data) ∧ Below w.heap.size w w'
theorem RetPt.mk {w w' : World} {p : List UInt8} {r : Option Va} {B : Option Addr} {c : Nat} {q : Bool} {u : Va} (h : partV p = r) (hq : q = r.isSome) (hu : ∀ u', r = some u' → u = u' ∧ OwB w' w.heap.size B c (vaC u).data) (hb : Below w.heap.size w w') :
    RetPt w p (.tuple #[vaV u B c, .bool q]) w' := by
  subst h hq
  exact ⟨u, B, c, rfl, hu, hb⟩
set_option maxHeartbeats 2000000 in
theorem part_any {A : Option Addr} {n c : Nat} {p : List UInt8} {w : World} (r1 : RdB w A p) (hn : p.length = n) (hc : p.length ≤ c) (hl : p.length ≤ 1099511627776) :
    CallsV Try.prog 48 #[.slice A n c] w (RetPt w p) := by
  subst hn
  have hb := Below.refl w.heap.size w
  refine calls_in (N := _) Try.func48 rfl Try.ntmps48 rfl ?_; show WC _ _ _ _ _ _
  cases p with
  | nil =>
    refine wc_sr ?_; refine wl_as rfl rfl ?_; refine wl_as rfl rfl ?_; refine wl_ns ?_; refine wc_seq ?_; refine wc_sr ?_; refine wl_mv rfl rfl ?_; apply wl_val; apply opv_len; exact rfl; exact tyB.sl; exact rfl; refine wl_bin rfl rfl bin_eql rfl ?_; refine wl_ns ?_; apply wc_condTb; exact rfl; exact rfl; refine wc_sr ?_; refine wl_as rfl rfl ?_; refine wl_as rfl rfl ?_; refine wl_ns ?_; refine wc_ret ?_; refine we_seq_ret ?_
    exact we_ret2 rfl rfl rfl ⟨_, rfl, RetPt.mk (u := .nil) (B := none) (c := 0) rfl rfl (fun _ h => by cases h) hb⟩
  | cons k r =>
    have hx : (k :: r)[0]? = some k := rfl
    have hpos : ¬ (((k :: r).length : Nat) : Int) = 0 := by simp only [List.length_cons]; omega
    have ho : partV (k :: r) = partK k r := rfl
    have hkl := k.toNat_lt
    refine wc_sr ?_; refine wl_as rfl rfl ?_; refine wl_as rfl rfl ?_; refine wl_ns ?_; refine wc_seq ?_; refine wc_sr ?_; refine wl_mv rfl rfl ?_; apply wl_val; apply opv_len; exact rfl; exact tyB.sl; exact rfl; refine wl_bin rfl rfl bin_eql rfl ?_; refine wl_ns ?_; apply wc_condFb; exact rfl; exact rfl; refine wc_skip ?_; refine we_seq ?_; refine wc_sr ?_; refine wl_mv rfl rfl ?_
    refine wl_sl (l := 1) (h := (k :: r).length) tyB rfl ⟨_, rfl⟩ rfl (by simp) hc rfl ?_
    have r2 := rd_cut r1 (show 1 ≤ (k :: r).length by simp) (Nat.le_refl _) hc
    rw [show ((k :: r).take (k :: r).length).drop 1 = r by simp] at r2
    rw [show (k :: r).length - 1 = r.length by simp]
    have hcr : r.length ≤ c - 1 := by simp only [List.length_cons] at hc; omega
    simp only [List.length_cons] at hl
    refine wl_as rfl rfl ?_; refine wl_ns ?_; refine wc_seq ?_; refine wc_sr ?_; refine wl_mv rfl rfl ?_; apply wl_byK (T := tyB) (hr := r1) (hb := hx); exact rfl; exact rfl; exact rfl; exact rfl; exact rfl; intro _; refine wl_ns ?_; refine wc_block ?_; refine wc_sr ?_; refine wl_bin rfl rfl bin_eql rfl ?_; refine wl_as rfl rfl ?_; refine wl_ns ?_
    rw [partK] at ho
    by_cases h0 : k = 0
    · subst h0
      rw [if_pos rfl] at ho
      apply wc_condTb; exact rfl; exact rfl; refine wc_sr ?_; refine wl_mv rfl rfl ?_; apply wl_val; apply opv_len; exact rfl; exact tyB.sl; exact rfl; refine wl_bin rfl rfl bin_eql rfl ?_; refine wl_as rfl rfl ?_; refine wl_as rfl rfl ?_; refine wl_ns ?_; refine wc_ret ?_; refine we_block_ret ?_; refine we_seq_ret ?_
      refine we_ret2 rfl rfl rfl ⟨_, rfl, RetPt.mk (u := .nil) (B := none) (c := 0) ho ?_ (fun u' h => ?_) hb⟩
      · by_cases hr : r = []
        · subst hr; rfl
        · have : ¬ ((r.length : Int) = 0) := by rw [← List.length_eq_zero_iff] at hr; omega
          rw [if_neg hr]; simp [this]; exact hr
      · split at h
        · cases h; exact ⟨rfl, Ow.nil _ _ _⟩
        · cases h
    rw [if_neg h0] at ho
    have h0' : ¬ (k.toNat : Int) = 0 := fun h => h0 (u8_eq (n := 0) h (by decide))
    by_cases h1 : k = 1
    · subst h1
      rw [if_pos rfl] at ho
      by_cases hr1 : (r.length : Int) = 1
      · obtain ⟨t, rfl⟩ := len1 (show r.length = 1 by omega)
        have ht : [t][0]? = some t := rfl
        have htl := t.toNat_lt
        apply wc_condFb; exact rfl; exact rfl; refine wc_sr ?_; refine wl_bin rfl rfl bin_eql rfl ?_; refine wl_as rfl rfl ?_; refine wl_ns ?_; apply wc_condTb; exact rfl; exact rfl; refine wc_seq ?_
        refine wc_drawB mixed (by kernel_rfl) ?_
        apply wq_val; intro _ hw_; apply opv_move; exact rfl; exact rfl; apply wq_val; intro _ hw_; apply opv_len; exact rfl; exact tyB.sl; exact rfl; apply wq_val; intro _ hw_; apply opv_bin; exact rfl; exact rfl; exact bin_eql; exact rfl; apply wq_val; intro _ hw_; apply opv_move; exact rfl; exact rfl; apply wq_take; exact rfl; exact rfl; exact rfl; refine bT ?_; (with_reducible assumption); apply wq_val; intro _ hw_; apply opv_move; exact rfl; exact rfl; apply wq_byTK (T := tyB) (hr := r2) (hb := ht); exact rfl; exact rfl; exact rfl; refine bT ?_; (with_reducible assumption); exact rfl; exact rfl; exact rfl; exact rfl; refine bT ?_; (with_reducible assumption); exact rfl; exact rfl; exact rfl; exact rfl; exact rfl; intro _; apply wq_take; exact rfl; exact rfl; exact rfl; refine bT ?_; (with_reducible assumption); apply wq_val; intro _ hw_; apply opv_bin; exact rfl; exact rfl; exact bin_eql; exact rfl; apply wq_val; intro _ hw_; apply opv_pickT; exact rfl; refine bT ?_; (with_reducible assumption); exact rfl; exact rfl; apply wq_val; intro _ hw_; apply opv_mkI; kernel_rfl; exact rfl; exact rfl; apply wq_val; intro _ hw_; apply opv_move; exact rfl; exact rfl; apply wq_val; intro _ hw_; apply opv_len; exact rfl; exact tyB.sl; exact rfl; apply wq_val; intro _ hw_; apply opv_bin; exact rfl; exact rfl; exact bin_eql; exact rfl; apply wq_val; intro _ hw_; apply opv_move; exact rfl; exact rfl; apply wq_take; exact rfl; exact rfl; exact rfl; refine bT ?_; (with_reducible assumption); apply wq_val; intro _ hw_; apply opv_move; exact rfl; exact rfl; apply wq_byTK (T := tyB) (hr := r2) (hb := ht); exact rfl; exact rfl; exact rfl; refine bT ?_; (with_reducible assumption); exact rfl; exact rfl; exact rfl; exact rfl; refine bT ?_; (with_reducible assumption); exact rfl; exact rfl; exact rfl; exact rfl; exact rfl; intro _; apply wq_take; exact rfl; exact rfl; exact rfl; refine bT ?_; (with_reducible assumption); apply wq_val; intro _ hw_; apply opv_bin; exact rfl; exact rfl; exact bin_lss; exact rfl; apply wq_val; intro _ hw_; apply opv_pickT; exact rfl; refine bT ?_; (with_reducible assumption); exact rfl; exact rfl; apply wq_val; intro _ hw_; apply opv_assign; exact rfl; exact rfl; apply wq_val; intro _ hw_; apply opv_assign; exact rfl; exact rfl; refine wq_nil fun w1 hw1 => ?_
        replace hb := hb.trans (hw1.mono hb.size)
        refine we_seq ?_; refine wc_ret ?_; refine we_block_ret ?_; refine we_seq_ret ?_
        refine we_ret2 rfl rfl rfl ⟨_, rfl, RetPt.mk (u := .bool (decide ((t.toNat : Int) = 1))) (B := none) (c := 0) ho ?_ (fun u' h => ?_) hb⟩
        · by_cases t0 : t = 0
          · subst t0; rfl
          by_cases t1 : t = 1
          · subst t1; rfl
          have : ¬ (t.toNat : Int) < 2 := fun h => by
            have : t.toNat = 0 ∨ t.toNat = 1 := by omega
            rcases this with h | h
            · exact t0 (u8_eq (n := 0) (by omega) (by decide))
            · exact t1 (u8_eq (n := 1) (by omega) (by decide))
          simp [t0, t1, this]
        · split at h
          · rename_i hr; cases h; cases hr; exact ⟨rfl, Ow.nil _ _ _⟩
          split at h
          · rename_i hr; cases h; cases hr; exact ⟨rfl, Ow.nil _ _ _⟩
          · cases h
      · have hne : ∀ x : UInt8, ¬ r = [x] := fun x h => hr1 (by rw [h]; rfl)
        rw [if_neg (hne 0), if_neg (hne 1)] at ho
        apply wc_condFb; exact rfl; exact rfl; refine wc_sr ?_; refine wl_bin rfl rfl bin_eql rfl ?_; refine wl_as rfl rfl ?_; refine wl_ns ?_; apply wc_condTb; exact rfl; exact rfl; refine wc_seq ?_
        refine wc_drawB mixed (by kernel_rfl) ?_
        apply wq_val; intro _ hw_; apply opv_move; exact rfl; exact rfl; apply wq_val; intro _ hw_; apply opv_len; exact rfl; exact tyB.sl; exact rfl; apply wq_val; intro _ hw_; apply opv_bin; exact rfl; exact rfl; exact bin_eql; exact rfl; apply wq_val; intro _ hw_; apply opv_move; exact rfl; exact rfl; apply wq_skip; exact rfl; exact rfl; exact rfl; refine bFn ?_; (with_reducible assumption); exact rfl; apply wq_skip; exact rfl; exact rfl; exact rfl; refine bFn ?_; (with_reducible assumption); exact rfl; apply wq_skip; exact rfl; exact rfl; exact rfl; refine bFn ?_; (with_reducible assumption); exact rfl; apply wq_skip; exact rfl; exact rfl; exact rfl; refine bFn ?_; (with_reducible assumption); exact rfl; apply wq_val; intro _ hw_; apply opv_pickF; exact rfl; refine bF ?_; (with_reducible assumption); exact rfl; exact rfl; apply wq_val; intro _ hw_; apply opv_mkI; kernel_rfl; exact rfl; exact rfl; apply wq_val; intro _ hw_; apply opv_move; exact rfl; exact rfl; apply wq_val; intro _ hw_; apply opv_len; exact rfl; exact tyB.sl; exact rfl; apply wq_val; intro _ hw_; apply opv_bin; exact rfl; exact rfl; exact bin_eql; exact rfl; apply wq_val; intro _ hw_; apply opv_move; exact rfl; exact rfl; apply wq_skip; exact rfl; exact rfl; exact rfl; refine bFn ?_; (with_reducible assumption); exact rfl; apply wq_skip; exact rfl; exact rfl; exact rfl; refine bFn ?_; (with_reducible assumption); exact rfl; apply wq_skip; exact rfl; exact rfl; exact rfl; refine bFn ?_; (with_reducible assumption); exact rfl; apply wq_skip; exact rfl; exact rfl; exact rfl; refine bFn ?_; (with_reducible assumption); exact rfl; apply wq_val; intro _ hw_; apply opv_pickF; exact rfl; refine bF ?_; (with_reducible assumption); exact rfl; exact rfl; apply wq_val; intro _ hw_; apply opv_assign; exact rfl; exact rfl; apply wq_val; intro _ hw_; apply opv_assign; exact rfl; exact rfl; refine wq_nil fun w1 hw1 => ?_
        replace hb := hb.trans (hw1.mono hb.size)
        refine we_seq ?_; refine wc_ret ?_; refine we_block_ret ?_; refine we_seq_ret ?_
        exact we_ret2 rfl rfl rfl ⟨_, rfl, RetPt.mk (u := .bool false) (B := none) (c := 0) ho rfl (fun _ h => by cases h) hb⟩
    rw [if_neg h1] at ho
    have h1' : ¬ (k.toNat : Int) = 1 := fun h => h1 (u8_eq (n := 1) h (by decide))
    by_cases h2 : k = 2
    · subst h2
      rw [if_pos rfl] at ho
      apply wc_condFb; exact rfl; exact rfl; refine wc_sr ?_; refine wl_bin rfl rfl bin_eql rfl ?_; refine wl_as rfl rfl ?_; refine wl_ns ?_; apply wc_condFb; exact rfl; exact rfl; refine wc_sr ?_; refine wl_bin rfl rfl bin_eql rfl ?_; refine wl_as rfl rfl ?_; refine wl_ns ?_; apply wc_condTb; exact rfl; exact rfl; refine wc_sr ?_; refine wl_mv rfl rfl ?_
      refine wl_call ok_codec_GetOrdI (getOrdI_any (p := ((0 : Nat) : Int)) r2 rfl hcr (by omega) (by omega)) ⟨rfl, rfl, trivial⟩ rfl ?_
      rintro _ w2 ⟨rfl, hbx⟩
      replace hb := hb.trans (hbx.mono hb.size)
      clear hbx
      have hgl := fun h => (getOrdU_le (b := r) (q := 0) h)
      have hok := fun h => getOrdU_ok (b := r) (q := 0) h
      obtain ⟨g, hg⟩ : ∃ g, getOrdU r ((0 : Nat) : Int) = g := ⟨_, rfl⟩
      rw [hg] at hgl hok ⊢
      by_cases he : g.2.2 = 0
      · obtain ⟨hlen, hgv⟩ := hgl he
        have e21 : g.2.1 = 8 := by rw [hgv]; rfl
        have e1 : g.1 = numB (r.take 8) := by rw [hgv]; rfl
        have he' : (g.2.2 : Int) = 0 := by omega
        refine wl_mv rfl rfl ?_; apply wl_val; apply opv_extract; exact rfl; exact rfl; exact rfl; apply wl_val; apply opv_extract; exact rfl; exact rfl; exact rfl; apply wl_val; apply opv_extract; exact rfl; exact rfl; exact rfl; refine wl_as rfl rfl ?_; refine wl_as rfl rfl ?_; refine wl_as rfl rfl ?_; refine wl_ns ?_; refine wc_sr ?_; refine wl_mv rfl rfl ?_; apply wl_val; apply opv_mkI; kernel_rfl; exact rfl; exact rfl; refine wl_mv rfl rfl ?_; refine wl_bin rfl rfl bin_eql rfl ?_; refine wl_mv rfl rfl ?_; apply wl_take; exact rfl; exact rfl; exact rfl; refine bT ?_; (with_reducible assumption); refine wl_mv rfl rfl ?_; apply wl_take; exact rfl; exact rfl; exact rfl; refine bT ?_; (with_reducible assumption); refine wl_mv rfl rfl ?_; apply wl_take; exact rfl; exact rfl; exact rfl; refine bT ?_; (with_reducible assumption); apply wl_val; apply opv_len; exact rfl; exact tyB.sl; exact rfl; apply wl_take; exact rfl; exact rfl; exact rfl; refine bT ?_; (with_reducible assumption); refine wl_bin rfl rfl bin_eql rfl ?_; apply wl_val; apply opv_pickT; exact rfl; refine bT ?_; (with_reducible assumption); exact rfl; exact rfl; refine wl_as rfl rfl ?_; refine wl_as rfl rfl ?_; refine wl_ns ?_; refine wc_ret ?_; refine we_block_ret ?_; refine we_seq_ret ?_
        refine we_ret2 rfl rfl rfl ⟨_, rfl, RetPt.mk (u := .int (if g.2.2 = 0 then (g.1 : Int) - 9223372036854775808 else 0)) (B := none) (c := 0) ho ?_ (fun u' h => ?_) hb⟩
        · rw [e21]
          by_cases h8 : r.length = 8
          · rw [if_pos h8, h8]; rfl
          · rw [if_neg h8]; simp; omega
        · split at h
          · rename_i hr; cases h
            rw [if_pos he, e1, List.take_of_length_le (by omega)]
            exact ⟨rfl, Ow.nil _ _ _⟩
          · cases h
      · have he' : ¬ (g.2.2 : Int) = 0 := by omega
        have h8 : ¬ r.length = 8 := fun h => he (by rw [hok (by omega)])
        rw [if_neg h8] at ho
        refine wl_mv rfl rfl ?_; apply wl_val; apply opv_extract; exact rfl; exact rfl; exact rfl; apply wl_val; apply opv_extract; exact rfl; exact rfl; exact rfl; apply wl_val; apply opv_extract; exact rfl; exact rfl; exact rfl; refine wl_as rfl rfl ?_; refine wl_as rfl rfl ?_; refine wl_as rfl rfl ?_; refine wl_ns ?_; refine wc_sr ?_; refine wl_mv rfl rfl ?_; apply wl_val; apply opv_mkI; kernel_rfl; exact rfl; exact rfl; refine wl_mv rfl rfl ?_; refine wl_bin rfl rfl bin_eql rfl ?_; refine wl_mv rfl rfl ?_; apply wl_skip; exact rfl; exact rfl; exact rfl; refine bFn ?_; (with_reducible assumption); exact rfl; apply wl_skip; exact rfl; exact rfl; exact rfl; refine bFn ?_; (with_reducible assumption); exact rfl; apply wl_skip; exact rfl; exact rfl; exact rfl; refine bFn ?_; (with_reducible assumption); exact rfl; apply wl_skip; exact rfl; exact rfl; exact rfl; refine bFn ?_; (with_reducible assumption); exact rfl; apply wl_val; apply opv_pickF; exact rfl; refine bF ?_; (with_reducible assumption); exact rfl; exact rfl; refine wl_as rfl rfl ?_; refine wl_as rfl rfl ?_; refine wl_ns ?_; refine wc_ret ?_; refine we_block_ret ?_; refine we_seq_ret ?_
        exact we_ret2 rfl rfl rfl ⟨_, rfl, RetPt.mk (u := .int (if g.2.2 = 0 then (g.1 : Int) - 9223372036854775808 else 0)) (B := none) (c := 0) ho (by simp [he]) (fun _ h => by cases h) hb⟩
    rw [if_neg h2] at ho
    have h2' : ¬ (k.toNat : Int) = 2 := fun h => h2 (u8_eq (n := 2) h (by decide))
    by_cases h3 : k = 3
    · subst h3
      rw [if_pos rfl] at ho
      apply wc_condFb; exact rfl; exact rfl; refine wc_sr ?_; refine wl_bin rfl rfl bin_eql rfl ?_; refine wl_as rfl rfl ?_; refine wl_ns ?_; apply wc_condFb; exact rfl; exact rfl; refine wc_sr ?_; refine wl_bin rfl rfl bin_eql rfl ?_; refine wl_as rfl rfl ?_; refine wl_ns ?_; apply wc_condFb; exact rfl; exact rfl; refine wc_sr ?_; refine wl_bin rfl rfl bin_eql rfl ?_; refine wl_as rfl rfl ?_; refine wl_ns ?_; apply wc_condTb; exact rfl; exact rfl; refine wc_sr ?_; refine wl_mv rfl rfl ?_
      refine wl_val (opv_ofBytes Try.underlying30 Try.underlying5 tyStr rfl (r2)) rfl ?_
      apply wl_val; apply opv_mkI; kernel_rfl; exact rfl; exact rfl; refine wl_as rfl rfl ?_; refine wl_as rfl rfl ?_; refine wl_ns ?_; refine wc_ret ?_; refine we_block_ret ?_; refine we_seq_ret ?_
      refine we_ret2 rfl rfl rfl ⟨_, rfl, RetPt.mk (u := .text r) (B := none) (c := 0) ho rfl (fun u' h => by cases h; exact ⟨rfl, Ow.nil _ _ _⟩) hb⟩
    rw [if_neg h3] at ho
    have h3' : ¬ (k.toNat : Int) = 3 := fun h => h3 (u8_eq (n := 3) h (by decide))
    by_cases h4 : k = 4
    · subst h4
      rw [if_pos rfl] at ho
      apply wc_condFb; exact rfl; exact rfl; refine wc_sr ?_; refine wl_bin rfl rfl bin_eql rfl ?_; refine wl_as rfl rfl ?_; refine wl_ns ?_; apply wc_condFb; exact rfl; exact rfl; refine wc_sr ?_; refine wl_bin rfl rfl bin_eql rfl ?_; refine wl_as rfl rfl ?_; refine wl_ns ?_; apply wc_condFb; exact rfl; exact rfl; refine wc_sr ?_; refine wl_bin rfl rfl bin_eql rfl ?_; refine wl_as rfl rfl ?_; refine wl_ns ?_; apply wc_condFb; exact rfl; exact rfl; refine wc_sr ?_; refine wl_bin rfl rfl bin_eql rfl ?_; refine wl_as rfl rfl ?_; refine wl_ns ?_; apply wc_condTb; exact rfl; exact rfl; refine wc_sr ?_
      refine wl_bs (vs := []) tyB trivial rfl (by decide) rfl fun E w3 q3 hbx _ => ?_
      replace q3 := Ow.mono q3 hb.size
      replace hb := hb.trans (hbx.mono hb.size)
      clear hbx
      refine wl_mv rfl rfl ?_
      refine wl_app tyB rfl q3 rfl (r2.below hb) (bvs_one _) (by omega) (by simp only [maxLen]; omega) hb.size rfl fun _ _ _ hO hG _ => ?_; replace hb := hG.below hb q3 (Nat.le_refl _) hb.size; replace q3 := hO; clear hO hG
      rw [List.nil_append] at q3
      rw [Nat.zero_add] at q3 ⊢
      apply wl_val; apply opv_mkI; kernel_rfl; exact rfl; exact rfl; refine wl_as rfl rfl ?_; refine wl_as rfl rfl ?_; refine wl_ns ?_; refine wc_ret ?_; refine we_block_ret ?_; refine we_seq_ret ?_
      exact we_ret2 rfl rfl rfl ⟨_, rfl, RetPt.mk (u := .bytes r) ho rfl (fun u' h => by cases h; exact ⟨rfl, q3⟩) hb⟩
    rw [if_neg h4] at ho
    have h4' : ¬ (k.toNat : Int) = 4 := fun h => h4 (u8_eq (n := 4) h (by decide))
    apply wc_decF; exact rfl; (with_reducible assumption); refine wc_sr ?_; refine wl_bin rfl rfl bin_eql rfl ?_; refine wl_as rfl rfl ?_; refine wl_ns ?_; apply wc_decF; exact rfl; (with_reducible assumption); refine wc_sr ?_; refine wl_bin rfl rfl bin_eql rfl ?_; refine wl_as rfl rfl ?_; refine wl_ns ?_; apply wc_decF; exact rfl; (with_reducible assumption); refine wc_sr ?_; refine wl_bin rfl rfl bin_eql rfl ?_; refine wl_as rfl rfl ?_; refine wl_ns ?_; apply wc_decF; exact rfl; (with_reducible assumption); refine wc_sr ?_; refine wl_bin rfl rfl bin_eql rfl ?_; refine wl_as rfl rfl ?_; refine wl_ns ?_; apply wc_decF; exact rfl; (with_reducible assumption); refine wc_skip ?_; refine we_block_norm ?_; refine we_seq ?_; refine wc_sr ?_; refine wl_as rfl rfl ?_; refine wl_as rfl rfl ?_; refine wl_ns ?_; refine wc_ret ?_
    exact we_ret2 rfl rfl rfl ⟨_, rfl, RetPt.mk (u := .nil) (B := none) (c := 0) ho rfl (fun _ h => by cases h) hb⟩
end Go.Proofs.Ytdgagffieobiiaa

/-
  Walk over Decode of values.
-/
namespace Go.Proofs.Ytdgagffieobiiaa
open Go.RowKit
theorem decV_err {b : List UInt8} (h : ¬ (parts b).2 = 0) : decV b = ([], (parts b).2) := by rw [decV, if_neg h]
theorem decV_bad {b : List UInt8} (h : (parts b).2 = 0) (hd : decL (parts b).1 = none) : decV b = ([], 3) := by rw [decV, if_pos h, hd]
theorem decV_good {b : List UInt8} {us : List Va} (h : (parts b).2 = 0) (hd : decL (parts b).1 = some us) : decV b = (us, 0) := by rw [decV, if_pos h, hd]
theorem decL_take {ps : List (List UInt8)} {us : List Va} {k : Nat} (h : decL (ps.take k) = some us) (hk : k ≤ ps.length) : us.length = k := by have := decL_len h; simp at this; omega
theorem decode_any {A : Option Addr} {n c : Nat} {b : List UInt8} {w : World} (r1 : RdB w A b) (hn : b.length = n) (hc : b.length ≤ c) (hl : b.length ≤ 1073741824) :
    CallsV Try.prog 23 #[.slice A n c] w (RetVs w (decV b)) := by
  subst hn
  have hb := Below.refl w.heap.size w
  have hps := parts_size b
  refine calls_in (N := _) Try.func23 rfl Try.ntmps23 rfl ?_; show WC _ _ _ _ _ _
  refine wc_sr ?_; refine wl_as rfl rfl ?_; refine wl_as rfl rfl ?_; refine wl_ns ?_; refine wc_sr ?_; refine wl_mv rfl rfl ?_
  refine wl_call ok_codec_Parts (parts_any r1 rfl hc (by omega)) ⟨rfl, trivial⟩ rfl ?_
  rintro _ wL ⟨E, e, rfl, O1, hb1⟩
  clear hb
  obtain ⟨ps, hps'⟩ : ∃ ps, (parts b).1 = ps := ⟨_, rfl⟩
  obtain ⟨er, her⟩ : ∃ er, (parts b).2 = er := ⟨_, rfl⟩
  have hgood := @decV_good b
  have hbad := @decV_bad b
  have herr := @decV_err b
  rw [hps'] at O1 hps hgood hbad ⊢
  rw [her] at hgood hbad herr ⊢
  by_cases h0 : er = 0
  case neg =>
    have h0' : ¬ (er : Int) = 0 := by omega
    refine wl_mv rfl rfl ?_; apply wl_val; apply opv_extract; exact rfl; exact rfl; exact rfl; apply wl_val; apply opv_extract; exact rfl; exact rfl; exact rfl; refine wl_as rfl rfl ?_; refine wl_as rfl rfl ?_; refine wl_ns ?_; refine wc_seq ?_; refine wc_sr ?_; refine wl_mv rfl rfl ?_; refine wl_bin rfl rfl bin_neq rfl ?_; refine wl_ns ?_; apply wc_decT; exact rfl; (with_reducible assumption); refine wc_sr ?_; refine wl_mv rfl rfl ?_; refine wl_as rfl rfl ?_; refine wl_as rfl rfl ?_; refine wl_ns ?_; refine wc_ret ?_; refine we_seq_ret ?_
    exact we_ret2 rfl rfl rfl ⟨_, rfl, none, 0, by rw [herr h0]; rfl, by rw [herr h0]; exact OwR.nil _ _ _, hb1⟩
  subst h0
  have R0 := O1.rd
  clear O1
  refine wl_mv rfl rfl ?_; apply wl_val; apply opv_extract; exact rfl; exact rfl; exact rfl; apply wl_val; apply opv_extract; exact rfl; exact rfl; exact rfl; refine wl_as rfl rfl ?_; refine wl_as rfl rfl ?_; refine wl_ns ?_; refine wc_seq ?_; refine wc_sr ?_; refine wl_mv rfl rfl ?_; refine wl_bin rfl rfl bin_neq rfl ?_; refine wl_ns ?_; apply wc_condFb; exact rfl; exact rfl; refine wc_skip ?_; refine we_seq ?_; refine wc_sr ?_; refine wl_as rfl rfl ?_; refine wl_ns ?_; refine wc_seq ?_; refine wc_sr ?_; refine wl_mv rfl rfl ?_; apply wl_val; apply opv_len; exact rfl; exact tyBB.sl; exact rfl; refine wl_mv rfl rfl ?_; refine wl_ns ?_; refine wc_block ?_
  refine wc_loop (fun L wr m => ∃ (k : Nat) (us : List Va) (P : Option Addr) (cp : Nat), L = [(6, .slice P us.length cp), (19, .slice E ps.length e), (20, .int .i64 (ps.length : Int)), (21, .int .i64 (k : Int))] ∧ k ≤ ps.length ∧ decL (ps.take k) = some us ∧ OwR 1 20 wr wL.heap.size (fun b => wL.heap.size ≤ b) P cp (us.map vaEl) ∧ Below wL.heap.size wL wr ∧ m = ps.length - k)
    [(6, .slice none 0 0), (19, .slice E ps.length e), (20, .int .i64 (ps.length : Int)), (21, .int .i64 (0 : Nat))] ps.length ⟨0, [], none, 0, rfl, by omega, rfl, OwR.nil _ _ _, Below.refl _ _, rfl⟩ ⟨rfl, rfl, rfl, rfl, trivial⟩ ?_
  rintro _ w2 m ⟨k, us, P, cp, rfl, hk, hd, g1, hb, rfl⟩
  have hul := decL_take hd hk
  refine wc_sr ?_; refine wl_bin rfl rfl bin_lss rfl ?_; refine wl_ns ?_; refine wc_seq ?_
  refine wc_cond rfl (fun h1 => ?_) (fun h1 => ?_)
  · obtain ⟨p, hp⟩ : ∃ p, ps[k]? = some p := ⟨_, List.getElem?_eq_getElem (by omega)⟩
    obtain ⟨vs, X, cx, hv, hvk, rx, hcx⟩ := (R0.below hb).at hp
    have hpl := flat_mem hp
    have hP := fun a ha => (OwR.lt g1 a ha).2
    have hs1 := hb.size
    refine wc_skip ?_; refine we_seq ?_; refine wc_seq ?_; refine wc_block ?_; refine wc_sr ?_; apply wl_elK (T := tyBB) (hr := hv) (hb := hvk); exact rfl; exact rfl; exact rfl; exact rfl; exact rfl; intro _; refine wl_as rfl rfl ?_; refine wl_ns ?_; refine wc_sr ?_; refine wl_mv rfl rfl ?_
    refine wl_call ok_cell_part (part_any rx rfl hcx (by omega)) ⟨rfl, trivial⟩ rfl ?_
    rintro _ w3 ⟨u, B, cB, rfl, hok, hbx⟩
    replace g1 := OwR.below g1 hbx
    replace hb := hb.trans (hbx.mono hb.size)
    clear hbx hv rx
    cases hpv : partV p with
    | none =>
      refine wl_mv rfl rfl ?_; apply wl_val; apply opv_extract; exact rfl; exact rfl; exact rfl; apply wl_val; apply opv_extract; exact rfl; exact rfl; exact rfl; refine wl_as rfl rfl ?_; refine wl_as rfl rfl ?_; refine wl_ns ?_; refine wc_seq ?_; refine wc_sr ?_; refine wl_mv rfl rfl ?_; apply wl_val; apply opv_not; exact rfl; exact rfl; refine wl_ns ?_; apply wc_condTb; exact rfl; exact rfl; refine wc_sr ?_; refine wl_as rfl rfl ?_; refine wl_as rfl rfl ?_; refine wl_ns ?_; refine wc_ret ?_; refine we_seq_ret ?_; refine we_block_ret ?_; refine we_seq_ret ?_; refine we_loop_ret ?_; refine we_block_ret ?_; refine we_seq_ret ?_
      have hdn := hbad rfl (decL_none hp hpv)
      exact we_ret2 rfl rfl rfl ⟨_, rfl, none, 0, by rw [hdn]; rfl, by rw [hdn]; exact OwR.nil _ _ _, hb1.trans (hb.mono hb1.size)⟩
    | some v =>
      obtain ⟨rfl, o2⟩ := hok v hpv
      refine wl_mv rfl rfl ?_; apply wl_val; apply opv_extract; exact rfl; exact rfl; exact rfl; apply wl_val; apply opv_extract; exact rfl; exact rfl; exact rfl; refine wl_as rfl rfl ?_; refine wl_as rfl rfl ?_; refine wl_ns ?_; refine wc_seq ?_; refine wc_sr ?_; refine wl_mv rfl rfl ?_; apply wl_val; apply opv_not; exact rfl; exact rfl; refine wl_ns ?_; apply wc_condFb; exact rfl; exact rfl; refine wc_skip ?_; refine we_seq ?_; refine wc_region ?_; refine wl_mv rfl rfl ?_; refine wl_mv rfl rfl ?_
      refine wl_pushG (css' := [[vaV u B cB]]) (els' := [vaEl u]) tkA (fun _ => rfl) g1 ((by simp)) ⟨rfl, ⟨_, rfl, (by first | rfl | exact cells_one (vaV_one _ _ _))⟩, rfl, trivial⟩ (Grp.one (⟨B, cB, rfl, byEl.own o2 fun a ha h1 h2 => ⟨by omega, fun p hp => by have := hP p hp; omega⟩⟩) rfl) rfl (by first | exact ceV_all _ _ _ | exact vaV_all _ _ _ | (simp [Value.oneCell'])) (by decide) (by decide) (by omega) (by simp only [maxLen]; omega) hb.size rfl rfl fun _ _ _ _ hO hG hA => ?_; replace hb := hG.belowR hb g1 (Nat.le_refl _) hb.size; replace g1 := hO; clear hO hG
      refine wl_as rfl rfl ?_; refine wl_nil ?_; refine we_block_norm ?_; refine we_seq ?_; refine wc_region ?_; apply wl_val; apply opv_bin; exact rfl; exact rfl; exact bin_add64 (by omega); exact rfl; refine wl_mv rfl rfl ?_; refine wl_nil ?_
      refine we_loop _ (ps.length - (k + 1)) ⟨k + 1, us ++ [u], _, _, rfl, by omega, by rw [take_getR hp]; exact decL_snoc _ _ _ _ hd hpv, by rw [List.map_append]; exact g1, hb, rfl⟩ (by omega) ⟨by rw [List.length_append]; rfl, rfl, rfl, by simp [lookT], trivial⟩
  · obtain rfl : k = ps.length := by omega
    rw [List.take_length] at hd
    have hdn := hgood rfl hd
    refine wc_exit ?_; refine we_seq_exit ?_; refine we_loop_exit ?_; refine we_block_exit ?_; refine we_seq ?_; refine wc_sr ?_; refine wl_mv rfl rfl ?_; refine wl_as rfl rfl ?_; refine wl_as rfl rfl ?_; refine wl_ns ?_; refine wc_ret ?_
    exact we_ret2 rfl rfl rfl ⟨_, rfl, P, cp, by rw [hdn]; rfl, by rw [hdn]; exact OwR.mono g1 hb1.size (fun _ _ h => Nat.le_trans hb1.size h), hb1.trans (hb.mono hb1.size)⟩
end Go.Proofs.Ytdgagffieobiiaa

/-
  The engine's rules for maps whose keys are strings and of which nothing is deleted: made, asked, written, counted, and gone through in whatever order. Nothing here names the program.
-/
namespace Go.Proofs.Ytdgagffieobiiaa
open Go.RowKit

/-- An entry: its key, its value, its stamp. -/
abbrev ME := List UInt8 × Value × Nat
def toE (x : ME) : MapEntry := { key := str x.1, val := x.2.1, born := x.2.2 }
/-- Block b is a map with these entries. -/
def Mp (w : World) (b : Nat) (es : List ME) (clk : Nat) : Prop := w.heap[b]? = some (.map (es.map toE).toArray clk)
def fnd (k : List UInt8) : List ME → Nat → Option (Nat × Value)
  | [], _ => none
  | e :: es, i => if k = e.1 then some (i, e.2.1) else fnd k es (i + 1)
def mget (es : List ME) (k : List UInt8) : Option Value := (fnd k es 0).map (·.2)
def mput (es : List ME) (clk : Nat) (k : List UInt8) (v : Value) : List ME × Nat :=
  match fnd k es 0 with
  | some (i, _) => (es.modify i fun e => (k, v, e.2.2), clk)
  | none => (es ++ [(k, v, clk)], clk + 1)
section
variable {P : Program} {N : Nat} {ops : Array Oper} {Q : Exit → Act → World → Prop} {rest : List Oper} {L : FL} {w w' : World} {t e kt : TypeId} {b clk : Nat} {es : List ME} {k : List UInt8}
theorem Mp.lt (h : Mp w b es clk) : b < w.heap.size := (Array.getElem?_eq_some_iff.1 h).1
theorem Mp.bel (h : Mp w b es clk) (hb : Below w.heap.size w w') : Mp w' b es clk := (hb.block b h.lt).trans h
theorem Mp.gr {A : Option Addr} (h : Mp w b es clk) (g : Gr w w' A) (hA : ∀ a, A = some a → a.block ≠ b) : Mp w' b es clk :=
  (g.block b h.lt fun hk => by
    cases A with
    | none => simp at hk
    | some a => simp at hk; exact hA a rfl hk.symm).trans h
theorem ba_eq (a c : List UInt8) : ((⟨a.toArray⟩ : ByteArray) == ⟨c.toArray⟩) = decide (a = c) := by
  rw [Bool.eq_iff_iff, MapKept.bytes_beq, decide_eq_true_eq]
  exact ⟨fun h => by injection h with h1; simpa using h1, fun h => by rw [h]⟩
theorem findNow_str (k : List UInt8) : ∀ (es : List ME) (i : Nat), Instr.findNow .string (str k) (es.map toE) i = some (fnd k es i)
  | [], i => rfl
  | e :: es, i => by
    have hs : Instr.sameNow .string (str k) (toE e).key = some (decide (k = e.1)) := by
      show some ((⟨k.toArray⟩ : ByteArray) == ⟨e.1.toArray⟩) = _
      rw [ba_eq]
    simp only [List.map_cons, Instr.findNow, hs, fnd]
    by_cases h : k = e.1
    · simp [h]; rfl
    · simp [h, findNow_str k es (i + 1)]
theorem run_findKey (hk : P.underlying kt = some .string) : (Instr.findKey kt (str k) (es.map toE)).run P w = .ok (fnd k es 0) w := by
  simp only [Instr.findKey, Sem.run_bind, run_underlying hk, Result.andThen_ok, findNow_str]
  simp
theorem opv_mkMap {ty : TypeId} : OpV P (.makeMap t none) ty L w (.map (some w.heap.size)) (w.alloc (.map #[] 0)) := fun ρ o hρ ho _ => by
  simp [execOp, ho, Instr.makeMap]
theorem wl_mkMap {d : Nat} {ty : TypeId} {pos : String} {aft : Array Edge} (hd : Nat.blt d N = true)
    (h : ∀ g w', w.heap.size ≤ g → Mp w' g [] 0 → Below w.heap.size w w' → WL P N ops Q rest ((d, .map (some g)) :: L) w') :
    WL P N ops Q (⟨some d, .makeMap t none, ty, pos, aft, none⟩ :: rest) L w :=
  wl_val opv_mkMap hd (h _ _ (Nat.le_refl _) (heap_alloc_new w _) ((Below.refl _ _).alloc (Nat.le_refl _) _))
theorem opv_lookup {x y : Operand} {ty : TypeId} {z : Value} (ht : P.underlying t = some (.map kt e)) (hk : P.underlying kt = some .string) (hz : (P.info? e).map (·.zero) = some (some z)) (hx : look L x = some (.map (some b))) (hy : look L y = some (str k)) (hm : Mp w b es clk) :
    OpV P (.lookup t x y false) ty L w ((mget es k).getD z) w := fun ρ o hρ ho _ => by
  have hzr : (zeroValue e).run P w = .ok z w := by
    cases hq : P.info? e with
    | none => simp [hq] at hz
    | some i => have : i.zero = some z := by simpa [hq] using hz
                simp [zeroValue, typeInfo, hq, this]
  have hg : (getObj b).run P w = .ok (.map (es.map toE).toArray clk) w := by simp [getObj, Sem.run, show w.heap[b]? = _ from hm]
  have hck : ∀ em, (Instr.checkKey em 10000 kt (str k)).run P w = .ok () w := fun em => MapKept.run_checkKey hk (show MapKept.IsKey .string (str k) from trivial) em 9999
  unfold execOp
  simp only [ho, Instr.lookup, Sem.run_bind, run_underlying ht, Result.andThen_ok, hρ x _ hx, hρ y _ hy, hg, hck, Sem.run_pure]
  rw [run_findKey hk]
  unfold mget
  cases fnd k es 0 with
  | none => simp [hzr]
  | some p => simp
theorem sameBits_str (n : Nat) (a : List UInt8) : Instr.sameBits n (str a) (str a) = true := by cases n <;> simp only [Instr.sameBits, ba_eq, decide_true]
theorem fnd_get : ∀ (es : List ME) (j i : Nat) (v : Value), fnd k es j = some (i, v) → j ≤ i ∧ ∃ x, es[i - j]? = some x ∧ x.1 = k ∧ x.2.1 = v
  | [], j, i, v, h => by simp [fnd] at h
  | x :: es, j, i, v, h => by
    unfold fnd at h
    split at h
    · rename_i hk
      simp only [Option.some.injEq, Prod.mk.injEq] at h
      obtain ⟨rfl, rfl⟩ := h
      exact ⟨Nat.le_refl _, x, by simp, hk.symm, rfl⟩
    · obtain ⟨h1, y, h2, h3⟩ := fnd_get es (j + 1) i v h
      refine ⟨by omega, y, ?_, h3⟩
      rw [show i - j = (i - (j + 1)) + 1 by omega]; simpa using h2
theorem opu_mput {m y z : Operand} {ty : TypeId} {v : Value} (ht : P.underlying t = some (.map kt e)) (hk : P.underlying kt = some .string) (hx : look L m = some (.map (some b))) (hy : look L y = some (str k)) (hz : look L z = some v) (hm : Mp w b es clk) :
    ∃ w', OpU P (.mapUpdate t m y z) ty L w w' ∧ Mp w' b (mput es clk k v).1 (mput es clk k v).2 ∧ Gr w w' (some ⟨b, 0, none⟩) ∧ w'.heap.size = w.heap.size := by
  refine ⟨{ w with heap := w.heap.setIfInBounds b (.map ((mput es clk k v).1.map toE).toArray (mput es clk k v).2) }, fun ρ o hρ ho _ => ?_, ?_, ⟨rfl, rfl, rfl, by simp, fun j _ hj => ?_⟩, by simp⟩
  · have hg : (getObj b).run P w = .ok (.map (es.map toE).toArray clk) w := by simp [getObj, Sem.run, show w.heap[b]? = _ from hm]
    have hs : ∀ o' : Obj, (∃ a c, o' = .map a c) → (setObj b o').run P w = .ok () { w with heap := w.heap.setIfInBounds b o' } := fun o' ⟨a, c, ho'⟩ => by
      subst ho'; simp [setObj, Sem.run, show w.heap[b]? = _ from hm]
    have hck : ∀ em, (Instr.checkKey em 10000 kt (str k)).run P w = .ok () w := fun em => MapKept.run_checkKey hk (show MapKept.IsKey .string (str k) from trivial) em 9999
    unfold execOp
    simp only [ho, Instr.mapUpdate, Sem.run_bind, run_underlying ht, Result.andThen_ok, hρ m _ hx, hρ y _ hy, hρ z _ hz, hg, hck]
    rw [run_findKey hk]
    unfold mput
    cases hf : fnd k es 0 with
    | none =>
      simp only [Result.andThen_ok]
      rw [hs _ ⟨_, _, rfl⟩]
      simp [toE]
    | some p =>
      obtain ⟨i, u⟩ := p
      obtain ⟨_, x, h2, h3, h4⟩ := fnd_get es 0 i u hf
      rw [Nat.sub_zero] at h2
      have hi := (List.getElem?_eq_some_iff.1 h2).1
      have hkey : ((((es.map toE).toArray)[i]?).map (·.key)).getD (str k) = str k := by
        simp [h2, toE, h3]
      simp only [Result.andThen_ok, Sem.run_bind, hkey, Instr.keyThatStays, sameBits_str, if_true, Sem.run_pure]
      rw [hs _ ⟨_, _, rfl⟩]
      have e : (es.map toE).toArray.modify i (fun e => { e with key := str k, val := v }) = ((es.modify i fun e => (k, v, e.2.2)).map toE).toArray := by
        apply Array.ext'
        apply List.ext_getElem?
        intro j
        simp only [Array.toList_modify, List.getElem?_modify, List.getElem?_map]
        by_cases hij : i = j
        · subst hij; simp [h2, toE]
        · simp [hij]
      simp only [e]
      simp
  · simp [Mp, hm.lt]
  · simp only [Array.getElem?_setIfInBounds]
    rw [if_neg (by simp at hj; exact fun h => hj h.symm)]
theorem wl_mput {m y z : Operand} {ty : TypeId} {pos : String} {aft : Array Edge} {v : Value} (ht : P.underlying t = some (.map kt e)) (hk : P.underlying kt = some .string) (hx : look L m = some (.map (some b))) (hy : look L y = some (str k)) (hz : look L z = some v) (hm : Mp w b es clk)
    (h : ∀ w', Mp w' b (mput es clk k v).1 (mput es clk k v).2 → Gr w w' (some ⟨b, 0, none⟩) → w'.heap.size = w.heap.size → WL P N ops Q rest L w') :
    WL P N ops Q (⟨none, .mapUpdate t m y z, ty, pos, aft, none⟩ :: rest) L w := by
  obtain ⟨w', h1, h2, h3, h4⟩ := opu_mput (ty := ty) ht hk hx hy hz hm
  exact wl_unitN h1 (h w' h2 h3 h4)

/-- An iterator over the map in block b. -/
def MI (w : World) (r b since : Nat) (seen : List Nat) (last : Nat) : Prop := w.heap[r]? = some (.mapIter (some b) since seen.toArray last)
variable {r since last : Nat} {seen : List Nat}
theorem MI.lt (h : MI w r b since seen last) : r < w.heap.size := (Array.getElem?_eq_some_iff.1 h).1
theorem MI.bel (h : MI w r b since seen last) (hb : Below w.heap.size w w') : MI w' r b since seen last := (hb.block r h.lt).trans h
theorem wl_rangeM {d : Nat} {x : Operand} {ty : TypeId} {pos : String} {aft : Array Edge} (ht : P.underlying t = some (.map kt e)) (hx : look L x = some (.map (some b))) (hm : Mp w b es clk) (hd : Nat.blt d N = true)
    (h : ∀ r w', w.heap.size ≤ r → MI w' r b clk [] clk → Below w.heap.size w w' → WL P N ops Q rest ((d, .pointer (some ⟨r, 0, none⟩)) :: L) w') :
    WL P N ops Q (⟨some d, .range t x, ty, pos, aft, none⟩ :: rest) L w := by
  have hg : (getObj b).run P w = .ok (.map (es.map toE).toArray clk) w := by simp [getObj, Sem.run, show w.heap[b]? = _ from hm]
  refine wl_val (v := .pointer (some ⟨w.heap.size, 0, none⟩)) (w' := w.alloc (.mapIter (some b) clk #[] clk)) (fun ρ o hρ ho _ => ?_) hd (h _ _ (Nat.le_refl _) (heap_alloc_new w _) ((Below.refl _ _).alloc (Nat.le_refl _) _))
  simp [execOp, ho, Instr.range, run_underlying ht, hρ x _ hx, hg]
/-- What is left to come. -/
def left (es : List ME) (seen : List Nat) : List ME := es.filter fun x => !seen.contains x.2.2
theorem wl_nextM {d : Nat} {x : Operand} {ty : TypeId} {pos : String} {aft : Array Edge} (hx : look L x = some (.pointer (some ⟨r, 0, none⟩))) (hi : MI w r b since seen last) (hm : Mp w b es clk) (hold : ∀ y ∈ es, y.2.2 < since) (hsc : since ≤ last) (hd : Nat.blt d N = true)
    (hend : left es seen = [] → WL P N ops Q rest ((d, .tuple #[.bool false]) :: L) w)
    (hone : ∀ y w', y ∈ left es seen → MI w' r b since (seen ++ [y.2.2]) clk → Gr w w' (some ⟨r, 0, none⟩) → w'.heap.size = w.heap.size → WL P N ops Q rest ((d, .tuple #[.bool true, str y.1, y.2.1]) :: L) w') :
    WL P N ops Q (⟨some d, .next x false, ty, pos, aft, none⟩ :: rest) L w := by
  have hl : (leftOf (es.map toE).toArray seen.toArray).toList = (left es seen).map toE := by
    simp only [leftOf, left, List.filter_toArray, List.filter_map]
    congr 1
    apply List.filter_congr
    intro x _
    show (!(seen.toArray.contains x.2.2)) = (!(seen.contains x.2.2))
    rw [List.contains_toArray]
  rcases run_next_at (P := P) w ty r b since last seen.toArray (es.map toE).toArray clk hi hm (fun x hx => by obtain ⟨y, hy, rfl⟩ := List.mem_map.1 (show x ∈ es.map toE by simpa using hx); exact hold y hy) hsc with ⟨h0, hrun⟩ | ⟨e, he, w1, hw1, hrun⟩
  · refine wl_val (v := _) (w' := w) (fun ρ o hρ ho hty => ?_) hd (hend ?_)
    · unfold execOp
      simp only [ho, hty, hρ x _ hx, Sem.run_bind, hrun]
      simp
    · have := congrArg List.length hl
      rw [Array.length_toList, h0] at this
      exact List.eq_nil_of_length_eq_zero (by simpa using this.symm)
  · rw [hl] at he
    obtain ⟨y, hy, rfl⟩ := List.mem_map.1 he
    have hr1 : r < w1.heap.size := by rcases hw1 with rfl | rfl <;> exact hi.lt
    obtain ⟨w3, hw3⟩ : ∃ w3, ChangeMaps.setBlock w1 r (.mapIter (some b) since (seen.toArray.push (toE y).born) clk) = w3 := ⟨_, rfl⟩
    rw [hw3] at hrun
    refine wl_val (v := _) (w' := w3) (fun ρ o hρ ho hty => ?_) hd (hone y w3 hy ?_ ⟨?_, ?_, ?_, ?_, fun j hj hne => ?_⟩ ?_)
    · unfold execOp
      simp only [ho, hty, hρ x _ hx, Sem.run_bind, hrun]
      simp
      exact ⟨rfl, rfl⟩
    · subst hw3; unfold MI ChangeMaps.setBlock
      simp [hr1, toE]
    · subst hw3; rcases hw1 with rfl | rfl <;> rfl
    · subst hw3; rcases hw1 with rfl | rfl <;> rfl
    · subst hw3; rcases hw1 with rfl | rfl <;> rfl
    · subst hw3; rcases hw1 with rfl | rfl <;> simp [ChangeMaps.setBlock]
    · subst hw3; rcases hw1 with rfl | rfl <;> (simp only [ChangeMaps.setBlock, Array.getElem?_setIfInBounds]; rw [if_neg (by simp at hne; exact fun h => hne h.symm)]; try rfl)
    · subst hw3; rcases hw1 with rfl | rfl <;> simp [ChangeMaps.setBlock]
/-- The entry that came out, read again. -/
theorem opv_entry {x : Operand} {ty : TypeId} {y : ME} (hx : look L x = some (.pointer (some ⟨r, 0, none⟩))) (hi : MI w r b since (seen ++ [y.2.2]) clk) (hm : Mp w b es clk) (hy : y ∈ es) (hn : (es.map fun x => x.2.2).Nodup) :
    OpV P (.entry x) ty L w (.tuple #[str y.1, y.2.1]) w := fun ρ o hρ ho _ => by
  have hi' : w.heap[r]? = some (.mapIter (some b) since (seen.toArray.push (toE y).born) clk) := by
    have : w.heap[r]? = _ := hi
    rw [this]; simp [toE]
  have hrun := run_entry_at (P := P) w r b since seen.toArray (es.map toE).toArray clk (toE y) hi' hm (by simp only [List.mem_map]; exact ⟨y, hy, rfl⟩) (by simpa [List.map_map, Function.comp_def, toE] using hn)
  unfold execOp
  simp only [ho, hρ x _ hx, Sem.run_bind, hrun]
  simp
  exact ⟨rfl, rfl⟩
end
end Go.Proofs.Ytdgagffieobiiaa

/-
  What a call holds, told as a list of pieces that lie apart: blocks, rows, rows of elements with their own memory, and pieces that a reader of this list names; the laws by which a piece changes, comes in and goes, and what a call leaves alone. Nothing here names the program.
-/
namespace Go.Proofs.Ytdgagffieobiiaa
open Go.RowKit

abbrev BS := Nat → Prop
/-- Outside a set of blocks the world w' is as w was. -/
structure Mod (M : BS) (w w' : World) : Prop where
  os : w'.os = w.os
  tape : w'.tape = w.tape
  output : w'.output = w.output
  size : w.heap.size ≤ w'.heap.size
  block : ∀ b, b < w.heap.size → ¬ M b → w'.heap[b]? = w.heap[b]?
def NoB : BS := fun _ => False
section
variable {w w' w'' : World} {M M' : BS}
theorem Mod.refl (M : BS) (w : World) : Mod M w w := ⟨rfl, rfl, rfl, Nat.le_refl _, fun _ _ _ => rfl⟩
theorem Mod.trans (h : Mod M w w') (h2 : Mod M' w' w'') (hs : ∀ b, b < w.heap.size → M' b → M b) : Mod M w w'' :=
  ⟨h2.os.trans h.os, h2.tape.trans h.tape, h2.output.trans h.output, Nat.le_trans h.size h2.size, fun b hb hm => (h2.block b (Nat.lt_of_lt_of_le hb h.size) fun hk => hm (hs b hb hk)).trans (h.block b hb hm)⟩
theorem Mod.of_below (h : Below w.heap.size w w') (M : BS) : Mod M w w' := ⟨h.os, h.tape, h.output, h.size, fun b hb _ => h.block b hb⟩
theorem Mod.below (h : Mod NoB w w') : Below w.heap.size w w' := ⟨h.os, h.tape, h.output, h.size, fun b hb => h.block b hb id⟩
theorem Mod.of_gr {A : Option Addr} (h : Gr w w' A) (hA : ∀ a, A = some a → M a.block) : Mod M w w' := ⟨h.os, h.tape, h.output, World.grownBy.size h, fun b hb hm => h.block b hb fun hk => by
  cases A with
  | none => simp at hk
  | some a => simp at hk; exact hm (hk ▸ hA a rfl)⟩
theorem Mod.mono (h : Mod M w w') (hs : ∀ b, b < w.heap.size → M b → M' b) : Mod M' w w' := ⟨h.os, h.tape, h.output, h.size, fun b hb hm => h.block b hb fun hk => hm (hs b hb hk)⟩
end

/-- A piece that a reader names. -/
structure Ck where
  P : World → BS → Prop
  move : ∀ {w w' : World} {S S' : BS}, P w S → w.heap.size ≤ w'.heap.size → (∀ b, b < w.heap.size → S b → S' b ∧ w'.heap[b]? = w.heap[b]?) → P w' S'
/-- The pieces. -/
inductive Cd
  | blk (g : Nat) (t : TypeId) (cs : List Value)
  | ow (e : TypeId) (A : Option Addr) (n c : Nat) (xs : List Value)
  | rg (k : Nat) (e : TypeId) (A : Option Addr) (c : Nat) (els : List El)
  | ce (E : El) (cs : List Value)
  | ck (c : Ck)
def Cd.P : Cd → World → BS → Prop
  | .blk g t cs, w, S => S g ∧ Ar w g t cs
  | .ow e A n c xs, w, S => (∀ a, A = some a → S a.block) ∧ Ow w 0 e A n c xs
  | .rg k e A c els, w, S => (∀ a, A = some a → S a.block) ∧ OwR k e w 0 S A c els
  | .ce E cs, w, S => E.P w S cs
  | .ck c, w, S => c.P w S
theorem OwR.moveS {k base c : Nat} {e : TypeId} {w w' : World} {S S' : BS} {A : Option Addr} {els : List El} (h : OwR k e w base S A c els) (hA : ∀ a, A = some a → S a.block) (hz : w.heap.size ≤ w'.heap.size) (hm : ∀ b, b < w.heap.size → S b → S' b ∧ w'.heap[b]? = w.heap[b]?) :
    OwR k e w' base S' A c els := by
  have hl := OwR.lt h
  obtain ⟨css, h1, h2⟩ := h
  refine ⟨css, h1.move hz fun b hb hs => ⟨⟨(hm b hb hs.1).1, hs.2⟩, (hm b hb hs.1).2⟩, h2.1, ?_⟩
  rcases h2.2 with hn | ⟨g, cap, cur, hv, hg, hc, rest⟩
  · exact .inl hn
  · injection hv with hA' hn hc'
    subst hA'
    exact .inr ⟨g, cap, cur, by rw [hc'], hg, by rw [(hm g (hl _ rfl).2 (hA _ rfl)).2]; exact hc, rest⟩
theorem Ow.moveS {base n c : Nat} {e : TypeId} {w w' : World} {A : Option Addr} {xs : List Value} (h : Ow w base e A n c xs) (hm : ∀ a, A = some a → w'.heap[a.block]? = w.heap[a.block]?) : Ow w' base e A n c xs := by
  refine ⟨h.1, ?_⟩
  rcases h.2 with hn | ⟨g, cap, cur, hv, hg, hc, rest⟩
  · exact .inl hn
  · injection hv with hA' hn hc'
    subst hA'
    exact .inr ⟨g, cap, cur, by rw [hc'], hg, by rw [hm _ rfl]; exact hc, rest⟩
theorem Cd.move : ∀ {c : Cd} {w w' : World} {S S' : BS}, c.P w S → w.heap.size ≤ w'.heap.size → (∀ b, b < w.heap.size → S b → S' b ∧ w'.heap[b]? = w.heap[b]?) → c.P w' S'
  | .blk g t cs, w, w', S, S', h, _, hm => ⟨(hm g h.2.lt h.1).1, (hm g h.2.lt h.1).2.trans h.2⟩
  | .ow e A n c xs, w, w', S, S', h, _, hm => ⟨fun a ha => (hm _ (Ow.lt h.2 a ha).2 (h.1 a ha)).1, h.2.moveS fun a ha => (hm _ (Ow.lt h.2 a ha).2 (h.1 a ha)).2⟩
  | .rg k e A c els, w, w', S, S', h, hz, hm => ⟨fun a ha => (hm _ (OwR.lt h.2 a ha).2 (h.1 a ha)).1, h.2.moveS h.1 hz hm⟩
  | .ce E cs, w, w', S, S', h, hz, hm => E.move h hz hm
  | .ck c, w, w', S, S', h, hz, hm => c.move h hz hm

/-- The pieces hold, each in blocks of its own. -/
def Sat (w : World) : List Cd → BS → Prop
  | [], _ => True
  | c :: H, S => ∃ T : BS, (∀ b, T b → S b) ∧ c.P w T ∧ Sat w H fun b => S b ∧ ¬ T b
section
variable {w w' : World} {S S' : BS} {H H1 H2 : List Cd} {c c' : Cd}
theorem Sat.move : ∀ {H : List Cd} {S S' : BS}, Sat w H S → w.heap.size ≤ w'.heap.size → (∀ b, b < w.heap.size → S b → S' b ∧ w'.heap[b]? = w.heap[b]?) → Sat w' H S'
  | [], _, _, _, _, _ => trivial
  | c :: H, S, S', ⟨T, hT, hc, hr⟩, hz, hm => ⟨fun b => T b ∧ b < w.heap.size, fun b hb => (hm b hb.2 (hT b hb.1)).1, Cd.move hc hz fun b hb h => ⟨⟨h, hb⟩, (hm b hb (hT b h)).2⟩,
      Sat.move hr hz fun b hb h => ⟨⟨(hm b hb h.1).1, fun k => h.2 k.1⟩, (hm b hb h.1).2⟩⟩
theorem Sat.mono (h : Sat w H S) (hs : ∀ b, b < w.heap.size → S b → S' b) : Sat w H S' := h.move (Nat.le_refl _) fun b hb h => ⟨hs b hb h, rfl⟩
theorem Sat.append : ∀ {H1 : List Cd} {S : BS}, Sat w (H1 ++ H2) S → ∃ T : BS, (∀ b, T b → S b) ∧ Sat w H1 T ∧ Sat w H2 fun b => S b ∧ ¬ T b
  | [], S, h => ⟨NoB, fun _ h => h.elim, trivial, h.mono fun b _ h => ⟨h, id⟩⟩
  | c :: H1, S, ⟨T, hT, hc, hr⟩ => by
    obtain ⟨T2, h2, h3, h4⟩ := Sat.append hr
    exact ⟨fun b => T b ∨ T2 b, fun b hb => hb.elim (hT b) fun h => (h2 b h).1, ⟨T, fun b => .inl, hc, h3.mono fun b _ hb => ⟨.inr hb, (h2 b hb).2⟩⟩,
      h4.mono fun b _ hb => ⟨hb.1.1, fun k => k.elim hb.1.2 hb.2⟩⟩
theorem Sat.join : ∀ {H1 : List Cd} {S T : BS}, (∀ b, T b → S b) → Sat w H1 T → (Sat w H2 fun b => S b ∧ ¬ T b) → Sat w (H1 ++ H2) S
  | [], S, T, _, _, h2 => h2.mono fun b _ h => h.1
  | c :: H1, S, T, hT, ⟨U, hU, hc, hr⟩, h2 => ⟨U, fun b h => hT b (hU b h), hc, Sat.join (T := fun b => T b ∧ ¬ U b) (fun b h => ⟨hT b h.1, h.2⟩) hr (h2.mono fun b _ h => ⟨⟨h.1, fun k => h.2 (hU b k)⟩, fun k => h.2 k.1⟩)⟩
theorem Sat.swap (h : Sat w (H1 ++ H2) S) : Sat w (H2 ++ H1) S := by
  obtain ⟨T, h1, h2, h3⟩ := h.append
  exact Sat.join (T := fun b => S b ∧ ¬ T b) (fun b h => h.1) h3 (h2.mono fun b _ h => ⟨h1 b h, fun k => k.2 h⟩)
/-- A piece in front of the others. -/
def nthC : List Cd → Nat → Option Cd
  | [], _ => none
  | c :: _, 0 => some c
  | _ :: H, k + 1 => nthC H k
def delC : List Cd → Nat → List Cd
  | [], _ => []
  | _ :: H, 0 => H
  | c :: H, k + 1 => c :: delC H k
def setC : List Cd → Nat → Cd → List Cd
  | [], _, _ => []
  | _ :: H, 0, d => d :: H
  | c :: H, k + 1, d => c :: setC H k d
theorem Sat.front : ∀ {H : List Cd} {i : Nat} {S : BS}, Sat w H S → nthC H i = some c → Sat w (c :: delC H i) S
  | d :: H, 0, S, h, hi => by simp only [nthC, Option.some.injEq] at hi; subst hi; exact h
  | d :: H, i + 1, S, ⟨T, hT, hd, hr⟩, hi => by
    obtain ⟨U, hU, hc, hr2⟩ := Sat.front hr hi
    exact ⟨U, fun b h => (hU b h).1, hc, T, fun b h => ⟨hT b h, fun k => (hU b k).2 h⟩, hd, hr2.mono fun b _ h => ⟨⟨h.1.1, h.2⟩, h.1.2⟩⟩
theorem Sat.back : ∀ {H : List Cd} {i : Nat} {S : BS}, Sat w (c' :: delC H i) S → nthC H i = some c → Sat w (setC H i c') S
  | d :: H, 0, S, h, hi => h
  | d :: H, i + 1, S, ⟨U, hU, hc, T, hT, hd, hr⟩, hi =>
    ⟨T, fun b h => (hT b h).1, hd, Sat.back (H := H) (i := i) ⟨U, fun b h => ⟨hU b h, fun k => (hT b k).2 h⟩, hc, hr.mono fun b _ h => ⟨⟨h.1.1, h.2⟩, h.1.2⟩⟩ hi⟩
  | [], i, S, h, hi => by simp [nthC] at hi
end

/-- What the call may touch: the blocks that came with it, and new ones. -/
def Fr (M : BS) (w0 : World) : BS := fun b => M b ∨ w0.heap.size ≤ b
/-- The state of a call that began in the world w0 and may write in the blocks of M: it holds these pieces. -/
def St (M : BS) (w0 w : World) (H : List Cd) : Prop := Mod M w0 w ∧ Sat w H (Fr M w0)
section
variable {w0 w w' : World} {M : BS} {H H' H1 H2 : List Cd} {c c' : Cd} {i : Nat}
theorem St.start (h : Sat w H M) : St M w w H := ⟨Mod.refl _ _, h.mono fun _ _ h => .inl h⟩
theorem St.init (w : World) : St NoB w w [] := ⟨Mod.refl _ _, trivial⟩
theorem St.bel (h : St NoB w0 w H) : Below w0.heap.size w0 w := h.1.below
theorem St.nil (h : St M w0 w H) : St M w0 w [] := ⟨h.1, trivial⟩
theorem St.size (h : St M w0 w H) : w0.heap.size ≤ w.heap.size := h.1.size
/-- Other words for the same pieces. -/
theorem St.map (h : St M w0 w H) (hH : ∀ S, Sat w H S → Sat w H' S) : St M w0 w H' := ⟨h.1, hH _ h.2⟩
theorem St.front (h : St M w0 w H) (i : Nat) (hi : nthC H i = some c) : St M w0 w (c :: delC H i) := ⟨h.1, h.2.front hi⟩
theorem St.drop (h : St M w0 w H) (i : Nat) (hi : nthC H i = some c) : St M w0 w (delC H i) := ⟨h.1, by obtain ⟨T, hT, _, hr⟩ := h.2.front hi; exact hr.mono fun _ _ h => h.1⟩
/-- The pieces in front are handed to a call. -/
theorem St.lend (h : St M w0 w (H1 ++ H2)) : ∃ S : BS, Sat w H1 S ∧ (∀ b, S b → b < w.heap.size) ∧ (∀ w', Mod S w w' → Mod M w0 w') ∧ (∀ w', Mod S w w' → Sat w' H2 fun b => Fr M w0 b ∧ ¬ S b) ∧ ∀ w' H1', St S w w' H1' → St M w0 w' (H1' ++ H2) := by
  obtain ⟨T, hT, h1, h2⟩ := h.2.append
  have hM : ∀ w', Mod (fun b => T b ∧ b < w.heap.size) w w' → Mod M w0 w' := fun w' hm => h.1.trans hm fun b hb k => (hT b k.1).elim id fun k => absurd k (Nat.not_le.2 hb)
  refine ⟨fun b => T b ∧ b < w.heap.size, h1.mono fun b hb h => ⟨h, hb⟩, fun b h => h.2, hM, fun w' hm => h2.move hm.size fun b hb k => ⟨⟨k.1, fun k2 => k.2 k2.1⟩, hm.block b hb fun k2 => k.2 k2.1⟩, fun w' H1' hs => ⟨hM _ hs.1, ?_⟩⟩
  refine Sat.join (T := Fr (fun b => T b ∧ b < w.heap.size) w) (fun b hb => hb.elim (fun k => hT b k.1) fun k => .inr (Nat.le_trans h.1.size k)) hs.2 ?_
  refine h2.move hs.1.size fun b hb k => ⟨⟨k.1, ?_⟩, hs.1.block b hb fun k2 => k.2 k2.1⟩
  rintro (k2 | k2)
  · exact k.2 k2.1
  · omega
/-- A step that leaves all blocks that are there. -/
theorem St.below (h : St M w0 w H) (hb : Below w.heap.size w w') : St M w0 w' H := by
  obtain ⟨_, _, _, _, _, hB⟩ := St.lend (H1 := []) h
  exact hB w' [] ⟨Mod.of_below hb _, trivial⟩
/-- A call that only reads brings pieces. -/
theorem St.call (h : St M w0 w H) (hb : St NoB w w' H1) : St M w0 w' (H1 ++ H) := by
  obtain ⟨S, _, _, _, _, hB⟩ := St.lend (H1 := []) h
  exact hB w' H1 ⟨hb.1.mono fun _ _ h => h.elim, hb.2.mono fun b _ h => h.elim (fun k => k.elim) .inr⟩
/-- New blocks hold a piece. -/
theorem St.fresh {T : BS} (hb : Below w.heap.size w w') (hc : c.P w' T) (hT : ∀ b, b < w'.heap.size → T b → w.heap.size ≤ b) : St NoB w w' [c] :=
  ⟨Mod.of_below hb _, fun b => T b ∧ b < w'.heap.size, fun b k => .inr (hT b k.2 k.1), Cd.move hc (Nat.le_refl _) fun b hb k => ⟨⟨k, hb⟩, rfl⟩, trivial⟩
theorem St.new {T : BS} (h : St M w0 w H) (hb : Below w.heap.size w w') (hc : c.P w' T) (hT : ∀ b, b < w'.heap.size → T b → w.heap.size ≤ b) : St M w0 w' (c :: H) := h.call (St.fresh hb hc hT)
theorem St.newO {e : TypeId} {A : Option Addr} {base n cc : Nat} {xs : List Value} (h : St M w0 w H) (hb : Below w.heap.size w w') (hc : Ow w' base e A n cc xs) (hB : w.heap.size ≤ base) : St M w0 w' (.ow e A n cc xs :: H) :=
  h.new (T := fun b => w.heap.size ≤ b) (c := .ow e A n cc xs) hb ⟨fun a ha => Nat.le_trans hB (Ow.lt hc a ha).1, hc.mono (Nat.zero_le _)⟩ fun _ _ h => h
theorem St.newG {k : Nat} {e : TypeId} {A : Option Addr} {base cc : Nat} {S : BS} {els : List El} (h : St M w0 w H) (hb : Below w.heap.size w w') (hc : OwR k e w' base S A cc els) (hB : w.heap.size ≤ base) (hS : ∀ b, b < w'.heap.size → S b → w.heap.size ≤ b) : St M w0 w' (.rg k e A cc els :: H) :=
  h.new (T := fun b => w.heap.size ≤ b) (c := .rg k e A cc els) hb ⟨fun a ha => Nat.le_trans hB (OwR.lt hc a ha).1, hc.mono (Nat.zero_le _) hS⟩ fun _ _ h => h
theorem St.newA {g : Nat} {t : TypeId} {cs : List Value} (h : St M w0 w H) (hb : Below w.heap.size w w') (hg : w.heap.size ≤ g) (hc : Ar w' g t cs) : St M w0 w' (.blk g t cs :: H) :=
  h.new (T := fun b => w.heap.size ≤ b) (c := .blk g t cs) hb ⟨hg, hc⟩ fun _ _ h => h
/-- What a piece says. -/
theorem St.get (h : St M w0 w H) (i : Nat) (hi : nthC H i = some c) : ∃ T : BS, c.P w T ∧ (∀ b, T b → Fr M w0 b) := by
  obtain ⟨T, hT, hc, _⟩ := h.2.front hi
  exact ⟨T, hc, hT⟩
theorem St.ar {g : Nat} {t : TypeId} {cs : List Value} (h : St M w0 w H) (i : Nat) (hi : nthC H i = some (.blk g t cs)) : Ar w g t cs := by obtain ⟨T, hc, _⟩ := h.get i hi; exact hc.2
theorem St.ow {e : TypeId} {A : Option Addr} {n c : Nat} {xs : List Value} (h : St M w0 w H) (i : Nat) (hi : nthC H i = some (.ow e A n c xs)) : Ow w 0 e A n c xs := by obtain ⟨T, hc, _⟩ := h.get i hi; exact hc.2
theorem St.rg {k : Nat} {e : TypeId} {A : Option Addr} {c : Nat} {els : List El} (h : St M w0 w H) (i : Nat) (hi : nthC H i = some (.rg k e A c els)) : OwR k e w 0 All A c els := by obtain ⟨T, hc, _⟩ := h.get i hi; exact hc.2.mono (Nat.le_refl _) fun _ _ _ => trivial
theorem St.ce {E : El} {cs : List Value} (h : St M w0 w H) (i : Nat) (hi : nthC H i = some (.ce E cs)) : E.P w All cs := by obtain ⟨T, hc, _⟩ := h.get i hi; exact El.all hc
/-- One piece is written. -/
theorem St.upd (h : St M w0 w H) (i : Nat) (hi : nthC H i = some c) : ∃ T : BS, c.P w T ∧ (∀ b, T b → b < w.heap.size) ∧ ∀ w' c' (T' : BS), Mod T w w' → c'.P w' T' → (∀ b, b < w'.heap.size → T' b → T b ∨ w.heap.size ≤ b) → St M w0 w' (setC H i c') := by
  have h0 := h.front i hi
  obtain ⟨S, ⟨T, hT, hc, _⟩, hS, _, _, hB⟩ := St.lend (H1 := [c]) (H2 := delC H i) h0
  refine ⟨S, Cd.move hc (Nat.le_refl _) fun b _ k => ⟨hT b k, rfl⟩, hS, fun w' c' T' hm hc' hT' => ?_⟩
  have := hB w' [c'] ⟨hm, fun b => T' b ∧ b < w'.heap.size, fun b k => (hT' b k.2 k.1).elim .inl .inr, Cd.move hc' (Nat.le_refl _) fun b hb k => ⟨⟨k, hb⟩, rfl⟩, trivial⟩
  exact ⟨this.1, this.2.back hi⟩
theorem St.updA {g : Nat} {t : TypeId} {cs cs' : List Value} (h : St M w0 w H) (i : Nat) (hi : nthC H i = some (.blk g t cs)) (ha : Ar w' g t cs') (hg : Gr w w' (some ⟨g, 0, none⟩)) : St M w0 w' (setC H i (.blk g t cs')) := by
  obtain ⟨T, hc, hT, hK⟩ := h.upd i hi
  exact hK w' (.blk g t cs') T (Mod.of_gr hg fun a h => by cases h; exact hc.1) ⟨hc.1, ha⟩ fun _ _ h => .inl h
theorem at_in {A A' : Option Addr} {T : BS} (hat : A'.map (·.block) = A.map (·.block) ∨ ∀ a', A' = some a' → w.heap.size ≤ a'.block) (hA : ∀ a, A = some a → T a.block) : ∀ a, A' = some a → T a.block ∨ w.heap.size ≤ a.block := by
  rintro a rfl
  rcases hat with k | k
  · cases A with
    | none => simp at k
    | some a0 => simp at k; exact .inl (k ▸ hA a0 rfl)
  · exact .inr (k a rfl)
theorem at_new {A A' : Option Addr} (h : A'.map (·.block) = A.map (·.block) ∨ A'.map (·.block) = some w.heap.size) : A'.map (·.block) = A.map (·.block) ∨ ∀ a', A' = some a' → w.heap.size ≤ a'.block := h.imp id fun k a ha => by subst ha; simp at k; omega
theorem St.updO {e : TypeId} {A A' : Option Addr} {n n' c c' base : Nat} {xs xs' : List Value} (h : St M w0 w H) (i : Nat) (hi : nthC H i = some (.ow e A n c xs)) (ho : Ow w' base e A' n' c' xs') (hg : Gr w w' A)
    (hat : A'.map (·.block) = A.map (·.block) ∨ ∀ a', A' = some a' → w.heap.size ≤ a'.block) : St M w0 w' (setC H i (.ow e A' n' c' xs')) := by
  obtain ⟨T, hc, hT, hK⟩ := h.upd i hi
  exact hK w' (.ow e A' n' c' xs') (fun b => T b ∨ w.heap.size ≤ b) (Mod.of_gr hg hc.1) ⟨fun a ha => at_in hat hc.1 a ha, ho.mono (Nat.zero_le _)⟩ fun _ _ h => h
end
end Go.Proofs.Ytdgagffieobiiaa

/-
  The engine's rules over what a call holds: blocks are made, read and written, rows are made, appended to and set, and the list of pieces keeps count. Nothing here names the program.
-/
namespace Go.Proofs.Ytdgagffieobiiaa
open Go.RowKit

section
variable {P : Program} {N : Nat} {ops : Array Oper} {Q : Exit → Act → World → Prop} {rest : List Oper} {L : FL} {w0 w : World} {M : BS} {H : List Cd} {t e : TypeId} {g : Nat} {cs cs' : List Value} {z : Value} {bytes k : Nat}
/-! #### Blocks -/
theorem ws_st {x y : Operand} {ty : TypeId} {pos : String} {aft : Array Edge} {kk : Nat} {T : TypeId} {u : Value} (hs : St M w0 w H) (i : Nat) (hx : look L x = some (.pointer (some ⟨g, kk, none⟩))) (hi : nthC H i = some (.blk g T cs)) (E : Cell1 P e) (hk : Nat.blt kk cs.length = true)
    (hy : look L y = some u) (h1 : u.oneCell' = true)
    (h : ∀ w', St M w0 w' (setC H i (.blk g T (cs.set kk u))) → WL P N ops Q rest L w') :
    WL P N ops Q (⟨none, .store e x y, ty, pos, aft, none⟩ :: rest) L w :=
  wl_stA E (hs.ar i hi) hx (by simpa [Nat.blt_eq] using hk) hy h1 fun _ a2 g2 _ => h _ (hs.updA i hi a2 g2)
theorem ws_stS {x y : Operand} {ty T : TypeId} {pos : String} {aft : Array Edge} (hs : St M w0 w H) (i : Nat) (hx : look L x = some (.pointer (some ⟨g, 0, none⟩))) (hi : nthC H i = some (.blk g T cs)) (hy : look L y = some (.agg cs'.toArray)) (S : StT P t cs'.length) (hl : cs.length = cs'.length) (h1 : cs'.all (·.oneCell') = true)
    (h : ∀ w', St M w0 w' (setC H i (.blk g T cs')) → WL P N ops Q rest L w') :
    WL P N ops Q (⟨none, .store t x y, ty, pos, aft, none⟩ :: rest) L w :=
  wl_storeS S (hs.ar i hi) hx hy hl h1 fun _ a2 g2 _ => h _ (hs.updA i hi a2 g2)
theorem ws_box {d : Nat} {x : Operand} {ty : TypeId} {pos : String} {aft : Array Edge} (hs : St M w0 w H) (hx : look L x = some (.agg cs.toArray)) (hd : Nat.blt d N = true)
    (h : ∀ g w', St M w0 w' (.blk g t cs :: H) → WL P N ops Q rest ((d, .pointer (some ⟨g, 0, none⟩)) :: L) w') :
    WL P N ops Q (⟨some d, .box t x, ty, pos, aft, none⟩ :: rest) L w :=
  wl_box hx hd fun g _ hg a hb => h g _ (hs.newA hb hg a)
theorem ws_new {d : Nat} {ty : TypeId} {pos : String} {aft : Array Edge} (hs : St M w0 w H) (hz : (P.info? t).map (·.zero) = some (some (.agg cs.toArray))) (hd : Nat.blt d N = true)
    (h : ∀ g w', St M w0 w' (.blk g t cs :: H) → WL P N ops Q rest ((d, .pointer (some ⟨g, 0, none⟩)) :: L) w') :
    WL P N ops Q (⟨some d, .alloc t, ty, pos, aft, none⟩ :: rest) L w :=
  wl_new hz hd fun g _ hg a hb => h g _ (hs.newA hb hg a)
theorem ws_var {d : Nat} {x : Operand} {ty1 ty2 : TypeId} {p1 p2 : String} {f1 f2 : Array Edge} {zs : List Value} (hs : St M w0 w H) (hz : (P.info? t).map (·.zero) = some (some (.agg zs.toArray))) (S : StT P t cs.length) (hl : zs.length = cs.length)
    (hx : ∀ p, look ((d, p) :: L) x = some (.agg cs.toArray)) (h1 : cs.all (·.oneCell') = true) (hd : Nat.blt d N = true)
    (h : ∀ g w', St M w0 w' (.blk g t cs :: H) → WL P N ops Q rest ((d, .pointer (some ⟨g, 0, none⟩)) :: L) w') :
    WL P N ops Q (⟨some d, .alloc t, ty1, p1, f1, none⟩ :: ⟨none, .store t (.tmp d) x, ty2, p2, f2, none⟩ :: rest) L w :=
  wl_var hz S hl hx h1 hd fun g _ hg a hb => h g _ (hs.newA hb hg a)
/-! #### Rows of one cell an element -/
theorem ws_bs {d len : Nat} {ps : List (Nat × Operand)} {vs : List Value} {ty : TypeId} {pos : String} {aft : Array Edge} (hs : St M w0 w H) (T : Row1 P t e z bytes) (hp : PLooks L 0 ps vs) (hl : vs.length = len) (hle : len ≤ 16777216) (hd : Nat.blt d N = true)
    (h : ∀ A w', St M w0 w' (.ow e A len len vs :: H) → WL P N ops Q rest ((d, .slice A len len) :: L) w') :
    WL P N ops Q (⟨some d, .buildSlice t len ps.toArray, ty, pos, aft, none⟩ :: rest) L w :=
  wl_bs T hp hl hle hd fun A w' ho hb _ => h A w' (hs.newO hb ho (Nat.le_refl _))
theorem ws_mk {d : Nat} {x y : Operand} {ty : TypeId} {pos : String} {aft : Array Edge} {n c : Nat} {p q : Int} {k1 k2 : IntKind} (hs : St M w0 w H) (T : Row1 P t e z bytes) (hx : look L x = some (.int k1 p)) (hy : look L y = some (.int k2 q)) (hp : p = (n : Int)) (hq : q = (c : Int)) (hnc : n ≤ c)
    (hb : bytes * c ≤ 281474976710656) (hm : c ≤ maxLen) (hd : Nat.blt d N = true)
    (h : ∀ A w', St M w0 w' (.ow e A n c (List.replicate n z) :: H) → WL P N ops Q rest ((d, .slice A n c) :: L) w') :
    WL P N ops Q (⟨some d, .makeSlice t x y, ty, pos, aft, none⟩ :: rest) L w :=
  wl_mk T hx hy hp hq hnc hb hm hd fun A w' ho hb _ => h A w' (hs.newO hb ho (Nat.le_refl _))
theorem ws_app {d : Nat} {s x : Operand} {ty : TypeId} {pos : String} {aft : Array Edge} {A : Option Addr} {n c : Nat} {xs : List Value} {B : Option Addr} {m c' : Nat} {ys : List Value} (hs : St M w0 w H) (i : Nat) (hx0 : look L s = some (.slice A n c)) (hi : nthC H i = some (.ow e A n c xs)) (T : Row1 P t e z bytes)
    (hx : look L x = some (.slice B m c')) (hr : Rd w B m ys) (h1 : ∀ u ∈ ys, u.oneCell' = true)
    (hbytes : (n + m) * bytes ≤ 140737488355328) (hmax : n + m ≤ maxLen) (hd : Nat.blt d N = true)
    (h : ∀ A' c' w', St M w0 w' (setC H i (.ow e A' (n + m) c' (xs ++ ys))) → WL P N ops Q rest ((d, .slice A' (n + m) c') :: L) w') :
    WL P N ops Q (⟨some d, .call { callee := .builtin .append, args := #[s, x], argTypes := #[t, t] }, ty, pos, aft, none⟩ :: rest) L w :=
  wl_app T hx0 (hs.ow i hi) hx hr h1 hbytes hmax (Nat.zero_le _) hd fun A' c' w' ho hg hat => h A' c' w' (hs.updO i hi ho hg (at_new hat))
theorem ws_push {d1 d2 len : Nat} {ps : List (Nat × Operand)} {vs : List Value} {s : Operand} {ty1 ty2 : TypeId} {p1 p2 : String} {f1 f2 : Array Edge} {A : Option Addr} {n c : Nat} {xs : List Value} (hs : St M w0 w H) (i : Nat) (hx0 : look L s = some (.slice A n c)) (hi : nthC H i = some (.ow e A n c xs)) (T : Row1 P t e z bytes)
    (hp : PLooks L 0 ps vs) (hl : vs.length = len) (hle : len ≤ 16777216) (hs1 : look ((d1, .slice (some ⟨w.heap.size, 0, none⟩) len len) :: L) s = some (.slice A n c))
    (hbytes : (n + len) * bytes ≤ 140737488355328) (hmax : n + len ≤ maxLen) (hd1 : Nat.blt d1 N = true) (hd2 : Nat.blt d2 N = true)
    (h : ∀ p A' c' w', St M w0 w' (setC H i (.ow e A' (n + len) c' (xs ++ vs))) → WL P N ops Q rest ((d2, .slice A' (n + len) c') :: (d1, p) :: L) w') :
    WL P N ops Q (⟨some d1, .buildSlice t len ps.toArray, ty1, p1, f1, none⟩ :: ⟨some d2, .call { callee := .builtin .append, args := #[s, .tmp d1], argTypes := #[t, t] }, ty2, p2, f2, none⟩ :: rest) L w :=
  wl_push T hx0 (hs.ow i hi) hp hl hle hs1 hbytes hmax (Nat.zero_le _) hd1 hd2 fun p A' c' w' ho hg hat => h p A' c' w' (hs.updO i hi ho hg hat)
theorem ws_set {d1 : Nat} {x i y : Operand} {ty1 ty2 : TypeId} {p1 p2 : String} {f1 f2 : Array Edge} {A : Option Addr} {n c kk : Nat} {ik : IntKind} {q : Int} {u : Value} {xs : List Value} (hs : St M w0 w H) (j : Nat) (hx : look L x = some (.slice A n c)) (hj : nthC H j = some (.ow e A n c xs)) (T : Row1 P t e z bytes)
    (hi : look L i = some (.int ik q)) (hq : q = (kk : Int)) (hk : kk < n)
    (hy : ∀ p, look ((d1, p) :: L) y = some u) (h1 : u.oneCell' = true) (hd1 : Nat.blt d1 N = true)
    (h : ∀ p w', St M w0 w' (setC H j (.ow e A n c (xs.set kk u))) → WL P N ops Q rest ((d1, p) :: L) w') :
    WL P N ops Q (⟨some d1, .indexAddr t x i, ty1, p1, f1, none⟩ :: ⟨none, .store e (.tmp d1) y, ty2, p2, f2, none⟩ :: rest) L w :=
  wl_set T hx hi (hs.ow j hj) hq hk hy h1 hd1 fun p w' ho hg _ => h p w' (hs.updO j hj ho hg (.inl rfl))
/-! #### Rows of elements -/
/-- What is known by its cells alone. -/
def rawEl (cs : List Value) : El := ⟨fun _ _ cs' => cs' = cs, fun h _ _ => h⟩
theorem St.raw (hs : St M w0 w H) (cs : List Value) : St M w0 w (.ce (rawEl cs) cs :: H) := ⟨hs.1, NoB, fun _ h => h.elim, rfl, hs.2.mono fun _ _ h => ⟨h, id⟩⟩
theorem St.nilO (hs : St M w0 w H) (e : TypeId) : St M w0 w (.ow e none 0 0 [] :: H) := ⟨hs.1, NoB, fun _ h => h.elim, ⟨by simp, Ow.nil _ _ _⟩, hs.2.mono fun _ _ h => ⟨h, id⟩⟩
theorem St.nilG (hs : St M w0 w H) (k : Nat) (e : TypeId) : St M w0 w (.rg k e none 0 [] :: H) := ⟨hs.1, NoB, fun _ h => h.elim, ⟨by simp, OwR.nil _ _ _⟩, hs.2.mono fun _ _ h => ⟨h, id⟩⟩
/-- Pieces in front are told as one. -/
theorem St.pack {H1 : List Cd} (hs : St M w0 w (H1 ++ H)) (c : Cd) (h : ∀ w S, Sat w H1 S → c.P w S) : St M w0 w (c :: H) := by
  obtain ⟨T, hT, h1, h2⟩ := hs.2.append
  exact ⟨hs.1, T, hT, h _ _ h1, h2⟩
theorem Sat.split {c : Cd} {S : BS} (h : Sat w (c :: H) S) {H1 : List Cd} (hc : ∀ T, c.P w T → Sat w H1 T) : Sat w (H1 ++ H) S := by
  obtain ⟨T, hT, h1, h2⟩ := h
  exact Sat.join hT (hc _ h1) h2
theorem RdR.raw {w : World} {S : BS} {A : Option Addr} {css : List (List Value)} (h : RdR k w S A (css.map rawEl)) : Rd w A (css.length * k) css.flatten ∧ ∀ cs ∈ css, cs.length = k := by
  obtain ⟨css', h1, h2, _⟩ := h
  have he : css' = css := by
    apply List.ext_getElem?
    intro i
    cases hi : css'[i]? with
    | none => rw [List.getElem?_eq_none]; have := h1.1; rw [List.length_map] at this; have := List.getElem?_eq_none_iff.1 hi; omega
    | some cs =>
      obtain ⟨_, E, hE, hp⟩ := h1.2 i cs hi
      rw [List.getElem?_map] at hE
      cases hc : css[i]? with
      | none => rw [hc] at hE; cases hE
      | some x => rw [hc] at hE; cases hE; have hp' : cs = x := hp; rw [hp']
  subst he
  rw [List.length_map] at h2
  exact ⟨h2, h1.ks⟩
theorem grp_raw {w : World} {S : BS} {css : List (List Value)} (hk : ∀ cs ∈ css, cs.length = k) : Grp k w S (css.map rawEl) css := ⟨by simp, fun i cs hcs => ⟨hk cs (List.mem_of_getElem? hcs), rawEl cs, by simp [hcs], rfl⟩⟩
theorem OwR.raw {w : World} {S : BS} {A : Option Addr} {css : List (List Value)} {base c : Nat} (h : OwR k e w base S A c (css.map rawEl)) : w.ownsRow base e k (.slice A css.length c) css.length css.flatten ∧ ∀ cs ∈ css, cs.length = k := by
  obtain ⟨css', h1, h2⟩ := h
  have he : css' = css := by
    apply List.ext_getElem?
    intro i
    cases hi : css'[i]? with
    | none => rw [List.getElem?_eq_none]; have := h1.1; rw [List.length_map] at this; have := List.getElem?_eq_none_iff.1 hi; omega
    | some cs =>
      obtain ⟨_, E, hE, hp⟩ := h1.2 i cs hi
      rw [List.getElem?_map] at hE
      cases hc : css[i]? with
      | none => rw [hc] at hE; cases hE
      | some x => rw [hc] at hE; cases hE; have hp' : cs = x := hp; rw [hp']
  subst he
  rw [List.length_map] at h2
  exact ⟨h2, h1.ks⟩
/-- append(s, x...): elements that are known by their cells alone. -/
theorem ws_appR {d : Nat} {s x : Operand} {ty : TypeId} {pos : String} {aft : Array Edge} {A : Option Addr} {n c : Nat} {els : List El} {B : Option Addr} {m c' : Nat} {css : List (List Value)} {S' : BS} (hs : St M w0 w H) (i : Nat) (hx0 : look L s = some (.slice A n c)) (hi : nthC H i = some (.rg k e A c els)) (T : RowK P t e k z bytes)
    (hn : els.length = n) (hx : look L x = some (.slice B m c')) (hr : RdR k w S' B (css.map rawEl)) (hm : css.length = m) (h1 : ∀ u ∈ css.flatten, u.oneCell' = true)
    (hbytes : (n + m) * bytes ≤ 140737488355328) (hmax : n + m ≤ maxLen) (hd : Nat.blt d N = true)
    (h : ∀ A' c' w', St M w0 w' (setC H i (.rg k e A' c' (els ++ css.map rawEl))) → WL P N ops Q rest ((d, .slice A' (n + m) c') :: L) w') :
    WL P N ops Q (⟨some d, .call { callee := .builtin .append, args := #[s, x], argTypes := #[t, t] }, ty, pos, aft, none⟩ :: rest) L w := fun a ha => by
  subst hn hm
  obtain ⟨S, hc, hS, hK⟩ := hs.upd i hi
  obtain ⟨css0, hg, ho⟩ := hc.2
  obtain ⟨hr, hk⟩ := RdR.raw hr
  refine wpList_appG T rfl s x rfl (ha.eval hx0) ho (ha.eval hx) hr h1 hbytes hmax (Nat.zero_le _) fun A' c' w' ho' hgr hat => ?_
  refine h A' c' w' (hK w' (.rg k e A' c' (els ++ css.map rawEl)) (fun b => S b ∨ w.heap.size ≤ b) (Mod.of_gr hgr hc.1) ⟨fun a ha => at_in (at_new hat) hc.1 a ha, css0 ++ css, ?_, ?_⟩ fun _ _ h => h) _ (ha.put hd _)
  · have hg' : Grp k w (fun b => S b ∧ But A b) (css.map rawEl) css := grp_raw hk
    refine (hg.append hg').move hgr.size fun b hlt hb => ⟨⟨.inl hb.1, fun a' ha' => ?_⟩, hgr.block b hlt ?_⟩
    · subst ha'
      rcases hat with e | e
      · cases A with
        | none => simp at e
        | some a0 => simp only [Option.map_some, Option.some.injEq] at e; rw [e]; exact hb.2 a0 rfl
      · simp only [Option.map_some, Option.some.injEq] at e; omega
    · intro hk
      cases A with
      | none => simp at hk
      | some a0 => simp only [Option.map_some, Option.some.injEq] at hk; exact hb.2 a0 rfl hk
  · have : (els ++ css.map rawEl).length = els.length + css.length := by simp
    rw [this, List.flatten_append]; exact ho'
/-- append(s, x): an element that is known by its cells alone. -/
theorem ws_pushR {d1 d2 : Nat} {x : Operand} {s : Operand} {ty1 ty2 : TypeId} {p1 p2 : String} {f1 f2 : Array Edge} {A : Option Addr} {n c : Nat} {els : List El} (hs : St M w0 w H) (i : Nat) (hs1 : ∀ p, look ((d1, p) :: L) s = some (.slice A n c)) (hi : nthC H i = some (.rg k e A c els)) (T : RowK P t e k z bytes)
    (hn : els.length = n) (hx : ∃ v, look L x = some v ∧ v.cells = cs.toArray) (hl : cs.length = k) (h1 : cs.all (·.oneCell') = true) (hk : k ≤ 16777216)
    (hbytes : (n + 1) * bytes ≤ 140737488355328) (hmax : n + 1 ≤ maxLen) (hd1 : Nat.blt d1 N = true) (hd2 : Nat.blt d2 N = true)
    (h : ∀ p A' c' w', St M w0 w' (setC H i (.rg k e A' c' (els ++ [rawEl cs]))) → WL P N ops Q rest ((d2, .slice A' (n + 1) c') :: (d1, p) :: L) w') :
    WL P N ops Q (⟨some d1, .buildSlice t 1 #[(0, x)], ty1, p1, f1, none⟩ :: ⟨some d2, .call { callee := .builtin .append, args := #[s, .tmp d1], argTypes := #[t, t] }, ty2, p2, f2, none⟩ :: rest) L w := by
  obtain ⟨S, hc, hS, hK⟩ := hs.upd i hi
  refine wl_pushG (css' := [cs]) (els' := [rawEl cs]) (ps := [(0, x)]) T hs1 hc.2 hn ⟨rfl, hx, hl, trivial⟩ (grp_raw (css := [cs]) (by simpa using hl)) rfl (by simpa using h1) (by simpa using hk) (by decide) hbytes hmax (Nat.zero_le _) hd1 hd2 fun p A' c' w' hO hG hat => h p A' c' w' ?_
  exact hK w' (.rg k e A' c' (els ++ [rawEl cs])) (fun b => S b ∨ w.heap.size ≤ b) (Mod.of_gr hG hc.1) ⟨fun a ha => at_in hat hc.1 a ha, hO.mono (Nat.le_refl _) fun b _ h => .inl h⟩ fun _ _ h => h
/-- A beginning of a row. -/
theorem OwR.pre {w : World} {S : BS} {A : Option Addr} {base c m : Nat} {els : List El} (h : OwR k e w base S A c els) (hm : m ≤ els.length) : OwR k e w base S A c (els.take m) := by
  obtain ⟨css, hg, ho⟩ := h
  have hl : (els.take m).length = m := by simp; omega
  refine ⟨css.take m, hg.take m, ?_⟩
  rw [hl]
  refine ⟨by have := (hg.take m).len; rw [hl] at this; exact this, ?_⟩
  rcases ho.2 with ⟨hv, hn⟩ | ⟨g, cap, cur, hv, hg', h1, h2, h3, h4, h5⟩
  · injection hv with hA _ hc
    have : m = 0 := by omega
    subst this
    exact .inl ⟨by rw [hA, hc], rfl⟩
  · injection hv with hA _ hc
    subst hA hc
    refine .inr ⟨g, c, cur, rfl, hg', h1, by omega, h3, h4, ?_⟩
    rw [← flat_take m hg.ks, ← h5, List.take_take, Nat.min_eq_left (Nat.mul_le_mul_right _ hm)]
theorem St.pre {A : Option Addr} {c m : Nat} {els : List El} (hs : St M w0 w (.rg k e A c els :: H)) (hm : m ≤ els.length) : St M w0 w (.rg k e A c (els.take m) :: H) := by
  obtain ⟨T, hT, hc, hr⟩ := hs.2
  exact ⟨hs.1, T, hT, ⟨hc.1, hc.2.pre hm⟩, hr⟩
end
end Go.Proofs.Ytdgagffieobiiaa

/-
  The bytes of a constant string, over pieces: made, marked, and read from then on. Nothing here names the program.
-/
namespace Go.Proofs.Ytdgagffieobiiaa
open Go.RowKit

section
variable {P : Program} {N : Nat} {ops : Array Oper} {Q : Exit → Act → World → Prop} {rest : List Oper} {L : FL} {w0 w : World} {M : BS} {H : List Cd} {t e : TypeId} {bytes : Nat}
end
end Go.Proofs.Ytdgagffieobiiaa

/-
  Maps with string keys as pieces: made, asked, written, robbed of an entry, gone through. Nothing here names the program.
-/
namespace Go.Proofs.Ytdgagffieobiiaa
open Go.RowKit

def mpC (b : Nat) (es : List ME) (clk : Nat) : Ck := ⟨fun w S => S b ∧ Mp w b es clk, fun ⟨h1, h2⟩ _ hm => ⟨(hm b h2.lt h1).1, (hm b h2.lt h1).2.trans h2⟩⟩
section
variable {P : Program} {N : Nat} {ops : Array Oper} {Q : Exit → Act → World → Prop} {rest : List Oper} {L : FL} {w0 w : World} {M : BS} {H : List Cd} {t e kt : TypeId} {b clk : Nat} {es : List ME} {k : List UInt8}
theorem St.mp (h : St M w0 w H) (i : Nat) (hi : nthC H i = some (.ck (mpC b es clk))) : Mp w b es clk := by obtain ⟨T, hc, _⟩ := h.get i hi; exact hc.2
theorem ws_mkMap {d : Nat} {ty : TypeId} {pos : String} {aft : Array Edge} (hs : St M w0 w H) (hd : Nat.blt d N = true)
    (h : ∀ g w', St M w0 w' (.ck (mpC g [] 0) :: H) → WL P N ops Q rest ((d, .map (some g)) :: L) w') :
    WL P N ops Q (⟨some d, .makeMap t none, ty, pos, aft, none⟩ :: rest) L w :=
  wl_mkMap hd fun g w' hg hm hb => h g w' (hs.new (T := fun b => b = g) (c := .ck (mpC g [] 0)) hb ⟨rfl, hm⟩ fun b _ e => e ▸ hg)
theorem ws_mput {m y z : Operand} {ty : TypeId} {pos : String} {aft : Array Edge} {v : Value} (hs : St M w0 w H) (i : Nat) (hi : nthC H i = some (.ck (mpC b es clk))) (ht : P.underlying t = some (.map kt e)) (hk : P.underlying kt = some .string) (hx : look L m = some (.map (some b))) (hy : look L y = some (str k)) (hz : look L z = some v)
    (h : ∀ w', St M w0 w' (setC H i (.ck (mpC b (mput es clk k v).1 (mput es clk k v).2))) → WL P N ops Q rest L w') :
    WL P N ops Q (⟨none, .mapUpdate t m y z, ty, pos, aft, none⟩ :: rest) L w := by
  refine wl_mput ht hk hx hy hz (hs.mp i hi) fun w' hm hg hsz => h w' ?_
  obtain ⟨T, hc, hT, hK⟩ := hs.upd i hi
  exact hK w' (.ck (mpC b (mput es clk k v).1 (mput es clk k v).2)) T (Mod.of_gr hg fun a ha => by cases ha; exact hc.1) ⟨hc.1, hm⟩ fun _ _ h => .inl h
/-- A map is asked, and told whether it has it. -/
theorem opv_lookup2 {x y : Operand} {ty : TypeId} {z : Value} (ht : P.underlying t = some (.map kt e)) (hk : P.underlying kt = some .string) (hz : (P.info? e).map (·.zero) = some (some z)) (hx : look L x = some (.map (some b))) (hy : look L y = some (str k)) (hm : Mp w b es clk) :
    OpV P (.lookup t x y true) ty L w (.tuple #[(mget es k).getD z, .bool (mget es k).isSome]) w := fun ρ o hρ ho _ => by
  have hzr : (zeroValue e).run P w = .ok z w := by
    cases hq : P.info? e with
    | none => simp [hq] at hz
    | some i => have : i.zero = some z := by simpa [hq] using hz
                simp [zeroValue, typeInfo, hq, this]
  have hg : (getObj b).run P w = .ok (.map (es.map toE).toArray clk) w := by simp [getObj, Sem.run, show w.heap[b]? = _ from hm]
  have hck : ∀ em, (Instr.checkKey em 10000 kt (str k)).run P w = .ok () w := fun em => MapKept.run_checkKey hk (show MapKept.IsKey .string (str k) from trivial) em 9999
  unfold execOp
  simp only [ho, Instr.lookup, Sem.run_bind, run_underlying ht, Result.andThen_ok, hρ x _ hx, hρ y _ hy, hg, hck, Sem.run_pure]
  rw [run_findKey hk]
  unfold mget
  cases fnd k es 0 with
  | none => simp [hzr]
  | some p => simp
theorem opv_lookupN {x y : Operand} {ty : TypeId} {z : Value} {c : Bool} (ht : P.underlying t = some (.map kt e)) (hk : P.underlying kt = some .string) (hz : (P.info? e).map (·.zero) = some (some z)) (hx : look L x = some (.map none)) (hy : look L y = some (str k)) :
    OpV P (.lookup t x y c) ty L w (if c then .tuple #[z, .bool false] else z) w := fun ρ o hρ ho _ => by
  have hzr : (zeroValue e).run P w = .ok z w := by
    cases hq : P.info? e with
    | none => simp [hq] at hz
    | some i => have : i.zero = some z := by simpa [hq] using hz
                simp [zeroValue, typeInfo, hq, this]
  have hck : ∀ em, (Instr.checkKey em 10000 kt (str k)).run P w = .ok () w := fun em => MapKept.run_checkKey hk (show MapKept.IsKey .string (str k) from trivial) em 9999
  have hf : (Instr.findKey kt (str k) []).run P w = .ok none w := run_findKey (es := []) hk
  unfold execOp
  simp only [ho, Instr.lookup, Sem.run_bind, run_underlying ht, Result.andThen_ok, hρ x _ hx, hρ y _ hy, hck, Sem.run_pure, hf]
  cases c <;> simp [hzr]
/-- Is a map nil? -/
theorem bin_eqlMapNil (ht : P.underlying t = some (.map kt e)) : BinV P .eql t (.map (some b)) (.map none) (.bool false) := .mk fun x y w => by
  have h : ∀ d : Nat, (Op.equalIn (d + 1) t (.map (some b)) (.map none)).run P w = .ok false w := fun d => by simp [Op.equalIn, run_underlying ht]
  simp [eqGuard, binOp, Op.equal, Op.maxDepth, h 9999]
theorem bin_eqlMapNN (ht : P.underlying t = some (.map kt e)) : BinV P .eql t (.map none) (.map none) (.bool true) := .mk fun x y w => by
  have h : ∀ d : Nat, (Op.equalIn (d + 1) t (.map none) (.map none)).run P w = .ok true w := fun d => by simp [Op.equalIn, run_underlying ht]
  simp [eqGuard, binOp, Op.equal, Op.maxDepth, h 9999]
end
end Go.Proofs.Ytdgagffieobiiaa

/-
  The engine's rules for calls through an interface value, and for elements of rows that are known by their cells and are written in place. Nothing here names the program.
-/
namespace Go.Proofs.Ytdgagffieobiiaa
open Go.RowKit

section
variable {P : Program} {N : Nat} {ops : Array Oper} {Q : Exit → Act → World → Prop} {rest : List Oper} {L : FL} {w : World}
end

/-! #### Rows that are known by their cells, written in place -/
section
variable {P : Program} {N : Nat} {ops : Array Oper} {Q : Exit → Act → World → Prop} {rest : List Oper} {L : FL} {w0 w : World} {M : BS} {H : List Cd} {t e : TypeId} {g : Nat} {cs cs' : List Value} {z : Value} {bytes k : Nat}
/-- A row of the call's own that is known by its cells, where it has elements, lies at the start of a block. -/
theorem OwR.form {S : BS} {A : Option Addr} {base c : Nat} {els : List El} (h : OwR k e w base S A c els) (hn : 0 < els.length) : ∃ g, A = some ⟨g, 0, none⟩ := by
  obtain ⟨css, _, h2⟩ := h
  rcases h2.2 with ⟨hv, h0⟩ | ⟨g, cap, cur, hv, _⟩
  · omega
  · injection hv with hA; exact ⟨g, hA⟩
end
end Go.Proofs.Ytdgagffieobiiaa

/-
  Rows whose elements lie apart from one another; pieces told as one; bytes of one's own whose values are not known. Nothing here names the program.
-/
namespace Go.Proofs.Ytdgagffieobiiaa
open Go.RowKit

/-- Pieces told as one. -/
def packC (H : List Cd) : Ck := ⟨fun w S => Sat w H S, fun h hz hm => h.move hz hm⟩
/-- Elements and their cells, piece by piece. -/
def zipCe : List El → List (List Value) → List Cd
  | E :: els, cs :: css => .ce E cs :: zipCe els css
  | _, _ => []
/-- A row of the call's own whose elements lie apart. -/
def rsC (k : Nat) (e : TypeId) (A : Option Addr) (c : Nat) (els : List El) : Ck := ⟨fun w S => ∃ css : List (List Value), css.length = els.length ∧ Sat w (.rg k e A c (css.map rawEl) :: zipCe els css) S, fun ⟨css, hl, h⟩ hz hm => ⟨css, hl, h.move hz hm⟩⟩
theorem zipCe_grp {k : Nat} {w : World} : ∀ {els : List El} {css : List (List Value)} {S : BS}, Sat w (zipCe els css) S → css.length = els.length → (∀ cs ∈ css, cs.length = k) → Grp k w S els css
  | [], [], S, _, _, _ => Grp.nil _ _ _
  | E :: els, cs :: css, S, ⟨T, hT, hc, hr⟩, h, hk => by
    have h1 := zipCe_grp hr (by simpa using h) fun cs hcs => hk cs (List.mem_cons_of_mem _ hcs)
    exact (Grp.one (El.mono hc fun b _ h => hT b h) (hk cs List.mem_cons_self)).append (h1.mono fun b _ h => h.1)
  | [], _ :: _, _, _, h, _ => by simp at h
  | _ :: _, [], _, _, h, _ => by simp at h
section
variable {w0 w : World} {M : BS} {H H1 H2 : List Cd} {k : Nat} {e : TypeId} {A : Option Addr} {c : Nat} {els : List El}
theorem Sat.permL {w : World} {H H' : List Cd} (p : H.Perm H') : ∀ {S : BS}, Sat w H S → Sat w H' S := by
  induction p with
  | nil => intro S h; exact h
  | cons c _ ih => rintro S ⟨T, hT, hc, hr⟩; exact ⟨T, hT, hc, ih hr⟩
  | swap a b H => intro S h; exact h.front (i := 1) rfl
  | trans _ _ ih1 ih2 => intro S h; exact ih2 (ih1 h)
theorem Sat.mapC {w : World} {c c' : Cd} {H : List Cd} {S : BS} (h : Sat w (c :: H) S) (hc : ∀ T, c.P w T → c'.P w T) : Sat w (c' :: H) S := by
  obtain ⟨T, hT, h1, h2⟩ := h
  exact ⟨T, hT, hc T h1, h2⟩
theorem Sat.dropC {w : World} {c : Cd} {H : List Cd} {S : BS} (h : Sat w (c :: H) S) : Sat w H S := by
  obtain ⟨T, hT, h1, h2⟩ := h
  exact h2.mono fun _ _ h => h.1
/-- Where the elements lie apart, the row is a row of elements too. -/
theorem rs_rg {T : BS} (h : (rsC k e A c els).P w T) : (Cd.rg k e A c els).P w T := by
  obtain ⟨css, hl, T1, hT1, h1, h2⟩ := h
  obtain ⟨ho, hk⟩ := OwR.raw h1.2
  refine ⟨fun a ha => hT1 _ (h1.1 a ha), css, (zipCe_grp h2 hl hk).mono fun b _ h => ⟨h.1, fun a ha hb => h.2 (by rw [hb]; exact h1.1 a ha)⟩, by rw [← hl]; exact ho⟩
theorem St.weak (hs : St M w0 w (.ck (rsC k e A c els) :: H)) : St M w0 w (.rg k e A c els :: H) := hs.map fun _ h => h.mapC fun _ h => rs_rg h
end
section
variable {P : Program} {N : Nat} {ops : Array Oper} {Q : Exit → Act → World → Prop} {rest : List Oper} {L : FL} {w0 w : World} {M : BS} {H : List Cd} {t e : TypeId} {cs : List Value} {z : Value} {bytes k : Nat}
end
end Go.Proofs.Ytdgagffieobiiaa

/-
  Disks: a plain model, the types, and a disk as one piece.
-/
namespace Go.Proofs.Ytdgagffieobiiaa
open Go.RowKit

/-! ### Plain -/
structure Fl where
  data : List UInt8
  safe : Nat
abbrev Fs := List (List UInt8 × Fl)
structure Dk where
  fs : Fs
  room : Nat
  armed : Bool
  left : Int
  dead : Bool
def getF (n : List UInt8) : Fs → Option Fl
  | [] => none
  | p :: fs => if p.1 = n then some p.2 else getF n fs
def putF (n : List UInt8) (f : Fl) : Fs → Fs
  | [] => [(n, f)]
  | p :: fs => if p.1 = n then (n, f) :: fs else p :: putF n f fs
def used (fs : Fs) : Nat := (fs.map fun p => p.2.data.length).sum
def turnD (d : Dk) (e : Nat) : Bool × Nat × Dk :=
  if d.dead = true then (false, 9, d) else if e ≠ 0 then (false, e, d) else if d.armed = true ∧ d.left = 0 then (false, 9, { d with dead := true })
  else if d.armed = true then (true, 0, { d with left := d.left - 1 }) else (true, 0, d)
def thereD (d : Dk) (n : List UInt8) : Nat := if (getF n d.fs).isSome then 0 else 6
def fileD (d : Dk) (n : List UInt8) : Fl := (getF n d.fs).getD ⟨[], 0⟩
def putD (d : Dk) (n : List UInt8) (f : Fl) : Dk := { d with fs := putF n f d.fs }
def appD (d : Dk) (n b : List UInt8) : Dk × Nat :=
  let t := turnD d (if d.room < used d.fs + b.length then 8 else 0)
  (if t.1 = true ∨ t.2.2.dead = true ∧ d.dead = false then putD t.2.2 n ⟨(fileD t.2.2 n).data ++ b, (fileD t.2.2 n).safe⟩ else t.2.2, t.2.1)
def syncD (d : Dk) (n : List UInt8) : Dk × Nat :=
  let t := turnD d (thereD d n)
  (if t.1 = true then putD t.2.2 n ⟨(fileD t.2.2 n).data, (fileD t.2.2 n).data.length⟩ else t.2.2, t.2.1)
def cutD (d : Dk) (n : List UInt8) (k : Int) : Dk × Nat :=
  let t := turnD d (if k < 0 ∨ thereD d n = 0 ∧ ((fileD d n).data.length : Int) < k then 1 else thereD d n)
  (if t.1 = true then putD t.2.2 n ⟨(fileD t.2.2 n).data.take k.toNat, k.toNat⟩ else t.2.2, t.2.1)
def readD (d : Dk) (n : List UInt8) : List UInt8 × Nat := if d.dead = true then ([], 9) else if thereD d n ≠ 0 then ([], thereD d n) else ((fileD d n).data, 0)
def keepN (keeps : List Int) (i tail : Nat) : Nat := match keeps[i % keeps.length]? with | some k => (max 0 k).toNat % (tail + 1) | none => 0
def crashF (keeps : List Int) : Nat → List (List UInt8) → Fs → Fs
  | _, [], fs => fs
  | i, n :: ns, fs =>
    let f := (getF n fs).getD ⟨[], 0⟩
    if f.data.length - f.safe = 0 then crashF keeps i ns fs
    else
      let e := f.safe + keepN keeps i (f.data.length - f.safe)
      crashF keeps (i + 1) ns (putF n ⟨f.data.take e, e⟩ fs)
/-- What is known of a disk. -/
structure DkOk (d : Dk) : Prop where
  safe : ∀ p ∈ d.fs, p.2.safe ≤ p.2.data.length
  room : d.room ≤ 1099511627776
  used : used d.fs ≤ d.room
  left : -9223372036854775808 ≤ d.left ∧ d.left ≤ 9223372036854775807 ∧ (d.armed = true → 0 ≤ d.left)
theorem turnD_fs (d : Dk) (e : Nat) : (turnD d e).2.2.fs = d.fs ∧ (turnD d e).2.2.room = d.room := by
  unfold turnD; split; exact ⟨rfl, rfl⟩; split; exact ⟨rfl, rfl⟩; split; exact ⟨rfl, rfl⟩; split <;> exact ⟨rfl, rfl⟩
theorem DkOk.turn {d : Dk} (h : DkOk d) (e : Nat) : DkOk (turnD d e).2.2 := by
  obtain ⟨h1, h2⟩ := turnD_fs d e
  refine ⟨by rw [h1]; exact h.safe, by rw [h2]; exact h.room, by rw [h1, h2]; exact h.used, ?_⟩
  have hl := h.left
  unfold turnD
  split; exact hl; split; exact hl; split; exact hl; split
  · rename_i h1 h2 h3 h4
    have := hl.2.2 h4
    have h5 : ¬ d.left = 0 := fun h => h3 ⟨h4, h⟩
    exact ⟨show -9223372036854775808 ≤ d.left - 1 by omega, show d.left - 1 ≤ 9223372036854775807 by omega, fun _ => show 0 ≤ d.left - 1 by omega⟩
  · exact hl
theorem used_cons (p : List UInt8 × Fl) (fs : Fs) : used (p :: fs) = p.2.data.length + used fs := by simp [used]
theorem getF_le {n : List UInt8} {f : Fl} : ∀ {fs : Fs}, getF n fs = some f → f.data.length ≤ used fs
  | [], h => by cases h
  | p :: fs, h => by
    unfold getF at h
    rw [used_cons]
    split at h
    · cases h; omega
    · have := getF_le h; omega
theorem getF_mem {n : List UInt8} {f : Fl} : ∀ {fs : Fs}, getF n fs = some f → (n, f) ∈ fs
  | [], h => by cases h
  | p :: fs, h => by
    unfold getF at h
    split at h
    · rename_i hp; cases h; subst hp; exact List.mem_cons_self
    · exact List.mem_cons_of_mem _ (getF_mem h)
theorem used_put {n : List UInt8} {f : Fl} : ∀ (fs : Fs), used (putF n f fs) + ((getF n fs).getD ⟨[], 0⟩).data.length = used fs + f.data.length
  | [] => by simp [putF, getF, used]
  | p :: fs => by
    unfold putF getF
    by_cases h : p.1 = n
    · rw [if_pos h, if_pos h, used_cons, used_cons]; simp; omega
    · rw [if_neg h, if_neg h, used_cons, used_cons]; have := used_put (n := n) (f := f) fs; omega
theorem put_mem {n : List UInt8} {f : Fl} {p : List UInt8 × Fl} : ∀ {fs : Fs}, p ∈ putF n f fs → p = (n, f) ∨ p ∈ fs
  | [], h => by simp [putF] at h; exact .inl h
  | q :: fs, h => by
    unfold putF at h
    split at h
    · rcases List.mem_cons.1 h with h | h
      · exact .inl h
      · exact .inr (List.mem_cons_of_mem _ h)
    · rcases List.mem_cons.1 h with h | h
      · exact .inr (h ▸ List.mem_cons_self)
      · rcases put_mem h with h | h
        · exact .inl h
        · exact .inr (List.mem_cons_of_mem _ h)
theorem fileD_safe {d : Dk} (h : ∀ p ∈ d.fs, p.2.safe ≤ p.2.data.length) (n : List UInt8) : (fileD d n).safe ≤ (fileD d n).data.length := by
  unfold fileD
  cases hg : getF n d.fs with
  | none => simp
  | some f => exact h _ (getF_mem hg)
theorem fileD_le (d : Dk) (n : List UInt8) : (fileD d n).data.length ≤ used d.fs := by
  unfold fileD
  cases hg : getF n d.fs with
  | none => simp
  | some f => exact getF_le hg

/-! ### Types -/
theorem d1_bool : Cell1 Try.prog 4 := ⟨by kernel_rfl, by rw [Try.underlying4]⟩
theorem d1_int : Cell1 Try.prog 3 := ⟨by kernel_rfl, by rw [Try.underlying3]⟩
theorem d1_by : Cell1 Try.prog 30 := ⟨by kernel_rfl, by rw [Try.underlying30]⟩
theorem d1_map : Cell1 Try.prog 65 := ⟨by kernel_rfl, by rw [Try.underlying65]⟩
theorem tyDM : Try.prog.underlying 65 = some (.map 9 72) := Try.underlying65
theorem fa_D0 : FieldAt Try.prog 67 0 0 := fieldAt_mk Try.underlying67 rfl rfl (by kernel_rfl)
theorem fa_D1 : FieldAt Try.prog 67 1 1 := fieldAt_mk Try.underlying67 rfl rfl (by kernel_rfl)
theorem fa_D2 : FieldAt Try.prog 67 2 2 := fieldAt_mk Try.underlying67 rfl rfl (by kernel_rfl)
theorem fa_D3 : FieldAt Try.prog 67 3 3 := fieldAt_mk Try.underlying67 rfl rfl (by kernel_rfl)
theorem fa_D4 : FieldAt Try.prog 67 4 4 := fieldAt_mk Try.underlying67 rfl rfl (by kernel_rfl)
theorem sF : StT Try.prog 72 2 := ⟨by kernel_rfl, by kernel_rfl⟩
theorem fa_F0 : FieldAt Try.prog 72 0 0 := fieldAt_mk Try.underlying72 rfl rfl (by kernel_rfl)
theorem fa_F1 : FieldAt Try.prog 72 1 1 := fieldAt_mk Try.underlying72 rfl rfl (by kernel_rfl)
theorem fa_sD {k : Nat} (h : k < 5) : FieldAt Try.prog 67 k k := by
  match k, h with
  | 0, _ => exact fa_D0
  | 1, _ => exact fa_D1
  | 2, _ => exact fa_D2
  | 3, _ => exact fa_D3
  | 4, _ => exact fa_D4
theorem fa_sF {k : Nat} (h : k < 2) : FieldAt Try.prog 72 k k := by
  match k, h with
  | 0, _ => exact fa_F0
  | 1, _ => exact fa_F1
theorem tyStrD : Try.prog.underlying 9 = some .string := Try.underlying9
def zF : List Value := [.slice none 0 0, .int .i64 0]
theorem zeroF : (Try.prog.info? 72).map (·.zero) = some (some (.agg zF.toArray)) := by kernel_rfl

/-! ### A disk in memory -/
structure FE where
  nm : List UInt8
  A : Option Addr
  c : Nat
  f : Fl
  born : Nat
def flV (f : Fl) (A : Option Addr) (c : Nat) : List Value := [.slice A f.data.length c, .int .i64 (f.safe : Int)]
def FE.me (x : FE) : ME := (x.nm, .agg (flV x.f x.A x.c).toArray, x.born)
def FE.pl (x : FE) : List UInt8 × Fl := (x.nm, x.f)
def FE.cd (x : FE) : Cd := .ow 5 x.A x.f.data.length x.c (bvs x.f.data)
structure DkI (fs : Fs) (xs : List FE) (clk : Nat) : Prop where
  fs : xs.map FE.pl = fs
  nd : (xs.map (·.nm)).Nodup
  old : ∀ x ∈ xs, x.born < clk
  bn : (xs.map (·.born)).Nodup
def dkV (d : Dk) (b : Option Nat) : List Value := [.map b, .int .i64 (d.room : Int), .bool d.armed, .int .i64 d.left, .bool d.dead]
def flC (xs : List FE) : Ck := packC (xs.map FE.cd)
def dkC (g : Nat) (d : Dk) : Ck := ⟨fun w S => (d.fs = [] ∧ Sat w [.blk g 67 (dkV d none)] S) ∨ ∃ m xs clk, DkI d.fs xs clk ∧ Sat w [.blk g 67 (dkV d (some m)), .ck (mpC m (xs.map FE.me) clk), .ck (flC xs)] S,
  fun h hz hm => h.elim (fun h => .inl ⟨h.1, h.2.move hz hm⟩) fun ⟨m, xs, clk, h1, h2⟩ => .inr ⟨m, xs, clk, h1, h2.move hz hm⟩⟩
/-- A disk, read. -/
def RdD (w : World) (g : Nat) (d : Dk) : Prop := (d.fs = [] ∧ Ar w g 67 (dkV d none)) ∨ ∃ m xs clk, DkI d.fs xs clk ∧ Ar w g 67 (dkV d (some m)) ∧ Mp w m (xs.map FE.me) clk ∧ ∀ x ∈ xs, RdB w x.A x.f.data ∧ x.f.data.length ≤ x.c
theorem RdD.below {w w' : World} {g : Nat} {d : Dk} (h : RdD w g d) (hb : Below w.heap.size w w') : RdD w' g d := by
  rcases h with ⟨h1, h2⟩ | ⟨m, xs, clk, h1, h2, h3, h4⟩
  · exact .inl ⟨h1, h2.below hb (Nat.le_refl _)⟩
  · exact .inr ⟨m, xs, clk, h1, h2.below hb (Nat.le_refl _), h3.bel hb, fun x hx => ⟨(h4 x hx).1.below hb, (h4 x hx).2⟩⟩
/-- A name among the files. -/
theorem fnd_split (k : List UInt8) : ∀ (xs : List FE) (i : Nat), (fnd k (xs.map FE.me) i = none ∧ getF k (xs.map FE.pl) = none ∧ k ∉ xs.map (·.nm)) ∨
    ∃ X x Y, xs = X ++ x :: Y ∧ x.nm = k ∧ k ∉ X.map (·.nm) ∧ fnd k (xs.map FE.me) i = some (i + X.length, .agg (flV x.f x.A x.c).toArray) ∧ getF k (xs.map FE.pl) = some x.f
  | [], i => .inl ⟨rfl, rfl, by simp⟩
  | x :: xs, i => by
    by_cases hk : x.nm = k
    · exact .inr ⟨[], x, xs, rfl, hk, by simp, by simp [fnd, FE.me, hk], by simp [getF, FE.pl, hk]⟩
    · have hk' : ¬ k = x.nm := fun h => hk h.symm
      rcases fnd_split k xs (i + 1) with ⟨h1, h2, h3⟩ | ⟨X, y, Y, rfl, h2, h3, h4, h5⟩
      · exact .inl ⟨by simpa [fnd, FE.me, hk'] using h1, by simpa [getF, FE.pl, hk] using h2, by simpa [hk'] using h3⟩
      · refine .inr ⟨x :: X, y, Y, rfl, h2, by simpa [hk'] using h3, ?_, by simpa [getF, FE.pl, hk] using h5⟩
        simp only [List.map_cons, fnd, FE.me, if_neg hk']
        rw [show i + (x :: X).length = i + 1 + X.length by simp; omega]
        exact h4
theorem modify_mid {α : Type} (f : α → α) (x : α) (Y : List α) : ∀ X : List α, (X ++ x :: Y).modify X.length f = X ++ f x :: Y
  | [] => rfl
  | y :: X => by simp [modify_mid f x Y X]
theorem mput_new {k : List UInt8} {xs : List FE} {clk : Nat} (h : fnd k (xs.map FE.me) 0 = none) (A : Option Addr) (c : Nat) (f : Fl) :
    mput (xs.map FE.me) clk k (.agg (flV f A c).toArray) = ((xs ++ [(⟨k, A, c, f, clk⟩ : FE)]).map FE.me, clk + 1) := by simp [mput, h, FE.me]
theorem mput_old {k : List UInt8} {X Y : List FE} {x : FE} {clk : Nat} (h : fnd k ((X ++ x :: Y).map FE.me) 0 = some (0 + X.length, .agg (flV x.f x.A x.c).toArray)) (hk : x.nm = k) (A : Option Addr) (c : Nat) (f : Fl) :
    mput ((X ++ x :: Y).map FE.me) clk k (.agg (flV f A c).toArray) = ((X ++ (⟨k, A, c, f, x.born⟩ : FE) :: Y).map FE.me, clk) := by
  unfold mput
  rw [h]
  simp only [Nat.zero_add, List.map_append, List.map_cons, Prod.mk.injEq, and_true]
  have e : X.length = (X.map FE.me).length := by simp
  rw [e, modify_mid]
  rfl
theorem DkI.new {fs : Fs} {xs : List FE} {clk : Nat} (h : DkI fs xs clk) {k : List UInt8} (hk : k ∉ xs.map (·.nm)) (hg : getF k fs = none) (A : Option Addr) (c : Nat) (f : Fl) : DkI (putF k f fs) (xs ++ [⟨k, A, c, f, clk⟩]) (clk + 1) := by
  have hp : ∀ fs : Fs, getF k fs = none → putF k f fs = fs ++ [(k, f)] := by
    intro fs
    induction fs with
    | nil => intro _; rfl
    | cons p fs ih =>
      intro h
      unfold getF at h
      unfold putF
      split at h
      · cases h
      · rename_i hn; rw [if_neg hn, ih h]; rfl
  refine ⟨by rw [hp fs hg, List.map_append, h.fs]; rfl, ?_, ?_, ?_⟩
  · rw [List.map_append, List.nodup_append]
    refine ⟨h.nd, by simp, ?_⟩
    intro a ha b hb
    simp at hb
    subst hb
    exact fun e => hk (e ▸ ha)
  · intro x hx
    rcases List.mem_append.1 hx with hx | hx
    · have := h.old x hx; omega
    · simp at hx; subst hx; exact Nat.lt_succ_self clk
  · rw [List.map_append, List.nodup_append]
    refine ⟨h.bn, by simp, ?_⟩
    intro a ha b hb
    simp at hb
    subst hb
    obtain ⟨x, hx, rfl⟩ := List.mem_map.1 ha
    exact Nat.ne_of_lt (h.old x hx)
theorem DkI.old' {fs : Fs} {X Y : List FE} {x : FE} {clk : Nat} (h : DkI fs (X ++ x :: Y) clk) {k : List UInt8} (hk : x.nm = k) (hX : k ∉ X.map (·.nm)) (A : Option Addr) (c : Nat) (f : Fl) : DkI (putF k f fs) (X ++ ⟨k, A, c, f, x.born⟩ :: Y) clk := by
  have hp : ∀ X : List FE, k ∉ X.map (·.nm) → putF k f ((X ++ x :: Y).map FE.pl) = (X ++ ⟨k, A, c, f, x.born⟩ :: Y).map FE.pl := by
    intro X
    induction X with
    | nil => intro _; simp [putF, FE.pl, hk]
    | cons y X ih =>
      intro hn
      simp only [List.map_cons, List.mem_cons, not_or] at hn
      simp only [List.cons_append, List.map_cons, putF]
      rw [if_neg (fun e => hn.1 (by rw [← e]; rfl)), ih hn.2]
  have hfs := h.fs
  subst hfs
  refine ⟨(hp X hX).symm, ?_, ?_, ?_⟩
  · have := h.nd; simp only [List.map_append, List.map_cons, hk] at this ⊢; exact this
  · intro y hy
    rcases List.mem_append.1 hy with hy | hy
    · exact h.old y (List.mem_append_left _ hy)
    · rcases List.mem_cons.1 hy with rfl | hy
      · exact h.old x (List.mem_append_right _ List.mem_cons_self)
      · exact h.old y (List.mem_append_right _ (List.mem_cons_of_mem _ hy))
  · have := h.bn; simp only [List.map_append, List.map_cons] at this ⊢; exact this
section
variable {M : BS} {w0 w : World} {H : List Cd} {g : Nat} {d : Dk}
theorem St.opn (hs : St M w0 w (.ck (dkC g d) :: H)) : (d.fs = [] ∧ St M w0 w (.blk g 67 (dkV d none) :: H)) ∨
    ∃ m xs clk, DkI d.fs xs clk ∧ St M w0 w (.blk g 67 (dkV d (some m)) :: .ck (mpC m (xs.map FE.me) clk) :: .ck (flC xs) :: H) := by
  obtain ⟨hM, T, hT, hc, hr⟩ := hs
  rcases hc with ⟨h1, h2⟩ | ⟨m, xs, clk, h1, h2⟩
  · exact .inl ⟨h1, hM, Sat.join (H1 := [_]) hT h2 hr⟩
  · exact .inr ⟨m, xs, clk, h1, hM, Sat.join (H1 := [_, _, _]) hT h2 hr⟩
theorem St.cls {m clk : Nat} {xs : List FE} (hs : St M w0 w (.blk g 67 (dkV d (some m)) :: .ck (mpC m (xs.map FE.me) clk) :: .ck (flC xs) :: H)) (h : DkI d.fs xs clk) : St M w0 w (.ck (dkC g d) :: H) :=
  hs.pack (H1 := [_, _, _]) _ fun _ _ k => .inr ⟨m, xs, clk, h, k⟩
theorem St.cls0 (hs : St M w0 w (.blk g 67 (dkV d none) :: H)) (h : d.fs = []) : St M w0 w (.ck (dkC g d) :: H) :=
  hs.pack (H1 := [_]) _ fun _ _ k => .inl ⟨h, k⟩
end
theorem flC_rd {w : World} {S : BS} : ∀ {xs : List FE}, Sat w (xs.map FE.cd) S → ∀ x ∈ xs, RdB w x.A x.f.data ∧ x.f.data.length ≤ x.c
  | [], _, x, hx => by cases hx
  | y :: xs, h, x, hx => by
    obtain ⟨T, _, h1, h2⟩ := h
    rcases List.mem_cons.1 hx with rfl | hx
    · exact ⟨Ow.rd h1.2, OwB.cap (show OwB w 0 x.A x.c x.f.data from h1.2)⟩
    · exact flC_rd h2 x hx
theorem dkC_rd {w : World} {S : BS} {g : Nat} {d : Dk} (h : (dkC g d).P w S) : RdD w g d := by
  rcases h with ⟨h1, T, _, h2, _⟩ | ⟨m, xs, clk, h1, T, _, h2, T2, _, h3, T3, _, h4, _⟩
  · exact .inl ⟨h1, h2.2⟩
  · exact .inr ⟨m, xs, clk, h1, h2.2, h3.2, flC_rd h4⟩
end Go.Proofs.Ytdgagffieobiiaa

/-
  Walks over disks: New, there, Used, turn.
-/
namespace Go.Proofs.Ytdgagffieobiiaa
open Go.RowKit

section
variable {P : Program} {N : Nat} {ops : Array Oper} {Q : Exit → Act → World → Prop} {rest : List Oper} {L : FL} {w : World} {b clk : Nat} {es : List ME} {k : List UInt8} {x y : Operand} {ty : TypeId} {v : Value}
theorem lk2_some (hx : look L x = some (.map (some b))) (hy : look L y = some (str k)) (hm : Mp w b es clk) (hg : mget es k = some v) : OpV Try.prog (.lookup 65 x y true) ty L w (.tuple #[v, .bool true]) w := by
  have := opv_lookup2 (ty := ty) tyDM tyStrD zeroF hx hy hm
  rw [hg] at this; exact this
theorem lk2_none (hx : look L x = some (.map (some b))) (hy : look L y = some (str k)) (hm : Mp w b es clk) (hg : mget es k = none) : OpV Try.prog (.lookup 65 x y true) ty L w (.tuple #[.agg zF.toArray, .bool false]) w := by
  have := opv_lookup2 (ty := ty) tyDM tyStrD zeroF hx hy hm
  rw [hg] at this; exact this
theorem lk1_some (hx : look L x = some (.map (some b))) (hy : look L y = some (str k)) (hm : Mp w b es clk) (hg : mget es k = some v) : OpV Try.prog (.lookup 65 x y false) ty L w v w := by
  have := opv_lookup (ty := ty) tyDM tyStrD zeroF hx hy hm
  rw [hg] at this; exact this
theorem lk1_none (hx : look L x = some (.map (some b))) (hy : look L y = some (str k)) (hm : Mp w b es clk) (hg : mget es k = none) : OpV Try.prog (.lookup 65 x y false) ty L w (.agg zF.toArray) w := by
  have := opv_lookup (ty := ty) tyDM tyStrD zeroF hx hy hm
  rw [hg] at this; exact this
theorem lk2_nil (hx : look L x = some (.map none)) (hy : look L y = some (str k)) : OpV Try.prog (.lookup 65 x y true) ty L w (.tuple #[.agg zF.toArray, .bool false]) w := opv_lookupN tyDM tyStrD zeroF hx hy
theorem lk1_nil (hx : look L x = some (.map none)) (hy : look L y = some (str k)) : OpV Try.prog (.lookup 65 x y false) ty L w (.agg zF.toArray) w := opv_lookupN tyDM tyStrD zeroF hx hy
/-- A nil map is gone through. -/
theorem wl_rangeN {d : Nat} {pos : String} {aft : Array Edge} {t kt e : TypeId} (ht : P.underlying t = some (.map kt e)) (hx : look L x = some (.map none)) (hd : Nat.blt d N = true)
    (h : ∀ r w', w.heap.size ≤ r → w'.heap[r]? = some (.mapIter none 0 #[] 0) → Below w.heap.size w w' → WL P N ops Q rest ((d, .pointer (some ⟨r, 0, none⟩)) :: L) w') :
    WL P N ops Q (⟨some d, .range t x, ty, pos, aft, none⟩ :: rest) L w := by
  refine wl_val (v := .pointer (some ⟨w.heap.size, 0, none⟩)) (w' := w.alloc (.mapIter none 0 #[] 0)) (fun ρ o hρ ho _ => ?_) hd (h _ _ (Nat.le_refl _) (heap_alloc_new w _) ((Below.refl _ _).alloc (Nat.le_refl _) _))
  simp [execOp, ho, Instr.range, run_underlying ht, hρ x _ hx]
theorem wl_nextN {d r : Nat} {pos : String} {aft : Array Edge} (hx : look L x = some (.pointer (some ⟨r, 0, none⟩))) (hi : w.heap[r]? = some (.mapIter none 0 #[] 0)) (hd : Nat.blt d N = true)
    (h : WL P N ops Q rest ((d, .tuple #[.bool false]) :: L) w) : WL P N ops Q (⟨some d, .next x false, ty, pos, aft, none⟩ :: rest) L w := by
  refine wl_val (v := .tuple #[.bool false]) (w' := w) (fun ρ o hρ ho _ => ?_) hd h
  have hg : (getObj r).run P w = .ok (.mapIter none 0 #[] 0) w := by simp [getObj, Sem.run, hi]
  simp [execOp, ho, hρ x _ hx, Instr.next, hg]
end
theorem mget_split (k : List UInt8) (xs : List FE) : (mget (xs.map FE.me) k = none ∧ getF k (xs.map FE.pl) = none ∧ k ∉ xs.map (·.nm)) ∨
    ∃ X x Y, xs = X ++ x :: Y ∧ x.nm = k ∧ k ∉ X.map (·.nm) ∧ fnd k (xs.map FE.me) 0 = some (0 + X.length, .agg (flV x.f x.A x.c).toArray) ∧ mget (xs.map FE.me) k = some (.agg (flV x.f x.A x.c).toArray) ∧ getF k (xs.map FE.pl) = some x.f := by
  rcases fnd_split k xs 0 with ⟨h1, h2, h3⟩ | ⟨X, x, Y, h1, h2, h3, h4, h5⟩
  · exact .inl ⟨by unfold mget; rw [h1]; rfl, h2, h3⟩
  · exact .inr ⟨X, x, Y, h1, h2, h3, h4, by unfold mget; rw [h4]; rfl, h5⟩
theorem there_any {g : Nat} {d : Dk} {n : List UInt8} {w : World} (h : RdD w g d) : CallsV Try.prog 33 #[.pointer (some ⟨g, 0, none⟩), str n] w fun v w' => v = .int .i64 (thereD d n : Nat) ∧ Below w.heap.size w w' := by
  have hb := Below.refl w.heap.size w
  refine calls_in (N := _) Try.func33 rfl Try.ntmps33 rfl ?_; show WC _ _ _ _ _ _
  rcases h with ⟨h1, a1⟩ | ⟨m, xs, clk, hI, a1, hm, hrd⟩
  · have ht : thereD d n = 6 := by simp [thereD, h1, getF]
    rw [ht]
    refine wc_sr ?_; refine wl_as rfl rfl ?_; refine wl_ns ?_; refine wc_seq ?_; refine wc_sr ?_; refine wl_mv rfl rfl ?_; apply wl_val; apply opv_nilOk; exact rfl; exact rfl; apply wl_val; apply opv_fa; exact fa_sD (by decide); exact rfl; exact rfl; apply wl_val; apply opv_ldX; exact rfl; assumption; exact d1_map; exact rfl; exact rfl; refine wl_mv rfl rfl ?_; apply wl_val; apply lk2_nil; exact rfl; exact rfl; exact rfl; refine wl_mv rfl rfl ?_; apply wl_val; apply opv_extract; exact rfl; exact rfl; exact rfl; apply wl_val; apply opv_extract; exact rfl; exact rfl; exact rfl
    refine wl_var (cs := zF) zeroF sF rfl (fun _ => rfl) (by first | rfl | simp [Value.oneCell'] | simp [ceV, Value.oneCell']) rfl fun g5 _ hg5 a5 hbx => ?_; replace hb := hb.trans (hbx.mono hb.size); clear hbx
    refine wl_as rfl rfl ?_; refine wl_ns ?_; refine wc_sr ?_; refine wl_mv rfl rfl ?_; apply wl_val; apply opv_not; exact rfl; exact rfl; refine wl_ns ?_; apply wc_condTb; exact rfl; exact Bool.not_false; refine wc_sr ?_; refine wl_as rfl rfl ?_; refine wl_ns ?_; refine wc_ret ?_; refine we_seq_ret ?_
    exact we_ret1 rfl rfl ⟨_, rfl, rfl, hb⟩
  · rcases mget_split n xs with ⟨hg, hf, _⟩ | ⟨X, x, Y, hx, _, _, _, hg, hf⟩
    · have ht : thereD d n = 6 := by rw [thereD, ← hI.fs, hf]; rfl
      rw [ht]
      refine wc_sr ?_; refine wl_as rfl rfl ?_; refine wl_ns ?_; refine wc_seq ?_; refine wc_sr ?_; refine wl_mv rfl rfl ?_; apply wl_val; apply opv_nilOk; exact rfl; exact rfl; apply wl_val; apply opv_fa; exact fa_sD (by decide); exact rfl; exact rfl; apply wl_val; apply opv_ldX; exact rfl; assumption; exact d1_map; exact rfl; exact rfl; refine wl_mv rfl rfl ?_; apply wl_val; apply lk2_none; exact rfl; exact rfl; assumption; assumption; exact rfl; refine wl_mv rfl rfl ?_; apply wl_val; apply opv_extract; exact rfl; exact rfl; exact rfl; apply wl_val; apply opv_extract; exact rfl; exact rfl; exact rfl
      refine wl_var (cs := zF) zeroF sF rfl (fun _ => rfl) (by first | rfl | simp [Value.oneCell'] | simp [ceV, Value.oneCell']) rfl fun g5 _ hg5 a5 hbx => ?_; replace hb := hb.trans (hbx.mono hb.size); clear hbx
      refine wl_as rfl rfl ?_; refine wl_ns ?_; refine wc_sr ?_; refine wl_mv rfl rfl ?_; apply wl_val; apply opv_not; exact rfl; exact rfl; refine wl_ns ?_; apply wc_condTb; exact rfl; exact Bool.not_false; refine wc_sr ?_; refine wl_as rfl rfl ?_; refine wl_ns ?_; refine wc_ret ?_; refine we_seq_ret ?_
      exact we_ret1 rfl rfl ⟨_, rfl, rfl, hb⟩
    · have ht : thereD d n = 0 := by rw [thereD, ← hI.fs, hf]; rfl
      rw [ht]
      refine wc_sr ?_; refine wl_as rfl rfl ?_; refine wl_ns ?_; refine wc_seq ?_; refine wc_sr ?_; refine wl_mv rfl rfl ?_; apply wl_val; apply opv_nilOk; exact rfl; exact rfl; apply wl_val; apply opv_fa; exact fa_sD (by decide); exact rfl; exact rfl; apply wl_val; apply opv_ldX; exact rfl; assumption; exact d1_map; exact rfl; exact rfl; refine wl_mv rfl rfl ?_; apply wl_val; apply lk2_some; exact rfl; exact rfl; assumption; assumption; exact rfl; refine wl_mv rfl rfl ?_; apply wl_val; apply opv_extract; exact rfl; exact rfl; exact rfl; apply wl_val; apply opv_extract; exact rfl; exact rfl; exact rfl
      refine wl_var (cs := flV x.f x.A x.c) zeroF sF rfl (fun _ => rfl) (by first | rfl | simp [Value.oneCell'] | simp [ceV, Value.oneCell']) rfl fun g5 _ hg5 a5 hbx => ?_; replace hb := hb.trans (hbx.mono hb.size); clear hbx
      refine wl_as rfl rfl ?_; refine wl_ns ?_; refine wc_sr ?_; refine wl_mv rfl rfl ?_; apply wl_val; apply opv_not; exact rfl; exact rfl; refine wl_ns ?_; apply wc_condFb; exact rfl; exact Bool.not_true; refine wc_skip ?_; refine we_seq ?_; refine wc_sr ?_; refine wl_as rfl rfl ?_; refine wl_ns ?_; refine wc_ret ?_
      exact we_ret1 rfl rfl ⟨_, rfl, rfl, hb⟩
/-- How many bytes the entries have that are left to come. -/
def lnM (e : ME) : Nat := match e.2.1 with | .agg cs => (match cs[0]? with | some (Value.slice _ n _) => n | _ => 0) | _ => 0
theorem left_step {es : List ME} {seen : List Nat} {y : ME} (hy : y ∈ left es seen) (hn : (es.map fun x => x.2.2).Nodup) (f : ME → Nat) : ((left es seen).map f).sum = f y + ((left es (seen ++ [y.2.2])).map f).sum := by
  induction es with
  | nil => simp [left] at hy
  | cons e es ih =>
    simp only [List.map_cons, List.nodup_cons] at hn
    have hl : ∀ s, left (e :: es) s = if s.contains e.2.2 then left es s else e :: left es s := by
      intro s; unfold left; rw [List.filter_cons]; cases s.contains e.2.2 <;> rfl
    rw [hl] at hy ⊢
    rw [hl]
    by_cases hc : seen.contains e.2.2 = true
    · rw [if_pos hc] at hy ⊢
      rw [if_pos (by simp at hc ⊢; exact .inl hc)]
      exact ih hy hn.2
    · rw [if_neg hc] at hy ⊢
      rcases List.mem_cons.1 hy with rfl | hy
      · rw [if_pos (by simp)]
        have : left es (seen ++ [y.2.2]) = left es seen := by
          unfold left
          apply List.filter_congr
          intro x hx
          have hne : x.2.2 ≠ y.2.2 := fun h => hn.1 (List.mem_map.2 ⟨x, hx, h⟩)
          simp [hne]
        rw [this]; simp
      · have hm : y ∈ es := (List.mem_filter.1 hy).1
        have hne : e.2.2 ≠ y.2.2 := fun h => hn.1 (List.mem_map.2 ⟨y, hm, h.symm⟩)
        rw [if_neg (by simp at hc ⊢; exact ⟨hc, hne⟩)]
        have := ih hy hn.2
        simp only [List.map_cons, List.sum_cons] at this ⊢
        omega
theorem ones_len : ∀ l : List ME, (l.map fun _ => 1).sum = l.length
  | [] => rfl
  | _ :: l => by rw [List.map_cons, List.sum_cons, ones_len l, List.length_cons]; omega
theorem left_nil (es : List ME) : left es [] = es := by simp [left]
theorem used_ln (xs : List FE) : ((xs.map FE.me).map lnM).sum = used (xs.map FE.pl) := by
  simp [used, List.map_map, Function.comp_def, lnM, FE.me, FE.pl, flV]
def UseI (w : World) (d : Dk) (xs : List FE) (r m clk : Nat) : FL → World → Nat → Prop := fun L wr k =>
  ∃ (n last : Nat) (seen : List Nat), L = [(3, .int .i64 (n : Int)), (10, .pointer (some ⟨r, 0, none⟩))] ∧ w.heap.size ≤ r ∧ MI wr r m clk seen last ∧ clk ≤ last ∧ Mp wr m (xs.map FE.me) clk ∧ Below w.heap.size w wr ∧
    n + ((left (xs.map FE.me) seen).map lnM).sum = used d.fs ∧ k = (left (xs.map FE.me) seen).length
theorem used_any {g : Nat} {d : Dk} {w : World} (h : RdD w g d) (hu : used d.fs ≤ 1099511627776) : CallsV Try.prog 26 #[.pointer (some ⟨g, 0, none⟩)] w fun v w' => v = .int .i64 (used d.fs : Nat) ∧ Below w.heap.size w w' := by
  have hb := Below.refl w.heap.size w
  refine calls_in (N := _) Try.func26 rfl Try.ntmps26 rfl ?_; show WC _ _ _ _ _ _
  rcases h with ⟨h1, a1⟩ | ⟨m, xs, clk, hI, a1, hm, hrd⟩
  · rw [h1]
    refine wc_sr ?_; refine wl_as rfl rfl ?_; refine wl_ns ?_; refine wc_sr ?_; refine wl_as rfl rfl ?_; refine wl_ns ?_; refine wc_seq ?_; refine wc_sr ?_; refine wl_mv rfl rfl ?_; apply wl_val; apply opv_nilOk; exact rfl; exact rfl; apply wl_val; apply opv_fa; exact fa_sD (by decide); exact rfl; exact rfl; apply wl_val; apply opv_ldX; exact rfl; assumption; exact d1_map; exact rfl; exact rfl
    refine wl_rangeN tyDM rfl rfl fun r w1 hr hi hbx => ?_
    refine wl_ns ?_; refine wc_block ?_
    refine wc_loop (fun L wr _ => L = [(3, .int .i64 (0 : Nat)), (10, .pointer (some ⟨r, 0, none⟩))] ∧ wr = w1) [(3, .int .i64 (0 : Nat)), (10, .pointer (some ⟨r, 0, none⟩))] 0 ⟨rfl, rfl⟩ ⟨rfl, rfl, trivial⟩ ?_
    rintro _ _ _ ⟨rfl, rfl⟩
    refine wc_sr ?_
    refine wl_nextN rfl hi rfl ?_
    apply wl_val; apply opv_extract; exact rfl; exact rfl; exact rfl; refine wl_ns ?_; refine wc_seq ?_; apply wc_condFb; exact rfl; exact rfl; refine wc_exit ?_; refine we_seq_exit ?_; refine we_loop_exit ?_; refine we_block_exit ?_; refine we_seq ?_; refine wc_sr ?_; refine wl_mv rfl rfl ?_; refine wl_as rfl rfl ?_; refine wl_ns ?_; refine wc_ret ?_
    exact we_ret1 rfl rfl ⟨_, rfl, rfl, hbx⟩
  · have hold : ∀ y ∈ xs.map FE.me, y.2.2 < clk := by intro y hy; obtain ⟨x, hx, rfl⟩ := List.mem_map.1 hy; exact hI.old x hx
    have hbn : ((xs.map FE.me).map fun x => x.2.2).Nodup := by rw [List.map_map]; exact hI.bn
    refine wc_sr ?_; refine wl_as rfl rfl ?_; refine wl_ns ?_; refine wc_sr ?_; refine wl_as rfl rfl ?_; refine wl_ns ?_; refine wc_seq ?_; refine wc_sr ?_; refine wl_mv rfl rfl ?_; apply wl_val; apply opv_nilOk; exact rfl; exact rfl; apply wl_val; apply opv_fa; exact fa_sD (by decide); exact rfl; exact rfl; apply wl_val; apply opv_ldX; exact rfl; assumption; exact d1_map; exact rfl; exact rfl
    refine wl_rangeM tyDM rfl hm rfl fun r w1 hr hi hbx => ?_
    replace hm := hm.bel hbx
    refine wl_ns ?_; refine wc_block ?_
    refine wc_loop (UseI w d xs r m clk) [(3, .int .i64 (0 : Nat)), (10, .pointer (some ⟨r, 0, none⟩))] _ ⟨0, clk, [], rfl, hr, hi, Nat.le_refl _, hm, hbx, by rw [left_nil, used_ln, hI.fs]; omega, rfl⟩ ⟨rfl, rfl, trivial⟩ ?_
    clear hm hi hbx hb hr
    rintro _ w2 k ⟨n, last, seen, rfl, hr, hi, hcl, hm, hb, hsum, rfl⟩
    refine wc_sr ?_
    refine wl_nextM rfl hi hm hold hcl rfl (fun he => ?_) (fun y w3 hy hi2 hgr hsz => ?_)
    · rw [he] at hsum
      have hn : n = used d.fs := by simpa using hsum
      subst hn
      apply wl_val; apply opv_extract; exact rfl; exact rfl; exact rfl; refine wl_ns ?_; refine wc_seq ?_; apply wc_condFb; exact rfl; exact rfl; refine wc_exit ?_; refine we_seq_exit ?_; refine we_loop_exit ?_; refine we_block_exit ?_; refine we_seq ?_; refine wc_sr ?_; refine wl_mv rfl rfl ?_; refine wl_as rfl rfl ?_; refine wl_ns ?_; refine wc_ret ?_
      exact we_ret1 rfl rfl ⟨_, rfl, rfl, hb⟩
    · have hstep := left_step hy hbn lnM
      have hlen := left_step hy hbn fun _ => 1
      rw [ones_len, ones_len] at hlen
      obtain ⟨x, hx, rfl⟩ := List.mem_map.1 (List.mem_filter.1 hy).1
      have hlx : lnM x.me = x.f.data.length := rfl
      have hrw := hi.lt
      replace hm := hm.gr hgr (fun a ha => by cases ha; intro e; have h1 := hi; have h2 := hm; subst e; unfold MI at h1; unfold Mp at h2; rw [h1] at h2; cases h2)
      replace hb := hgr.belowI hb hr hb.size
      have hle : n + x.f.data.length ≤ 1099511627776 := by omega
      apply wl_val; apply opv_extract; exact rfl; exact rfl; exact rfl; refine wl_ns ?_; refine wc_seq ?_; apply wc_condTb; exact rfl; exact rfl; refine wc_skip ?_; refine we_seq ?_; refine wc_block ?_; refine wc_sr ?_
      refine wl_val (opv_entry rfl hi2 hm (List.mem_map.2 ⟨x, hx, rfl⟩) hbn) rfl ?_
      apply wl_val; apply opv_extract; exact rfl; exact rfl; exact rfl
      refine wl_var (cs := flV x.f x.A x.c) zeroF sF rfl (fun _ => rfl) (by first | rfl | simp [Value.oneCell']) rfl fun g5 _ hg5 a5 hbx => ?_
      replace hb := hb.trans (hbx.mono hb.size)
      replace hm := hm.bel hbx
      replace hi2 := hi2.bel hbx
      clear hbx
      unfold flV at a5
      refine wl_ns ?_; refine wc_region ?_; refine wl_mv rfl rfl ?_; apply wl_val; apply opv_fa; exact fa_sF (by decide); exact rfl; exact rfl; apply wl_val; apply opv_ldX; exact rfl; assumption; exact d1_by; exact rfl; exact rfl; apply wl_val; apply opv_len; exact rfl; exact tyB.sl; exact rfl; apply wl_val; apply opv_bin; exact rfl; exact rfl; exact bin_add64 (by omega); exact rfl; refine wl_as rfl rfl ?_; refine wl_nil ?_; refine we_block_norm ?_
      exact we_loop _ _ ⟨n + x.f.data.length, _, _, rfl, hr, hi2, Nat.le_refl _, hm, hb, by rw [← hsum, hstep, hlx]; omega, rfl⟩ (by omega) ⟨by simp [lookT], rfl, trivial⟩
end Go.Proofs.Ytdgagffieobiiaa
