/-
  Walks over the sum of the program and of the reference, and over what the statements use.
-/
import Derived.Test.YtdppekhnahnjjaaVa
import Derived.Test.YtdppekhnahnjjaaWd
import Derived.Test.YtdppekhnahnjjaaPc
namespace Go.Proofs.Ytdppekhnahnjjaa
open Go.RowKit

theorem xor_ones {n x : Nat} (hx : x < 2 ^ n) : (2 ^ n - 1) ^^^ x = 2 ^ n - 1 - x := by
  apply Nat.eq_of_testBit_eq
  intro i
  rw [Nat.testBit_xor, Nat.testBit_two_pow_sub_one, show 2 ^ n - 1 - x = 2 ^ n - (x + 1) by omega, Nat.testBit_two_pow_sub_succ hx]
  by_cases h : i < n
  · simp [h]
  · have : x.testBit i = false := Nat.testBit_lt_two_pow (Nat.lt_of_lt_of_le hx (Nat.pow_le_pow_right (by decide) (by omega)))
    simp [h, this]
theorem opv_com {P : Program} {L : FL} {w : World} {x : Operand} {t ty : TypeId} {n : Nat} (hx : look L x = some (.int .u32 (n : Int))) (hn : n < 4294967296) : OpV P (.unOp .xor t x) ty L w (.int .u32 ((4294967295 - n : Nat) : Int)) w := fun ρ o hρ ho _ => by
  have h := bin_xor (P := P) (t := t) (k := .u32) (a := 4294967295) (b := n) rfl (by decide) hn x x w
  have e := xor_ones (n := 32) hn
  simp only [eqGuard, binOp] at h
  rw [show (4294967295 ^^^ n) = 4294967295 - n from e] at h
  have hm : (if IntKind.u32.signed = true then (-1 : Int) else IntKind.u32.max) = (4294967295 : Int) := rfl
  unfold execOp
  simp only [ho, hρ x _ hx, Op.unary, hm, Sem.run_bind]
  simp at h
  rw [h]; simp

theorem sum_any {A : Option Addr} {n c : Nat} {rows : List (List UInt8)} {w : World} (hr : RdBB w A rows) (hn : rows.length = n) (hl : rows.flatten.length ≤ maxLen) (hl2 : rows.length ≤ maxLen) :
    CallsV Try.prog 22 #[.slice A n c] w fun v w' => v = .int .u32 (crcOf rows.flatten : Nat) ∧ Below w.heap.size w w' := by
  subst hn
  simp only [maxLen] at hl hl2
  refine calls_in (N := _) Try.func22 rfl Try.ntmps22 rfl ?_; show WC _ _ _ _ _ _
  refine wc_sr ?_; refine wl_as rfl rfl ?_; refine wl_ns ?_; refine wc_sr ?_
  refine wl_call ok_crc_Table (table_any w) trivial rfl ?_
  rintro _ w1 ⟨rfl, hb1⟩
  refine wl_alloc tyA_zero rfl fun w2 a2 hb2 hs2 => ?_
  obtain ⟨g, hg⟩ : ∃ g, w1.heap.size = g := ⟨_, rfl⟩
  have hge : w.heap.size ≤ g := by have := hb1.size; omega
  have hb12 := hb1.trans (hb2.mono hb1.size)
  rw [hg] at a2 ⊢
  replace a2 : Ar w2 g 29 (List.replicate 256 (Value.int .u32 0)) := a2
  refine wl_unitN (opu_storeW (by rw [List.length_replicate]; exact tyA_size) (by rw [tabC_length, List.length_replicate]) rfl rfl a2 tabC_one) ?_
  have a3 := a2.setRow (cs' := tabC)
  have hb3 := below_setRow (cs' := tabC.toArray) hb12 hge
  obtain ⟨w3, hw3⟩ : ∃ w3, w2.setRow g tabC.toArray = w3 := ⟨_, rfl⟩
  rw [hw3] at a3 hb3 ⊢
  have S3 := RdBB.below hr hb3
  clear hb1 hb2 a2 hs2
  refine wl_ns ?_; refine wc_sr ?_; refine wl_as rfl rfl ?_; refine wl_ns ?_; refine wc_seq ?_; refine wc_sr ?_; refine wl_mv rfl rfl ?_; apply wl_val; apply opv_len; exact rfl; exact tyBB.sl; exact rfl; refine wl_mv rfl rfl ?_; refine wl_ns ?_; refine wc_block ?_
  refine wc_loop (fun L wr m => ∃ k : Nat, L = [(3, .pointer (some ⟨g, 0, none⟩)), (4, .int .u32 (crcRaw 4294967295 (rows.take k).flatten : Nat)), (10, .slice A rows.length c), (11, .int .i64 (rows.length : Int)), (12, .int .i64 (k : Int))] ∧ k ≤ rows.length ∧ w3 = wr ∧ m = rows.length - k)
    [(3, .pointer (some ⟨g, 0, none⟩)), (4, .int .u32 (4294967295 : Nat)), (10, .slice A rows.length c), (11, .int .i64 (rows.length : Int)), (12, .int .i64 (0 : Nat))] rows.length ⟨0, rfl, by omega, rfl, rfl⟩ ⟨rfl, rfl, rfl, rfl, rfl, trivial⟩ ?_
  rintro _ _ m ⟨k, rfl, hk, rfl, rfl⟩
  have hlt := raw_lt (rows.take k).flatten (x := 4294967295) (by decide)
  refine wc_sr ?_; refine wl_bin rfl rfl bin_lss rfl ?_; refine wl_ns ?_; refine wc_seq ?_
  refine wc_cond rfl (fun h1 => ?_) (fun h1 => ?_)
  · obtain ⟨r, hx⟩ : ∃ x, rows[k]? = some x := ⟨_, List.getElem?_eq_getElem (by omega)⟩
    obtain ⟨vs, X, cx, hv, hvk, rx, hcx⟩ := S3.at hx
    have hxm : r.length ≤ rows.flatten.length := flat_mem hx
    refine wc_skip ?_; refine we_seq ?_; refine wc_seq ?_; refine wc_block ?_; refine wc_sr ?_; apply wl_elK (T := tyBB) (hr := hv) (hb := hvk); exact rfl; exact rfl; exact rfl; exact rfl; exact rfl; intro _; refine wl_as rfl rfl ?_; refine wl_ns ?_; refine wc_sr ?_; refine wl_mv rfl rfl ?_; apply wl_val; apply opv_len; exact rfl; exact tyB.sl; exact rfl; refine wl_mv rfl rfl ?_; refine wl_ns ?_; refine wc_block ?_
    refine wc_loop (fun L wr m => ∃ j : Nat, L = [(3, .pointer (some ⟨g, 0, none⟩)), (4, .int .u32 (crcRaw 4294967295 ((rows.take k).flatten ++ r.take j) : Nat)), (10, .slice A rows.length c), (11, .int .i64 (rows.length : Int)), (12, .int .i64 (k : Int)), (16, .slice X r.length cx), (17, .int .i64 (r.length : Int)), (18, .int .i64 (j : Int))] ∧ j ≤ r.length ∧ w3 = wr ∧ m = r.length - j)
      [(3, .pointer (some ⟨g, 0, none⟩)), (4, .int .u32 (crcRaw 4294967295 (rows.take k).flatten : Nat)), (10, .slice A rows.length c), (11, .int .i64 (rows.length : Int)), (12, .int .i64 (k : Int)), (16, .slice X r.length cx), (17, .int .i64 (r.length : Int)), (18, .int .i64 (0 : Nat))] r.length ⟨0, by simp, by omega, rfl, rfl⟩ ⟨rfl, rfl, rfl, rfl, rfl, rfl, rfl, rfl, trivial⟩ ?_
    rintro _ _ m ⟨j, rfl, hj, rfl, rfl⟩
    have hlt2 := raw_lt ((rows.take k).flatten ++ r.take j) (x := 4294967295) (by decide)
    refine wc_sr ?_; refine wl_bin rfl rfl bin_lss rfl ?_; refine wl_ns ?_; refine wc_seq ?_
    refine wc_cond rfl (fun h2 => ?_) (fun h2 => ?_)
    · obtain ⟨b, hbx⟩ : ∃ x, r[j]? = some x := ⟨_, List.getElem?_eq_getElem (by omega)⟩
      have hbl := b.toNat_lt
      obtain ⟨y, hy⟩ : ∃ y, crcRaw 4294967295 ((rows.take k).flatten ++ r.take j) = y := ⟨_, rfl⟩
      have hsn : crcRaw 4294967295 ((rows.take k).flatten ++ r.take (j + 1)) = y / 256 ^^^ eightC (y % 256 ^^^ b.toNat) := by
        rw [← eight_split, ← hy, List.take_add_one, hbx, ← List.append_assoc, Option.toList_some, raw_snoc]
      rw [hy] at hlt2 ⊢
      have hix : y % 256 ^^^ b.toNat < 256 := Nat.xor_lt_two_pow (n := 8) (Nat.mod_lt _ (by decide)) hbl
      have hel := eight_lt (x := y % 256 ^^^ b.toNat) (by omega)
      refine wc_skip ?_; refine we_seq ?_; refine wc_seq ?_; refine wc_block ?_; refine wc_sr ?_; apply wl_byK (T := tyB) (hr := rx) (hb := hbx); exact rfl; exact rfl; exact rfl; exact rfl; exact rfl; intro _; refine wl_as rfl rfl ?_; refine wl_ns ?_; refine wc_region ?_; refine wl_mv rfl rfl ?_
      refine wl_val (opv_bin (b := .int .u64 (8 : Nat)) rfl rfl (bin_shr hlt2)) rfl ?_
      refine wl_mv rfl rfl ?_; apply wl_val; apply opv_convR; exact rfl; exact Try.underlying28; exact Try.underlying5; exact wrap_nat rfl _; exact rfl; refine wl_mv rfl rfl ?_
      refine wl_val (opv_bin rfl rfl (bin_xor rfl (Nat.mod_lt _ (by decide)) hbl)) rfl ?_
      refine wl_elA (kk := y % 256 ^^^ b.toNat) Try.underlying29 tyU rfl rfl a3 tabC_length rfl (tabC_get hix) rfl rfl fun p => ?_
      refine wl_val (opv_bin rfl rfl (bin_xor rfl (by simp only [IntKind.bits]; omega) hel)) rfl ?_
      refine wl_as rfl rfl ?_; refine wl_nil ?_; refine we_block_norm ?_; refine we_seq ?_; refine wc_region ?_; apply wl_val; apply opv_bin; exact rfl; exact rfl; exact bin_add64 (by omega); exact rfl; refine wl_mv rfl rfl ?_; refine wl_nil ?_
      refine we_loop [(3, .pointer (some ⟨g, 0, none⟩)), (4, .int .u32 (crcRaw 4294967295 ((rows.take k).flatten ++ r.take (j + 1)) : Nat)), (10, .slice A rows.length c), (11, .int .i64 (rows.length : Int)), (12, .int .i64 (k : Int)), (16, .slice X r.length cx), (17, .int .i64 (r.length : Int)), (18, .int .i64 ((j + 1 : Nat) : Int))] (r.length - (j + 1)) ⟨j + 1, rfl, by omega, rfl, rfl⟩ (by omega) ⟨rfl, by rw [hsn]; rfl, rfl, rfl, rfl, rfl, rfl, by simp [lookT], trivial⟩
    · obtain rfl : j = r.length := by omega
      rw [List.take_length]
      refine wc_exit ?_; refine we_seq_exit ?_; refine we_loop_exit ?_; refine we_block_exit ?_; refine we_block_norm ?_; refine we_seq ?_; refine wc_region ?_; apply wl_val; apply opv_bin; exact rfl; exact rfl; exact bin_add64 (by omega); exact rfl; refine wl_mv rfl rfl ?_; refine wl_nil ?_
      refine we_loop [(3, .pointer (some ⟨g, 0, none⟩)), (4, .int .u32 (crcRaw 4294967295 (rows.take (k + 1)).flatten : Nat)), (10, .slice A rows.length c), (11, .int .i64 (rows.length : Int)), (12, .int .i64 ((k + 1 : Nat) : Int))] (rows.length - (k + 1)) ⟨k + 1, rfl, by omega, rfl, rfl⟩ (by omega) ⟨rfl, ?_, rfl, rfl, by simp [lookT], trivial⟩
      rw [show (rows.take (k + 1)).flatten = (rows.take k).flatten ++ r by rw [List.take_add_one, hx]; simp]; rfl
  · obtain rfl : k = rows.length := by omega
    rw [List.take_length] at hlt ⊢
    refine wc_exit ?_; refine we_seq_exit ?_; refine we_loop_exit ?_; refine we_block_exit ?_; refine we_seq ?_; refine wc_sr ?_; refine wl_mv rfl rfl ?_
    refine wl_val (opv_com rfl hlt) rfl ?_
    refine wl_as rfl rfl ?_; refine wl_ns ?_; refine wc_ret ?_
    exact we_ret1 rfl rfl ⟨_, rfl, rfl, hb3⟩

theorem one_any (b : UInt8) (w : World) : CallsV Try.prog 26 #[.int .u8 b.toNat] w fun v w' => v = .int .u32 (eightC b.toNat : Nat) ∧ w = w' := by
  have hbl := b.toNat_lt
  refine calls_in (N := _) Try.func26 rfl Try.ntmps26 rfl ?_; show WC _ _ _ _ _ _
  refine wc_sr ?_; refine wl_as rfl rfl ?_; refine wl_ns ?_; refine wc_sr ?_; refine wl_mv rfl rfl ?_; apply wl_val; apply opv_convR; exact rfl; exact Try.underlying5; exact Try.underlying28; exact IntWalk.u32_in _ (by omega); exact rfl; refine wl_as rfl rfl ?_; refine wl_ns ?_; refine wc_seq ?_; refine wc_sr ?_; refine wl_as rfl rfl ?_; refine wl_ns ?_; refine wc_block ?_
  refine wc_loop (fun L wr m => ∃ (k y : Nat), L = [(3, .int .u32 (y : Int)), (4, .int .i64 (k : Int))] ∧ k ≤ 8 ∧ y < 4294967296 ∧ stepsC (8 - k) y = eightC b.toNat ∧ w = wr ∧ m = 8 - k)
    [(3, .int .u32 (b.toNat : Int)), (4, .int .i64 (0 : Nat))] 8 ⟨0, b.toNat, rfl, by omega, by omega, rfl, rfl, rfl⟩ ⟨rfl, rfl, trivial⟩ ?_
  rintro _ _ m ⟨k, y, rfl, hk, hy, he, rfl, rfl⟩
  refine wc_seq ?_; refine wc_sr ?_; refine wl_mv rfl rfl ?_; refine wl_bin rfl rfl bin_lss rfl ?_; refine wl_ns ?_
  refine wc_cond rfl (fun h1 => ?_) (fun h1 => ?_)
  · have he' : stepsC (8 - (k + 1)) (stepC y) = eightC b.toNat := by rw [← he, show 8 - k = (8 - (k + 1)) + 1 by omega]; rfl
    have hsl := step_lt hy
    refine wc_skip ?_; refine we_seq ?_; refine wc_seq ?_; refine wc_block ?_; refine wc_sr ?_; refine wl_mv rfl rfl ?_
    refine wl_val (opv_bin (b := .int .u32 (2 : Nat)) rfl rfl (bin_rem (by omega))) rfl ?_
    refine wl_bin rfl rfl bin_eql rfl ?_; refine wl_as rfl rfl ?_; refine wl_ns ?_; refine wc_sr ?_; refine wl_mv rfl rfl ?_
    refine wl_val (opv_bin (b := .int .u32 (2 : Nat)) rfl rfl (bin_quo (by omega) (wrap_small rfl (by simp only [IntKind.bits]; omega)))) rfl ?_
    refine wl_as rfl rfl ?_; refine wl_ns ?_; refine wc_sr ?_; refine wl_mv rfl rfl ?_; refine wl_ns ?_
    refine wc_cond rfl (fun h2 => ?_) (fun h2 => ?_)
    · rw [stepC_odd (by omega)] at he' hsl
      refine wc_region ?_; refine wl_mv rfl rfl ?_
      refine wl_val (opv_bin (b := .int .u32 (3988292384 : Nat)) rfl rfl (bin_xor rfl (by simp only [IntKind.bits]; omega) (by decide))) rfl ?_
      refine wl_as rfl rfl ?_; refine wl_nil ?_; refine we_block_norm ?_; refine we_seq ?_; refine wc_region ?_; refine wl_mv rfl rfl ?_; apply wl_val; apply opv_bin; exact rfl; exact rfl; exact bin_add64 (by omega); exact rfl; refine wl_as rfl rfl ?_; refine wl_nil ?_
      refine we_loop [(3, .int .u32 (y / 2 ^^^ 3988292384 : Nat)), (4, .int .i64 ((k + 1 : Nat) : Int))] (8 - (k + 1)) ⟨k + 1, _, rfl, by omega, hsl, he', rfl, rfl⟩ (by omega) ⟨rfl, rfl, trivial⟩
    · rw [stepC_even (by omega)] at he' hsl
      refine wc_skip ?_; refine we_block_norm ?_; refine we_seq ?_; refine wc_region ?_; refine wl_mv rfl rfl ?_; apply wl_val; apply opv_bin; exact rfl; exact rfl; exact bin_add64 (by omega); exact rfl; refine wl_as rfl rfl ?_; refine wl_nil ?_
      refine we_loop [(3, .int .u32 (y / 2 : Nat)), (4, .int .i64 ((k + 1 : Nat) : Int))] (8 - (k + 1)) ⟨k + 1, _, rfl, by omega, hsl, he', rfl, rfl⟩ (by omega) ⟨rfl, rfl, trivial⟩
  · obtain rfl : k = 8 := by omega
    have e : y = eightC b.toNat := he
    refine wc_exit ?_; refine we_seq_exit ?_; refine we_loop_exit ?_; refine we_block_exit ?_; refine we_seq ?_; refine wc_sr ?_; refine wl_mv rfl rfl ?_; refine wl_as rfl rfl ?_; refine wl_ns ?_; refine wc_ret ?_
    exact we_ret1 rfl rfl ⟨_, rfl, by rw [e], rfl⟩

theorem refSum_any {A : Option Addr} {n c : Nat} {xs : List UInt8} {w : World} (hr : RdB w A xs) (hn : xs.length = n) (hl : xs.length ≤ maxLen) :
    CallsV Try.prog 24 #[.slice A n c] w fun v w' => v = .int .u32 (crcOf xs : Nat) ∧ w = w' := by
  subst hn
  simp only [maxLen] at hl
  refine calls_in (N := _) Try.func24 rfl Try.ntmps24 rfl ?_; show WC _ _ _ _ _ _
  refine wc_sr ?_; refine wl_as rfl rfl ?_; refine wl_ns ?_; refine wc_sr ?_; refine wl_as rfl rfl ?_; refine wl_ns ?_; refine wc_seq ?_; refine wc_sr ?_; refine wl_as rfl rfl ?_; refine wl_ns ?_; refine wc_block ?_
  refine wc_loop (fun L wr m => ∃ k : Nat, L = [(0, .slice A xs.length c), (3, .int .u32 (crcRaw 4294967295 (xs.take k) : Nat)), (4, .int .i64 (k : Int))] ∧ k ≤ xs.length ∧ w = wr ∧ m = xs.length - k)
    [(0, .slice A xs.length c), (3, .int .u32 (4294967295 : Nat)), (4, .int .i64 (0 : Nat))] xs.length ⟨0, rfl, by omega, rfl, rfl⟩ ⟨rfl, rfl, rfl, trivial⟩ ?_
  rintro _ _ m ⟨k, rfl, hk, rfl, rfl⟩
  have hlt := raw_lt (xs.take k) (x := 4294967295) (by decide)
  refine wc_seq ?_; refine wc_sr ?_; refine wl_mv rfl rfl ?_; refine wl_mv rfl rfl ?_; apply wl_val; apply opv_len; exact rfl; exact tyB.sl; exact rfl; refine wl_bin rfl rfl bin_lss rfl ?_; refine wl_ns ?_
  refine wc_cond rfl (fun h1 => ?_) (fun h1 => ?_)
  · obtain ⟨b, hb⟩ : ∃ x, xs[k]? = some x := ⟨_, List.getElem?_eq_getElem (by omega)⟩
    have hbl := b.toNat_lt
    have hsn : crcRaw 4294967295 (xs.take (k + 1)) = eightC (crcRaw 4294967295 (xs.take k) ^^^ b.toNat) := by
      rw [List.take_add_one, hb, Option.toList_some, raw_snoc]
    have hxl := xorb_lt hlt b
    refine wc_skip ?_; refine we_seq ?_; refine wc_seq ?_; refine wc_block ?_; refine wc_sr ?_; refine wl_mv rfl rfl ?_; refine wl_mv rfl rfl ?_; refine wl_mv rfl rfl ?_; apply wl_byK (T := tyB) (hr := hr) (hb := hb); exact rfl; exact rfl; exact rfl; exact rfl; exact rfl; intro _; apply wl_val; apply opv_convR; exact rfl; exact Try.underlying5; exact Try.underlying28; exact IntWalk.u32_in _ (by omega); exact rfl
    refine wl_val (opv_bin rfl rfl (bin_xor rfl hlt (by simp only [IntKind.bits]; omega))) rfl ?_
    refine wl_as rfl rfl ?_; refine wl_ns ?_; refine wc_sr ?_; refine wl_as rfl rfl ?_; refine wl_ns ?_; refine wc_block ?_
    refine wc_loop (fun L wr m => ∃ (j y : Nat), L = [(0, .slice A xs.length c), (3, .int .u32 (y : Int)), (4, .int .i64 (k : Int)), (5, .int .i64 (j : Int))] ∧ j ≤ 8 ∧ y < 4294967296 ∧ stepsC (8 - j) y = eightC (crcRaw 4294967295 (xs.take k) ^^^ b.toNat) ∧ w = wr ∧ m = 8 - j)
      [(0, .slice A xs.length c), (3, .int .u32 (crcRaw 4294967295 (xs.take k) ^^^ b.toNat : Nat)), (4, .int .i64 (k : Int)), (5, .int .i64 (0 : Nat))] 8 ⟨0, _, rfl, by omega, hxl, rfl, rfl, rfl⟩ ⟨rfl, rfl, rfl, rfl, trivial⟩ ?_
    rintro _ _ m ⟨j, y, rfl, hj, hy, he, rfl, rfl⟩
    refine wc_seq ?_; refine wc_sr ?_; refine wl_mv rfl rfl ?_; refine wl_bin rfl rfl bin_lss rfl ?_; refine wl_ns ?_
    refine wc_cond rfl (fun h3 => ?_) (fun h3 => ?_)
    · have he' : stepsC (8 - (j + 1)) (stepC y) = eightC (crcRaw 4294967295 (xs.take k) ^^^ b.toNat) := by rw [← he, show 8 - j = (8 - (j + 1)) + 1 by omega]; rfl
      have hsl := step_lt hy
      refine wc_skip ?_; refine we_seq ?_; refine wc_seq ?_; refine wc_block ?_; refine wc_sr ?_; refine wl_mv rfl rfl ?_
      refine wl_val (opv_bin (b := .int .u32 (2 : Nat)) rfl rfl (bin_rem (by omega))) rfl ?_
      refine wl_bin rfl rfl bin_eql rfl ?_; refine wl_as rfl rfl ?_; refine wl_ns ?_; refine wc_sr ?_; refine wl_mv rfl rfl ?_
      refine wl_val (opv_bin (b := .int .u32 (2 : Nat)) rfl rfl (bin_quo (by omega) (wrap_small rfl (by simp only [IntKind.bits]; omega)))) rfl ?_
      refine wl_as rfl rfl ?_; refine wl_ns ?_; refine wc_sr ?_; refine wl_mv rfl rfl ?_; refine wl_ns ?_
      refine wc_cond rfl (fun h2 => ?_) (fun h2 => ?_)
      · rw [stepC_odd (by omega)] at he' hsl
        refine wc_region ?_; refine wl_mv rfl rfl ?_
        refine wl_val (opv_bin (b := .int .u32 (3988292384 : Nat)) rfl rfl (bin_xor rfl (by simp only [IntKind.bits]; omega) (by decide))) rfl ?_
        refine wl_as rfl rfl ?_; refine wl_nil ?_; refine we_block_norm ?_; refine we_seq ?_; refine wc_region ?_; refine wl_mv rfl rfl ?_; apply wl_val; apply opv_bin; exact rfl; exact rfl; exact bin_add64 (by omega); exact rfl; refine wl_as rfl rfl ?_; refine wl_nil ?_
        refine we_loop [(0, .slice A xs.length c), (3, .int .u32 (y / 2 ^^^ 3988292384 : Nat)), (4, .int .i64 (k : Int)), (5, .int .i64 ((j + 1 : Nat) : Int))] (8 - (j + 1)) ⟨j + 1, _, rfl, by omega, hsl, he', rfl, rfl⟩ (by omega) ⟨rfl, rfl, rfl, rfl, trivial⟩
      · rw [stepC_even (by omega)] at he' hsl
        refine wc_skip ?_; refine we_block_norm ?_; refine we_seq ?_; refine wc_region ?_; refine wl_mv rfl rfl ?_; apply wl_val; apply opv_bin; exact rfl; exact rfl; exact bin_add64 (by omega); exact rfl; refine wl_as rfl rfl ?_; refine wl_nil ?_
        refine we_loop [(0, .slice A xs.length c), (3, .int .u32 (y / 2 : Nat)), (4, .int .i64 (k : Int)), (5, .int .i64 ((j + 1 : Nat) : Int))] (8 - (j + 1)) ⟨j + 1, _, rfl, by omega, hsl, he', rfl, rfl⟩ (by omega) ⟨rfl, rfl, rfl, rfl, trivial⟩
    · obtain rfl : j = 8 := by omega
      have e : y = crcRaw 4294967295 (xs.take (k + 1)) := by rw [hsn]; exact he
      refine wc_exit ?_; refine we_seq_exit ?_; refine we_loop_exit ?_; refine we_block_exit ?_; refine we_block_norm ?_; refine we_seq ?_; refine wc_region ?_; refine wl_mv rfl rfl ?_; apply wl_val; apply opv_bin; exact rfl; exact rfl; exact bin_add64 (by omega); exact rfl; refine wl_as rfl rfl ?_; refine wl_nil ?_
      refine we_loop [(0, .slice A xs.length c), (3, .int .u32 (crcRaw 4294967295 (xs.take (k + 1)) : Nat)), (4, .int .i64 ((k + 1 : Nat) : Int))] (xs.length - (k + 1)) ⟨k + 1, rfl, by omega, rfl, rfl⟩ (by omega) ⟨rfl, by rw [← e]; rfl, rfl, trivial⟩
  · obtain rfl : k = xs.length := by omega
    rw [List.take_length] at hlt ⊢
    refine wc_exit ?_; refine we_seq_exit ?_; refine we_loop_exit ?_; refine we_block_exit ?_; refine we_seq ?_; refine wc_sr ?_; refine wl_mv rfl rfl ?_
    refine wl_val (opv_bin (a := .int .u32 (4294967295 : Nat)) rfl rfl (bin_subU' rfl (by omega) (by decide))) rfl ?_
    refine wl_as rfl rfl ?_; refine wl_ns ?_; refine wc_ret ?_
    exact we_ret1 rfl rfl ⟨_, rfl, rfl, rfl⟩

theorem join_any {A : Option Addr} {n c : Nat} {rows : List (List UInt8)} {w : World} (hr : RdBB w A rows) (hn : rows.length = n) (hl : rows.flatten.length ≤ 140737488355328) (hl2 : rows.length ≤ maxLen) : CallsV Try.prog 25 #[.slice A n c] w (RetB w rows.flatten) := by
  subst hn
  simp only [maxLen] at hl2
  refine calls_in (N := _) Try.func25 rfl Try.ntmps25 rfl ?_; show WC _ _ _ _ _ _
  refine wc_sr ?_; refine wl_as rfl rfl ?_; refine wl_ns ?_; refine wc_sr ?_; refine wl_as rfl rfl ?_; refine wl_ns ?_; refine wc_seq ?_; refine wc_sr ?_; refine wl_mv rfl rfl ?_; apply wl_val; apply opv_len; exact rfl; exact tyBB.sl; exact rfl; refine wl_mv rfl rfl ?_; refine wl_ns ?_; refine wc_block ?_
  refine wc_loop (fun L wr m => ∃ (k : Nat) (P : Option Addr) (cp : Nat), L = [(3, .slice P (rows.take k).flatten.length cp), (6, .slice A rows.length c), (7, .int .i64 (rows.length : Int)), (8, .int .i64 (k : Int))] ∧ k ≤ rows.length ∧ OwB wr w.heap.size P cp (rows.take k).flatten ∧ Below w.heap.size w wr ∧ m = rows.length - k)
    [(3, .slice none 0 0), (6, .slice A rows.length c), (7, .int .i64 (rows.length : Int)), (8, .int .i64 (0 : Nat))] rows.length ⟨0, none, 0, rfl, by omega, Ow.nil _ _ _, Below.refl _ _, rfl⟩ ⟨rfl, rfl, rfl, rfl, trivial⟩ ?_
  rintro _ w1 m ⟨k, P, cp, rfl, hk, o1, hb1, rfl⟩
  refine wc_sr ?_; refine wl_bin rfl rfl bin_lss rfl ?_; refine wl_ns ?_; refine wc_seq ?_
  refine wc_cond rfl (fun h1 => ?_) (fun h1 => ?_)
  · obtain ⟨x, hx⟩ : ∃ x, rows[k]? = some x := ⟨_, List.getElem?_eq_getElem (by omega)⟩
    obtain ⟨vs, X, cx, hv0, hvk, rx, hcx⟩ := hr.at hx
    have hv := hv0.below hb1
    have e2 : (rows.take (k + 1)).flatten = (rows.take k).flatten ++ x := by rw [List.take_add_one, hx]; simp
    have e3 := congrArg List.length e2
    rw [List.length_append] at e3
    have e4 : (rows.take (k + 1)).flatten.length ≤ rows.flatten.length := by
      have : rows.flatten = (rows.take (k + 1)).flatten ++ (rows.drop (k + 1)).flatten := by rw [← List.flatten_append, List.take_append_drop]
      rw [this, List.length_append]; omega
    refine wc_skip ?_; refine we_seq ?_; refine wc_seq ?_; refine wc_block ?_; refine wc_sr ?_; apply wl_elK (T := tyBB) (hr := hv) (hb := hvk); exact rfl; exact rfl; exact rfl; exact rfl; exact rfl; intro _; refine wl_as rfl rfl ?_; refine wl_ns ?_; refine wc_region ?_; refine wl_mv rfl rfl ?_; refine wl_mv rfl rfl ?_
    refine wl_app tyB rfl o1 rfl (RdB.below rx hb1) (bvs_one _) (by omega) (by simp only [maxLen]; omega) hb1.size rfl fun A4 c4 w4 o4 g4 _ => ?_
    have hb4 := g4.below hb1 o1 (Nat.le_refl _) hb1.size
    have o5 := OwB.app o4
    rw [← e2] at o5
    refine wl_as rfl rfl ?_; refine wl_nil ?_; refine we_block_norm ?_; refine we_seq ?_; refine wc_region ?_; apply wl_val; apply opv_bin; exact rfl; exact rfl; exact bin_add64 (by omega); exact rfl; refine wl_mv rfl rfl ?_; refine wl_nil ?_
    refine we_loop [(3, .slice A4 (rows.take (k + 1)).flatten.length c4), (6, .slice A rows.length c), (7, .int .i64 (rows.length : Int)), (8, .int .i64 ((k + 1 : Nat) : Int))] (rows.length - (k + 1)) ⟨k + 1, A4, c4, rfl, by omega, o5, hb4, rfl⟩ (by omega) ⟨by rw [e3]; rfl, rfl, rfl, by simp [lookT], trivial⟩
  · obtain rfl : k = rows.length := by omega
    rw [List.take_length] at o1 ⊢
    refine wc_exit ?_; refine we_seq_exit ?_; refine we_loop_exit ?_; refine we_block_exit ?_; refine we_seq ?_; refine wc_sr ?_; refine wl_mv rfl rfl ?_; refine wl_as rfl rfl ?_; refine wl_ns ?_; refine wc_ret ?_
    exact we_ret1 rfl rfl ⟨_, rfl, P, cp, rfl, o1, hb1⟩
end Go.Proofs.Ytdppekhnahnjjaa
