
/-
  Walks over OrdI and the reading of eight bytes, of the program and of the references.
-/
import Derived.Test.YtcjiecclmepboaaWk
namespace Go.Proofs.Ytcjiecclmepboaa
open Go.RowKit

/-- A signed number as the unsigned one that stands in its place. -/
def lift (i : Int) : Nat := (i + 9223372036854775808).toNat
theorem lift_lt {i : Int} (h : -9223372036854775808 ≤ i ∧ i ≤ 9223372036854775807) : lift i < 2 ^ 64 := by
  unfold lift; omega
theorem lift_wrap {i : Int} (h : -9223372036854775808 ≤ i ∧ i ≤ 9223372036854775807) : ∃ u : Nat, IntKind.u64.wrap i = u ∧ u < 2 ^ 64 ∧ (u + 9223372036854775808) % 18446744073709551616 = lift i := by
  unfold lift
  have e : IntKind.u64.wrap i = i % 18446744073709551616 := by simp [IntKind.wrap, IntKind.bits, IntKind.signed]
  rw [e]
  by_cases h0 : 0 ≤ i
  · exact ⟨i.toNat, by omega, by omega, by omega⟩
  · exact ⟨(i + 18446744073709551616).toNat, by omega, by omega, by omega⟩

theorem ordI_any (i : Int) (hi : -9223372036854775808 ≤ i ∧ i ≤ 9223372036854775807) (w : World) : CallsV Try.prog 84 #[.int .i64 i] w (RetB w (ordU (lift i))) := by
  obtain ⟨u, hu, hlt, hl⟩ := lift_wrap hi
  have hll := lift_lt hi
  refine calls_in (N := _) Try.func84 rfl Try.ntmps84 rfl ?_; show WC _ _ _ _ _ _
  refine wc_sr ?_; refine wl_as rfl rfl ?_; refine wl_ns ?_; refine wc_sr ?_; refine wl_mv rfl rfl ?_
  refine wl_val (opv_convR rfl Try.underlying2 Try.underlying121 hu) rfl ?_
  refine wl_val (opv_bin (b := .int .u64 (9223372036854775808 : Nat)) rfl rfl (bin_xor rfl hlt (by decide))) rfl ?_
  rw [xor_top hlt, hl]
  refine wl_call ok_codec_OrdU (ordU_any _ hll _) ⟨rfl, trivial⟩ rfl ?_
  rintro _ w2 ⟨A2, c2, rfl, o2, h2⟩
  refine wl_as rfl rfl ?_; refine wl_ns ?_; refine wc_ret ?_
  exact we_ret1 rfl rfl ⟨_, rfl, A2, c2, rfl, o2, h2⟩
theorem refOrdI_any (i : Int) (hi : -9223372036854775808 ≤ i ∧ i ≤ 9223372036854775807) (w : World) : CallsV Try.prog 86 #[.int .i64 i] w (RetB w (ordU (lift i))) := by
  obtain ⟨u, hu, hlt, hl⟩ := lift_wrap hi
  have hll := lift_lt hi
  refine calls_in (N := _) Try.func86 rfl Try.ntmps86 rfl ?_; show WC _ _ _ _ _ _
  refine wc_sr ?_; refine wl_as rfl rfl ?_; refine wl_ns ?_; refine wc_sr ?_; refine wl_mv rfl rfl ?_
  refine wl_val (opv_convR rfl Try.underlying2 Try.underlying121 hu) rfl ?_
  refine wl_val (opv_bin (b := .int .u64 (9223372036854775808 : Nat)) rfl rfl (bin_addU rfl)) rfl ?_
  rw [show (u + 9223372036854775808) % 2 ^ IntKind.u64.bits = lift i from hl]
  refine wl_call ok_caissonref01_OrdU (refOrdU_any _ hll _) ⟨rfl, trivial⟩ rfl ?_
  rintro _ w2 ⟨A2, c2, rfl, o2, h2⟩
  refine wl_as rfl rfl ?_; refine wl_ns ?_; refine wc_ret ?_
  exact we_ret1 rfl rfl ⟨_, rfl, A2, c2, rfl, o2, h2⟩

theorem or_byte {n : Nat} (x : UInt8) : n * 2 ^ 8 ||| x.toNat = n * 256 + x.toNat := by
  rw [show n * 256 = 2 ^ 8 * n by omega, Nat.two_pow_add_eq_or_of_lt x.toNat_lt]
theorem numB_lt' (l : List UInt8) (k : Nat) (h : k ≤ 7) : numB (l.take k) < 72057594037927936 := by
  refine Nat.lt_of_lt_of_le (numB_lt _) ?_
  refine Nat.le_trans (Nat.pow_le_pow_right (by decide) (show (l.take k).length ≤ 7 by simp; omega)) (by decide)

theorem getOrdU_any {A : Option Addr} {n c : Nat} {xs : List UInt8} {p : Int} {w : World} (hr : RdB w A xs) (hn : xs.length = n) (hc : xs.length ≤ c) (hl : xs.length ≤ 1125899906842624) (hp : -9223372036854775808 ≤ p ∧ p ≤ 9223372036854775807) :
    CallsV Try.prog 113 #[.slice A n c, .int .i64 p] w (RetN w (getOrdU xs p)) := by
  subst hn
  refine calls_in (N := _) Try.func113 rfl Try.ntmps113 rfl ?_; show WC _ _ _ _ _ _
  refine wc_sr ?_; refine wl_as rfl rfl ?_; refine wl_as rfl rfl ?_; refine wl_as rfl rfl ?_; refine wl_ns ?_; refine wc_seq ?_; refine wc_sr ?_; refine wl_mv rfl rfl ?_; refine wl_mv rfl rfl ?_
  refine wl_call ok_codec_inside (inside_any p w) ⟨rfl, rfl, trivial⟩ rfl ?_
  rintro _ _ ⟨rfl, rfl⟩
  apply wl_val; apply opv_notD; exact rfl; exact rfl; refine wl_ns ?_
  refine wc_cond rfl (fun h => ?_) (fun h => ?_)
  · refine wc_sr ?_; refine wl_as rfl rfl ?_; refine wl_as rfl rfl ?_; refine wl_as rfl rfl ?_; refine wl_ns ?_; refine wc_ret ?_; refine we_seq_ret ?_
    exact we_ret3 rfl rfl rfl rfl ⟨_, rfl, by rw [getOrdU_arg h]; rfl, Below.refl _ _⟩
  · have h' : 0 ≤ p ∧ p ≤ xs.length := by simpa using h
    obtain ⟨q, rfl⟩ := Int.eq_ofNat_of_zero_le h'.1
    refine wc_skip ?_; refine we_seq ?_; refine wc_seq ?_; refine wc_sr ?_; refine wl_mv rfl rfl ?_; apply wl_val; apply opv_len; exact rfl; exact tyB.sl; exact rfl; refine wl_mv rfl rfl ?_; apply wl_val; apply opv_bin; exact rfl; exact rfl; exact bin_sub64 (by omega); exact rfl; refine wl_bin rfl rfl bin_lss rfl ?_; refine wl_ns ?_
    refine wc_cond rfl (fun h8 => ?_) (fun h8 => ?_)
    · refine wc_sr ?_; refine wl_as rfl rfl ?_; refine wl_as rfl rfl ?_; refine wl_as rfl rfl ?_; refine wl_ns ?_; refine wc_ret ?_; refine we_seq_ret ?_
      exact we_ret3 rfl rfl rfl rfl ⟨_, rfl, by rw [getOrdU_end h' h8]; rfl, Below.refl _ _⟩
    · have hq : q + 8 ≤ xs.length := by omega
      refine wc_skip ?_; refine we_seq ?_; refine wc_sr ?_; refine wl_as rfl rfl ?_; refine wl_ns ?_; refine wc_seq ?_; refine wc_sr ?_; refine wl_mv rfl rfl ?_; refine wl_mv rfl rfl ?_; refine wl_mv rfl rfl ?_; apply wl_val; apply opv_bin; exact rfl; exact rfl; exact bin_add64 (by omega); exact rfl
      refine wl_sl (l := q) (h := q + 8) tyB rfl ⟨_, rfl⟩ ⟨_, by simp only [Int.natCast_add]; rfl⟩ (by omega) (by omega) rfl ?_
      have r1 := rd_cut hr (show q ≤ q + 8 by omega) hq hc
      have el : (xs.take (q + 8)).drop q = (xs.drop q).take 8 := by rw [List.drop_take]; congr 1; omega
      rw [el] at r1
      have hlen : ((xs.drop q).take 8).length = 8 := by simp; omega
      obtain ⟨ys, hys⟩ : ∃ ys, (xs.drop q).take 8 = ys := ⟨_, rfl⟩
      rw [hys] at r1 hlen
      unfold RdB at r1
      rw [hlen] at r1
      rw [show q + 8 - q = 8 by omega]
      apply wl_val; apply opv_len; exact rfl; exact tyB.sl; exact rfl; refine wl_mv rfl rfl ?_; refine wl_ns ?_; refine wc_block ?_
      refine wc_loop (fun L wr m => ∃ k : Nat, L = [(1, .int .i64 (q : Int)), (7, .int .u64 (numB (ys.take k) : Int)), (23, .slice (cutA A c q) 8 (c - q)), (24, .int .i64 (8 : Int)), (25, .int .i64 (k : Int))] ∧ k ≤ 8 ∧ w = wr ∧ m = 8 - k)
        [(1, .int .i64 (q : Int)), (7, .int .u64 (0 : Nat)), (23, .slice (cutA A c q) 8 (c - q)), (24, .int .i64 (8 : Int)), (25, .int .i64 (0 : Nat))] 8 ⟨0, rfl, by omega, rfl, rfl⟩ ⟨rfl, rfl, rfl, rfl, rfl, trivial⟩ ?_
      rintro _ _ m ⟨k, rfl, hk, rfl, rfl⟩
      refine wc_sr ?_; refine wl_bin rfl rfl bin_lss rfl ?_; refine wl_ns ?_; refine wc_seq ?_
      refine wc_cond rfl (fun h1 => ?_) (fun h1 => ?_)
      · obtain ⟨x, hx⟩ : ∃ x, ys[k]? = some x := ⟨_, List.getElem?_eq_getElem (by omega)⟩
        have hnl := numB_lt' ys k (by omega)
        refine wc_skip ?_; refine we_seq ?_; refine wc_seq ?_; refine wc_block ?_; refine wc_sr ?_; apply wl_byK (T := tyB) (hr := r1) (hb := hx); exact rfl; exact rfl; exact rfl; exact rfl; exact rfl; intro _; refine wl_as rfl rfl ?_; refine wl_ns ?_; refine wc_region ?_; refine wl_mv rfl rfl ?_
        refine wl_val ((opv_bin (b := .int .u64 (8 : Nat)) rfl rfl (bin_shl rfl)).to (congrArg (fun z : Nat => Value.int .u64 (z : Int)) (Nat.mod_eq_of_lt (show numB (ys.take k) * 2 ^ 8 < 2 ^ IntKind.u64.bits from by simp only [IntKind.bits]; omega)))) rfl ?_
        have hxl := x.toNat_lt
        refine wl_mv rfl rfl ?_; apply wl_val; apply opv_convR; exact rfl; exact Try.underlying5; exact Try.underlying121; exact IntWalk.u64_in _ (by omega); exact rfl
        refine wl_val (opv_bin rfl rfl (bin_or rfl (by simp only [IntKind.bits]; omega) (by simp only [IntKind.bits]; omega))) rfl ?_
        rw [or_byte, ← numB_step hx]
        refine wl_as rfl rfl ?_; refine wl_nil ?_; refine we_block_norm ?_; refine we_seq ?_; refine wc_region ?_; apply wl_val; apply opv_bin; exact rfl; exact rfl; exact bin_add64 (by omega); exact rfl; refine wl_mv rfl rfl ?_; refine wl_nil ?_
        refine we_loop [(1, .int .i64 (q : Int)), (7, .int .u64 (numB (ys.take (k + 1)) : Int)), (23, .slice (cutA A c q) 8 (c - q)), (24, .int .i64 (8 : Int)), (25, .int .i64 ((k + 1 : Nat) : Int))] (8 - (k + 1)) ⟨k + 1, rfl, by omega, rfl, rfl⟩ (by omega) ⟨rfl, rfl, rfl, rfl, rfl, trivial⟩
      · obtain rfl : k = 8 := by omega
        rw [List.take_of_length_le (by omega)]
        refine wc_exit ?_; refine we_seq_exit ?_; refine we_loop_exit ?_; refine we_block_exit ?_; refine we_seq ?_; refine wc_sr ?_; refine wl_mv rfl rfl ?_; refine wl_mv rfl rfl ?_; apply wl_val; apply opv_bin; exact rfl; exact rfl; exact bin_add64 (by omega); exact rfl; refine wl_as rfl rfl ?_; refine wl_as rfl rfl ?_; refine wl_as rfl rfl ?_; refine wl_ns ?_; refine wc_ret ?_
        exact we_ret3 rfl rfl rfl rfl ⟨_, rfl, by rw [getOrdU_ok hq, hys]; rfl, Below.refl _ _⟩

theorem refGetOrdU_any {A : Option Addr} {n c : Nat} {xs : List UInt8} {p : Int} {w : World} (hr : RdB w A xs) (hn : xs.length = n) (hl : xs.length ≤ 1125899906842624) (hp : -9223372036854775808 ≤ p ∧ p ≤ 9223372036854775807) :
    CallsV Try.prog 87 #[.slice A n c, .int .i64 p] w (RetN w (getOrdU xs p)) := by
  subst hn
  refine calls_in (N := _) Try.func87 rfl Try.ntmps87 rfl ?_; show WC _ _ _ _ _ _
  refine wc_sr ?_; refine wl_as rfl rfl ?_; refine wl_as rfl rfl ?_; refine wl_as rfl rfl ?_; refine wl_ns ?_; refine wc_seq ?_; refine wc_sr ?_; refine wl_mv rfl rfl ?_; refine wl_bin rfl rfl bin_lss rfl ?_; refine wl_mv rfl rfl ?_
  refine wl_cutV 7 16 (.bool (decide ((p < 0) ∨ ((xs.length : Int) < p)))) ?c17 ?_; (case c17 => (dsimp only [List.take]; by_cases hc0 : (p < 0); (focus (apply wl_skip; exact rfl; exact rfl; exact rfl; refine bTn ?_; (with_reducible assumption); exact rfl; apply wl_skip; exact rfl; exact rfl; exact rfl; refine bTn ?_; (with_reducible assumption); exact rfl; apply wl_skip; exact rfl; exact rfl; exact rfl; refine bTn ?_; (with_reducible assumption); exact rfl; apply wl_skip; exact rfl; exact rfl; exact rfl; refine bTn ?_; (with_reducible assumption); exact rfl; apply wl_val; apply opv_pickT; exact rfl; refine bT ?_; (with_reducible assumption); exact rfl; exact rfl; refine wl_nil ?_; refine we_cut _ ⟨rfl, rfl⟩ ⟨congrArg (fun b => some (Value.bool b)) ?e17_0, ?s17_0⟩; (case e17_0 => ((simp [hc0]; done))); (case s17_0 => (refine And.intro rfl ?_; refine And.intro rfl ?_; refine And.intro rfl ?_; refine And.intro rfl ?_; refine And.intro rfl ?_; refine And.intro rfl ?_; refine And.intro rfl ?_; refine And.intro rfl ?_; exact True.intro)))); (focus (apply wl_take; exact rfl; exact rfl; exact rfl; refine bF ?_; (with_reducible assumption); refine wl_mv rfl rfl ?_; apply wl_take; exact rfl; exact rfl; exact rfl; refine bF ?_; (with_reducible assumption); refine wl_mv rfl rfl ?_; apply wl_take; exact rfl; exact rfl; exact rfl; refine bF ?_; (with_reducible assumption); apply wl_val; apply opv_len; exact rfl; exact tyB.sl; exact rfl; apply wl_take; exact rfl; exact rfl; exact rfl; refine bF ?_; (with_reducible assumption); refine wl_bin rfl rfl bin_gtr rfl ?_; apply wl_val; apply opv_pickF; exact rfl; refine bF ?_; (with_reducible assumption); exact rfl; exact rfl; refine wl_nil ?_; refine we_cut _ ⟨rfl, rfl⟩ ⟨congrArg (fun b => some (Value.bool b)) ?e17_1, ?s17_1⟩; (case e17_1 => ((simp [hc0]; done))); (case s17_1 => (refine And.intro rfl ?_; refine And.intro rfl ?_; refine And.intro rfl ?_; refine And.intro rfl ?_; refine And.intro rfl ?_; refine And.intro rfl ?_; refine And.intro rfl ?_; refine And.intro rfl ?_; exact True.intro)))))); dsimp only [List.drop]
  refine wl_ns ?_
  refine wc_cond rfl (fun h => ?_) (fun h => ?_)
  · refine wc_sr ?_; refine wl_as rfl rfl ?_; refine wl_as rfl rfl ?_; refine wl_as rfl rfl ?_; refine wl_ns ?_; refine wc_ret ?_; refine we_seq_ret ?_
    exact we_ret3 rfl rfl rfl rfl ⟨_, rfl, by rw [getOrdU_arg (by omega)]; rfl, Below.refl _ _⟩
  · have h' : 0 ≤ p ∧ p ≤ xs.length := by omega
    obtain ⟨q, rfl⟩ := Int.eq_ofNat_of_zero_le h'.1
    refine wc_skip ?_; refine we_seq ?_; refine wc_seq ?_; refine wc_sr ?_; refine wl_mv rfl rfl ?_; apply wl_val; apply opv_len; exact rfl; exact tyB.sl; exact rfl; refine wl_mv rfl rfl ?_; apply wl_val; apply opv_bin; exact rfl; exact rfl; exact bin_sub64 (by omega); exact rfl; refine wl_bin rfl rfl bin_lss rfl ?_; refine wl_ns ?_
    refine wc_cond rfl (fun h8 => ?_) (fun h8 => ?_)
    · refine wc_sr ?_; refine wl_as rfl rfl ?_; refine wl_as rfl rfl ?_; refine wl_as rfl rfl ?_; refine wl_ns ?_; refine wc_ret ?_; refine we_seq_ret ?_
      exact we_ret3 rfl rfl rfl rfl ⟨_, rfl, by rw [getOrdU_end h' h8]; rfl, Below.refl _ _⟩
    · have hq : q + 8 ≤ xs.length := by omega
      have hlen : ((xs.drop q).take 8).length = 8 := by simp; omega
      obtain ⟨ys, hys⟩ : ∃ ys, (xs.drop q).take 8 = ys := ⟨_, rfl⟩
      rw [hys] at hlen
      refine wc_skip ?_; refine we_seq ?_; refine wc_sr ?_; refine wl_as rfl rfl ?_; refine wl_ns ?_; refine wc_seq ?_; refine wc_sr ?_; refine wl_as rfl rfl ?_; refine wl_ns ?_; refine wc_block ?_
      refine wc_loop (fun L wr m => ∃ k : Nat, L = [(0, .slice A xs.length c), (1, .int .i64 (q : Int)), (7, .int .u64 (numB (ys.take k) : Int)), (8, .int .i64 (k : Int))] ∧ k ≤ 8 ∧ w = wr ∧ m = 8 - k)
        [(0, .slice A xs.length c), (1, .int .i64 (q : Int)), (7, .int .u64 (0 : Nat)), (8, .int .i64 (0 : Nat))] 8 ⟨0, rfl, by omega, rfl, rfl⟩ ⟨rfl, rfl, rfl, rfl, trivial⟩ ?_
      rintro _ _ m ⟨k, rfl, hk, rfl, rfl⟩
      refine wc_seq ?_; refine wc_sr ?_; refine wl_mv rfl rfl ?_; refine wl_bin rfl rfl bin_lss rfl ?_; refine wl_ns ?_
      refine wc_cond rfl (fun h1 => ?_) (fun h1 => ?_)
      · obtain ⟨x, hx⟩ : ∃ x, ys[k]? = some x := ⟨_, List.getElem?_eq_getElem (by omega)⟩
        have hx2 : xs[q + k]? = some x := by
          rw [← hys, List.getElem?_take, if_pos (by omega), List.getElem?_drop] at hx; exact hx
        have hnl := numB_lt' ys k (by omega)
        have hxl := x.toNat_lt
        refine wc_skip ?_; refine we_seq ?_; refine wc_seq ?_; refine wc_block ?_; refine wc_region ?_; refine wl_mv rfl rfl ?_
        refine wl_val (opv_bin (b := .int .u64 (256 : Nat)) rfl rfl (bin_mulU' rfl (by simp only [IntKind.bits]; omega))) rfl ?_
        refine wl_mv rfl rfl ?_; refine wl_mv rfl rfl ?_; refine wl_mv rfl rfl ?_; apply wl_val; apply opv_bin; exact rfl; exact rfl; exact bin_add64 (by omega); exact rfl; apply wl_byK (T := tyB) (hr := hr) (hb := hx2); exact rfl; exact rfl; exact rfl; exact rfl; exact rfl; intro _; apply wl_val; apply opv_convR; exact rfl; exact Try.underlying5; exact Try.underlying121; exact IntWalk.u64_in _ (by omega); exact rfl
        refine wl_val (opv_bin rfl rfl (bin_addU' rfl (by simp only [IntKind.bits]; omega))) rfl ?_
        rw [← numB_step hx]
        refine wl_as rfl rfl ?_; refine wl_nil ?_; refine we_block_norm ?_; refine we_seq ?_; refine wc_region ?_; refine wl_mv rfl rfl ?_; apply wl_val; apply opv_bin; exact rfl; exact rfl; exact bin_add64 (by omega); exact rfl; refine wl_as rfl rfl ?_; refine wl_nil ?_
        refine we_loop [(0, .slice A xs.length c), (1, .int .i64 (q : Int)), (7, .int .u64 (numB (ys.take (k + 1)) : Int)), (8, .int .i64 ((k + 1 : Nat) : Int))] (8 - (k + 1)) ⟨k + 1, rfl, by omega, rfl, rfl⟩ (by omega) ⟨rfl, rfl, rfl, rfl, trivial⟩
      · obtain rfl : k = 8 := by omega
        rw [List.take_of_length_le (by omega)]
        refine wc_exit ?_; refine we_seq_exit ?_; refine we_loop_exit ?_; refine we_block_exit ?_; refine we_seq ?_; refine wc_sr ?_; refine wl_mv rfl rfl ?_; refine wl_mv rfl rfl ?_; apply wl_val; apply opv_bin; exact rfl; exact rfl; exact bin_add64 (by omega); exact rfl; refine wl_as rfl rfl ?_; refine wl_as rfl rfl ?_; refine wl_as rfl rfl ?_; refine wl_ns ?_; refine wc_ret ?_
        exact we_ret3 rfl rfl rfl rfl ⟨_, rfl, by rw [getOrdU_ok hq, hys]; rfl, Below.refl _ _⟩

/-- What GetOrdI answers. -/
def RetI (w : World) (r : Nat × Int × Nat) (v : Value) (w' : World) : Prop :=
  v = .tuple #[.int .i64 (if r.2.2 = 0 then (r.1 : Int) - 9223372036854775808 else 0), .int .i64 r.2.1, .int .i64 (r.2.2 : Int)] ∧ Below w.heap.size w w'
theorem getOrdI_any {A : Option Addr} {n c : Nat} {xs : List UInt8} {p : Int} {w : World} (hr : RdB w A xs) (hn : xs.length = n) (hc : xs.length ≤ c) (hl : xs.length ≤ 1125899906842624) (hp : -9223372036854775808 ≤ p ∧ p ≤ 9223372036854775807) :
    CallsV Try.prog 104 #[.slice A n c, .int .i64 p] w (RetI w (getOrdU xs p)) := by
  refine calls_in (N := _) Try.func104 rfl Try.ntmps104 rfl ?_; show WC _ _ _ _ _ _
  refine wc_sr ?_; refine wl_as rfl rfl ?_; refine wl_as rfl rfl ?_; refine wl_as rfl rfl ?_; refine wl_ns ?_; refine wc_sr ?_; refine wl_mv rfl rfl ?_; refine wl_mv rfl rfl ?_
  refine wl_call ok_codec_GetOrdU (getOrdU_any hr hn hc hl hp) ⟨rfl, rfl, trivial⟩ rfl ?_
  rintro _ w2 ⟨rfl, hb⟩
  rcases getOrdU_cases xs p with ⟨e, he, hv⟩ | ⟨q, rfl, hq, hv⟩
  · rw [hv]
    refine wl_mv rfl rfl ?_; apply wl_val; apply opv_extract; exact rfl; exact rfl; exact rfl; apply wl_val; apply opv_extract; exact rfl; exact rfl; exact rfl; apply wl_val; apply opv_extract; exact rfl; exact rfl; exact rfl; refine wl_as rfl rfl ?_; refine wl_as rfl rfl ?_; refine wl_as rfl rfl ?_; refine wl_ns ?_; refine wc_seq ?_; refine wc_sr ?_; refine wl_mv rfl rfl ?_; refine wl_bin rfl rfl bin_neq rfl ?_; refine wl_ns ?_
    refine wc_cond rfl (fun _ => ?_) (fun h => absurd (fun h' => he (by exact_mod_cast h')) h)
    refine wc_sr ?_; refine wl_mv rfl rfl ?_; refine wl_as rfl rfl ?_; refine wl_as rfl rfl ?_; refine wl_as rfl rfl ?_; refine wl_ns ?_; refine wc_ret ?_; refine we_seq_ret ?_
    exact we_ret3 rfl rfl rfl rfl ⟨_, rfl, by simp only [if_neg he], hb⟩
  · rw [hv]
    have hlt : numB ((xs.drop q).take 8) < 2 ^ 64 := by
      refine Nat.lt_of_lt_of_le (numB_lt _) ?_
      refine Nat.le_trans (Nat.pow_le_pow_right (by decide) (show ((xs.drop q).take 8).length ≤ 8 by simp; omega)) (by decide)
    obtain ⟨v, hvv⟩ : ∃ v, numB ((xs.drop q).take 8) = v := ⟨_, rfl⟩
    rw [hvv] at hlt ⊢
    refine wl_mv rfl rfl ?_; apply wl_val; apply opv_extract; exact rfl; exact rfl; exact rfl; apply wl_val; apply opv_extract; exact rfl; exact rfl; exact rfl; apply wl_val; apply opv_extract; exact rfl; exact rfl; exact rfl; refine wl_as rfl rfl ?_; refine wl_as rfl rfl ?_; refine wl_as rfl rfl ?_; refine wl_ns ?_; refine wc_seq ?_; refine wc_sr ?_; refine wl_mv rfl rfl ?_; refine wl_bin rfl rfl bin_neq rfl ?_; refine wl_ns ?_
    refine wc_cond rfl (fun h => absurd rfl h) (fun _ => ?_)
    refine wc_skip ?_; refine we_seq ?_; refine wc_sr ?_; refine wl_mv rfl rfl ?_
    refine wl_val (opv_bin (b := .int .u64 (9223372036854775808 : Nat)) rfl rfl (bin_xor rfl hlt (by decide))) rfl ?_
    rw [xor_top hlt]
    refine wl_val (opv_convR rfl Try.underlying121 Try.underlying2 (r := (v : Int) - 9223372036854775808) ?_) rfl ?_
    · rw [IntKind.wrap_i64]; omega
    refine wl_mv rfl rfl ?_; refine wl_mv rfl rfl ?_; refine wl_as rfl rfl ?_; refine wl_as rfl rfl ?_; refine wl_as rfl rfl ?_; refine wl_ns ?_; refine wc_ret ?_
    exact we_ret3 rfl rfl rfl rfl ⟨_, rfl, rfl, hb⟩
end Go.Proofs.Ytcjiecclmepboaa
