/-
  Walks over the sealing of records by the program.
-/
import Derived.Test.YtdppekhnahnjjaaVf
namespace Go.Proofs.Ytdppekhnahnjjaa
open Go.RowKit

theorem RdBB.three' {w : World} {A A1 A2 A3 : Option Addr} {n1 n2 n3 c1 c2 c3 : Nat} {r s t : List UInt8} (h : Rd w A 3 [.slice A1 n1 c1, .slice A2 n2 c2, .slice A3 n3 c3]) (h1 : RdB w A1 r) (e1 : r.length = n1) (hc : r.length ≤ c1) (h2 : RdB w A2 s) (e2 : s.length = n2) (hc2 : s.length ≤ c2) (h3 : RdB w A3 t) (e3 : t.length = n3) (hc3 : t.length ≤ c3) : RdBB w A [r, s, t] := by
  subst e1 e2 e3; exact RdBB.three h h1 hc h2 hc2 h3 hc3
theorem put_any (n : Nat) (hn : n < 4294967296) (w : World) : CallsV Try.prog 64 #[.int .u32 n] w (RetB w (four n)) := by
  refine calls_in (N := _) Try.func64 rfl Try.ntmps64 rfl ?_; show WC _ _ _ _ _ _
  refine wc_sr ?_; refine wl_as rfl rfl ?_; refine wl_ns ?_; refine wc_sr ?_; refine wl_mv rfl rfl ?_
  refine wl_val (opv_bin (b := .int .u64 (24 : Nat)) rfl rfl (bin_shr hn)) rfl ?_
  apply wl_val; apply opv_convR; exact rfl; exact Try.underlying28; exact Try.underlying5; exact IntWalk.u8_in _ (by omega); exact rfl; refine wl_mv rfl rfl ?_
  refine wl_val (opv_bin (b := .int .u64 (16 : Nat)) rfl rfl (bin_shr hn)) rfl ?_
  apply wl_val; apply opv_convR; exact rfl; exact Try.underlying28; exact Try.underlying5; exact wrap_nat rfl _; exact rfl; refine wl_mv rfl rfl ?_
  refine wl_val (opv_bin (b := .int .u64 (8 : Nat)) rfl rfl (bin_shr hn)) rfl ?_
  apply wl_val; apply opv_convR; exact rfl; exact Try.underlying28; exact Try.underlying5; exact wrap_nat rfl _; exact rfl; refine wl_mv rfl rfl ?_; apply wl_val; apply opv_convR; exact rfl; exact Try.underlying28; exact Try.underlying5; exact wrap_nat rfl _; exact rfl
  refine wl_bs (vs := [_, _, _, _]) tyB ⟨rfl, rfl, rfl, rfl, rfl, rfl, rfl, rfl, rfl, rfl, rfl, rfl, trivial⟩ rfl (by decide) rfl fun A1 w1 o1 hb1 _ => ?_
  have e0 : Value.int .u8 ((n / 2 ^ 24 : Nat) : Int) = bv (UInt8.ofNat (n / 2 ^ 24)) := by
    unfold bv; rw [UInt8.toNat_ofNat', Nat.mod_eq_of_lt (by omega)]
  rw [e0, byte_of, byte_of, byte_of] at o1
  have o2 : OwB w1 w.heap.size A1 4 (four n) := OwB.of o1 (four_length n) (by rw [four_list]; rfl)
  refine wl_as rfl rfl ?_; refine wl_ns ?_; refine wc_ret ?_
  exact we_ret1 rfl rfl ⟨_, rfl, A1, 4, by rw [four_length], o2, hb1⟩
/-- New bytes and an error are handed back. -/
def RetSN (w : World) (x : List UInt8 × Nat) (v : Value) (w' : World) : Prop :=
  ∃ (A : Option Addr) (c : Nat), v = .tuple #[.slice A x.1.length c, .int .i64 (x.2 : Int)] ∧ NwB w' w.heap.size A c x.1 ∧ Below w.heap.size w w'
theorem seal_any {A : Option Addr} {n c : Nat} {rows : List (List UInt8)} {w : World} (hr : RdBB w A rows) (hn : rows.length = n) (hc : rows.length ≤ c) (hl : rows.flatten.length ≤ 140737488355328) (hl2 : rows.length ≤ maxLen) :
    CallsV Try.prog 51 #[.slice A n c] w (RetSN w (sealB rows.flatten)) := by
  subst hn
  refine calls_in (N := _) Try.func51 rfl Try.ntmps51 rfl ?_; show WC _ _ _ _ _ _
  refine wc_sr ?_; refine wl_as rfl rfl ?_; refine wl_as rfl rfl ?_; refine wl_ns ?_; refine wc_sr ?_; refine wl_mv rfl rfl ?_
  refine wl_call ok_bytes_Join (bJoin_any hr rfl hc hl hl2) ⟨rfl, rfl, trivial⟩ rfl ?_
  obtain ⟨ys, hys⟩ : ∃ ys, rows.flatten = ys := ⟨_, rfl⟩
  rw [hys] at hl ⊢
  rintro _ w1 ⟨A1, c1, rfl, o1, hb1⟩
  have hcap := o1.cap
  refine wl_as rfl rfl ?_; refine wl_ns ?_; refine wc_seq ?_; refine wc_sr ?_; refine wl_mv rfl rfl ?_; apply wl_val; apply opv_len; exact rfl; exact tyB.sl; exact rfl; refine wl_bin rfl rfl bin_gtr rfl ?_; refine wl_ns ?_
  refine wc_cond rfl (fun h => ?_) (fun h => ?_)
  · refine wc_sr ?_; refine wl_as rfl rfl ?_; refine wl_as rfl rfl ?_; refine wl_ns ?_; refine wc_ret ?_; refine we_seq_ret ?_
    refine we_ret2 rfl rfl rfl ⟨_, rfl, ?_⟩
    rw [sealB, if_pos (by omega)]
    exact ⟨none, 0, rfl, .inl ⟨rfl, rfl, rfl⟩, hb1⟩
  · have hyl : ys.length ≤ 1048576 := by omega
    rw [sealB_ok hyl]
    refine wc_skip ?_; refine we_seq ?_; refine wc_sr ?_; refine wl_mv rfl rfl ?_; apply wl_val; apply opv_len; exact rfl; exact tyB.sl; exact rfl; apply wl_val; apply opv_convR; exact rfl; exact Try.underlying3; exact Try.underlying28; exact IntWalk.u32_in _ (by omega); exact rfl
    refine wl_call ok_crc_put (put_any ys.length (by omega) w1) ⟨rfl, trivial⟩ rfl ?_
    rintro _ w2 ⟨A2, c2, rfl, o2, h2⟩
    have hc2 := o2.cap
    rw [four_length] at hc2 ⊢
    have hb2 := hb1.trans (h2.mono hb1.size)
    have r1 := RdB.below o1.rd h2
    refine wl_as rfl rfl ?_; refine wl_ns ?_; refine wc_sr ?_; refine wl_mv rfl rfl ?_; refine wl_mv rfl rfl ?_; refine wl_mv rfl rfl ?_
    refine wl_bs (vs := [_, _]) tyBB ⟨rfl, rfl, rfl, rfl, rfl, rfl, trivial⟩ rfl (by decide) rfl fun A3 w3 o3 h3 _ => ?_
    have hb3 := hb2.trans (h3.mono hb2.size)
    replace r1 := RdB.below r1 h3
    have r2 := RdB.below o2.rd h3
    have hrows := RdBB.two' o3.rd r2 (four_length _) (by rw [four_length]; exact hc2) r1 rfl hcap
    skip
    refine wl_call ok_crc_Sum (sum_any hrows rfl (by simp only [maxLen]; simp [four_length]; omega) (by simp only [maxLen]; simp)) ⟨rfl, trivial⟩ rfl ?_
    rintro _ w4 ⟨rfl, h4⟩
    have hb4 := hb3.trans (h4.mono hb3.size)
    replace r1 := RdB.below r1 h4
    replace r2 := RdB.below r2 h4
    obtain ⟨s, hs⟩ : ∃ s, crcOf [four ys.length, ys].flatten = s := ⟨_, rfl⟩
    have hs' : crcOf (four ys.length ++ ys) = s := by rw [← hs]; simp
    have hsl : s < 4294967296 := hs ▸ crcOf_lt _
    rw [hs]
    skip
    refine wl_call ok_crc_put (put_any s hsl w4) ⟨rfl, trivial⟩ rfl ?_
    rintro _ w5 ⟨A5, c5, rfl, o5, h5⟩
    have hc5 := o5.cap
    rw [four_length] at hc5 ⊢
    have hb5 := hb4.trans (h5.mono hb4.size)
    replace r1 := RdB.below r1 h5
    replace r2 := RdB.below r2 h5
    refine wl_mv rfl rfl ?_
    refine wl_bs (vs := [_, _, _]) tyBB ⟨rfl, rfl, rfl, rfl, rfl, rfl, rfl, rfl, rfl, trivial⟩ rfl (by decide) rfl fun A6 w6 o6 h6 _ => ?_
    have hb6 := hb5.trans (h6.mono hb5.size)
    replace r1 := RdB.below r1 h6
    replace r2 := RdB.below r2 h6
    have r5 := RdB.below o5.rd h6
    have hrow3 := RdBB.three' o6.rd r2 (four_length _) (by rw [four_length]; exact hc2) r5 (four_length _) (by rw [four_length]; exact hc5) r1 rfl hcap
    have e3 : [four ys.length, four s, ys].flatten = crcRec ys := by rw [crcRec, hs']; simp
    refine wl_call ok_bytes_Join (bJoin_any hrow3 rfl (by simp) (by rw [e3, crcRec_length]; omega) (by simp only [maxLen]; simp)) ⟨rfl, rfl, trivial⟩ rfl ?_
    rw [e3]
    rintro _ w7 ⟨A7, c7, rfl, o7, h7⟩
    have hb7 := hb6.trans (h7.mono hb6.size)
    refine wl_as rfl rfl ?_; refine wl_as rfl rfl ?_; refine wl_ns ?_; refine wc_ret ?_
    exact we_ret2 rfl rfl rfl ⟨_, rfl, A7, c7, rfl, o7.mono hb6.size, hb7⟩
end Go.Proofs.Ytdppekhnahnjjaa
