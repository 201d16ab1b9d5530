/-
  The walk over the law CrcBursts.
-/
import Derived.Test.YtdppekhnahnjjaaPh
import Derived.Test.YtdppekhnahnjjaaL9
namespace Go.Proofs.Ytdppekhnahnjjaa
open Go.RowKit

/-- A store whose address has been taken ahead. -/
theorem wl_storeP {P : Program} {N : Nat} {ops : Array Oper} {Q : Exit → Act → World → Prop} {rest : List Oper} {L : FL} {w : World} {t e : TypeId} {z : Value} {bytes : Nat} {x y : Operand} {ty : TypeId} {pos : String} {aft : Array Edge} {base g n c kk : Nat} {u : Value} {xs : List Value} (T : Row1 P t e z bytes)
    (ho : Ow w base e (some ⟨g, 0, none⟩) n c xs) (hk : kk < n) (hx : look L x = some (.pointer (some ⟨g, 0 + kk, none⟩))) (hy : look L y = some u) (h1 : u.oneCell' = true)
    (h : ∀ w', Ow w' base e (some ⟨g, 0, none⟩) n c (xs.set kk u) → Gr w w' (some ⟨g, 0, none⟩) → w'.heap.size = w.heap.size → WL P N ops Q rest L w') :
    WL P N ops Q (⟨none, .store e x y, ty, pos, aft, none⟩ :: rest) L w := by
  obtain ⟨g', cap, hv, _, hlt⟩ := World.ownsRow.form ho (by omega)
  injection hv with hA hn hc
  injection hA with hA
  injection hA with hA
  subst hA hc
  have hl : kk < xs.length := by have := ho.len; omega
  have hcell := World.ownsRow.cellAt ho kk (by omega)
  have hfr := World.ownsRow.frozenAt ho kk
  rw [List.getElem?_eq_getElem hl] at hcell
  have hst := World.ownsRow.stored ho kk u
  refine wl_unitN (opu_store T hx hy h1 (v := xs[kk]) (by simpa using hcell) (by simpa using hfr)) ?_
  simp only [Nat.zero_add]
  exact h _ hst.1 hst.2 (by simp [World.setCell])

theorem RdBB.one' {w : World} {A A1 : Option Addr} {n1 c1 : Nat} {r : List UInt8} (h : Rd w A 1 [.slice A1 n1 c1]) (h1 : RdB w A1 r) (e1 : r.length = n1) (hc : r.length ≤ c1) : RdBB w A [r] := by subst e1; exact RdBB.one h h1 hc
set_option maxHeartbeats 1000000 in
theorem bursts_walk {A : Option Addr} {n c m : Nat} {xs : List UInt8} {p : Int} {w : World} (r1 : RdB w A xs) (hn : xs.length = n) (hc : xs.length ≤ c) (hl : xs.length ≤ 140737488355328) (hp : -9223372036854775808 ≤ p ∧ p ≤ 9223372036854775807) (hm : m < 4294967296) :
    CallsV Try.prog 12 #[.slice A n c, .int .i64 p, .int .u32 (m : Int)] w (RetTrue w) := by
  subst hn
  have r0 := r1
  have hb := Below.refl w.heap.size w
  refine calls_in (N := _) Try.func12 rfl Try.ntmps12 rfl ?_; show WC _ _ _ _ _ _
  refine wc_sr ?_; refine wl_as rfl rfl ?_; refine wl_ns ?_; refine wc_seq ?_; refine wc_sr ?_
  refine wl_call ok_caissonlaw03_awake (awake3_any _) trivial rfl ?_; rintro _ _ ⟨rfl, hbx⟩; replace r1 := RdB.below r1 hbx; replace hb := hb.trans (hbx.mono hb.size); clear hbx
  apply wl_val; apply opv_not; exact rfl; exact rfl; refine wl_ns ?_
  refine wc_condF rfl ?_
  refine wc_skip ?_; refine we_seq ?_; refine wc_seq ?_; refine wc_sr ?_; refine wl_mv rfl rfl ?_; apply wl_val; apply opv_len; exact rfl; exact tyB.sl; exact rfl; refine wl_bin rfl rfl bin_lss rfl ?_; refine wl_mv rfl rfl ?_
  refine wl_cutV 16 35 (.bool (decide ((xs.length : Int) < 5 ∨ (m : Int) = 0 ∨ p < 0 ∨ 8 * ((xs.length : Int) - 4) - 8 < p))) ?c3 ?_; (case c3 => (dsimp only [List.take]; by_cases hc0 : ((xs.length : Int) < 5); (focus (by_cases hc1 : ((m : Int) = 0); (focus (by_cases hc2 : (p < 0); (focus (apply wl_skip; exact rfl; exact rfl; exact rfl; exact decide_eq_true (by assumption); exact rfl; apply wl_skip; exact rfl; exact rfl; exact rfl; exact decide_eq_true (by assumption); exact rfl; apply wl_val; apply opv_pickT; exact rfl; exact decide_eq_true (by assumption); exact rfl; exact rfl; refine wl_mv rfl rfl ?_; apply wl_skip; exact rfl; exact rfl; exact rfl; exact rfl; exact rfl; apply wl_skip; exact rfl; exact rfl; exact rfl; exact rfl; exact rfl; apply wl_val; apply opv_pickT; exact rfl; exact rfl; exact rfl; exact rfl; refine wl_mv rfl rfl ?_; apply wl_skip; exact rfl; exact rfl; exact rfl; exact rfl; exact rfl; apply wl_skip; exact rfl; exact rfl; exact rfl; exact rfl; exact rfl; apply wl_skip; exact rfl; exact rfl; exact rfl; exact rfl; exact rfl; apply wl_skip; exact rfl; exact rfl; exact rfl; exact rfl; exact rfl; apply wl_skip; exact rfl; exact rfl; exact rfl; exact rfl; exact rfl; apply wl_skip; exact rfl; exact rfl; exact rfl; exact rfl; exact rfl; apply wl_skip; exact rfl; exact rfl; exact rfl; exact rfl; exact rfl; apply wl_val; apply opv_pickT; exact rfl; exact rfl; exact rfl; exact rfl; refine wl_nil ?_; refine we_cut _ ⟨rfl, rfl⟩ ⟨congrArg (fun b => some (Value.bool b)) ?e3_0, ?s3_0⟩; (case e3_0 => ((simp [hc0, hc1, hc2]; done))); (case s3_0 => (refine And.intro rfl ?_; refine And.intro rfl ?_; refine And.intro rfl ?_; refine And.intro rfl ?_; refine And.intro rfl ?_; refine And.intro rfl ?_; refine And.intro rfl ?_; refine And.intro rfl ?_; refine And.intro rfl ?_; refine And.intro rfl ?_; exact True.intro)))); (focus (apply wl_skip; exact rfl; exact rfl; exact rfl; exact decide_eq_true (by assumption); exact rfl; apply wl_skip; exact rfl; exact rfl; exact rfl; exact decide_eq_true (by assumption); exact rfl; apply wl_val; apply opv_pickT; exact rfl; exact decide_eq_true (by assumption); exact rfl; exact rfl; refine wl_mv rfl rfl ?_; apply wl_skip; exact rfl; exact rfl; exact rfl; exact rfl; exact rfl; apply wl_skip; exact rfl; exact rfl; exact rfl; exact rfl; exact rfl; apply wl_val; apply opv_pickT; exact rfl; exact rfl; exact rfl; exact rfl; refine wl_mv rfl rfl ?_; apply wl_skip; exact rfl; exact rfl; exact rfl; exact rfl; exact rfl; apply wl_skip; exact rfl; exact rfl; exact rfl; exact rfl; exact rfl; apply wl_skip; exact rfl; exact rfl; exact rfl; exact rfl; exact rfl; apply wl_skip; exact rfl; exact rfl; exact rfl; exact rfl; exact rfl; apply wl_skip; exact rfl; exact rfl; exact rfl; exact rfl; exact rfl; apply wl_skip; exact rfl; exact rfl; exact rfl; exact rfl; exact rfl; apply wl_skip; exact rfl; exact rfl; exact rfl; exact rfl; exact rfl; apply wl_val; apply opv_pickT; exact rfl; exact rfl; exact rfl; exact rfl; refine wl_nil ?_; refine we_cut _ ⟨rfl, rfl⟩ ⟨congrArg (fun b => some (Value.bool b)) ?e3_1, ?s3_1⟩; (case e3_1 => ((simp [hc0, hc1, hc2]; done))); (case s3_1 => (refine And.intro rfl ?_; refine And.intro rfl ?_; refine And.intro rfl ?_; refine And.intro rfl ?_; refine And.intro rfl ?_; refine And.intro rfl ?_; refine And.intro rfl ?_; refine And.intro rfl ?_; refine And.intro rfl ?_; refine And.intro rfl ?_; exact True.intro)))))); (focus (by_cases hc2 : (p < 0); (focus (apply wl_skip; exact rfl; exact rfl; exact rfl; exact decide_eq_true (by assumption); exact rfl; apply wl_skip; exact rfl; exact rfl; exact rfl; exact decide_eq_true (by assumption); exact rfl; apply wl_val; apply opv_pickT; exact rfl; exact decide_eq_true (by assumption); exact rfl; exact rfl; refine wl_mv rfl rfl ?_; apply wl_skip; exact rfl; exact rfl; exact rfl; exact rfl; exact rfl; apply wl_skip; exact rfl; exact rfl; exact rfl; exact rfl; exact rfl; apply wl_val; apply opv_pickT; exact rfl; exact rfl; exact rfl; exact rfl; refine wl_mv rfl rfl ?_; apply wl_skip; exact rfl; exact rfl; exact rfl; exact rfl; exact rfl; apply wl_skip; exact rfl; exact rfl; exact rfl; exact rfl; exact rfl; apply wl_skip; exact rfl; exact rfl; exact rfl; exact rfl; exact rfl; apply wl_skip; exact rfl; exact rfl; exact rfl; exact rfl; exact rfl; apply wl_skip; exact rfl; exact rfl; exact rfl; exact rfl; exact rfl; apply wl_skip; exact rfl; exact rfl; exact rfl; exact rfl; exact rfl; apply wl_skip; exact rfl; exact rfl; exact rfl; exact rfl; exact rfl; apply wl_val; apply opv_pickT; exact rfl; exact rfl; exact rfl; exact rfl; refine wl_nil ?_; refine we_cut _ ⟨rfl, rfl⟩ ⟨congrArg (fun b => some (Value.bool b)) ?e3_2, ?s3_2⟩; (case e3_2 => ((simp [hc0, hc1, hc2]; done))); (case s3_2 => (refine And.intro rfl ?_; refine And.intro rfl ?_; refine And.intro rfl ?_; refine And.intro rfl ?_; refine And.intro rfl ?_; refine And.intro rfl ?_; refine And.intro rfl ?_; refine And.intro rfl ?_; refine And.intro rfl ?_; refine And.intro rfl ?_; exact True.intro)))); (focus (apply wl_skip; exact rfl; exact rfl; exact rfl; exact decide_eq_true (by assumption); exact rfl; apply wl_skip; exact rfl; exact rfl; exact rfl; exact decide_eq_true (by assumption); exact rfl; apply wl_val; apply opv_pickT; exact rfl; exact decide_eq_true (by assumption); exact rfl; exact rfl; refine wl_mv rfl rfl ?_; apply wl_skip; exact rfl; exact rfl; exact rfl; exact rfl; exact rfl; apply wl_skip; exact rfl; exact rfl; exact rfl; exact rfl; exact rfl; apply wl_val; apply opv_pickT; exact rfl; exact rfl; exact rfl; exact rfl; refine wl_mv rfl rfl ?_; apply wl_skip; exact rfl; exact rfl; exact rfl; exact rfl; exact rfl; apply wl_skip; exact rfl; exact rfl; exact rfl; exact rfl; exact rfl; apply wl_skip; exact rfl; exact rfl; exact rfl; exact rfl; exact rfl; apply wl_skip; exact rfl; exact rfl; exact rfl; exact rfl; exact rfl; apply wl_skip; exact rfl; exact rfl; exact rfl; exact rfl; exact rfl; apply wl_skip; exact rfl; exact rfl; exact rfl; exact rfl; exact rfl; apply wl_skip; exact rfl; exact rfl; exact rfl; exact rfl; exact rfl; apply wl_val; apply opv_pickT; exact rfl; exact rfl; exact rfl; exact rfl; refine wl_nil ?_; refine we_cut _ ⟨rfl, rfl⟩ ⟨congrArg (fun b => some (Value.bool b)) ?e3_3, ?s3_3⟩; (case e3_3 => ((simp [hc0, hc1, hc2]; done))); (case s3_3 => (refine And.intro rfl ?_; refine And.intro rfl ?_; refine And.intro rfl ?_; refine And.intro rfl ?_; refine And.intro rfl ?_; refine And.intro rfl ?_; refine And.intro rfl ?_; refine And.intro rfl ?_; refine And.intro rfl ?_; refine And.intro rfl ?_; exact True.intro)))))))); (focus (by_cases hc1 : ((m : Int) = 0); (focus (by_cases hc2 : (p < 0); (focus (apply wl_take; exact rfl; exact rfl; exact rfl; exact decide_eq_false (by assumption); refine wl_mv rfl rfl ?_; apply wl_take; exact rfl; exact rfl; exact rfl; exact decide_eq_false (by assumption); refine wl_bin rfl rfl bin_eql rfl ?_; apply wl_val; apply opv_pickF; exact rfl; exact decide_eq_false (by assumption); exact rfl; exact rfl; refine wl_mv rfl rfl ?_; apply wl_skip; exact rfl; exact rfl; exact rfl; exact decide_eq_true (by assumption); exact rfl; apply wl_skip; exact rfl; exact rfl; exact rfl; exact decide_eq_true (by assumption); exact rfl; apply wl_val; apply opv_pickT; exact rfl; exact decide_eq_true (by assumption); exact rfl; exact rfl; refine wl_mv rfl rfl ?_; apply wl_skip; exact rfl; exact rfl; exact rfl; exact rfl; exact rfl; apply wl_skip; exact rfl; exact rfl; exact rfl; exact rfl; exact rfl; apply wl_skip; exact rfl; exact rfl; exact rfl; exact rfl; exact rfl; apply wl_skip; exact rfl; exact rfl; exact rfl; exact rfl; exact rfl; apply wl_skip; exact rfl; exact rfl; exact rfl; exact rfl; exact rfl; apply wl_skip; exact rfl; exact rfl; exact rfl; exact rfl; exact rfl; apply wl_skip; exact rfl; exact rfl; exact rfl; exact rfl; exact rfl; apply wl_val; apply opv_pickT; exact rfl; exact rfl; exact rfl; exact rfl; refine wl_nil ?_; refine we_cut _ ⟨rfl, rfl⟩ ⟨congrArg (fun b => some (Value.bool b)) ?e3_4, ?s3_4⟩; (case e3_4 => ((simp [hc0, hc1, hc2]; done))); (case s3_4 => (refine And.intro rfl ?_; refine And.intro rfl ?_; refine And.intro rfl ?_; refine And.intro rfl ?_; refine And.intro rfl ?_; refine And.intro rfl ?_; refine And.intro rfl ?_; refine And.intro rfl ?_; refine And.intro rfl ?_; refine And.intro rfl ?_; exact True.intro)))); (focus (apply wl_take; exact rfl; exact rfl; exact rfl; exact decide_eq_false (by assumption); refine wl_mv rfl rfl ?_; apply wl_take; exact rfl; exact rfl; exact rfl; exact decide_eq_false (by assumption); refine wl_bin rfl rfl bin_eql rfl ?_; apply wl_val; apply opv_pickF; exact rfl; exact decide_eq_false (by assumption); exact rfl; exact rfl; refine wl_mv rfl rfl ?_; apply wl_skip; exact rfl; exact rfl; exact rfl; exact decide_eq_true (by assumption); exact rfl; apply wl_skip; exact rfl; exact rfl; exact rfl; exact decide_eq_true (by assumption); exact rfl; apply wl_val; apply opv_pickT; exact rfl; exact decide_eq_true (by assumption); exact rfl; exact rfl; refine wl_mv rfl rfl ?_; apply wl_skip; exact rfl; exact rfl; exact rfl; exact rfl; exact rfl; apply wl_skip; exact rfl; exact rfl; exact rfl; exact rfl; exact rfl; apply wl_skip; exact rfl; exact rfl; exact rfl; exact rfl; exact rfl; apply wl_skip; exact rfl; exact rfl; exact rfl; exact rfl; exact rfl; apply wl_skip; exact rfl; exact rfl; exact rfl; exact rfl; exact rfl; apply wl_skip; exact rfl; exact rfl; exact rfl; exact rfl; exact rfl; apply wl_skip; exact rfl; exact rfl; exact rfl; exact rfl; exact rfl; apply wl_val; apply opv_pickT; exact rfl; exact rfl; exact rfl; exact rfl; refine wl_nil ?_; refine we_cut _ ⟨rfl, rfl⟩ ⟨congrArg (fun b => some (Value.bool b)) ?e3_5, ?s3_5⟩; (case e3_5 => ((simp [hc0, hc1, hc2]; done))); (case s3_5 => (refine And.intro rfl ?_; refine And.intro rfl ?_; refine And.intro rfl ?_; refine And.intro rfl ?_; refine And.intro rfl ?_; refine And.intro rfl ?_; refine And.intro rfl ?_; refine And.intro rfl ?_; refine And.intro rfl ?_; refine And.intro rfl ?_; exact True.intro)))))); (focus (by_cases hc2 : (p < 0); (focus (apply wl_take; exact rfl; exact rfl; exact rfl; exact decide_eq_false (by assumption); refine wl_mv rfl rfl ?_; apply wl_take; exact rfl; exact rfl; exact rfl; exact decide_eq_false (by assumption); refine wl_bin rfl rfl bin_eql rfl ?_; apply wl_val; apply opv_pickF; exact rfl; exact decide_eq_false (by assumption); exact rfl; exact rfl; refine wl_mv rfl rfl ?_; apply wl_take; exact rfl; exact rfl; exact rfl; exact decide_eq_false (by assumption); refine wl_mv rfl rfl ?_; apply wl_take; exact rfl; exact rfl; exact rfl; exact decide_eq_false (by assumption); refine wl_bin rfl rfl bin_lss rfl ?_; apply wl_val; apply opv_pickF; exact rfl; exact decide_eq_false (by assumption); exact rfl; exact rfl; refine wl_mv rfl rfl ?_; apply wl_skip; exact rfl; exact rfl; exact rfl; exact decide_eq_true (by assumption); exact rfl; apply wl_skip; exact rfl; exact rfl; exact rfl; exact decide_eq_true (by assumption); exact rfl; apply wl_skip; exact rfl; exact rfl; exact rfl; exact decide_eq_true (by assumption); exact rfl; apply wl_skip; exact rfl; exact rfl; exact rfl; exact decide_eq_true (by assumption); exact rfl; apply wl_skip; exact rfl; exact rfl; exact rfl; exact decide_eq_true (by assumption); exact rfl; apply wl_skip; exact rfl; exact rfl; exact rfl; exact decide_eq_true (by assumption); exact rfl; apply wl_skip; exact rfl; exact rfl; exact rfl; exact decide_eq_true (by assumption); exact rfl; apply wl_val; apply opv_pickT; exact rfl; exact decide_eq_true (by assumption); exact rfl; exact rfl; refine wl_nil ?_; refine we_cut _ ⟨rfl, rfl⟩ ⟨congrArg (fun b => some (Value.bool b)) ?e3_6, ?s3_6⟩; (case e3_6 => ((simp [hc0, hc1, hc2]; done))); (case s3_6 => (refine And.intro rfl ?_; refine And.intro rfl ?_; refine And.intro rfl ?_; refine And.intro rfl ?_; refine And.intro rfl ?_; refine And.intro rfl ?_; refine And.intro rfl ?_; refine And.intro rfl ?_; refine And.intro rfl ?_; refine And.intro rfl ?_; exact True.intro)))); (focus (apply wl_take; exact rfl; exact rfl; exact rfl; exact decide_eq_false (by assumption); refine wl_mv rfl rfl ?_; apply wl_take; exact rfl; exact rfl; exact rfl; exact decide_eq_false (by assumption); refine wl_bin rfl rfl bin_eql rfl ?_; apply wl_val; apply opv_pickF; exact rfl; exact decide_eq_false (by assumption); exact rfl; exact rfl; refine wl_mv rfl rfl ?_; apply wl_take; exact rfl; exact rfl; exact rfl; exact decide_eq_false (by assumption); refine wl_mv rfl rfl ?_; apply wl_take; exact rfl; exact rfl; exact rfl; exact decide_eq_false (by assumption); refine wl_bin rfl rfl bin_lss rfl ?_; apply wl_val; apply opv_pickF; exact rfl; exact decide_eq_false (by assumption); exact rfl; exact rfl; refine wl_mv rfl rfl ?_; apply wl_take; exact rfl; exact rfl; exact rfl; exact decide_eq_false (by assumption); refine wl_mv rfl rfl ?_; apply wl_take; exact rfl; exact rfl; exact rfl; exact decide_eq_false (by assumption); refine wl_mv rfl rfl ?_; apply wl_take; exact rfl; exact rfl; exact rfl; exact decide_eq_false (by assumption); apply wl_val; apply opv_len; exact rfl; exact tyB.sl; exact rfl; apply wl_take; exact rfl; exact rfl; exact rfl; exact decide_eq_false (by assumption); apply wl_val; apply opv_bin; exact rfl; exact rfl; exact bin_sub64 (by omega); exact rfl; apply wl_take; exact rfl; exact rfl; exact rfl; exact decide_eq_false (by assumption); apply wl_val; apply opv_bin; exact rfl; exact rfl; exact bin_mul64 (by omega); exact rfl; apply wl_take; exact rfl; exact rfl; exact rfl; exact decide_eq_false (by assumption); apply wl_val; apply opv_bin; exact rfl; exact rfl; exact bin_sub64 (by omega); exact rfl; apply wl_take; exact rfl; exact rfl; exact rfl; exact decide_eq_false (by assumption); refine wl_bin rfl rfl bin_gtr rfl ?_; apply wl_val; apply opv_pickF; exact rfl; exact decide_eq_false (by assumption); exact rfl; exact rfl; refine wl_nil ?_; refine we_cut _ ⟨rfl, rfl⟩ ⟨congrArg (fun b => some (Value.bool b)) ?e3_7, ?s3_7⟩; (case e3_7 => ((rw [Bool.eq_iff_iff]; simp only [decide_eq_true_eq, Bool.false_eq_true, true_iff, false_iff]; omega))); (case s3_7 => (refine And.intro rfl ?_; refine And.intro rfl ?_; refine And.intro rfl ?_; refine And.intro rfl ?_; refine And.intro rfl ?_; refine And.intro rfl ?_; refine And.intro rfl ?_; refine And.intro rfl ?_; refine And.intro rfl ?_; refine And.intro rfl ?_; exact True.intro)))))))))); dsimp only [List.drop]
  refine wl_ns ?_
  refine wc_cond rfl (fun h => ?_) (fun h => ?_)
  · refine wc_sr ?_; refine wl_as rfl rfl ?_; refine wl_ns ?_; refine wc_ret ?_; refine we_seq_ret ?_
    exact we_ret1 rfl rfl ⟨_, rfl, by simp, hb⟩
  · obtain ⟨q, rfl⟩ := Int.eq_ofNat_of_zero_le (show 0 ≤ p by omega)
    have hq : q + 40 ≤ 8 * xs.length := by omega
    have h0 : m ≠ 0 := by omega
    have h5 : 5 ≤ xs.length := by omega
    clear h hp
    have hs0 := hb.size
    refine wc_skip ?_; refine we_seq ?_; refine wc_sr ?_; refine wl_mv rfl rfl ?_
    refine wl_call ok_caissonref01_Copy (copy_any r1 rfl (by omega)) ⟨rfl, trivial⟩ rfl ?_; rintro _ _ ⟨A3, c3, rfl, o3, hbx⟩; replace r1 := RdB.below r1 hbx; replace hb := hb.trans (hbx.mono hb.size); clear hbx
    replace o3 := Ow.mono o3 hs0
    refine wl_as rfl rfl ?_; refine wl_ns ?_; refine wc_seq ?_; refine wc_sr ?_; refine wl_as rfl rfl ?_; refine wl_ns ?_; refine wc_block ?_
    refine wc_loop (fun L wr mm => ∃ (k : Nat) (ys : List UInt8), L = [(0, .slice A xs.length c), (1, .int .i64 (q : Int)), (2, .int .u32 (m : Int)), (7, .slice A3 xs.length c3), (8, .int .i64 (k : Int))] ∧ k ≤ 32 ∧ ys.length = xs.length ∧ low ys = low xs ^^^ m % 2 ^ k * 2 ^ q ∧ OwB wr w.heap.size A3 c3 ys ∧ Below w.heap.size w wr ∧ mm = 32 - k)
      [(0, .slice A xs.length c), (1, .int .i64 (q : Int)), (2, .int .u32 (m : Int)), (7, .slice A3 xs.length c3), (8, .int .i64 (0 : Nat))] 32 ⟨0, xs, rfl, by omega, rfl, by simp [Nat.mod_one], o3, hb, rfl⟩ ⟨rfl, rfl, rfl, rfl, rfl, trivial⟩ ?_
    rintro _ w1 mm ⟨k, ys, rfl, hk, hyl, hlow, o1, hb1, rfl⟩
    refine wc_seq ?_; refine wc_sr ?_; refine wl_mv rfl rfl ?_; refine wl_bin rfl rfl bin_lss rfl ?_; refine wl_ns ?_
    refine wc_cond rfl (fun h1 => ?_) (fun h1 => ?_)
    · have hmk : m / 2 ^ k < 2 ^ 32 := Nat.lt_of_le_of_lt (Nat.div_le_self _ _) hm
      refine wc_skip ?_; refine we_seq ?_; refine wc_seq ?_; refine wc_block ?_; refine wc_sr ?_; refine wl_mv rfl rfl ?_; refine wl_mv rfl rfl ?_
      refine wl_val (opv_bin rfl rfl (bin_shr hm)) rfl ?_
      refine wl_val (opv_bin (b := .int .u32 (1 : Nat)) rfl rfl (bin_and rfl hmk (by decide))) rfl ?_
      refine wl_bin rfl rfl bin_eql rfl ?_; refine wl_ns ?_
      refine wc_cond rfl (fun h2 => ?_) (fun h2 => ?_)
      · have h2' : m / 2 ^ k % 2 = 1 := by rw [← Nat.and_one_is_mod]; omega
        clear h2 hmk
        obtain ⟨s, hs⟩ : ∃ s, q + k = s := ⟨_, rfl⟩
        have hi : s / 8 < ys.length := by omega
        obtain ⟨x, hx⟩ : ∃ x, ys[s / 8]? = some x := ⟨_, List.getElem?_eq_getElem hi⟩
        have hxl := x.toNat_lt
        have h8 : 2 ^ (s % 8) < 256 := Nat.lt_of_lt_of_le (Nat.pow_lt_pow_right (by decide) (Nat.mod_lt _ (by decide))) (Nat.le_refl (2 ^ 8))
        have hxx : x.toNat ^^^ 2 ^ (s % 8) < 256 := Nat.xor_lt_two_pow (n := 8) hxl h8
        have hset := low_set ys (s / 8) (s % 8) x hx (Nat.mod_lt _ (by decide))
        rw [show 8 * (s / 8) + s % 8 = s by omega, hlow, Nat.xor_assoc, ← hs, mask_step h2', hs] at hset
        obtain ⟨g, cap, hv, _, _⟩ := World.ownsRow.form o1 (by omega)
        injection hv with hA _ _
        subst hA
        refine wc_sr ?_; refine wl_mv rfl rfl ?_; refine wl_mv rfl rfl ?_; apply wl_val; apply opv_bin; exact rfl; exact rfl; exact bin_add64 (by omega); exact rfl; refine wl_as rfl rfl ?_; refine wl_ns ?_
        rw [show (q : Int) + (k : Int) = (s : Int) by omega]
        have hS := (Below.refl w1.heap.size w1).drew
        have o2 := OwB.below o1 hS
        have hcell := World.ownsRow.cellAt o2 (s / 8) (by omega)
        refine wc_held (fun _ => True) mixed ?_
        apply wh_take 0; exact rfl; kernel_rfl; kernel_rfl; kernel_rfl; exact trivial; intro _ _; apply opv_move; exact rfl; exact rfl; apply wh_take 1; exact rfl; kernel_rfl; kernel_rfl; kernel_rfl; exact trivial; intro _ _; apply opv_move; exact rfl; exact rfl
        refine wh_take 2 rfl (by kernel_rfl) (by kernel_rfl) (by kernel_rfl) trivial (fun _ _ => opv_bin (b := .int .i64 (8 : Nat)) rfl rfl (bin_quo (by decide) (IntWalk.i64_in _ (by omega)))) rfl ?_
        refine wh_take 3 rfl (by kernel_rfl) (by kernel_rfl) (by kernel_rfl) trivial (fun _ _ => opv_idx (kk := s / 8) tyB rfl rfl rfl (by omega)) rfl ?_
        apply wh_take 5; exact rfl; kernel_rfl; kernel_rfl; kernel_rfl; exact trivial; intro _ _; apply opv_move; exact rfl; exact rfl
        refine wh_take 6 rfl (by kernel_rfl) (by kernel_rfl) (by kernel_rfl) trivial (fun _ _ => opv_bin (b := .int .i64 (8 : Nat)) rfl rfl (bin_rem (by decide))) rfl ?_
        refine wh_take 7 rfl (by kernel_rfl) (by kernel_rfl) (by kernel_rfl) trivial (fun _ _ => opv_bin (a := .int .u8 (1 : Nat)) rfl rfl ((bin_shl rfl).to (congrArg (fun z : Nat => Value.int .u8 (z : Int)) (show 1 * 2 ^ (s % 8) % 2 ^ IntKind.u8.bits = 2 ^ (s % 8) by rw [Nat.one_mul]; exact Nat.mod_eq_of_lt h8)))) rfl ?_
        refine wh_one 4 (o := ⟨_, _, _, _, _, _⟩) (by kernel_rfl) rfl ?_
        refine wl_val (v := .int .u8 (x.toNat : Int)) (opv_load tyB rfl ?_) rfl ?_
        · rw [show (bvs ys)[s / 8]? = some (bv x) by simp [bvs, hx]] at hcell
          simp only [Nat.zero_add] at hcell ⊢
          exact hcell
        refine wl_nil ?_
        refine we_held trivial ?_
        refine wh_one 8 (o := ⟨_, _, _, _, _, _⟩) (by kernel_rfl) rfl ?_
        refine wl_val (opv_bin rfl rfl (bin_xor rfl hxl h8)) rfl ?_
        refine wl_nil ?_
        refine we_held trivial ?_
        refine wh_take 9 rfl (by kernel_rfl) (by kernel_rfl) (by kernel_rfl) trivial (fun _ _ => opv_idx (kk := s / 8) tyB rfl rfl rfl (by omega)) rfl ?_
        refine wh_one 10 (o := ⟨_, _, _, _, _, _⟩) (by kernel_rfl) rfl ?_
        refine wl_storeP (kk := s / 8) tyB o2 hi rfl rfl rfl fun w3 o3 g3 _ => ?_
        have eu : Value.int .u8 ((x.toNat ^^^ 2 ^ (s % 8) : Nat) : Int) = bv (UInt8.ofNat (x.toNat ^^^ 2 ^ (s % 8))) := by
          unfold bv; rw [UInt8.toNat_ofNat', Nat.mod_eq_of_lt hxx]
        rw [eu, bvs_set] at o3
        have hb3 : Below w.heap.size w w3 := g3.below (hb1.trans (hS.mono hb1.size)) o2 (Nat.le_refl _) (hb1.trans (hS.mono hb1.size)).size
        refine wl_nil ?_
        refine we_held trivial ?_
        refine wh_done (by kernel_rfl) ?_
        refine we_block_norm ?_; refine we_seq ?_; refine wc_region ?_; refine wl_mv rfl rfl ?_; apply wl_val; apply opv_bin; exact rfl; exact rfl; exact bin_add64 (by omega); exact rfl; refine wl_as rfl rfl ?_; refine wl_nil ?_
        refine we_loop [(0, .slice A xs.length c), (1, .int .i64 (q : Int)), (2, .int .u32 (m : Int)), (7, .slice (some ⟨g, 0, none⟩) xs.length _), (8, .int .i64 ((k + 1 : Nat) : Int))] (32 - (k + 1)) ⟨k + 1, _, rfl, by omega, by rw [List.length_set]; exact hyl, hset, OwB.of o3 (by rw [List.length_set]) rfl, hb3, rfl⟩ (by omega) ⟨rfl, rfl, rfl, rfl, by simp [lookT], trivial⟩
      · have h2' : ¬ m / 2 ^ k % 2 = 1 := by rw [← Nat.and_one_is_mod]; omega
        rw [← mask_keep h2'] at hlow
        refine wc_skip ?_; refine we_block_norm ?_; refine we_seq ?_; refine wc_region ?_; refine wl_mv rfl rfl ?_; apply wl_val; apply opv_bin; exact rfl; exact rfl; exact bin_add64 (by omega); exact rfl; refine wl_as rfl rfl ?_; refine wl_nil ?_
        refine we_loop [(0, .slice A xs.length c), (1, .int .i64 (q : Int)), (2, .int .u32 (m : Int)), (7, .slice A3 xs.length c3), (8, .int .i64 ((k + 1 : Nat) : Int))] (32 - (k + 1)) ⟨k + 1, ys, rfl, by omega, hyl, hlow, o1, hb1, rfl⟩ (by omega) ⟨rfl, rfl, rfl, rfl, by simp [lookT], trivial⟩
    · obtain rfl : k = 32 := by omega
      rw [Nat.mod_eq_of_lt (show m < 2 ^ 32 from hm)] at hlow
      have hq8 : q ≤ 8 * ys.length := by omega
      have hne := burst_crc hm h0 hyl hq8 hlow
      have hcapy := o1.cap
      have r3 := o1.rd
      have hb := hb1
      replace r1 := RdB.below r0 hb1
      clear hlow h1 o1
      refine wc_exit ?_; refine we_seq_exit ?_; refine we_loop_exit ?_; refine we_block_exit ?_; refine we_seq ?_; refine wc_seq ?_; refine wc_sr ?_; refine wl_mv rfl rfl ?_
      refine wl_bs (vs := [_]) tyBB ⟨rfl, rfl, rfl, trivial⟩ rfl (by decide) rfl fun A4 w4 o4 hbx _ => ?_
      replace r1 := RdB.below r1 hbx
      replace r3 := RdB.below r3 hbx
      replace hb := hb.trans (hbx.mono hb.size)
      clear hbx
      refine wl_call ok_crc_Sum (sum_any (RdBB.one' o4.rd r3 hyl hcapy) rfl (by simp only [maxLen]; simp; omega) (by simp only [maxLen]; simp)) ⟨rfl, trivial⟩ rfl ?_; rintro _ _ ⟨rfl, hbx⟩; replace r1 := RdB.below r1 hbx; replace r3 := RdB.below r3 hbx; replace hb := hb.trans (hbx.mono hb.size); clear hbx
      refine wl_mv rfl rfl ?_
      refine wl_call ok_caissonref01_Copy (copy_any r1 rfl (by omega)) ⟨rfl, trivial⟩ rfl ?_; rintro _ _ ⟨A5, c5, rfl, o5, hbx⟩; replace r1 := RdB.below r1 hbx; replace r3 := RdB.below r3 hbx; replace hb := hb.trans (hbx.mono hb.size); clear hbx
      have hcap5 := o5.cap
      refine wl_bs (vs := [_]) tyBB ⟨rfl, rfl, rfl, trivial⟩ rfl (by decide) rfl fun A6 w6 o6 hbx _ => ?_
      replace r1 := RdB.below r1 hbx
      replace r3 := RdB.below r3 hbx
      replace o5 := OwB.below o5 hbx
      replace hb := hb.trans (hbx.mono hb.size)
      clear hbx
      refine wl_call ok_crc_Sum (sum_any (RdBB.one' o6.rd o5.rd rfl hcap5) rfl (by simp only [maxLen]; simp; omega) (by simp only [maxLen]; simp)) ⟨rfl, trivial⟩ rfl ?_; rintro _ _ ⟨rfl, hbx⟩; replace r1 := RdB.below r1 hbx; replace r3 := RdB.below r3 hbx; replace hb := hb.trans (hbx.mono hb.size); clear hbx
      have hne0 := hne []
      rw [List.nil_append, List.nil_append] at hne0
      rw [show [ys].flatten = ys by simp, show [xs].flatten = xs by simp]
      refine wl_bin rfl rfl bin_eql rfl ?_; refine wl_ns ?_
      refine wc_cond rfl (fun h => absurd h (by omega)) (fun _ => ?_)
      refine wc_skip ?_; refine we_seq ?_; refine wc_sr ?_; refine wl_mv rfl rfl ?_
      refine wl_bs (vs := [_]) tyBB ⟨rfl, rfl, rfl, trivial⟩ rfl (by decide) rfl fun A7 w7 o7 hbx _ => ?_
      replace r1 := RdB.below r1 hbx
      replace r3 := RdB.below r3 hbx
      replace hb := hb.trans (hbx.mono hb.size)
      clear hbx
      have hs1 := hb.size
      refine wl_call ok_crc_Seal (seal_any (RdBB.one' o7.rd r1 rfl hc) rfl (by simp) (by simp; omega) (by simp only [maxLen]; simp)) ⟨rfl, trivial⟩ rfl ?_; rintro _ _ ⟨A8, c8, rfl, n8, hbx⟩; replace r1 := RdB.below r1 hbx; replace r3 := RdB.below r3 hbx; replace hb := hb.trans (hbx.mono hb.size); clear hbx
      rw [show [xs].flatten = xs by simp] at n8 ⊢
      by_cases hbig : 1048576 < xs.length
      · rw [sealB, if_pos hbig]
        refine wl_mv rfl rfl ?_; apply wl_val; apply opv_extract; exact rfl; exact rfl; exact rfl; apply wl_val; apply opv_extract; exact rfl; exact rfl; exact rfl; refine wl_as rfl rfl ?_; refine wl_as rfl rfl ?_; refine wl_ns ?_; refine wc_seq ?_; refine wc_sr ?_; refine wl_mv rfl rfl ?_; refine wl_bin rfl rfl bin_neq rfl ?_; refine wl_mv rfl rfl ?_; apply wl_skip; exact rfl; exact rfl; exact rfl; exact rfl; exact rfl; apply wl_skip; exact rfl; exact rfl; exact rfl; exact rfl; exact rfl; apply wl_skip; exact rfl; exact rfl; exact rfl; exact rfl; exact rfl; apply wl_skip; exact rfl; exact rfl; exact rfl; exact rfl; exact rfl; apply wl_skip; exact rfl; exact rfl; exact rfl; exact rfl; exact rfl; apply wl_skip; exact rfl; exact rfl; exact rfl; exact rfl; exact rfl; apply wl_val; apply opv_pickT; exact rfl; exact rfl; exact rfl; exact rfl; refine wl_ns ?_
        refine wc_condT rfl ?_
        refine wc_sr ?_; refine wl_mv rfl rfl ?_; refine wl_bin rfl rfl bin_eql rfl ?_; refine wl_as rfl rfl ?_; refine wl_ns ?_; refine wc_ret ?_; refine we_seq_ret ?_
        exact we_ret1 rfl rfl ⟨_, rfl, by simp, hb⟩
      · rw [sealB_ok (by omega)] at n8 ⊢
        dsimp only at n8 ⊢
        have hrl := crcRec_length xs
        refine wl_mv rfl rfl ?_; apply wl_val; apply opv_extract; exact rfl; exact rfl; exact rfl; apply wl_val; apply opv_extract; exact rfl; exact rfl; exact rfl; refine wl_as rfl rfl ?_; refine wl_as rfl rfl ?_; refine wl_ns ?_; refine wc_seq ?_; refine wc_sr ?_; refine wl_mv rfl rfl ?_; refine wl_bin rfl rfl bin_neq rfl ?_; refine wl_mv rfl rfl ?_; apply wl_take; exact rfl; exact rfl; exact rfl; exact rfl; refine wl_mv rfl rfl ?_; apply wl_take; exact rfl; exact rfl; exact rfl; exact rfl; apply wl_val; apply opv_len; exact rfl; exact tyB.sl; exact rfl; apply wl_take; exact rfl; exact rfl; exact rfl; exact rfl; refine wl_mv rfl rfl ?_; apply wl_take; exact rfl; exact rfl; exact rfl; exact rfl; apply wl_val; apply opv_len; exact rfl; exact tyB.sl; exact rfl; apply wl_take; exact rfl; exact rfl; exact rfl; exact rfl; apply wl_val; apply opv_bin; exact rfl; exact rfl; exact bin_add64 (by omega); exact rfl; apply wl_take; exact rfl; exact rfl; exact rfl; exact rfl; refine wl_bin rfl rfl bin_neq rfl ?_; apply wl_val; apply opv_pickF; exact rfl; exact rfl; exact rfl; exact rfl; refine wl_ns ?_
        refine wc_cond rfl (fun h => absurd h (by omega)) (fun _ => ?_)
        rcases n8 with ⟨_, _, hnil⟩ | ⟨g, cs, rfl, hg, ar, hcl, hcs, htk⟩
        · rw [hnil] at hrl; simp at hrl; omega
        · refine wc_skip ?_; refine we_seq ?_; refine wc_sr ?_; refine wl_mv rfl rfl ?_
          refine wl_sl (l := 8) (h := (crcRec xs).length) tyB rfl ⟨_, rfl⟩ rfl (by omega) (by omega) rfl ?_
          rw [show cutA (some ⟨g, 0, none⟩) c8 8 = some ⟨g, 8, none⟩ by rw [cutA, if_neg (by omega)]; simp [Addr.add_lit]]
          refine wl_mv rfl rfl ?_
          refine wl_copy (g := g) (off := 8) (ys := bvs ys) tyB rfl rfl ar (by have := r3; unfold RdB at this; rw [hyl] at this; exact this) (bvs_one _) (fun _ => rfl) (by omega) (by omega) rfl fun w9 ar9 hb9 => ?_
          replace hb := hb.trans (hb9.mono (Nat.le_trans hs1 hg))
          obtain ⟨s, hs⟩ : ∃ s, crcOf (four xs.length ++ xs) = s := ⟨_, rfl⟩
          have hsl : s < 4294967296 := hs ▸ crcOf_lt _
          have ec : crcRec xs = (four ys.length ++ four s) ++ xs := by rw [crcRec, hs, hyl, List.append_assoc]
          have h44 : (four ys.length ++ four s).length = 8 := by simp [four_length]
          have e8 : cs.take 8 = bvs (four ys.length ++ four s) := by
            have := congrArg (List.take 8) htk
            rw [List.take_take, Nat.min_eq_left (by omega), ec, bvs_append, List.take_append_of_le_length (by rw [bvs_length]; omega), List.take_of_length_le (show (bvs (four ys.length ++ four s)).length ≤ 8 by rw [bvs_length]; omega)] at this
            exact this
          obtain ⟨z, hz⟩ : ∃ z, four ys.length ++ (four s ++ ys) = z := ⟨_, rfl⟩
          have hzl : z.length = (crcRec xs).length := by rw [← hz, hrl]; simp [four_length]; omega
          have n9 : NwB w9 w.heap.size (some ⟨g, 0, none⟩) c8 z := .inr ⟨g, _, rfl, Nat.le_trans hs1 hg, ar9, by omega, by simp [bvs_length]; omega, by
            rw [e8, ← List.append_assoc, ← bvs_append, List.append_assoc, hz, List.take_append_of_le_length (by rw [bvs_length]; omega), List.take_of_length_le (by rw [bvs_length]; omega)]⟩
          have ho : openB z 0 = ([], 0, 4) := by
            rw [← hz]
            exact openB_bad (by omega) hsl (by rw [← hs, ← hyl]; exact hne _)
          refine wl_ns ?_; refine wc_sr ?_; refine wl_mv rfl rfl ?_
          refine wl_call ok_crc_Open (open_at' ho n9.rd hzl (by omega) (by omega)) ⟨rfl, rfl, trivial⟩ rfl ?_; rintro _ _ ⟨A10, c10, rfl, o10, hbx⟩; replace hb := hb.trans (hbx.mono hb.size); clear hbx
          dsimp only [List.length_nil] at o10 ⊢
          clear hne hq8 hcapy r3 o4 o6 o5 hne0 o7 r1 hrl ar ar9 hb9 ec h44 e8 hz hzl n9 ho htk hcs hcl hq hs
          refine wl_mv rfl rfl ?_; apply wl_val; apply opv_extract; exact rfl; exact rfl; exact rfl; apply wl_val; apply opv_extract; exact rfl; exact rfl; exact rfl; apply wl_val; apply opv_extract; exact rfl; exact rfl; exact rfl; refine wl_as rfl rfl ?_; refine wl_as rfl rfl ?_; refine wl_as rfl rfl ?_; refine wl_ns ?_; refine wc_sr ?_; refine wl_mv rfl rfl ?_; refine wl_bin rfl rfl bin_eql rfl ?_; refine wl_mv rfl rfl ?_; apply wl_take; exact rfl; exact rfl; exact rfl; exact rfl; refine wl_mv rfl rfl ?_; apply wl_take; exact rfl; exact rfl; exact rfl; exact rfl; apply wl_val; apply opv_len; exact rfl; exact tyB.sl; exact rfl; apply wl_take; exact rfl; exact rfl; exact rfl; exact rfl; refine wl_bin rfl rfl bin_eql rfl ?_; apply wl_val; apply opv_pickT; exact rfl; exact rfl; exact rfl; exact rfl; refine wl_mv rfl rfl ?_; apply wl_take; exact rfl; exact rfl; exact rfl; exact rfl; refine wl_mv rfl rfl ?_; apply wl_take; exact rfl; exact rfl; exact rfl; exact rfl; refine wl_bin rfl rfl bin_eql rfl ?_; apply wl_val; apply opv_pickT; exact rfl; exact rfl; exact rfl; exact rfl; refine wl_as rfl rfl ?_; refine wl_ns ?_; refine wc_ret ?_
          exact we_ret1 rfl rfl ⟨_, rfl, by simp, hb⟩
end Go.Proofs.Ytdppekhnahnjjaa
