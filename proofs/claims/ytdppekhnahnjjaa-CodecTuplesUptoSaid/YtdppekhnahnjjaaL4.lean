/-
  The walk over the law CodecTuples.
-/
import Derived.Test.YtdppekhnahnjjaaWd
import Derived.Test.YtdppekhnahnjjaaWf
import Derived.Test.YtdppekhnahnjjaaRow
import Derived.Test.YtdppekhnahnjjaaPc
namespace Go.Proofs.Ytdppekhnahnjjaa
open Go.RowKit

/-- What the third loop has found in v behind k lists. -/
def TupI (a b : List (List UInt8)) (k : Nat) (v : Int) : Prop := (v = 0 ∧ k ≤ a.length ∧ k ≤ b.length ∧ cmpT a b = cmpT (a.drop k) (b.drop k)) ∨ ((v = -1 ∨ v = 1) ∧ k ≤ a.length + 1 ∧ cmpT a b = v)

theorem opv_neg {P : Program} {L : FL} {w : World} {x : Operand} {t ty : TypeId} {k : IntKind} {q : Int} (hx : look L x = some (.int k q)) : OpV P (.unOp .neg t x) ty L w (.int k (k.wrap (-q))) w := fun ρ o hρ ho _ => by
  simp [execOp, ho, hρ x _ hx, Op.unary, Op.intArith]

theorem tuples_walk {A B : Option Addr} {n m c d : Nat} {xs ys : List (List UInt8)} {w : World} (R1 : RdBB w A xs) (hn : xs.length = n) (_hc : xs.length ≤ c) (hl : xs.flatten.length + xs.length ≤ 1048576) (R2 : RdBB w B ys) (hm : ys.length = m) (_hd : ys.length ≤ d) (hl2 : ys.flatten.length + ys.length ≤ 1048576) :
    CallsV Try.prog 3 #[.slice A n c, .slice B m d] w (RetTrue w) := by
  subst hn hm
  have hxl := ords_length xs
  have hyl := ords_length ys
  have hb := Below.refl w.heap.size w
  refine calls_in (N := _) Try.func3 rfl Try.ntmps3 rfl ?_; show WC _ _ _ _ _ _
  refine wc_sr ?_; refine wl_as rfl rfl ?_; refine wl_ns ?_; refine wc_seq ?_; refine wc_sr ?_
  refine wl_call ok_caissonlaw01_awake (awake_any _) trivial rfl ?_; rintro _ _ ⟨rfl, hbx⟩; replace hb := hb.trans (hbx.mono hb.size); clear hbx
  apply wl_val; apply opv_not; exact rfl; exact rfl; refine wl_ns ?_
  refine wc_condF rfl ?_
  refine wc_skip ?_; refine we_seq ?_; refine wc_sr ?_; refine wl_as rfl rfl ?_; refine wl_as rfl rfl ?_; refine wl_ns ?_; refine wc_seq ?_; refine wc_sr ?_; refine wl_mv rfl rfl ?_; apply wl_val; apply opv_len; exact rfl; exact tyBB.sl; exact rfl; refine wl_mv rfl rfl ?_; refine wl_ns ?_; refine wc_block ?_
  refine wc_loop (fun L wr m => ∃ (k : Nat) (P : Option Addr) (cp : Nat), L = [(0, .slice A xs.length c), (1, .slice B ys.length d), (5, .slice P (ords (xs.take k)).length cp), (6, .slice none 0 0), (15, .slice A xs.length c), (16, .int .i64 (xs.length : Int)), (17, .int .i64 (k : Int))] ∧ k ≤ xs.length ∧ OwB wr w.heap.size P cp (ords (xs.take k)) ∧ Below w.heap.size w wr ∧ m = xs.length - k)
    [(0, .slice A xs.length c), (1, .slice B ys.length d), (5, .slice none 0 0), (6, .slice none 0 0), (15, .slice A xs.length c), (16, .int .i64 (xs.length : Int)), (17, .int .i64 (0 : Nat))] xs.length ⟨0, none, 0, rfl, by omega, Ow.nil _ _ _, hb, rfl⟩ ⟨rfl, rfl, rfl, rfl, rfl, rfl, rfl, trivial⟩ ?_
  rintro _ w1 m ⟨k, P, cp, rfl, hk, o1, hb1, rfl⟩
  have S1 := RdBB.below R1 hb1
  have hle1 := ords_take_le xs k
  refine wc_sr ?_; refine wl_bin rfl rfl bin_lss rfl ?_; refine wl_ns ?_; refine wc_seq ?_
  refine wc_cond rfl (fun h1 => ?_) (fun h1 => ?_)
  · obtain ⟨x, hx⟩ : ∃ x, xs[k]? = some x := ⟨_, List.getElem?_eq_getElem (by omega)⟩
    obtain ⟨vs, X, cx, hv, hvk, rx, hcx⟩ := S1.at hx
    have hxm := flat_mem hx
    have hol : (ordText x).length ≤ 2 * x.length + 2 := by have := esc_length x; simp [ordText]; omega
    have hb2 := Below.refl w1.heap.size w1
    refine wc_skip ?_; refine we_seq ?_; refine wc_seq ?_; refine wc_block ?_; refine wc_sr ?_; apply wl_elK (T := tyBB) (hr := hv) (hb := hvk); exact rfl; exact rfl; exact rfl; exact rfl; exact rfl; intro _; refine wl_as rfl rfl ?_; refine wl_ns ?_; refine wc_region ?_; refine wl_mv rfl rfl ?_; refine wl_mv rfl rfl ?_
    refine wl_call ok_caissonref01_Copy (copy_any rx rfl (by omega)) ⟨rfl, trivial⟩ rfl ?_
    rintro _ w2 ⟨A2, c2, rfl, o2, h2⟩
    skip
    refine wl_call ok_codec_OrdText (ordText_any o2.rd rfl (by omega)) ⟨rfl, trivial⟩ rfl ?_
    rintro _ w3 ⟨A3, c3, rfl, o3, h3⟩
    have h13 := h2.trans (h3.mono h2.size)
    have o1' := OwB.below o1 h13
    refine wl_app tyB rfl o1' rfl o3.rd (bvs_one _) (by omega) (by simp only [maxLen]; omega) (Nat.le_trans hb1.size h13.size) rfl fun A4 c4 w4 o4 g4 _ => ?_
    have hb4 := g4.below (hb1.trans (h13.mono hb1.size)) o1' (Nat.le_refl _) (Nat.le_trans hb1.size h13.size)
    have o5 := OwB.app o4
    rw [← ords_take hx] at o5
    refine wl_as rfl rfl ?_; refine wl_nil ?_; refine we_block_norm ?_; refine we_seq ?_; refine wc_region ?_; apply wl_val; apply opv_bin; exact rfl; exact rfl; exact bin_add64 (by omega); exact rfl; refine wl_mv rfl rfl ?_; refine wl_nil ?_
    refine we_loop [(0, .slice A xs.length c), (1, .slice B ys.length d), (5, .slice A4 (ords (xs.take (k + 1))).length c4), (6, .slice none 0 0), (15, .slice A xs.length c), (16, .int .i64 (xs.length : Int)), (17, .int .i64 ((k + 1 : Nat) : Int))] (xs.length - (k + 1)) ⟨k + 1, A4, c4, rfl, by omega, o5, hb4, rfl⟩ (by omega) ⟨rfl, rfl, ?_, rfl, rfl, rfl, by simp [lookT], trivial⟩
    rw [ords_take hx, List.length_append]; rfl
  · obtain rfl : k = xs.length := by omega
    rw [List.take_length] at o1 ⊢
    have T2 := RdBB.below R2 hb1
    have S2 := S1
    clear hle1
    refine wc_exit ?_; refine we_seq_exit ?_; refine we_loop_exit ?_; refine we_block_exit ?_; refine we_seq ?_; refine wc_seq ?_; refine wc_sr ?_; refine wl_mv rfl rfl ?_; apply wl_val; apply opv_len; exact rfl; exact tyBB.sl; exact rfl; refine wl_mv rfl rfl ?_; refine wl_ns ?_; refine wc_block ?_
    refine wc_loop (fun L wr m => ∃ (k : Nat) (Z : Option Addr) (cz : Nat), L = [(0, .slice A xs.length c), (1, .slice B ys.length d), (5, .slice P (ords xs).length cp), (6, .slice Z (ords (ys.take k)).length cz), (27, .slice B ys.length d), (28, .int .i64 (ys.length : Int)), (29, .int .i64 (k : Int))] ∧ k ≤ ys.length ∧ OwB wr w1.heap.size Z cz (ords (ys.take k)) ∧ Below w1.heap.size w1 wr ∧ m = ys.length - k)
      [(0, .slice A xs.length c), (1, .slice B ys.length d), (5, .slice P (ords xs).length cp), (6, .slice none 0 0), (27, .slice B ys.length d), (28, .int .i64 (ys.length : Int)), (29, .int .i64 (0 : Nat))] ys.length ⟨0, none, 0, rfl, by omega, Ow.nil _ _ _, Below.refl _ _, rfl⟩ ⟨rfl, rfl, rfl, rfl, rfl, rfl, rfl, trivial⟩ ?_
    rintro _ w2 m ⟨k, Z, cz, rfl, hk, o2, hb2, rfl⟩
    replace S2 := RdBB.below S2 hb2
    replace T2 := RdBB.below T2 hb2
    replace o1 := OwB.below o1 hb2
    have hle2 := ords_take_le ys k
    refine wc_sr ?_; refine wl_bin rfl rfl bin_lss rfl ?_; refine wl_ns ?_; refine wc_seq ?_
    refine wc_cond rfl (fun h1 => ?_) (fun h1 => ?_)
    · obtain ⟨x, hx⟩ : ∃ x, ys[k]? = some x := ⟨_, List.getElem?_eq_getElem (by omega)⟩
      obtain ⟨vs, X, cx, hv, hvk, rx, hcx⟩ := T2.at hx
      have hxm := flat_mem hx
      have hol : (ordText x).length ≤ 2 * x.length + 2 := by have := esc_length x; simp [ordText]; omega
      refine wc_skip ?_; refine we_seq ?_; refine wc_seq ?_; refine wc_block ?_; refine wc_sr ?_; apply wl_elK (T := tyBB) (hr := hv) (hb := hvk); exact rfl; exact rfl; exact rfl; exact rfl; exact rfl; intro _; refine wl_as rfl rfl ?_; refine wl_ns ?_; refine wc_region ?_; refine wl_mv rfl rfl ?_; refine wl_mv rfl rfl ?_
      refine wl_call ok_caissonref01_Copy (copy_any rx rfl (by omega)) ⟨rfl, trivial⟩ rfl ?_
      rintro _ w3 ⟨A3, c3, rfl, o3, h3⟩
      skip
      refine wl_call ok_codec_OrdText (ordText_any o3.rd rfl (by omega)) ⟨rfl, trivial⟩ rfl ?_
      rintro _ w4 ⟨A4, c4, rfl, o4, h4⟩
      have h24 := h3.trans (h4.mono h3.size)
      have o2' := OwB.below o2 h24
      refine wl_app tyB rfl o2' rfl o4.rd (bvs_one _) (by omega) (by simp only [maxLen]; omega) (Nat.le_trans hb2.size h24.size) rfl fun A5 c5 w5 o5 g5 _ => ?_
      have hb5 := g5.below (hb2.trans (h24.mono hb2.size)) o2' (Nat.le_refl _) (Nat.le_trans hb2.size h24.size)
      have o6 := OwB.app o5
      rw [← ords_take hx] at o6
      refine wl_as rfl rfl ?_; refine wl_nil ?_; refine we_block_norm ?_; refine we_seq ?_; refine wc_region ?_; apply wl_val; apply opv_bin; exact rfl; exact rfl; exact bin_add64 (by omega); exact rfl; refine wl_mv rfl rfl ?_; refine wl_nil ?_
      refine we_loop [(0, .slice A xs.length c), (1, .slice B ys.length d), (5, .slice P (ords xs).length cp), (6, .slice A5 (ords (ys.take (k + 1))).length c5), (27, .slice B ys.length d), (28, .int .i64 (ys.length : Int)), (29, .int .i64 ((k + 1 : Nat) : Int))] (ys.length - (k + 1)) ⟨k + 1, A5, c5, rfl, by omega, o6, hb5, rfl⟩ (by omega) ⟨rfl, rfl, rfl, ?_, rfl, rfl, by simp [lookT], trivial⟩
      rw [ords_take hx, List.length_append]; rfl
    · obtain rfl : k = ys.length := by omega
      rw [List.take_length] at o2 ⊢
      replace hb1 := hb1.trans (hb2.mono hb1.size)
      clear hb2 hle2
      refine wc_exit ?_; refine we_seq_exit ?_; refine we_loop_exit ?_; refine we_block_exit ?_; refine we_seq ?_; refine wc_sr ?_; refine wl_as rfl rfl ?_; refine wl_ns ?_; refine wc_seq ?_; refine wc_sr ?_; refine wl_as rfl rfl ?_; refine wl_ns ?_; refine wc_block ?_
      refine wc_loop (fun L wr m => ∃ (k : Nat) (v : Int), L = [(0, .slice A xs.length c), (1, .slice B ys.length d), (5, .slice P (ords xs).length cp), (6, .slice Z (ords ys).length cz), (11, .int .i64 v), (12, .int .i64 (k : Int))] ∧ TupI xs ys k v ∧ Below w2.heap.size w2 wr ∧ m = xs.length + 1 - k)
        [(0, .slice A xs.length c), (1, .slice B ys.length d), (5, .slice P (ords xs).length cp), (6, .slice Z (ords ys).length cz), (11, .int .i64 0), (12, .int .i64 (0 : Nat))] (xs.length + 1) ⟨0, 0, rfl, .inl ⟨rfl, by omega, by omega, rfl⟩, Below.refl _ _, rfl⟩ ⟨rfl, rfl, rfl, rfl, rfl, rfl, trivial⟩ ?_
      rintro _ w3 m ⟨k, v, rfl, hI, hb3, rfl⟩
      replace S2 := RdBB.below S2 hb3
      replace T2 := RdBB.below T2 hb3
      replace o1 := OwB.below o1 hb3
      replace o2 := OwB.below o2 hb3
      replace hb1 := hb1.trans (hb3.mono hb1.size)
      have hkb : k ≤ xs.length + 1 := by rcases hI with h | h <;> omega
      refine wc_seq ?_; refine wc_sr ?_; refine wl_mv rfl rfl ?_; refine wl_bin rfl rfl bin_eql rfl ?_; refine wl_mv rfl rfl ?_
      refine wl_cutV 14 52 (.bool (decide (v = 0 ∧ k < xs.length ∧ k < ys.length))) ?c14 ?_; (case c14 => (dsimp only [List.take]; by_cases hc0 : (v = 0); (focus (by_cases hc1 : (k < xs.length); (focus (apply wl_take; exact rfl; exact rfl; exact rfl; exact decide_eq_true (by assumption); refine wl_mv rfl rfl ?_; apply wl_take; exact rfl; exact rfl; exact rfl; exact decide_eq_true (by assumption); refine wl_mv rfl rfl ?_; apply wl_take; exact rfl; exact rfl; exact rfl; exact decide_eq_true (by assumption); apply wl_val; apply opv_len; exact rfl; exact tyBB.sl; exact rfl; apply wl_take; exact rfl; exact rfl; exact rfl; exact decide_eq_true (by assumption); refine wl_bin rfl rfl bin_lss rfl ?_; apply wl_val; apply opv_pickT; exact rfl; exact decide_eq_true (by assumption); exact rfl; exact rfl; refine wl_mv rfl rfl ?_; apply wl_take; exact rfl; exact rfl; exact rfl; exact decide_eq_true (by omega); refine wl_mv rfl rfl ?_; apply wl_take; exact rfl; exact rfl; exact rfl; exact decide_eq_true (by omega); refine wl_mv rfl rfl ?_; apply wl_take; exact rfl; exact rfl; exact rfl; exact decide_eq_true (by omega); apply wl_val; apply opv_len; exact rfl; exact tyBB.sl; exact rfl; apply wl_take; exact rfl; exact rfl; exact rfl; exact decide_eq_true (by omega); refine wl_bin rfl rfl bin_lss rfl ?_; apply wl_val; apply opv_pickT; exact rfl; exact decide_eq_true (by omega); exact rfl; exact rfl; refine wl_nil ?_; refine we_cut _ ⟨rfl, rfl⟩ ⟨congrArg (fun b => some (Value.bool b)) ?e14_0, ?s14_0⟩; (case e14_0 => ((simp [hc0, hc1]; done))); (case s14_0 => (refine And.intro rfl ?_; refine And.intro rfl ?_; refine And.intro rfl ?_; refine And.intro rfl ?_; refine And.intro rfl ?_; refine And.intro rfl ?_; refine And.intro rfl ?_; refine And.intro rfl ?_; refine And.intro rfl ?_; exact True.intro)))); (focus (apply wl_take; exact rfl; exact rfl; exact rfl; exact decide_eq_true (by assumption); refine wl_mv rfl rfl ?_; apply wl_take; exact rfl; exact rfl; exact rfl; exact decide_eq_true (by assumption); refine wl_mv rfl rfl ?_; apply wl_take; exact rfl; exact rfl; exact rfl; exact decide_eq_true (by assumption); apply wl_val; apply opv_len; exact rfl; exact tyBB.sl; exact rfl; apply wl_take; exact rfl; exact rfl; exact rfl; exact decide_eq_true (by assumption); refine wl_bin rfl rfl bin_lss rfl ?_; apply wl_val; apply opv_pickT; exact rfl; exact decide_eq_true (by assumption); exact rfl; exact rfl; refine wl_mv rfl rfl ?_; apply wl_skip; exact rfl; exact rfl; exact rfl; exact decide_eq_false (by omega); exact rfl; apply wl_skip; exact rfl; exact rfl; exact rfl; exact decide_eq_false (by omega); exact rfl; apply wl_skip; exact rfl; exact rfl; exact rfl; exact decide_eq_false (by omega); exact rfl; apply wl_skip; exact rfl; exact rfl; exact rfl; exact decide_eq_false (by omega); exact rfl; apply wl_val; apply opv_pickF; exact rfl; exact decide_eq_false (by omega); exact rfl; exact rfl; refine wl_nil ?_; refine we_cut _ ⟨rfl, rfl⟩ ⟨congrArg (fun b => some (Value.bool b)) ?e14_1, ?s14_1⟩; (case e14_1 => ((simp [hc0, hc1]; done))); (case s14_1 => (refine And.intro rfl ?_; refine And.intro rfl ?_; refine And.intro rfl ?_; refine And.intro rfl ?_; refine And.intro rfl ?_; refine And.intro rfl ?_; refine And.intro rfl ?_; refine And.intro rfl ?_; refine And.intro rfl ?_; exact True.intro)))))); (focus (by_cases hc1 : (k < xs.length); (focus (apply wl_skip; exact rfl; exact rfl; exact rfl; exact decide_eq_false (by assumption); exact rfl; apply wl_skip; exact rfl; exact rfl; exact rfl; exact decide_eq_false (by assumption); exact rfl; apply wl_skip; exact rfl; exact rfl; exact rfl; exact decide_eq_false (by assumption); exact rfl; apply wl_skip; exact rfl; exact rfl; exact rfl; exact decide_eq_false (by assumption); exact rfl; apply wl_val; apply opv_pickF; exact rfl; exact decide_eq_false (by assumption); exact rfl; exact rfl; refine wl_mv rfl rfl ?_; apply wl_skip; exact rfl; exact rfl; exact rfl; exact rfl; exact rfl; apply wl_skip; exact rfl; exact rfl; exact rfl; exact rfl; exact rfl; apply wl_skip; exact rfl; exact rfl; exact rfl; exact rfl; exact rfl; apply wl_skip; exact rfl; exact rfl; exact rfl; exact rfl; exact rfl; apply wl_val; apply opv_pickF; exact rfl; exact rfl; exact rfl; exact rfl; refine wl_nil ?_; refine we_cut _ ⟨rfl, rfl⟩ ⟨congrArg (fun b => some (Value.bool b)) ?e14_2, ?s14_2⟩; (case e14_2 => ((simp [hc0, hc1]; done))); (case s14_2 => (refine And.intro rfl ?_; refine And.intro rfl ?_; refine And.intro rfl ?_; refine And.intro rfl ?_; refine And.intro rfl ?_; refine And.intro rfl ?_; refine And.intro rfl ?_; refine And.intro rfl ?_; refine And.intro rfl ?_; exact True.intro)))); (focus (apply wl_skip; exact rfl; exact rfl; exact rfl; exact decide_eq_false (by assumption); exact rfl; apply wl_skip; exact rfl; exact rfl; exact rfl; exact decide_eq_false (by assumption); exact rfl; apply wl_skip; exact rfl; exact rfl; exact rfl; exact decide_eq_false (by assumption); exact rfl; apply wl_skip; exact rfl; exact rfl; exact rfl; exact decide_eq_false (by assumption); exact rfl; apply wl_val; apply opv_pickF; exact rfl; exact decide_eq_false (by assumption); exact rfl; exact rfl; refine wl_mv rfl rfl ?_; apply wl_skip; exact rfl; exact rfl; exact rfl; exact rfl; exact rfl; apply wl_skip; exact rfl; exact rfl; exact rfl; exact rfl; exact rfl; apply wl_skip; exact rfl; exact rfl; exact rfl; exact rfl; exact rfl; apply wl_skip; exact rfl; exact rfl; exact rfl; exact rfl; exact rfl; apply wl_val; apply opv_pickF; exact rfl; exact rfl; exact rfl; exact rfl; refine wl_nil ?_; refine we_cut _ ⟨rfl, rfl⟩ ⟨congrArg (fun b => some (Value.bool b)) ?e14_3, ?s14_3⟩; (case e14_3 => ((simp [hc0, hc1]; done))); (case s14_3 => (refine And.intro rfl ?_; refine And.intro rfl ?_; refine And.intro rfl ?_; refine And.intro rfl ?_; refine And.intro rfl ?_; refine And.intro rfl ?_; refine And.intro rfl ?_; refine And.intro rfl ?_; refine And.intro rfl ?_; exact True.intro)))))))); dsimp only [List.drop]
      refine wl_ns ?_
      refine wc_cond rfl (fun h2 => ?_) (fun h2 => ?_)
      · obtain ⟨rfl, hkx, hky⟩ := h2
        obtain ⟨x, hx⟩ : ∃ x, xs[k]? = some x := ⟨_, List.getElem?_eq_getElem (by omega)⟩
        obtain ⟨y, hy⟩ : ∃ y, ys[k]? = some y := ⟨_, List.getElem?_eq_getElem (by omega)⟩
        obtain ⟨vs, X, cx, hv, hvk, rx, hcx⟩ := S2.at hx
        obtain ⟨us, Y, cy, hu, huk, ry, hcy⟩ := T2.at hy
        have hI' : cmpT xs ys = cmpT (xs.drop k) (ys.drop k) := by
          rcases hI with h | h
          · exact h.2.2.2
          · rcases h.1 with h | h <;> cases h
        have hxm := flat_mem hx
        have hym := flat_mem hy
        rw [cmpT_drop hx hy] at hI'
        refine wc_skip ?_; refine we_seq ?_; refine wc_seq ?_; refine wc_block ?_
        refine wc_drawB mixed (by kernel_rfl) ?_
        apply wq_val; intro _ _; apply opv_move; exact rfl; exact rfl; apply wq_val; intro _ _; apply opv_move; exact rfl; exact rfl; apply wq_elK (T := tyBB) (hr := hv) (hb := hvk); exact rfl; exact rfl; exact rfl; exact rfl; exact rfl; intro _; apply wq_val; intro _ _; apply opv_move; exact rfl; exact rfl; apply wq_val; intro _ _; apply opv_move; exact rfl; exact rfl; apply wq_elK (T := tyBB) (hr := hu) (hb := huk); exact rfl; exact rfl; exact rfl; exact rfl; exact rfl; intro _
        refine wq_call ok_caissonref01_Cmp (fun w hw => (refCmp_any (RdB.below rx hw) (RdB.below ry hw) rfl rfl (by simp only [maxLen]; omega) (by simp only [maxLen]; omega)).mono (fun v w' h => ⟨h.1, hw.trans (h.2.mono hw.size)⟩)) ⟨rfl, rfl, trivial⟩ rfl ?_
        apply wq_val; intro _ _; apply opv_assign; exact rfl; exact rfl; refine wq_nil fun w1 hw1 => ?_
        refine we_block_norm ?_; refine we_seq ?_; refine wc_region ?_; refine wl_mv rfl rfl ?_; apply wl_val; apply opv_bin; exact rfl; exact rfl; exact bin_add64 (by omega); exact rfl; refine wl_as rfl rfl ?_; refine wl_nil ?_
        refine we_loop [(0, .slice A xs.length c), (1, .slice B ys.length d), (5, .slice P (ords xs).length cp), (6, .slice Z (ords ys).length cz), (11, .int .i64 (cmpB x y)), (12, .int .i64 ((k + 1 : Nat) : Int))] (xs.length + 1 - (k + 1)) ⟨k + 1, cmpB x y, rfl, ?_, hb3.trans (hw1.mono hb3.size), rfl⟩ (by omega) ⟨rfl, rfl, rfl, rfl, rfl, by simp [lookT], trivial⟩
        by_cases h0 : cmpB x y = 0
        · rw [if_pos h0] at hI'
          exact .inl ⟨h0, by omega, by omega, hI'⟩
        · rw [if_neg h0] at hI'
          exact .inr ⟨by have := cmp_range x y; omega, by omega, hI'⟩
      · have hI' : cmpT xs ys = if v = 0 then (if xs.length < ys.length then -1 else if ys.length < xs.length then 1 else 0) else v := by
          rcases hI with ⟨rfl, h⟩ | ⟨h, _, h'⟩
          · rw [if_pos rfl, h.2.2]
            exact cmpT_end (by omega) h.1 h.2.1
          · rw [if_neg (by omega), h']
        have hc1 := cmp_ords xs ys
        have hc2 := cmp_neg (ords xs) (ords ys)
        rw [hc1] at hc2
        have hcr := cmp_range (ords xs) (ords ys)
        rw [hc1] at hcr
        refine wc_exit ?_; refine we_seq_exit ?_; refine we_loop_exit ?_; refine we_block_exit ?_; refine we_seq ?_; refine wc_seq ?_; refine wc_sr ?_; refine wl_mv rfl rfl ?_; refine wl_bin rfl rfl bin_eql rfl ?_; refine wl_mv rfl rfl ?_
        refine wl_cutV 9 72 (.bool (decide ((v = 0) ∧ (xs.length < ys.length)))) ?c32 ?_; (case c32 => (dsimp only [List.take]; by_cases hc0 : (v = 0); (focus (apply wl_take; exact rfl; exact rfl; exact rfl; exact decide_eq_true (by assumption); refine wl_mv rfl rfl ?_; apply wl_take; exact rfl; exact rfl; exact rfl; exact decide_eq_true (by assumption); apply wl_val; apply opv_len; exact rfl; exact tyBB.sl; exact rfl; apply wl_take; exact rfl; exact rfl; exact rfl; exact decide_eq_true (by assumption); refine wl_mv rfl rfl ?_; apply wl_take; exact rfl; exact rfl; exact rfl; exact decide_eq_true (by assumption); apply wl_val; apply opv_len; exact rfl; exact tyBB.sl; exact rfl; apply wl_take; exact rfl; exact rfl; exact rfl; exact decide_eq_true (by assumption); refine wl_bin rfl rfl bin_lss rfl ?_; apply wl_val; apply opv_pickT; exact rfl; exact decide_eq_true (by assumption); exact rfl; exact rfl; refine wl_nil ?_; refine we_cut _ ⟨rfl, rfl⟩ ⟨congrArg (fun b => some (Value.bool b)) ?e32_0, ?s32_0⟩; (case e32_0 => ((simp [hc0]; done))); (case s32_0 => (refine And.intro rfl ?_; refine And.intro rfl ?_; refine And.intro rfl ?_; refine And.intro rfl ?_; refine And.intro rfl ?_; refine And.intro rfl ?_; refine And.intro rfl ?_; refine And.intro rfl ?_; refine And.intro rfl ?_; refine And.intro rfl ?_; refine And.intro rfl ?_; refine And.intro rfl ?_; refine And.intro rfl ?_; exact True.intro)))); (focus (apply wl_skip; exact rfl; exact rfl; exact rfl; exact decide_eq_false (by assumption); exact rfl; apply wl_skip; exact rfl; exact rfl; exact rfl; exact decide_eq_false (by assumption); exact rfl; apply wl_skip; exact rfl; exact rfl; exact rfl; exact decide_eq_false (by assumption); exact rfl; apply wl_skip; exact rfl; exact rfl; exact rfl; exact decide_eq_false (by assumption); exact rfl; apply wl_skip; exact rfl; exact rfl; exact rfl; exact decide_eq_false (by assumption); exact rfl; apply wl_val; apply opv_pickF; exact rfl; exact decide_eq_false (by assumption); exact rfl; exact rfl; refine wl_nil ?_; refine we_cut _ ⟨rfl, rfl⟩ ⟨congrArg (fun b => some (Value.bool b)) ?e32_1, ?s32_1⟩; (case e32_1 => ((simp [hc0]; done))); (case s32_1 => (refine And.intro rfl ?_; refine And.intro rfl ?_; refine And.intro rfl ?_; refine And.intro rfl ?_; refine And.intro rfl ?_; refine And.intro rfl ?_; refine And.intro rfl ?_; refine And.intro rfl ?_; refine And.intro rfl ?_; refine And.intro rfl ?_; refine And.intro rfl ?_; refine And.intro rfl ?_; refine And.intro rfl ?_; exact True.intro)))))); dsimp only [List.drop]
        refine wl_ns ?_
        refine wc_cutE (fun L' w' => ∃ v' : Int, L' = [(0, .slice A xs.length c), (1, .slice B ys.length d), (5, .slice P (ords xs).length cp), (6, .slice Z (ords ys).length cz), (11, .int .i64 v')] ∧ w3 = w' ∧ (cmpT xs ys = if v' = 0 then (if ys.length < xs.length then 1 else 0) else v')) ?_ ?_
        · refine wc_cond rfl (fun h3 => ?_) (fun h3 => ?_)
          · refine wc_region ?_; refine wl_as rfl rfl ?_; refine wl_nil ?_
            refine we_cut _ ⟨-1, rfl, rfl, ?_⟩ ⟨rfl, rfl, rfl, rfl, rfl, trivial⟩
            rw [hI', if_pos h3.1, if_pos h3.2]; rfl
          · refine wc_skip ?_
            refine we_cut _ ⟨v, rfl, rfl, ?_⟩ ⟨rfl, rfl, rfl, rfl, rfl, trivial⟩
            rw [hI']
            by_cases h0 : v = 0
            · rw [if_pos h0, if_pos h0, if_neg (by omega)]
            · rw [if_neg h0, if_neg h0]
        · rintro _ _ ⟨v1, rfl, rfl, hv1⟩
          refine we_seq ?_; refine wc_seq ?_; refine wc_sr ?_; refine wl_mv rfl rfl ?_; refine wl_bin rfl rfl bin_eql rfl ?_; refine wl_mv rfl rfl ?_
          refine wl_cutV 9 81 (.bool (decide ((v1 = 0) ∧ (ys.length < xs.length)))) ?c42 ?_; (case c42 => (dsimp only [List.take]; by_cases hc0 : (v1 = 0); (focus (apply wl_take; exact rfl; exact rfl; exact rfl; exact decide_eq_true (by assumption); refine wl_mv rfl rfl ?_; apply wl_take; exact rfl; exact rfl; exact rfl; exact decide_eq_true (by assumption); apply wl_val; apply opv_len; exact rfl; exact tyBB.sl; exact rfl; apply wl_take; exact rfl; exact rfl; exact rfl; exact decide_eq_true (by assumption); refine wl_mv rfl rfl ?_; apply wl_take; exact rfl; exact rfl; exact rfl; exact decide_eq_true (by assumption); apply wl_val; apply opv_len; exact rfl; exact tyBB.sl; exact rfl; apply wl_take; exact rfl; exact rfl; exact rfl; exact decide_eq_true (by assumption); refine wl_bin rfl rfl bin_gtr rfl ?_; apply wl_val; apply opv_pickT; exact rfl; exact decide_eq_true (by assumption); exact rfl; exact rfl; refine wl_nil ?_; refine we_cut _ ⟨rfl, rfl⟩ ⟨congrArg (fun b => some (Value.bool b)) ?e42_0, ?s42_0⟩; (case e42_0 => ((simp [hc0]; done))); (case s42_0 => (refine And.intro rfl ?_; refine And.intro rfl ?_; refine And.intro rfl ?_; refine And.intro rfl ?_; refine And.intro rfl ?_; refine And.intro rfl ?_; refine And.intro rfl ?_; refine And.intro rfl ?_; exact True.intro)))); (focus (apply wl_skip; exact rfl; exact rfl; exact rfl; exact decide_eq_false (by assumption); exact rfl; apply wl_skip; exact rfl; exact rfl; exact rfl; exact decide_eq_false (by assumption); exact rfl; apply wl_skip; exact rfl; exact rfl; exact rfl; exact decide_eq_false (by assumption); exact rfl; apply wl_skip; exact rfl; exact rfl; exact rfl; exact decide_eq_false (by assumption); exact rfl; apply wl_skip; exact rfl; exact rfl; exact rfl; exact decide_eq_false (by assumption); exact rfl; apply wl_val; apply opv_pickF; exact rfl; exact decide_eq_false (by assumption); exact rfl; exact rfl; refine wl_nil ?_; refine we_cut _ ⟨rfl, rfl⟩ ⟨congrArg (fun b => some (Value.bool b)) ?e42_1, ?s42_1⟩; (case e42_1 => ((simp [hc0]; done))); (case s42_1 => (refine And.intro rfl ?_; refine And.intro rfl ?_; refine And.intro rfl ?_; refine And.intro rfl ?_; refine And.intro rfl ?_; refine And.intro rfl ?_; refine And.intro rfl ?_; refine And.intro rfl ?_; exact True.intro)))))); dsimp only [List.drop]
          refine wl_ns ?_
          refine wc_cutE (fun L' w' => L' = [(0, .slice A xs.length c), (1, .slice B ys.length d), (5, .slice P (ords xs).length cp), (6, .slice Z (ords ys).length cz), (11, .int .i64 (cmpT xs ys))] ∧ w3 = w') ?_ ?_
          · refine wc_cond rfl (fun h3 => ?_) (fun h3 => ?_)
            · refine wc_region ?_; refine wl_as rfl rfl ?_; refine wl_nil ?_
              refine we_cut _ ⟨rfl, rfl⟩ ⟨rfl, rfl, rfl, rfl, ?_, trivial⟩
              rw [hv1, if_pos h3.1, if_pos h3.2]; rfl
            · refine wc_skip ?_
              refine we_cut _ ⟨rfl, rfl⟩ ⟨rfl, rfl, rfl, rfl, ?_, trivial⟩
              have : cmpT xs ys = v1 := by
                rw [hv1]
                by_cases h0 : v1 = 0
                · rw [if_pos h0, if_neg (by omega), h0]
                · rw [if_neg h0]
              rw [this]; rfl
          · rintro _ _ ⟨rfl, rfl⟩
            have p1 := o1.rd
            have p2 := o2.rd
            refine we_seq ?_; refine wc_sr ?_; refine wl_mv rfl rfl ?_; refine wl_mv rfl rfl ?_
            refine wl_call ok_codec_Cmp (cmp_any p1 p2 rfl rfl) ⟨rfl, rfl, trivial⟩ rfl ?_
            rintro _ _ ⟨rfl, rfl⟩
            refine wl_mv rfl rfl ?_; refine wl_bin rfl rfl bin_eql rfl ?_; refine wl_mv rfl rfl ?_; apply wl_take; exact rfl; exact rfl; exact rfl; exact decide_eq_true (by assumption); refine wl_mv rfl rfl ?_; apply wl_take; exact rfl; exact rfl; exact rfl; exact decide_eq_true (by assumption); refine wl_mv rfl rfl ?_; apply wl_take; exact rfl; exact rfl; exact rfl; exact decide_eq_true (by assumption)
            refine wl_call ok_codec_Cmp (cmp_any p2 p1 rfl rfl) ⟨rfl, rfl, trivial⟩ rfl ?_
            rintro _ _ ⟨rfl, rfl⟩
            apply wl_take; exact rfl; exact rfl; exact rfl; exact decide_eq_true (by assumption); refine wl_mv rfl rfl ?_; apply wl_take; exact rfl; exact rfl; exact rfl; exact decide_eq_true (by assumption)
            refine wl_val ((opv_neg rfl).to (congrArg (Value.int .i64) (IntWalk.i64_in (-cmpT xs ys) (by omega)))) rfl ?_
            apply wl_take; exact rfl; exact rfl; exact rfl; exact decide_eq_true (by assumption); refine wl_bin rfl rfl bin_eql rfl ?_; apply wl_val; apply opv_pickT; exact rfl; exact decide_eq_true (by assumption); exact rfl; exact rfl; refine wl_as rfl rfl ?_; refine wl_ns ?_; refine wc_ret ?_
            exact we_ret1 rfl rfl ⟨_, rfl, by rw [hc2]; simp, hb1⟩
end Go.Proofs.Ytdppekhnahnjjaa
