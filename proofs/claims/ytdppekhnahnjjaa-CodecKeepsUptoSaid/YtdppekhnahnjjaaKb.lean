/-
  Walks over the reference's mark, Spare, Kept and Over.
-/
import Derived.Test.YtdppekhnahnjjaaKa
namespace Go.Proofs.Ytdppekhnahnjjaa
open Go.RowKit

section
variable {P : Program} {N : Nat} {ops : Array Oper} {Q : Exit → Act → World → Prop} {rest : List Oper} {L : FL} {w : World} {t e : TypeId} {z : Value} {bytes : Nat}
/-- A row of the call's own as a block that is known whole. -/
theorem Ow.ar {base n : Nat} {A : Option Addr} {xs : List Value} (h : Ow w base e A n n xs) (hn : 0 < n) : ∃ g, A = some ⟨g, 0, none⟩ ∧ base ≤ g ∧ Ar w g e xs := by
  rcases h.2 with ⟨_, h0⟩ | ⟨g, cap, cur, hv, hb, hg, hnc, _, hs, ht⟩
  · omega
  · injection hv with hA hn' hc
    subst hc
    refine ⟨g, hA, hb, ?_⟩
    rw [List.take_of_length_le (by simp; omega)] at ht
    subst ht
    simpa [Ar] using hg
theorem Ar.rd {g n : Nat} {cs : List Value} (h : Ar w g e cs) (hn : n ≤ cs.length) : Rd w (some ⟨g, 0, none⟩) n (cs.take n) := ⟨by simp; omega, fun _ => ⟨g, 0, rfl, h.lt, fun j u hu => by
  rw [h.cell, Nat.zero_add]
  rw [List.getElem?_take] at hu
  split at hu
  · exact hu
  · cases hu⟩⟩
theorem gr_setCell {g k : Nat} {u : Value} : Gr w (w.setCell ⟨g, k, none⟩ u) (some ⟨g, 0, none⟩) := ⟨rfl, rfl, rfl, by simp [World.setCell], fun j _ hj => by
  simp only [World.setCell, Array.getElem?_modify]
  rw [if_neg (by simp at hj; exact fun h => hj h.symm)]⟩
/-- A store into a block that is known whole. -/
theorem wl_storeA {x y : Operand} {ty : TypeId} {pos : String} {aft : Array Edge} {g kk : Nat} {u : Value} {cs : List Value} (T : Row1 P t e z bytes) (ha : Ar w g e cs) (hk : kk < cs.length)
    (hx : look L x = some (.pointer (some ⟨g, 0 + kk, none⟩))) (hy : look L y = some u) (h1 : u.oneCell' = true)
    (h : ∀ w', Ar w' g e (cs.set kk u) → Gr w w' (some ⟨g, 0, none⟩) → w'.heap.size = w.heap.size → WL P N ops Q rest L w') :
    WL P N ops Q (⟨none, .store e x y, ty, pos, aft, none⟩ :: rest) L w := by
  rw [Nat.zero_add] at hx
  refine wl_unitN (opu_store T hx hy h1 (v := cs[kk]) (by rw [ha.cell]; exact List.getElem?_eq_getElem hk) (ha.frozen kk)) ?_
  exact h _ (ha.setCell kk u) gr_setCell (by simp [World.setCell])
theorem wl_setH {d1 : Nat} {x i y : Operand} {ty1 ty2 : TypeId} {p1 p2 : String} {f1 f2 : Array Edge} {g n c kk : Nat} {ik : IntKind} {q : Int} {u : Value} {cs : List Value} (T : Row1 P t e z bytes)
    (hx : look L x = some (.slice (some ⟨g, 0, none⟩) n c)) (hi : look L i = some (.int ik q)) (ha : Ar w g e cs) (hq : q = (kk : Int)) (hk : kk < n) (hc : n ≤ cs.length)
    (hy : ∀ p, look ((d1, p) :: L) y = some u) (h1 : u.oneCell' = true) (hd1 : Nat.blt d1 N = true)
    (h : ∀ p w', Ar w' g e (cs.set kk u) → Gr w w' (some ⟨g, 0, none⟩) → w'.heap.size = w.heap.size → WL P N ops Q rest ((d1, p) :: L) w') :
    WL P N ops Q (⟨some d1, .indexAddr t x i, ty1, p1, f1, none⟩ :: ⟨none, .store e (.tmp d1) y, ty2, p2, f2, none⟩ :: rest) L w :=
  wl_val (opv_idx T hx hi hq hk) hd1 (wl_storeA T ha (by omega) (by simp [look, lookT]) (hy _) h1 (h _))
theorem Gr.belowA {w0 w w' : World} {B g : Nat} (h : Gr w w' (some ⟨g, 0, none⟩)) (h0 : Below B w0 w) (hg : B ≤ g) (hB : B ≤ w.heap.size) : Below B w0 w' :=
  h0.grown h hB fun k hk => by simp at hk; omega
end

theorem mark_any (i j : Nat) (hi : i ≤ 1099511627776) (hj : j ≤ 4398046511104) (w : World) : CallsV Try.prog 67 #[.int .i64 i, .int .i64 j] w fun v w' => v = mk i j ∧ w = w' := by
  refine calls_in (N := _) Try.func67 rfl Try.ntmps67 rfl ?_; show WC _ _ _ _ _ _
  refine wc_sr ?_; refine wl_as rfl rfl ?_; refine wl_ns ?_; refine wc_sr ?_; refine wl_mv rfl rfl ?_; apply wl_val; apply opv_bin; exact rfl; exact rfl; exact bin_mul64 (by omega); exact rfl; refine wl_mv rfl rfl ?_; apply wl_val; apply opv_bin; exact rfl; exact rfl; exact bin_mul64 (by omega); exact rfl; apply wl_val; apply opv_bin; exact rfl; exact rfl; exact bin_add64 (by omega); exact rfl; apply wl_val; apply opv_bin; exact rfl; exact rfl; exact bin_add64 (by omega); exact rfl; apply wl_val; apply opv_convR; exact rfl; exact Try.underlying3; exact Try.underlying5; exact wrap_nat rfl _; exact rfl; refine wl_as rfl rfl ?_; refine wl_ns ?_; refine wc_ret ?_
  exact we_ret1 rfl rfl ⟨_, rfl, by rw [mk, mkb, ← byte_of], rfl⟩

/-- Bytes with forty marked ones behind them. -/
def spareL (b : List UInt8) : List UInt8 := b ++ (List.range 40).map fun k => UInt8.ofNat (160 + (b.length + k) % 31)
theorem spareL_length (b : List UInt8) : (spareL b).length = b.length + 40 := by simp [spareL]
theorem spareL_take (b : List UInt8) : (spareL b).take b.length = b := by simp [spareL]
theorem spareL_low {b : List UInt8} {i : Nat} (h : i < b.length) : (spareL b)[i]? = b[i]? := by rw [spareL, List.getElem?_append_left h]
theorem spareL_high {b : List UInt8} {i : Nat} (h : ¬ i < b.length) (h2 : i < b.length + 40) : (spareL b)[i]? = some (UInt8.ofNat (160 + i % 31)) := by
  rw [spareL, List.getElem?_append_right (by omega)]
  simp [show i - b.length < 40 by omega, show b.length + (i - b.length) = i by omega]
theorem take_set_next {α : Type} {l m : List α} {i : Nat} {x : α} (hl : i < l.length) (h : l.take i = m.take i) (hx : m[i]? = some x) : (l.set i x).take (i + 1) = m.take (i + 1) := by
  rw [List.take_add_one, List.take_add_one, List.take_set_of_le (by omega), h, hx]
  simp [hl]
/-- A copy with spare room, and the whole of it. -/
def RetSp (w : World) (xs : List UInt8) (v : Value) (w' : World) : Prop :=
  ∃ g, v = .tuple #[.slice (some ⟨g, 0, none⟩) xs.length (xs.length + 40), .slice (some ⟨g, 0, none⟩) (xs.length + 40) (xs.length + 40)] ∧ w.heap.size ≤ g ∧ Ar w' g 5 (bvs (spareL xs)) ∧ Below w.heap.size w w'
theorem spare_any {A : Option Addr} {n c : Nat} {xs : List UInt8} {w : World} (hr : RdB w A xs) (hn : xs.length = n) (hl : xs.length ≤ 1099511627776) :
    CallsV Try.prog 55 #[.slice A n c] w (RetSp w xs) := by
  subst hn
  refine calls_in (N := _) Try.func55 rfl Try.ntmps55 rfl ?_; show WC _ _ _ _ _ _
  refine wc_sr ?_; refine wl_as rfl rfl ?_; refine wl_as rfl rfl ?_; refine wl_ns ?_; refine wc_sr ?_; refine wl_mv rfl rfl ?_; apply wl_val; apply opv_len; exact rfl; exact tyB.sl; exact rfl; apply wl_val; apply opv_bin; exact rfl; exact rfl; exact bin_add64 (by omega); exact rfl
  refine wl_mk (n := xs.length + 40) (c := xs.length + 40) tyB rfl rfl rfl rfl (by omega) (by omega) (by simp only [maxLen]; omega) rfl fun A1 w1 o1 hb1 _ => ?_
  obtain ⟨g, rfl, hg, a1⟩ := o1.ar (by omega)
  refine wl_as rfl rfl ?_; refine wl_ns ?_; refine wc_sr ?_; refine wl_mv rfl rfl ?_; refine wl_mv rfl rfl ?_
  refine wl_copy (g := g) (off := 0) tyB rfl rfl a1 (RdB.below hr hb1) (bvs_one _) (fun _ => rfl) (by omega) (by simp) rfl fun w2 a2 hb2 => ?_
  have hb := hb1.trans (hb2.mono hg)
  rw [List.take_zero, List.nil_append, Nat.zero_add] at a2
  refine wl_ns ?_; refine wc_seq ?_; refine wc_sr ?_; refine wl_mv rfl rfl ?_; apply wl_val; apply opv_len; exact rfl; exact tyB.sl; exact rfl; refine wl_as rfl rfl ?_; refine wl_ns ?_; refine wc_block ?_
  refine wc_loop (fun L wr m => ∃ (i : Nat) (cs : List Value), L = [(0, .slice A xs.length c), (4, .slice (some ⟨g, 0, none⟩) (xs.length + 40) (xs.length + 40)), (5, .int .i64 (i : Int))] ∧ xs.length ≤ i ∧ i ≤ xs.length + 40 ∧ cs.length = xs.length + 40 ∧ cs.take i = (bvs (spareL xs)).take i ∧ Ar wr g 5 cs ∧ Below w.heap.size w wr ∧ m = xs.length + 40 - i)
    [(0, .slice A xs.length c), (4, .slice (some ⟨g, 0, none⟩) (xs.length + 40) (xs.length + 40)), (5, .int .i64 (xs.length : Int))] 40 ⟨xs.length, _, rfl, by omega, by omega, by simp [bvs_length], ?_, a2, hb, by omega⟩ ⟨rfl, rfl, rfl, trivial⟩ ?_
  · rw [spareL, bvs_append, List.take_append_of_le_length (by rw [bvs_length]; omega), List.take_append_of_le_length (by rw [bvs_length]; omega)]
  rintro _ w3 m ⟨i, cs, rfl, hi, hi2, hcl, hct, a3, hb3, rfl⟩
  refine wc_seq ?_; refine wc_sr ?_; refine wl_mv rfl rfl ?_; refine wl_mv rfl rfl ?_; apply wl_val; apply opv_len; exact rfl; exact tyB.sl; exact rfl; refine wl_bin rfl rfl bin_lss rfl ?_; refine wl_ns ?_
  refine wc_cond rfl (fun h1 => ?_) (fun h1 => ?_)
  · have hx := spareL_high (b := xs) (i := i) (by omega) (by omega)
    have eu : Value.int .u8 (160 + ((i % 31 : Nat) : Int)) = bv (UInt8.ofNat (160 + i % 31)) := by
      unfold bv; rw [UInt8.toNat_ofNat', Nat.mod_eq_of_lt (show 160 + i % 31 < 2 ^ 8 by omega)]; rfl
    refine wc_skip ?_; refine we_seq ?_; refine wc_seq ?_; refine wc_block ?_; refine wc_region ?_; refine wl_mv rfl rfl ?_; refine wl_mv rfl rfl ?_; refine wl_mv rfl rfl ?_; apply wl_val; apply opv_bin; exact rfl; exact rfl; exact bin_rem (b := 31) (by decide); exact rfl; apply wl_val; apply opv_bin; exact rfl; exact rfl; exact bin_add64 (by omega); exact rfl; apply wl_val; apply opv_convR; exact rfl; exact Try.underlying3; exact Try.underlying5; exact IntWalk.u8_in _ (by omega); exact rfl
    refine wl_setH (n := xs.length + 40) (kk := i) tyB rfl rfl a3 rfl (by omega) (by omega) (fun _ => rfl) rfl rfl fun p w4 a4 g4 _ => ?_
    rw [eu] at a4
    have hb4 := g4.belowA hb3 hg hb3.size
    refine wl_nil ?_; refine we_block_norm ?_; refine we_seq ?_; refine wc_region ?_; refine wl_mv rfl rfl ?_; apply wl_val; apply opv_bin; exact rfl; exact rfl; exact bin_add64 (by omega); exact rfl; refine wl_as rfl rfl ?_; refine wl_nil ?_
    refine we_loop [(0, .slice A xs.length c), (4, .slice (some ⟨g, 0, none⟩) (xs.length + 40) (xs.length + 40)), (5, .int .i64 ((i + 1 : Nat) : Int))] (xs.length + 40 - (i + 1)) ⟨i + 1, _, rfl, by omega, by omega, by simpa using hcl, take_set_next (by omega) hct (by rw [bvs, List.getElem?_map, hx]; rfl), a4, hb4, rfl⟩ (by omega) ⟨rfl, rfl, by simp [lookT], trivial⟩
  · obtain rfl : i = xs.length + 40 := by omega
    rw [List.take_of_length_le (by omega), List.take_of_length_le (by rw [bvs_length, spareL_length]; omega)] at hct
    subst hct
    refine wc_exit ?_; refine we_seq_exit ?_; refine we_loop_exit ?_; refine we_block_exit ?_; refine we_seq ?_; refine wc_sr ?_; refine wl_mv rfl rfl ?_; refine wl_mv rfl rfl ?_; apply wl_val; apply opv_len; exact rfl; exact tyB.sl; exact rfl
    refine wl_sl (l := 0) (h := xs.length) tyB rfl rfl ⟨_, rfl⟩ (by omega) (by omega) rfl ?_
    refine wl_mv rfl rfl ?_; refine wl_as rfl rfl ?_; refine wl_as rfl rfl ?_; refine wl_ns ?_; refine wc_ret ?_
    refine we_ret2 rfl rfl rfl ⟨_, rfl, g, ?_, hg, a3, hb3⟩
    rw [cutA_zero]; rfl

theorem kept_yes {A B : Option Addr} {n m c d : Nat} {xs : List UInt8} {w : World} (hx : RdB w A (spareL xs)) (hy : RdB w B xs) (hn : xs.length + 40 = n) (hm : xs.length = m) (hl : xs.length ≤ 1099511627776) :
    CallsV Try.prog 56 #[.slice A n c, .slice B m d] w fun v w' => v = .bool true ∧ Below w.heap.size w w' := by
  subst hn hm
  have hsl := spareL_length xs
  refine calls_in (N := _) Try.func56 rfl Try.ntmps56 rfl ?_; show WC _ _ _ _ _ _
  refine wc_sr ?_; refine wl_as rfl rfl ?_; refine wl_ns ?_; refine wc_seq ?_; refine wc_sr ?_; refine wl_mv rfl rfl ?_; apply wl_val; apply opv_len; exact rfl; exact tyB.sl; exact rfl; refine wl_mv rfl rfl ?_; apply wl_val; apply opv_len; exact rfl; exact tyB.sl; exact rfl; apply wl_val; apply opv_bin; exact rfl; exact rfl; exact bin_add64 (by omega); exact rfl; refine wl_bin rfl rfl bin_neq rfl ?_; refine wl_ns ?_
  refine wc_cond rfl (fun h => absurd h (by omega)) (fun _ => ?_)
  refine wc_skip ?_; refine we_seq ?_; refine wc_seq ?_; refine wc_sr ?_; refine wl_as rfl rfl ?_; refine wl_ns ?_; refine wc_block ?_
  refine wc_loop (fun L wr m => ∃ i : Nat, L = [(0, .slice A (xs.length + 40) c), (1, .slice B xs.length d), (5, .int .i64 (i : Int))] ∧ i ≤ xs.length + 40 ∧ Below w.heap.size w wr ∧ m = xs.length + 40 - i)
    [(0, .slice A (xs.length + 40) c), (1, .slice B xs.length d), (5, .int .i64 (0 : Nat))] (xs.length + 40) ⟨0, rfl, by omega, Below.refl _ _, by omega⟩ ⟨rfl, rfl, rfl, trivial⟩ ?_
  rintro _ w1 m ⟨i, rfl, hi, hb1, rfl⟩
  have rx : Rd w1 A (xs.length + 40) (bvs (spareL xs)) := by have := RdB.below hx hb1; unfold RdB at this; rw [hsl] at this; exact this
  have ry := RdB.below hy hb1
  refine wc_seq ?_; refine wc_sr ?_; refine wl_mv rfl rfl ?_; refine wl_mv rfl rfl ?_; apply wl_val; apply opv_len; exact rfl; exact tyB.sl; exact rfl; refine wl_bin rfl rfl bin_lss rfl ?_; refine wl_ns ?_
  refine wc_cond rfl (fun h1 => ?_) (fun h1 => ?_)
  · by_cases hlow : i < xs.length
    · obtain ⟨x, hxi⟩ : ∃ x, xs[i]? = some x := ⟨_, List.getElem?_eq_getElem hlow⟩
      have hsi := (spareL_low hlow).trans hxi
      refine wc_skip ?_; refine we_seq ?_; refine wc_seq ?_; refine wc_block ?_; refine wc_seq ?_
      refine wc_drawB mixed (by kernel_rfl) ?_
      apply wq_val; intro _ _; apply opv_move; exact rfl; exact rfl; apply wq_val; intro _ _; apply opv_move; exact rfl; exact rfl; apply wq_val; intro _ _; apply opv_len; exact rfl; exact tyB.sl; exact rfl; apply wq_val; intro _ _; apply opv_bin; exact rfl; exact rfl; exact bin_lss; exact rfl; apply wq_val; intro _ _; apply opv_move; exact rfl; exact rfl; apply wq_take; exact rfl; exact rfl; exact rfl; exact decide_eq_true (by omega); apply wq_val; intro _ _; apply opv_move; exact rfl; exact rfl; apply wq_take; exact rfl; exact rfl; exact rfl; exact decide_eq_true (by omega); apply wq_val; intro _ _; apply opv_move; exact rfl; exact rfl; apply wq_byTK (T := tyB) (hr := rx) (hb := hsi); exact rfl; exact rfl; exact rfl; exact decide_eq_true (by omega); exact rfl; exact rfl; exact rfl; exact rfl; exact decide_eq_true (by omega); exact rfl; exact rfl; exact rfl; exact rfl; exact rfl; intro _; apply wq_take; exact rfl; exact rfl; exact rfl; exact decide_eq_true (by omega); apply wq_val; intro _ _; apply opv_move; exact rfl; exact rfl; apply wq_take; exact rfl; exact rfl; exact rfl; exact decide_eq_true (by omega); apply wq_val; intro _ _; apply opv_move; exact rfl; exact rfl; apply wq_byTK (T := tyB) (hr := ry) (hb := hxi); exact rfl; exact rfl; exact rfl; exact decide_eq_true (by omega); exact rfl; exact rfl; exact rfl; exact rfl; exact decide_eq_true (by omega); exact rfl; exact rfl; exact rfl; exact rfl; exact rfl; intro _; apply wq_take; exact rfl; exact rfl; exact rfl; exact decide_eq_true (by omega); apply wq_val; intro _ _; apply opv_bin; exact rfl; exact rfl; exact bin_neq; exact rfl; apply wq_val; intro _ _; apply opv_pickT; exact rfl; exact decide_eq_true (by omega); exact rfl; exact rfl; apply wq_val; intro _ _; apply opv_move; exact rfl; exact rfl; apply wq_take; exact rfl; exact rfl; exact rfl; exact decide_eq_false (by omega); apply wq_val; intro _ _; apply opv_move; exact rfl; exact rfl; apply wq_take; exact rfl; exact rfl; exact rfl; exact decide_eq_false (by omega); apply wq_val; intro _ _; apply opv_move; exact rfl; exact rfl; apply wq_take; exact rfl; exact rfl; exact rfl; exact decide_eq_false (by omega); apply wq_val; intro _ _; apply opv_len; exact rfl; exact tyB.sl; exact rfl; apply wq_take; exact rfl; exact rfl; exact rfl; exact decide_eq_false (by omega); apply wq_val; intro _ _; apply opv_bin; exact rfl; exact rfl; exact bin_geq; exact rfl; apply wq_take; exact rfl; exact rfl; exact rfl; exact decide_eq_false (by omega); apply wq_val; intro _ _; apply opv_move; exact rfl; exact rfl; apply wq_skip; exact rfl; exact rfl; exact rfl; exact decide_eq_false (by omega); exact rfl; apply wq_skip; exact rfl; exact rfl; exact rfl; exact decide_eq_false (by omega); exact rfl; apply wq_skip; exact rfl; exact rfl; exact rfl; exact decide_eq_false (by omega); exact rfl; apply wq_skip; exact rfl; exact rfl; exact rfl; exact decide_eq_false (by omega); exact rfl; apply wq_skip; exact rfl; exact rfl; exact rfl; exact decide_eq_false (by omega); exact rfl; apply wq_skip; exact rfl; exact rfl; exact rfl; exact decide_eq_false (by omega); exact rfl; apply wq_skip; exact rfl; exact rfl; exact rfl; exact decide_eq_false (by omega); exact rfl; apply wq_skip; exact rfl; exact rfl; exact rfl; exact decide_eq_false (by omega); exact rfl; apply wq_skip; exact rfl; exact rfl; exact rfl; exact decide_eq_false (by omega); exact rfl; apply wq_take; exact rfl; exact rfl; exact rfl; exact decide_eq_false (by omega); apply wq_val; intro _ _; apply opv_pickF; exact rfl; exact decide_eq_false (by omega); exact rfl; exact rfl; apply wq_val; intro _ _; apply opv_pickF; exact rfl; exact decide_eq_false (by omega); exact rfl; exact rfl; refine wq_nil fun w1 hw1 => ?_
      refine we_seq ?_
      refine wc_condF rfl ?_
      refine wc_skip ?_; refine we_block_norm ?_; refine we_seq ?_; refine wc_region ?_; refine wl_mv rfl rfl ?_; apply wl_val; apply opv_bin; exact rfl; exact rfl; exact bin_add64 (by omega); exact rfl; refine wl_as rfl rfl ?_; refine wl_nil ?_
      refine we_loop [(0, .slice A (xs.length + 40) c), (1, .slice B xs.length d), (5, .int .i64 ((i + 1 : Nat) : Int))] (xs.length + 40 - (i + 1)) ⟨i + 1, rfl, by omega, hb1.trans (hw1.mono hb1.size), rfl⟩ (by omega) ⟨rfl, rfl, by simp [lookT], trivial⟩
    · have hsi := spareL_high (b := xs) (i := i) hlow (by omega)
      obtain ⟨y, hy0⟩ : ∃ y, UInt8.ofNat (160 + i % 31) = y := ⟨_, rfl⟩
      have hyn : y.toNat = 160 + i % 31 := by rw [← hy0, UInt8.toNat_ofNat', Nat.mod_eq_of_lt (show 160 + i % 31 < 2 ^ 8 by omega)]
      rw [hy0] at hsi
      refine wc_skip ?_; refine we_seq ?_; refine wc_seq ?_; refine wc_block ?_; refine wc_seq ?_
      refine wc_drawB mixed (by kernel_rfl) ?_
      apply wq_val; intro _ _; apply opv_move; exact rfl; exact rfl; apply wq_val; intro _ _; apply opv_move; exact rfl; exact rfl; apply wq_val; intro _ _; apply opv_len; exact rfl; exact tyB.sl; exact rfl; apply wq_val; intro _ _; apply opv_bin; exact rfl; exact rfl; exact bin_lss; exact rfl; apply wq_val; intro _ _; apply opv_move; exact rfl; exact rfl; apply wq_skip; exact rfl; exact rfl; exact rfl; exact decide_eq_false (by omega); exact rfl; apply wq_skip; exact rfl; exact rfl; exact rfl; exact decide_eq_false (by omega); exact rfl; apply wq_skip; exact rfl; exact rfl; exact rfl; exact decide_eq_false (by omega); exact rfl; apply wq_skip; exact rfl; exact rfl; exact rfl; exact decide_eq_false (by omega); exact rfl; apply wq_skip; exact rfl; exact rfl; exact rfl; exact decide_eq_false (by omega); exact rfl; apply wq_skip; exact rfl; exact rfl; exact rfl; exact decide_eq_false (by omega); exact rfl; apply wq_skip; exact rfl; exact rfl; exact rfl; exact decide_eq_false (by omega); exact rfl; apply wq_skip; exact rfl; exact rfl; exact rfl; exact decide_eq_false (by omega); exact rfl; apply wq_skip; exact rfl; exact rfl; exact rfl; exact decide_eq_false (by omega); exact rfl; apply wq_val; intro _ _; apply opv_pickF; exact rfl; exact decide_eq_false (by omega); exact rfl; exact rfl; apply wq_val; intro _ _; apply opv_move; exact rfl; exact rfl; apply wq_take; exact rfl; exact rfl; exact rfl; exact rfl; apply wq_val; intro _ _; apply opv_move; exact rfl; exact rfl; apply wq_take; exact rfl; exact rfl; exact rfl; exact rfl; apply wq_val; intro _ _; apply opv_move; exact rfl; exact rfl; apply wq_take; exact rfl; exact rfl; exact rfl; exact rfl; apply wq_val; intro _ _; apply opv_len; exact rfl; exact tyB.sl; exact rfl; apply wq_take; exact rfl; exact rfl; exact rfl; exact rfl; apply wq_val; intro _ _; apply opv_bin; exact rfl; exact rfl; exact bin_geq; exact rfl; apply wq_take; exact rfl; exact rfl; exact rfl; exact rfl; apply wq_val; intro _ _; apply opv_move; exact rfl; exact rfl; apply wq_take; exact rfl; exact rfl; exact rfl; exact decide_eq_true (by omega); apply wq_val; intro _ _; apply opv_move; exact rfl; exact rfl; apply wq_take; exact rfl; exact rfl; exact rfl; exact decide_eq_true (by omega); apply wq_val; intro _ _; apply opv_move; exact rfl; exact rfl; apply wq_byTK (T := tyB) (hr := rx) (hb := hsi); exact rfl; exact rfl; exact rfl; exact decide_eq_true (by omega); exact rfl; exact rfl; exact rfl; exact rfl; exact decide_eq_true (by omega); exact rfl; exact rfl; exact rfl; exact rfl; exact rfl; intro _; apply wq_take; exact rfl; exact rfl; exact rfl; exact decide_eq_true (by omega); apply wq_val; intro _ _; apply opv_move; exact rfl; exact rfl; apply wq_take; exact rfl; exact rfl; exact rfl; exact decide_eq_true (by omega); apply wq_val; intro _ _; apply opv_bin; exact rfl; exact rfl; exact bin_rem (b := 31) (by decide); exact rfl; apply wq_take; exact rfl; exact rfl; exact rfl; exact decide_eq_true (by omega); apply wq_val; intro _ _; apply opv_bin; exact rfl; exact rfl; exact bin_add64 (by omega); exact rfl; apply wq_take; exact rfl; exact rfl; exact rfl; exact decide_eq_true (by omega); apply wq_val; intro _ _; apply opv_convR; exact rfl; exact Try.underlying3; exact Try.underlying5; exact IntWalk.u8_in _ (by omega); exact rfl; apply wq_take; exact rfl; exact rfl; exact rfl; exact decide_eq_true (by omega); apply wq_val; intro _ _; apply opv_bin; exact rfl; exact rfl; exact bin_neq; exact rfl; apply wq_take; exact rfl; exact rfl; exact rfl; exact rfl; apply wq_val; intro _ _; apply opv_pickT; exact rfl; exact decide_eq_true (by omega); exact rfl; exact rfl; apply wq_val; intro _ _; apply opv_pickF; exact rfl; exact rfl; exact rfl; exact rfl; refine wq_nil fun w1 hw1 => ?_
      refine we_seq ?_
      refine wc_cond rfl (fun h => absurd h (by omega)) (fun _ => ?_)
      refine wc_skip ?_; refine we_block_norm ?_; refine we_seq ?_; refine wc_region ?_; refine wl_mv rfl rfl ?_; apply wl_val; apply opv_bin; exact rfl; exact rfl; exact bin_add64 (by omega); exact rfl; refine wl_as rfl rfl ?_; refine wl_nil ?_
      refine we_loop [(0, .slice A (xs.length + 40) c), (1, .slice B xs.length d), (5, .int .i64 ((i + 1 : Nat) : Int))] (xs.length + 40 - (i + 1)) ⟨i + 1, rfl, by omega, hb1.trans (hw1.mono hb1.size), rfl⟩ (by omega) ⟨rfl, rfl, by simp [lookT], trivial⟩
  · refine wc_exit ?_; refine we_seq_exit ?_; refine we_loop_exit ?_; refine we_block_exit ?_; refine we_seq ?_; refine wc_sr ?_; refine wl_as rfl rfl ?_; refine wl_ns ?_; refine wc_ret ?_
    exact we_ret1 rfl rfl ⟨_, rfl, rfl, hb1⟩

theorem over_any {g n c : Nat} {l : List UInt8} {w : World} (ha : Ar w g 5 (bvs l)) (hn : n ≤ l.length) (hl : l.length ≤ 2199023255552) :
    CallsV Try.prog 57 #[.slice (some ⟨g, 0, none⟩) n c] w fun _ w' => ∃ l' : List UInt8, l'.length = l.length ∧ Ar w' g 5 (bvs l') ∧ Gr w w' (some ⟨g, 0, none⟩) := by
  refine calls_in (N := _) Try.func57 rfl Try.ntmps57 rfl ?_; show WC _ _ _ _ _ _
  refine wc_sr ?_; refine wl_as rfl rfl ?_; refine wl_ns ?_; refine wc_block ?_
  refine wc_loop (fun L wr m => ∃ (i : Nat) (l' : List UInt8), L = [(0, .slice (some ⟨g, 0, none⟩) n c), (2, .int .i64 (i : Int))] ∧ i ≤ n ∧ l'.length = l.length ∧ Ar wr g 5 (bvs l') ∧ Gr w wr (some ⟨g, 0, none⟩) ∧ m = n - i)
    [(0, .slice (some ⟨g, 0, none⟩) n c), (2, .int .i64 (0 : Nat))] n ⟨0, l, rfl, by omega, rfl, ha, Gr.refl _ _, rfl⟩ ⟨rfl, rfl, trivial⟩ ?_
  rintro _ w1 m ⟨i, l', rfl, hi, hl', a1, g1, rfl⟩
  have hbl := bvs_length l'
  have r1 : Rd w1 (some ⟨g, 0, none⟩) n (bvs (l'.take n)) := by have := a1.rd (n := n) (by omega); rw [bvs, ← List.map_take] at this; exact this
  refine wc_seq ?_; refine wc_sr ?_; refine wl_mv rfl rfl ?_; refine wl_mv rfl rfl ?_; apply wl_val; apply opv_len; exact rfl; exact tyB.sl; exact rfl; refine wl_bin rfl rfl bin_lss rfl ?_; refine wl_ns ?_
  refine wc_cond rfl (fun h1 => ?_) (fun h1 => ?_)
  · obtain ⟨x, hx⟩ : ∃ x, (l'.take n)[i]? = some x := ⟨_, List.getElem?_eq_getElem (by simp; omega)⟩
    have hxl := x.toNat_lt
    have hxx : x.toNat ^^^ 90 < 256 := Nat.xor_lt_two_pow (n := 8) hxl (by decide)
    refine wc_skip ?_; refine we_seq ?_; refine wc_seq ?_; refine wc_block ?_; refine wc_region ?_; refine wl_mv rfl rfl ?_; refine wl_mv rfl rfl ?_; refine wl_mv rfl rfl ?_; refine wl_mv rfl rfl ?_; apply wl_byK (T := tyB) (hr := r1) (hb := hx); exact rfl; exact rfl; exact rfl; exact rfl; exact rfl; intro _
    refine wl_val (opv_bin (b := .int .u8 (90 : Nat)) rfl rfl (bin_xor rfl hxl (by decide))) rfl ?_
    refine wl_setH (n := n) (kk := i) tyB rfl rfl a1 rfl (by omega) (by omega) (fun _ => rfl) rfl rfl fun p w2 a2 g2 _ => ?_
    have eu : Value.int .u8 ((x.toNat ^^^ 90 : Nat) : Int) = bv (UInt8.ofNat (x.toNat ^^^ 90)) := by
      unfold bv; rw [UInt8.toNat_ofNat', Nat.mod_eq_of_lt hxx]
    rw [eu, bvs_set] at a2
    refine wl_nil ?_; refine we_block_norm ?_; refine we_seq ?_; refine wc_region ?_; refine wl_mv rfl rfl ?_; apply wl_val; apply opv_bin; exact rfl; exact rfl; exact bin_add64 (by omega); exact rfl; refine wl_as rfl rfl ?_; refine wl_nil ?_
    refine we_loop [(0, .slice (some ⟨g, 0, none⟩) n c), (2, .int .i64 ((i + 1 : Nat) : Int))] (n - (i + 1)) ⟨i + 1, _, rfl, by omega, by rw [List.length_set]; exact hl', a2, g1.trans g2, rfl⟩ (by omega) ⟨rfl, by simp [lookT], trivial⟩
  · refine wc_exit ?_; refine we_seq_exit ?_; refine we_loop_exit ?_; refine we_block_exit ?_
    exact we_end0 rfl ⟨_, rfl, l', hl', a1, g1⟩
end Go.Proofs.Ytdppekhnahnjjaa
