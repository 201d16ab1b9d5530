/-
  The texts of this proof, joined: Kb, Kc, Kd, Ke, Kf, Xx.
-/
import Derived.Test.YtaacnknniaipmaaKeeM5
import Derived.Test.YtaacnknniaipmaaKeeM2
import Derived.Test.YtaacnknniaipmaaKeeM3

/-
  Walks over the reference's mark, Spare, Kept and Over.
-/
namespace Go.Proofs.Ytaacnknniaipmaa
open Go.RowKit

section
variable {P : Program} {N : Nat} {ops : Array Oper} {Q : Exit → Act → World → Prop} {rest : List Oper} {L : FL} {w : World} {t e : TypeId} {z : Value} {bytes : Nat}
/-- A row of the call's own as a block that is known whole. -/
theorem Ow.ar {base n : Nat} {A : Option Addr} {xs : List Value} (h : Ow w base e A n n xs) (hn : 0 < n) : ∃ g, A = some ⟨g, 0, none⟩ ∧ base ≤ g ∧ Ar w g e xs := by
  rcases h.2 with ⟨_, h0⟩ | ⟨g, cap, cur, hv, hb, hg, hnc, _, hs, ht⟩
  · omega
  · injection hv with hA hn' hc
    subst hc
    refine ⟨g, hA, hb, ?_⟩
    rw [List.take_of_length_le (by simp; omega)] at ht
    subst ht
    simpa [Ar] using hg
theorem Ar.rd {g n : Nat} {cs : List Value} (h : Ar w g e cs) (hn : n ≤ cs.length) : Rd w (some ⟨g, 0, none⟩) n (cs.take n) := ⟨by simp; omega, fun _ => ⟨g, 0, rfl, h.lt, fun j u hu => by
  rw [h.cell, Nat.zero_add]
  rw [List.getElem?_take] at hu
  split at hu
  · exact hu
  · cases hu⟩⟩
theorem gr_setCell {g k : Nat} {u : Value} : Gr w (w.setCell ⟨g, k, none⟩ u) (some ⟨g, 0, none⟩) := ⟨rfl, rfl, rfl, by simp [World.setCell], fun j _ hj => by
  simp only [World.setCell, Array.getElem?_modify]
  rw [if_neg (by simp at hj; exact fun h => hj h.symm)]⟩
/-- A store into a block that is known whole. -/
theorem wl_storeA {x y : Operand} {ty : TypeId} {pos : String} {aft : Array Edge} {g kk : Nat} {u : Value} {cs : List Value} (T : Row1 P t e z bytes) (ha : Ar w g e cs) (hk : kk < cs.length)
    (hx : look L x = some (.pointer (some ⟨g, 0 + kk, none⟩))) (hy : look L y = some u) (h1 : u.oneCell' = true)
    (h : ∀ w', Ar w' g e (cs.set kk u) → Gr w w' (some ⟨g, 0, none⟩) → w'.heap.size = w.heap.size → WL P N ops Q rest L w') :
    WL P N ops Q (⟨none, .store e x y, ty, pos, aft, none⟩ :: rest) L w := by
  rw [Nat.zero_add] at hx
  refine wl_unitN (opu_store T hx hy h1 (v := cs[kk]) (by rw [ha.cell]; exact List.getElem?_eq_getElem hk) (ha.frozen kk)) ?_
  exact h _ (ha.setCell kk u) gr_setCell (by simp [World.setCell])
theorem wl_setH {d1 : Nat} {x i y : Operand} {ty1 ty2 : TypeId} {p1 p2 : String} {f1 f2 : Array Edge} {g n c kk : Nat} {ik : IntKind} {q : Int} {u : Value} {cs : List Value} (T : Row1 P t e z bytes)
    (hx : look L x = some (.slice (some ⟨g, 0, none⟩) n c)) (hi : look L i = some (.int ik q)) (ha : Ar w g e cs) (hq : q = (kk : Int)) (hk : kk < n) (hc : n ≤ cs.length)
    (hy : ∀ p, look ((d1, p) :: L) y = some u) (h1 : u.oneCell' = true) (hd1 : Nat.blt d1 N = true)
    (h : ∀ p w', Ar w' g e (cs.set kk u) → Gr w w' (some ⟨g, 0, none⟩) → w'.heap.size = w.heap.size → WL P N ops Q rest ((d1, p) :: L) w') :
    WL P N ops Q (⟨some d1, .indexAddr t x i, ty1, p1, f1, none⟩ :: ⟨none, .store e (.tmp d1) y, ty2, p2, f2, none⟩ :: rest) L w :=
  wl_val (opv_idx T hx hi hq hk) hd1 (wl_storeA T ha (by omega) (by simp [look, lookT]) (hy _) h1 (h _))
theorem Gr.belowA {w0 w w' : World} {B g : Nat} (h : Gr w w' (some ⟨g, 0, none⟩)) (h0 : Below B w0 w) (hg : B ≤ g) (hB : B ≤ w.heap.size) : Below B w0 w' :=
  h0.grown h hB fun k hk => by simp at hk; omega
end

theorem mark_any (i j : Nat) (hi : i ≤ 1099511627776) (hj : j ≤ 4398046511104) (w : World) : CallsV Try.prog 59 #[.int .i64 i, .int .i64 j] w fun v w' => v = mk i j ∧ w = w' := by
  refine calls_in (N := _) Try.func59 rfl Try.ntmps59 rfl ?_; show WC _ _ _ _ _ _
  refine wc_sr ?_; refine wl_as rfl rfl ?_; refine wl_ns ?_; refine wc_sr ?_; refine wl_mv rfl rfl ?_; apply wl_val; apply opv_bin; exact rfl; exact rfl; exact bin_mul64 (by omega); exact rfl; refine wl_mv rfl rfl ?_; apply wl_val; apply opv_bin; exact rfl; exact rfl; exact bin_mul64 (by omega); exact rfl; apply wl_val; apply opv_bin; exact rfl; exact rfl; exact bin_add64 (by omega); exact rfl; apply wl_val; apply opv_bin; exact rfl; exact rfl; exact bin_add64 (by omega); exact rfl; apply wl_val; apply opv_convR; exact rfl; exact Try.underlying3; exact Try.underlying5; exact wrap_nat rfl _; exact rfl; refine wl_as rfl rfl ?_; refine wl_ns ?_; refine wc_ret ?_
  exact we_ret1 rfl rfl ⟨_, rfl, by rw [mk, mkb, ← byte_of], rfl⟩

/-- Bytes with forty marked ones behind them. -/
def spareL (b : List UInt8) : List UInt8 := b ++ (List.range 40).map fun k => UInt8.ofNat (160 + (b.length + k) % 31)
theorem spareL_length (b : List UInt8) : (spareL b).length = b.length + 40 := by simp [spareL]
theorem spareL_take (b : List UInt8) : (spareL b).take b.length = b := by simp [spareL]
theorem spareL_low {b : List UInt8} {i : Nat} (h : i < b.length) : (spareL b)[i]? = b[i]? := by rw [spareL, List.getElem?_append_left h]
theorem spareL_high {b : List UInt8} {i : Nat} (h : ¬ i < b.length) (h2 : i < b.length + 40) : (spareL b)[i]? = some (UInt8.ofNat (160 + i % 31)) := by
  rw [spareL, List.getElem?_append_right (by omega)]
  simp [show i - b.length < 40 by omega, show b.length + (i - b.length) = i by omega]
theorem take_set_next {α : Type} {l m : List α} {i : Nat} {x : α} (hl : i < l.length) (h : l.take i = m.take i) (hx : m[i]? = some x) : (l.set i x).take (i + 1) = m.take (i + 1) := by
  rw [List.take_add_one, List.take_add_one, List.take_set_of_le (by omega), h, hx]
  simp [hl]
/-- A copy with spare room, and the whole of it. -/
def RetSp (w : World) (xs : List UInt8) (v : Value) (w' : World) : Prop :=
  ∃ g, v = .tuple #[.slice (some ⟨g, 0, none⟩) xs.length (xs.length + 40), .slice (some ⟨g, 0, none⟩) (xs.length + 40) (xs.length + 40)] ∧ w.heap.size ≤ g ∧ Ar w' g 5 (bvs (spareL xs)) ∧ Below w.heap.size w w'
theorem spare_any {A : Option Addr} {n c : Nat} {xs : List UInt8} {w : World} (hr : RdB w A xs) (hn : xs.length = n) (hl : xs.length ≤ 1099511627776) :
    CallsV Try.prog 27 #[.slice A n c] w (RetSp w xs) := by
  subst hn
  refine calls_in (N := _) Try.func27 rfl Try.ntmps27 rfl ?_; show WC _ _ _ _ _ _
  refine wc_sr ?_; refine wl_as rfl rfl ?_; refine wl_as rfl rfl ?_; refine wl_ns ?_; refine wc_sr ?_; refine wl_mv rfl rfl ?_; apply wl_val; apply opv_len; exact rfl; exact tyB.sl; exact rfl; apply wl_val; apply opv_bin; exact rfl; exact rfl; exact bin_add64 (by omega); exact rfl
  refine wl_mk (n := xs.length + 40) (c := xs.length + 40) tyB rfl rfl rfl rfl (by omega) (by omega) (by simp only [maxLen]; omega) rfl fun A1 w1 o1 hb1 _ => ?_
  obtain ⟨g, rfl, hg, a1⟩ := o1.ar (by omega)
  refine wl_as rfl rfl ?_; refine wl_ns ?_; refine wc_sr ?_; refine wl_mv rfl rfl ?_; refine wl_mv rfl rfl ?_
  refine wl_copy (g := g) (off := 0) tyB rfl rfl a1 (RdB.below hr hb1) (bvs_one _) (fun _ => rfl) (by omega) (by simp) rfl fun w2 a2 hb2 => ?_
  have hb := hb1.trans (hb2.mono hg)
  rw [List.take_zero, List.nil_append, Nat.zero_add] at a2
  refine wl_ns ?_; refine wc_seq ?_; refine wc_sr ?_; refine wl_mv rfl rfl ?_; apply wl_val; apply opv_len; exact rfl; exact tyB.sl; exact rfl; refine wl_as rfl rfl ?_; refine wl_ns ?_; refine wc_block ?_
  refine wc_loop (fun L wr m => ∃ (i : Nat) (cs : List Value), L = [(0, .slice A xs.length c), (4, .slice (some ⟨g, 0, none⟩) (xs.length + 40) (xs.length + 40)), (5, .int .i64 (i : Int))] ∧ xs.length ≤ i ∧ i ≤ xs.length + 40 ∧ cs.length = xs.length + 40 ∧ cs.take i = (bvs (spareL xs)).take i ∧ Ar wr g 5 cs ∧ Below w.heap.size w wr ∧ m = xs.length + 40 - i)
    [(0, .slice A xs.length c), (4, .slice (some ⟨g, 0, none⟩) (xs.length + 40) (xs.length + 40)), (5, .int .i64 (xs.length : Int))] 40 ⟨xs.length, _, rfl, by omega, by omega, by simp [bvs_length], ?_, a2, hb, by omega⟩ ⟨rfl, rfl, rfl, trivial⟩ ?_
  · rw [spareL, bvs_append, List.take_append_of_le_length (by rw [bvs_length]; omega), List.take_append_of_le_length (by rw [bvs_length]; omega)]
  rintro _ w3 m ⟨i, cs, rfl, hi, hi2, hcl, hct, a3, hb3, rfl⟩
  refine wc_seq ?_; refine wc_sr ?_; refine wl_mv rfl rfl ?_; refine wl_mv rfl rfl ?_; apply wl_val; apply opv_len; exact rfl; exact tyB.sl; exact rfl; refine wl_bin rfl rfl bin_lss rfl ?_; refine wl_ns ?_
  refine wc_cond rfl (fun h1 => ?_) (fun h1 => ?_)
  · have hx := spareL_high (b := xs) (i := i) (by omega) (by omega)
    have eu : Value.int .u8 (160 + ((i % 31 : Nat) : Int)) = bv (UInt8.ofNat (160 + i % 31)) := by
      unfold bv; rw [UInt8.toNat_ofNat', Nat.mod_eq_of_lt (show 160 + i % 31 < 2 ^ 8 by omega)]; rfl
    refine wc_skip ?_; refine we_seq ?_; refine wc_seq ?_; refine wc_block ?_; refine wc_region ?_; refine wl_mv rfl rfl ?_; refine wl_mv rfl rfl ?_; refine wl_mv rfl rfl ?_; apply wl_val; apply opv_bin; exact rfl; exact rfl; exact bin_rem (b := 31) (by decide); exact rfl; apply wl_val; apply opv_bin; exact rfl; exact rfl; exact bin_add64 (by omega); exact rfl; apply wl_val; apply opv_convR; exact rfl; exact Try.underlying3; exact Try.underlying5; exact IntWalk.u8_in _ (by omega); exact rfl
    refine wl_setH (n := xs.length + 40) (kk := i) tyB rfl rfl a3 rfl (by omega) (by omega) (fun _ => rfl) rfl rfl fun p w4 a4 g4 _ => ?_
    rw [eu] at a4
    have hb4 := g4.belowA hb3 hg hb3.size
    refine wl_nil ?_; refine we_block_norm ?_; refine we_seq ?_; refine wc_region ?_; refine wl_mv rfl rfl ?_; apply wl_val; apply opv_bin; exact rfl; exact rfl; exact bin_add64 (by omega); exact rfl; refine wl_as rfl rfl ?_; refine wl_nil ?_
    refine we_loop [(0, .slice A xs.length c), (4, .slice (some ⟨g, 0, none⟩) (xs.length + 40) (xs.length + 40)), (5, .int .i64 ((i + 1 : Nat) : Int))] (xs.length + 40 - (i + 1)) ⟨i + 1, _, rfl, by omega, by omega, by simpa using hcl, take_set_next (by omega) hct (by rw [bvs, List.getElem?_map, hx]; rfl), a4, hb4, rfl⟩ (by omega) ⟨rfl, rfl, by simp [lookT], trivial⟩
  · obtain rfl : i = xs.length + 40 := by omega
    rw [List.take_of_length_le (by omega), List.take_of_length_le (by rw [bvs_length, spareL_length]; omega)] at hct
    subst hct
    refine wc_exit ?_; refine we_seq_exit ?_; refine we_loop_exit ?_; refine we_block_exit ?_; refine we_seq ?_; refine wc_sr ?_; refine wl_mv rfl rfl ?_; refine wl_mv rfl rfl ?_; apply wl_val; apply opv_len; exact rfl; exact tyB.sl; exact rfl
    refine wl_sl (l := 0) (h := xs.length) tyB rfl rfl ⟨_, rfl⟩ (by omega) (by omega) rfl ?_
    refine wl_mv rfl rfl ?_; refine wl_as rfl rfl ?_; refine wl_as rfl rfl ?_; refine wl_ns ?_; refine wc_ret ?_
    refine we_ret2 rfl rfl rfl ⟨_, rfl, g, ?_, hg, a3, hb3⟩
    rw [cutA_zero]; rfl

theorem kept_yes {A B : Option Addr} {n m c d : Nat} {xs : List UInt8} {w : World} (hx : RdB w A (spareL xs)) (hy : RdB w B xs) (hn : xs.length + 40 = n) (hm : xs.length = m) (hl : xs.length ≤ 1099511627776) :
    CallsV Try.prog 28 #[.slice A n c, .slice B m d] w fun v w' => v = .bool true ∧ Below w.heap.size w w' := by
  subst hn hm
  have hsl := spareL_length xs
  refine calls_in (N := _) Try.func28 rfl Try.ntmps28 rfl ?_; show WC _ _ _ _ _ _
  refine wc_sr ?_; refine wl_as rfl rfl ?_; refine wl_ns ?_; refine wc_seq ?_; refine wc_sr ?_; refine wl_mv rfl rfl ?_; apply wl_val; apply opv_len; exact rfl; exact tyB.sl; exact rfl; refine wl_mv rfl rfl ?_; apply wl_val; apply opv_len; exact rfl; exact tyB.sl; exact rfl; apply wl_val; apply opv_bin; exact rfl; exact rfl; exact bin_add64 (by omega); exact rfl; refine wl_bin rfl rfl bin_neq rfl ?_; refine wl_ns ?_
  refine wc_cond rfl (fun h => absurd h (by omega)) (fun _ => ?_)
  refine wc_skip ?_; refine we_seq ?_; refine wc_seq ?_; refine wc_sr ?_; refine wl_as rfl rfl ?_; refine wl_ns ?_; refine wc_block ?_
  refine wc_loop (fun L wr m => ∃ i : Nat, L = [(0, .slice A (xs.length + 40) c), (1, .slice B xs.length d), (5, .int .i64 (i : Int))] ∧ i ≤ xs.length + 40 ∧ Below w.heap.size w wr ∧ m = xs.length + 40 - i)
    [(0, .slice A (xs.length + 40) c), (1, .slice B xs.length d), (5, .int .i64 (0 : Nat))] (xs.length + 40) ⟨0, rfl, by omega, Below.refl _ _, by omega⟩ ⟨rfl, rfl, rfl, trivial⟩ ?_
  rintro _ w1 m ⟨i, rfl, hi, hb1, rfl⟩
  have rx : Rd w1 A (xs.length + 40) (bvs (spareL xs)) := by have := RdB.below hx hb1; unfold RdB at this; rw [hsl] at this; exact this
  have ry := RdB.below hy hb1
  refine wc_seq ?_; refine wc_sr ?_; refine wl_mv rfl rfl ?_; refine wl_mv rfl rfl ?_; apply wl_val; apply opv_len; exact rfl; exact tyB.sl; exact rfl; refine wl_bin rfl rfl bin_lss rfl ?_; refine wl_ns ?_
  refine wc_cond rfl (fun h1 => ?_) (fun h1 => ?_)
  · by_cases hlow : i < xs.length
    · obtain ⟨x, hxi⟩ : ∃ x, xs[i]? = some x := ⟨_, List.getElem?_eq_getElem hlow⟩
      have hsi := (spareL_low hlow).trans hxi
      refine wc_skip ?_; refine we_seq ?_; refine wc_seq ?_; refine wc_block ?_; refine wc_seq ?_
      refine wc_drawB mixed (by kernel_rfl) ?_
      apply wq_val; intro _ hw_; apply opv_move; exact rfl; exact rfl; apply wq_val; intro _ hw_; apply opv_move; exact rfl; exact rfl; apply wq_val; intro _ hw_; apply opv_len; exact rfl; exact tyB.sl; exact rfl; apply wq_val; intro _ hw_; apply opv_bin; exact rfl; exact rfl; exact bin_lss; exact rfl; apply wq_val; intro _ hw_; apply opv_move; exact rfl; exact rfl; apply wq_take; exact rfl; exact rfl; exact rfl; refine bT ?_; omega; apply wq_val; intro _ hw_; apply opv_move; exact rfl; exact rfl; apply wq_take; exact rfl; exact rfl; exact rfl; refine bT ?_; omega; apply wq_val; intro _ hw_; apply opv_move; exact rfl; exact rfl; apply wq_byTK (T := tyB) (hr := rx) (hb := hsi); exact rfl; exact rfl; exact rfl; refine bT ?_; omega; exact rfl; exact rfl; exact rfl; exact rfl; refine bT ?_; omega; exact rfl; exact rfl; exact rfl; exact rfl; exact rfl; intro _; apply wq_take; exact rfl; exact rfl; exact rfl; refine bT ?_; omega; apply wq_val; intro _ hw_; apply opv_move; exact rfl; exact rfl; apply wq_take; exact rfl; exact rfl; exact rfl; refine bT ?_; omega; apply wq_val; intro _ hw_; apply opv_move; exact rfl; exact rfl; apply wq_byTK (T := tyB) (hr := ry) (hb := hxi); exact rfl; exact rfl; exact rfl; refine bT ?_; omega; exact rfl; exact rfl; exact rfl; exact rfl; refine bT ?_; omega; exact rfl; exact rfl; exact rfl; exact rfl; exact rfl; intro _; apply wq_take; exact rfl; exact rfl; exact rfl; refine bT ?_; omega; apply wq_val; intro _ hw_; apply opv_bin; exact rfl; exact rfl; exact bin_neq; exact rfl; apply wq_val; intro _ hw_; apply opv_pickT; exact rfl; refine bT ?_; omega; exact rfl; exact rfl; apply wq_val; intro _ hw_; apply opv_move; exact rfl; exact rfl; apply wq_take; exact rfl; exact rfl; exact rfl; refine bF ?_; (with_reducible exact nne); apply wq_val; intro _ hw_; apply opv_move; exact rfl; exact rfl; apply wq_take; exact rfl; exact rfl; exact rfl; refine bF ?_; (with_reducible exact nne); apply wq_val; intro _ hw_; apply opv_move; exact rfl; exact rfl; apply wq_take; exact rfl; exact rfl; exact rfl; refine bF ?_; (with_reducible exact nne); apply wq_val; intro _ hw_; apply opv_len; exact rfl; exact tyB.sl; exact rfl; apply wq_take; exact rfl; exact rfl; exact rfl; refine bF ?_; (with_reducible exact nne); apply wq_val; intro _ hw_; apply opv_bin; exact rfl; exact rfl; exact bin_geq; exact rfl; apply wq_take; exact rfl; exact rfl; exact rfl; refine bF ?_; (with_reducible exact nne); apply wq_val; intro _ hw_; apply opv_move; exact rfl; exact rfl; apply wq_skip; exact rfl; exact rfl; exact rfl; refine bFn ?_; omega; exact rfl; apply wq_skip; exact rfl; exact rfl; exact rfl; refine bFn ?_; omega; exact rfl; apply wq_skip; exact rfl; exact rfl; exact rfl; refine bFn ?_; omega; exact rfl; apply wq_skip; exact rfl; exact rfl; exact rfl; refine bFn ?_; omega; exact rfl; apply wq_skip; exact rfl; exact rfl; exact rfl; refine bFn ?_; omega; exact rfl; apply wq_skip; exact rfl; exact rfl; exact rfl; refine bFn ?_; omega; exact rfl; apply wq_skip; exact rfl; exact rfl; exact rfl; refine bFn ?_; omega; exact rfl; apply wq_skip; exact rfl; exact rfl; exact rfl; refine bFn ?_; omega; exact rfl; apply wq_skip; exact rfl; exact rfl; exact rfl; refine bFn ?_; omega; exact rfl; apply wq_take; exact rfl; exact rfl; exact rfl; refine bF ?_; (with_reducible exact nne); apply wq_val; intro _ hw_; apply opv_pickF; exact rfl; refine bF ?_; omega; exact rfl; exact rfl; apply wq_val; intro _ hw_; apply opv_pickF; exact rfl; refine bF ?_; (with_reducible exact nne); exact rfl; exact rfl; refine wq_nil fun w1 hw1 => ?_
      refine we_seq ?_
      refine wc_condF rfl ?_
      refine wc_skip ?_; refine we_block_norm ?_; refine we_seq ?_; refine wc_region ?_; refine wl_mv rfl rfl ?_; apply wl_val; apply opv_bin; exact rfl; exact rfl; exact bin_add64 (by omega); exact rfl; refine wl_as rfl rfl ?_; refine wl_nil ?_
      refine we_loop [(0, .slice A (xs.length + 40) c), (1, .slice B xs.length d), (5, .int .i64 ((i + 1 : Nat) : Int))] (xs.length + 40 - (i + 1)) ⟨i + 1, rfl, by omega, hb1.trans (hw1.mono hb1.size), rfl⟩ (by omega) ⟨rfl, rfl, by simp [lookT], trivial⟩
    · have hsi := spareL_high (b := xs) (i := i) hlow (by omega)
      obtain ⟨y, hy0⟩ : ∃ y, UInt8.ofNat (160 + i % 31) = y := ⟨_, rfl⟩
      have hyn : y.toNat = 160 + i % 31 := by rw [← hy0, UInt8.toNat_ofNat', Nat.mod_eq_of_lt (show 160 + i % 31 < 2 ^ 8 by omega)]
      rw [hy0] at hsi
      refine wc_skip ?_; refine we_seq ?_; refine wc_seq ?_; refine wc_block ?_; refine wc_seq ?_
      refine wc_drawB mixed (by kernel_rfl) ?_
      apply wq_val; intro _ hw_; apply opv_move; exact rfl; exact rfl; apply wq_val; intro _ hw_; apply opv_move; exact rfl; exact rfl; apply wq_val; intro _ hw_; apply opv_len; exact rfl; exact tyB.sl; exact rfl; apply wq_val; intro _ hw_; apply opv_bin; exact rfl; exact rfl; exact bin_lss; exact rfl; apply wq_val; intro _ hw_; apply opv_move; exact rfl; exact rfl; apply wq_skip; exact rfl; exact rfl; exact rfl; refine bFn ?_; omega; exact rfl; apply wq_skip; exact rfl; exact rfl; exact rfl; refine bFn ?_; omega; exact rfl; apply wq_skip; exact rfl; exact rfl; exact rfl; refine bFn ?_; omega; exact rfl; apply wq_skip; exact rfl; exact rfl; exact rfl; refine bFn ?_; omega; exact rfl; apply wq_skip; exact rfl; exact rfl; exact rfl; refine bFn ?_; omega; exact rfl; apply wq_skip; exact rfl; exact rfl; exact rfl; refine bFn ?_; omega; exact rfl; apply wq_skip; exact rfl; exact rfl; exact rfl; refine bFn ?_; omega; exact rfl; apply wq_skip; exact rfl; exact rfl; exact rfl; refine bFn ?_; omega; exact rfl; apply wq_skip; exact rfl; exact rfl; exact rfl; refine bFn ?_; omega; exact rfl; apply wq_val; intro _ hw_; apply opv_pickF; exact rfl; refine bF ?_; omega; exact rfl; exact rfl; apply wq_val; intro _ hw_; apply opv_move; exact rfl; exact rfl; apply wq_take; exact rfl; exact rfl; exact rfl; exact rfl; apply wq_val; intro _ hw_; apply opv_move; exact rfl; exact rfl; apply wq_take; exact rfl; exact rfl; exact rfl; exact rfl; apply wq_val; intro _ hw_; apply opv_move; exact rfl; exact rfl; apply wq_take; exact rfl; exact rfl; exact rfl; exact rfl; apply wq_val; intro _ hw_; apply opv_len; exact rfl; exact tyB.sl; exact rfl; apply wq_take; exact rfl; exact rfl; exact rfl; exact rfl; apply wq_val; intro _ hw_; apply opv_bin; exact rfl; exact rfl; exact bin_geq; exact rfl; apply wq_take; exact rfl; exact rfl; exact rfl; exact rfl; apply wq_val; intro _ hw_; apply opv_move; exact rfl; exact rfl; apply wq_take; exact rfl; exact rfl; exact rfl; refine bT ?_; omega; apply wq_val; intro _ hw_; apply opv_move; exact rfl; exact rfl; apply wq_take; exact rfl; exact rfl; exact rfl; refine bT ?_; omega; apply wq_val; intro _ hw_; apply opv_move; exact rfl; exact rfl; apply wq_byTK (T := tyB) (hr := rx) (hb := hsi); exact rfl; exact rfl; exact rfl; refine bT ?_; omega; exact rfl; exact rfl; exact rfl; exact rfl; refine bT ?_; omega; exact rfl; exact rfl; exact rfl; exact rfl; exact rfl; intro _; apply wq_take; exact rfl; exact rfl; exact rfl; refine bT ?_; omega; apply wq_val; intro _ hw_; apply opv_move; exact rfl; exact rfl; apply wq_take; exact rfl; exact rfl; exact rfl; refine bT ?_; omega; apply wq_val; intro _ hw_; apply opv_bin; exact rfl; exact rfl; exact bin_rem (b := 31) (by decide); exact rfl; apply wq_take; exact rfl; exact rfl; exact rfl; refine bT ?_; omega; apply wq_val; intro _ hw_; apply opv_bin; exact rfl; exact rfl; exact bin_add64 (by omega); exact rfl; apply wq_take; exact rfl; exact rfl; exact rfl; refine bT ?_; omega; apply wq_val; intro _ hw_; apply opv_convR; exact rfl; exact Try.underlying3; exact Try.underlying5; exact IntWalk.u8_in _ (by omega); exact rfl; apply wq_take; exact rfl; exact rfl; exact rfl; refine bT ?_; omega; apply wq_val; intro _ hw_; apply opv_bin; exact rfl; exact rfl; exact bin_neq; exact rfl; apply wq_take; exact rfl; exact rfl; exact rfl; exact rfl; apply wq_val; intro _ hw_; apply opv_pickT; exact rfl; refine bT ?_; omega; exact rfl; exact rfl; apply wq_val; intro _ hw_; apply opv_pickF; exact rfl; exact rfl; exact rfl; exact rfl; refine wq_nil fun w1 hw1 => ?_
      refine we_seq ?_
      refine wc_cond rfl (fun h => absurd h (by omega)) (fun _ => ?_)
      refine wc_skip ?_; refine we_block_norm ?_; refine we_seq ?_; refine wc_region ?_; refine wl_mv rfl rfl ?_; apply wl_val; apply opv_bin; exact rfl; exact rfl; exact bin_add64 (by omega); exact rfl; refine wl_as rfl rfl ?_; refine wl_nil ?_
      refine we_loop [(0, .slice A (xs.length + 40) c), (1, .slice B xs.length d), (5, .int .i64 ((i + 1 : Nat) : Int))] (xs.length + 40 - (i + 1)) ⟨i + 1, rfl, by omega, hb1.trans (hw1.mono hb1.size), rfl⟩ (by omega) ⟨rfl, rfl, by simp [lookT], trivial⟩
  · refine wc_exit ?_; refine we_seq_exit ?_; refine we_loop_exit ?_; refine we_block_exit ?_; refine we_seq ?_; refine wc_sr ?_; refine wl_as rfl rfl ?_; refine wl_ns ?_; refine wc_ret ?_
    exact we_ret1 rfl rfl ⟨_, rfl, rfl, hb1⟩

end Go.Proofs.Ytaacnknniaipmaa

/-
  The walk over the reference's Apart: lists that each lie at the head of a block of their own are told to be apart.
-/
namespace Go.Proofs.Ytaacnknniaipmaa
open Go.RowKit

section
variable {w w' w0 w1 : World} {A A' : Option Addr} {vs : List Value} {base n c i j : Nat}
theorem Own1.hd (h : Own1 w base vs) (hv : vs[i]? = some (.slice A n c)) : Hd w base A n c ∧ n ≤ 1099511627776 := by
  obtain ⟨A', n', c', e, h1, h2⟩ := h.at hv
  injection e with hA hn hc
  subst hA hn hc
  exact ⟨h1, h2⟩
theorem Own1.lt (h : Own1 w base vs) {v : Value} {g : Nat} (hv : v ∈ vs) (hg : v.ownBlock = some g) : g < w.heap.size ∧ base ≤ g := by
  obtain ⟨A, n, c, rfl, hd, _⟩ := h.1 v hv
  rw [ownBlock_slice] at hg
  rcases hd with ⟨rfl, _⟩ | ⟨g', cs, rfl, hb, ha, _⟩
  · simp at hg
  · simp at hg; subst hg; exact ⟨ha.lt, hb⟩
theorem Rd.cellAt {b o N : Nat} {v : Value} (h : Rd w (some ⟨b, o, none⟩) N vs) (hv : vs[i]? = some v) : w.cell? ⟨b, o + i, none⟩ = some v := by
  have hl := (List.getElem?_eq_some_iff.1 hv).1
  obtain ⟨b', o', e, _, hc⟩ := h.2 (by have := h.1; omega)
  injection e with e
  injection e with e1 e2
  subst e1 e2
  exact hc i v hv
theorem MkB.cs {b : Nat} {cs : List Value} (h : MkB w b i n) (ha : Ar w b 5 cs) : n ≤ cs.length ∧ ∀ j, j < n → cs[j]? = some (mk i j) := by
  obtain ⟨ds, hd, h1, h2⟩ := h
  have e : ds = cs := by
    unfold Ar at ha hd
    rw [ha] at hd
    simp only [Option.some.injEq, Obj.cells.injEq] at hd
    have := congrArg Array.toList hd.1
    simpa using this.symm
  subst e
  exact ⟨h1, h2⟩
theorem MkB.take {b : Nat} {cs : List Value} (h : MkB w b i n) (ha : Ar w b 5 cs) : cs.take n = bvs (mkl i n) := by
  obtain ⟨h1, h2⟩ := h.cs ha
  refine List.ext_getElem? fun j => ?_
  rw [List.getElem?_take, bvs, List.getElem?_map]
  by_cases hj : j < n
  · rw [if_pos hj, mkl_get hj, h2 j hj]; rfl
  · rw [if_neg hj, List.getElem?_eq_none (by rw [mkl_length]; omega)]; rfl
theorem set_marks {cs : List Value} : ∀ j' u, (cs.set j (mk i j))[j']? = some u → cs[j']? = some u ∨ u = mk i j' := fun j' u hu => by
  rw [List.getElem?_set] at hu
  split at hu
  · rename_i h
    subst h
    split at hu
    · simp at hu; exact .inr hu.symm
    · cases hu
  · exact .inl hu
theorem MkB.set {b : Nat} {cs : List Value} (h : MkB w b i j) (ha : Ar w b 5 cs) (hj : j < cs.length) (ha' : Ar w' b 5 (cs.set j (mk i j))) : MkB w' b i (j + 1) := by
  obtain ⟨_, h2⟩ := h.cs ha
  refine ⟨_, ha', by simp; omega, fun j' hj' => ?_⟩
  rw [List.getElem?_set]
  by_cases he : j = j'
  · subst he; simp [hj]
  · rw [if_neg he]; exact h2 j' (by omega)
/-- Marks from place n on. -/
def mkt (i n m : Nat) : List UInt8 := (List.range m).map fun k => mkb i (n + k)
theorem mkt_length {m : Nat} : (mkt i n m).length = m := by simp [mkt]
theorem mkt_get {m k : Nat} (h : k < m) : (mkt i n m)[k]? = some (mkb i (n + k)) := by simp [mkt, h]
theorem mkl_add {m : Nat} : mkl i (n + m) = mkl i n ++ mkt i n m := by
  refine List.ext_getElem? fun j => ?_
  by_cases h : j < n
  · rw [List.getElem?_append_left (by rw [mkl_length]; exact h), mkl_get h, mkl_get (by omega)]
  · rw [List.getElem?_append_right (by rw [mkl_length]; omega), mkl_length]
    by_cases h2 : j < n + m
    · rw [mkl_get h2, mkt_get (by omega)]; congr 2; omega
    · rw [List.getElem?_eq_none (by rw [mkl_length]; omega), List.getElem?_eq_none (by rw [mkt_length]; omega)]
theorem MkB.app {b m : Nat} {cs : List Value} (h : MkB w b i n) (ha : Ar w b 5 cs) (hm : n + m ≤ cs.length) (ha' : Ar w' b 5 (cs.take n ++ (bvs (mkt i n m) ++ cs.drop (n + m)))) : MkB w' b i (n + m) := by
  obtain ⟨h1, h2⟩ := h.cs ha
  refine ⟨_, ha', by simp [bvs_length, mkt_length]; omega, fun j hj => ?_⟩
  have hl : (cs.take n).length = n := by simp; omega
  by_cases h : j < n
  · rw [List.getElem?_append_left (by omega), List.getElem?_take, if_pos h]; exact h2 j h
  · rw [List.getElem?_append_right (by omega), hl, List.getElem?_append_left (by rw [bvs_length, mkt_length]; omega), bvs, List.getElem?_map, mkt_get (by omega), show n + (j - n) = j by omega]; rfl
theorem app_marks {m : Nat} {cs : List Value} (hm : n + m ≤ cs.length) : ∀ j u, (cs.take n ++ (bvs (mkt i n m) ++ cs.drop (n + m)))[j]? = some u → cs[j]? = some u ∨ u = mk i j := fun j u hu => by
  have hl : (cs.take n).length = n := by simp; omega
  by_cases h : j < n
  · rw [List.getElem?_append_left (by omega), List.getElem?_take, if_pos h] at hu; exact .inl hu
  · rw [List.getElem?_append_right (by omega), hl] at hu
    by_cases h2 : j < n + m
    · rw [List.getElem?_append_left (by rw [bvs_length, mkt_length]; omega), bvs, List.getElem?_map, mkt_get (by omega), show n + (j - n) = j by omega] at hu
      simp at hu; exact .inr hu.symm
    · rw [List.getElem?_append_right (by rw [bvs_length, mkt_length]; omega), bvs_length, mkt_length, List.getElem?_drop, show n + m + (j - n - m) = j by omega] at hu
      exact .inl hu
theorem Mx.succ (h : Mx w vs i) (hv : vs[i]? = some (.slice A n c)) (hm : ∀ a, A = some a → MkB w a.block i n) : Mx w vs (i + 1) := fun k A' n' c' hk hv' => by
  by_cases he : k = i
  · subst he
    rw [hv] at hv'
    simp only [Option.some.injEq] at hv'
    injection hv' with hA hn hc
    subst hn
    exact hm A' hA
  · exact h k A' n' c' (by omega) hv'
theorem Sk.far {X : Option Nat} (h : Sk w w1 X i) (hs : w.heap.size ≤ w1.heap.size) (g : Gr w1 w' A') (hA : ∀ a, A' = some a → w.heap.size ≤ a.block) : Sk w w' X i := fun b cs ha => by
  obtain ⟨cs', a1, l1, r⟩ := h b cs ha
  refine ⟨cs', ?_, l1, r⟩
  unfold Ar
  rw [g.block b a1.lt fun hk => ?_]
  · exact a1
  · cases A' with
    | none => simp at hk
    | some a => simp at hk; have := hA a rfl; have := ha.lt; omega
theorem Gr.far (h : Gr w w1 A) (g : Gr w1 w' A') (hA : ∀ a, A' = some a → w.heap.size ≤ a.block) : Gr w w' A :=
  ⟨g.os.trans h.os, g.tape.trans h.tape, g.output.trans h.output, Nat.le_trans h.size g.size, fun k hk hne => by
    rw [← h.block k hk hne]
    refine g.block k (Nat.lt_of_lt_of_le hk h.size) fun hk' => ?_
    cases A' with
    | none => simp at hk'
    | some a => simp at hk'; have := hA a rfl; omega⟩
theorem Gr.bel (h : Gr w w1 A) (g : Below w1.heap.size w1 w') : Gr w w' A := h.far (Gr.of_below none g (Nat.le_refl _)) (by simp)
/-- What stands of all that is followed. -/
def Sd (w0 w : World) (base : Nat) (vs : List Value) (N : Nat) (P : Option Addr) (cp : Nat) (gs : List Value) : Prop :=
  Own1 w base vs ∧ Mx w vs N ∧ Kp w0 w vs ∧ Ow w w0.heap.size 32 P gs.length cp gs ∧ ∀ k v, gs[k]? = some v → Gd w vs (k % N) v
variable {N cp : Nat} {P : Option Addr} {gs : List Value}
theorem Sd.bel (h : Sd w0 w base vs N P cp gs) (hb : Below w.heap.size w w') : Sd w0 w' base vs N P cp gs := by
  obtain ⟨h1, h2, h3, h4, h5⟩ := h
  refine ⟨h1.st (X := none) (k := 0) (Sk.bel hb), h2.bel hb, h3.bel hb, Ow.below h4 hb (Nat.le_refl _), fun k v hv => ?_⟩
  obtain ⟨b, n, c, e, hn, hn2, hm, ht⟩ := h5 k v hv
  exact ⟨b, n, c, e, hn, hn2, hm.st (X := none) (k := 0) (Sk.bel hb) (by simp), ht⟩
/-- A step that writes marks of list i into its own block alone. -/
theorem Sd.gr (h : Sd w0 w base vs N P cp gs) (hv : vs[i]? = some (.slice A n c)) (s : Sk w w' (A.map (·.block)) i) (g : Gr w w' A) (hv0 : ∀ a, A = some a → a.block < w0.heap.size) : Sd w0 w' base vs N P cp gs := by
  obtain ⟨h1, h2, h3, h4, h5⟩ := h
  refine ⟨h1.st s, h2.st h1 hv s, h3.gr g fun a ha _ => ⟨_, List.mem_of_getElem? hv, by rw [ha]; rfl⟩, Ow.gr (base' := 0) (e' := 0) h4 g fun a b ha hb => ?_, fun k v hk => (h5 k v hk).st hv s⟩
  have := (Ow.lt h4 a ha).1
  have := hv0 b hb
  omega
/-- A grown slice that has come to lie in a block of its own. -/
theorem gd_new {b0 : Nat} (h : Ow w b0 5 A' n c (bvs (mkl i n))) (hn : 0 < n) (hn2 : n ≤ 2199023255552) (hb : w0.heap.size ≤ b0) (ho : Own1 w0 base vs) : Gd w vs i (.slice A' n c) := by
  rcases h.2 with ⟨_, h0⟩ | ⟨g, cap, cur, hv, hbg, hg, hnc, _, hs, ht⟩
  · omega
  · injection hv with hA hn' hc
    subst hA hc
    refine ⟨g, n, c, rfl, hnc, hn2, ⟨cur.toList, by simpa [Ar] using hg, by simp; omega, fun j hj => ?_⟩, fun k u hu hub => ?_⟩
    · have e : (cur.toList.take n)[j]? = some (mk i j) := by
        rw [show cur.toList.take n = bvs (mkl i n) by simpa using ht, bvs, List.getElem?_map, mkl_get hj]; rfl
      rw [List.getElem?_take, if_pos hj] at e
      exact e
    · have := (ho.lt (List.mem_of_getElem? hu) hub).1
      omega
/-- A grown slice that lies in its list's own block. -/
theorem gd_own {g : Nat} (h : MkB w g i n) (hn : n ≤ c) (hn2 : n ≤ 2199023255552) {n0 c0 : Nat} (hv : vs[i]? = some (.slice (some ⟨g, 0, none⟩) n0 c0)) (ho : Own1 w base vs) : Gd w vs i (.slice (some ⟨g, 0, none⟩) n c) :=
  ⟨g, n, c, rfl, hn, hn2, h, fun k u hu hub => ho.inj hu hv hub rfl⟩
theorem Sd.push {cp' : Nat} {P' : Option Addr} {v : Value} (h : Sd w0 w base vs N P cp gs) (ho : Ow w' w0.heap.size 32 P' (gs.length + 1) cp' (gs ++ [v])) (g : Gr w w' P) (hg : Gd w vs (gs.length % N) v) : Sd w0 w' base vs N P' cp' (gs ++ [v]) := by
  obtain ⟨h1, h2, h3, h4, h5⟩ := h
  have s : ∀ k, Sk w w' none k := fun k => by
    rcases h4.2 with ⟨hv, _⟩ | ⟨g', cap, cur, hv, _, hg', _⟩
    · injection hv with hA
      subst hA
      exact Sk.other (g := 0) (t := 32) (cs := []) g (by simp) (.inl rfl) (by decide)
    · injection hv with hA
      subst hA
      exact Sk.other (g := g') (t := 32) (cs := cur.toList) g (by intro a ha; cases ha; rfl) (.inr (by simpa [Ar] using hg')) (by decide)
  have hk : ∀ {m : Nat} {u : Value}, Gd w vs m u → Gd w' vs m u := fun {m u} hgd => by
    obtain ⟨b, n, c, e, hn, hn2, hm, ht⟩ := hgd
    exact ⟨b, n, c, e, hn, hn2, hm.st (s 0) (by simp), ht⟩
  refine ⟨h1.st (s 0), fun k A n c hk hv => (h2 k A n c hk hv).st (s 0) (by simp), h3.gr g fun a ha hlt => ?_, by rw [List.length_append]; exact ho, fun k u hu => ?_⟩
  · have := (Ow.lt h4 a ha).1; omega
  · rw [List.getElem?_append] at hu
    split at hu
    · exact hk (h5 k u hu)
    · have hk0 : k = gs.length := by
        have := (List.getElem?_eq_some_iff.1 hu).1
        simp at this; omega
      subst hk0
      simp at hu
      subst hu
      exact hk hg
end
end Go.Proofs.Ytaacnknniaipmaa

/-
  The walk over the reference's Apart.
-/
namespace Go.Proofs.Ytaacnknniaipmaa
open Go.RowKit

/-- Phase 1: every list is filled with its marks. -/
def Ap1 (w0 w : World) (base : Nat) (vs : List Value) (i : Nat) : Prop := Own1 w base vs ∧ Mx w vs i ∧ Kp w0 w vs
theorem apartK_any {Lp : Option Addr} {N c base : Nat} {vs : List Value} {w : World} (hr : Rd w Lp N vs) (hL : ∀ a, Lp = some a → ∀ v ∈ vs, v.ownBlock ≠ some a.block) (ho : Own1 w base vs) (hb : base ≤ w.heap.size) (hN : N ≤ 4194304) :
    CallsV Try.prog 29 #[.slice Lp N c] w fun v w' => v = .bool true ∧ Kp w w' vs := by
  have hvl : vs.length = N := hr.1
  have hlt0 : ∀ {A : Option Addr} {n c i : Nat}, vs[i]? = some (.slice A n c) → ∀ a, A = some a → a.block < w.heap.size := fun hv a ha => (ho.lt (List.mem_of_getElem? hv) (by rw [ownBlock_slice, ha]; rfl)).1
  refine calls_in (N := _) Try.func29 rfl Try.ntmps29 rfl ?_; show WC _ _ _ _ _ _
  refine wc_sr ?_; refine wl_as rfl rfl ?_; refine wl_ns ?_; refine wc_seq ?_; refine wc_sr ?_; refine wl_as rfl rfl ?_; refine wl_ns ?_; refine wc_block ?_
  refine wc_loop (fun L wr m => ∃ i : Nat, L = [(0, .slice Lp N c), (3, .int .i64 (i : Int))] ∧ i ≤ N ∧ Ap1 w wr base vs i ∧ m = N - i)
    [(0, .slice Lp N c), (3, .int .i64 (0 : Nat))] N ⟨0, rfl, by omega, ⟨ho, fun k A n c hk => by omega, Kp.refl _ _⟩, rfl⟩ ⟨rfl, rfl, trivial⟩ ?_
  rintro _ w1 m ⟨i, rfl, hi, ⟨o1, m1, k1⟩, rfl⟩
  refine wc_seq ?_; refine wc_sr ?_; refine wl_mv rfl rfl ?_; refine wl_mv rfl rfl ?_; apply wl_val; apply opv_len; exact rfl; exact tyBB.sl; exact rfl; refine wl_bin rfl rfl bin_lss rfl ?_; refine wl_ns ?_
  refine wc_cond rfl (fun h1 => ?_) (fun h1 => ?_)
  · obtain ⟨v, hv⟩ : ∃ v, vs[i]? = some v := ⟨_, List.getElem?_eq_getElem (by omega)⟩
    obtain ⟨A, n, cc, rfl, hd1, hnl⟩ := o1.at hv
    refine wc_skip ?_; refine we_seq ?_; refine wc_seq ?_; refine wc_block ?_; refine wc_sr ?_; refine wl_as rfl rfl ?_; refine wl_ns ?_; refine wc_block ?_
    refine wc_loop (fun L wr m => ∃ j : Nat, L = [(0, .slice Lp N c), (3, .int .i64 (i : Int)), (4, .int .i64 (j : Int))] ∧ j ≤ n ∧ Ap1 w wr base vs i ∧ (∀ a, A = some a → MkB wr a.block i j) ∧ m = n - j)
      [(0, .slice Lp N c), (3, .int .i64 (i : Int)), (4, .int .i64 (0 : Nat))] n ⟨0, rfl, by omega, ⟨o1, m1, k1⟩, ?_, rfl⟩ ⟨rfl, rfl, rfl, trivial⟩ ?_
    · intro a ha
      rcases hd1 with ⟨h, _⟩ | ⟨g, cs, h, _, ha1, _⟩
      · rw [h] at ha; cases ha
      · rw [h] at ha; cases ha
        exact ⟨cs, ha1, by omega, by omega⟩
    rintro _ w2 m ⟨j, rfl, hj, ⟨o2, m2, k2⟩, b2, rfl⟩
    have r2 := k2.rd hr hL
    refine wc_seq ?_; refine wc_sr ?_; refine wl_mv rfl rfl ?_; refine wl_mv rfl rfl ?_; refine wl_mv rfl rfl ?_; apply wl_elK (T := tyBB) (hr := r2) (hb := hv); exact rfl; exact rfl; exact rfl; exact rfl; exact rfl; intro _; apply wl_val; apply opv_len; exact rfl; exact tyB.sl; exact rfl; refine wl_bin rfl rfl bin_lss rfl ?_; refine wl_ns ?_
    refine wc_cond rfl (fun h2 => ?_) (fun h2 => ?_)
    · have hd2 := (o2.hd hv).1
      rcases hd2 with ⟨_, h0, _⟩ | ⟨g, cs, rfl, hg, ha, hnc, hcc⟩
      · omega
      obtain ⟨bl, ol, rfl, _, _⟩ := hr.2 (by omega)
      have mb := b2 _ rfl
      have hgr := (Gr.of_below (some ⟨g, 0, none⟩) ((Below.refl w2.heap.size w2).drew) (Nat.le_refl _))
      refine wc_skip ?_; refine we_seq ?_; refine wc_seq ?_; refine wc_block ?_
      refine wc_held (fun w' => Rd w' (some ⟨bl, ol, none⟩) N vs) mixed ?_
      apply wh_take 0; exact rfl; kernel_rfl; kernel_rfl; kernel_rfl; exact r2; intro _ hw_; apply opv_move; exact rfl; exact rfl; apply wh_take 1; exact rfl; kernel_rfl; kernel_rfl; kernel_rfl; exact r2; intro _ hw_; apply opv_move; exact rfl; exact rfl
      refine wh_take 2 rfl (by kernel_rfl) (by kernel_rfl) (by kernel_rfl) r2 (fun _ _ => opv_idx (kk := i) tyBB rfl rfl rfl (by omega)) rfl ?_
      refine wh_take 3 rfl (by kernel_rfl) (by kernel_rfl) (by kernel_rfl) r2 (fun _ hw => opv_load tyBB rfl (hw.cellAt hv)) rfl ?_
      apply wh_take 4; exact rfl; kernel_rfl; kernel_rfl; kernel_rfl; exact r2; intro _ hw_; apply opv_move; exact rfl; exact rfl; apply wh_take 5; exact rfl; kernel_rfl; kernel_rfl; kernel_rfl; exact r2; intro _ hw_; apply opv_move; exact rfl; exact rfl; apply wh_take 6; exact rfl; kernel_rfl; kernel_rfl; kernel_rfl; exact r2; intro _ hw_; apply opv_move; exact rfl; exact rfl
      refine wh_one 7 (o := ⟨_, _, _, _, _, _⟩) (by kernel_rfl) rfl ?_
      refine wl_call ok_caissonref01_mark (mark_any i j (by omega) (by omega) _) ⟨rfl, rfl, trivial⟩ rfl ?_
      rintro _ _ ⟨rfl, rfl⟩
      refine wl_nil ?_
      refine we_held r2 ?_
      refine wh_take 8 rfl (by kernel_rfl) (by kernel_rfl) (by kernel_rfl) r2 (fun _ _ => opv_idx (kk := j) tyB rfl rfl rfl (by omega)) rfl ?_
      refine wh_one 9 (o := ⟨_, _, _, _, _, _⟩) (by kernel_rfl) rfl ?_
      refine wl_storeA (w := w2.drew) (kk := j) tyB ha (by omega) rfl rfl rfl fun w3 a3 g3 _ => ?_
      have g3' := hgr.trans g3
      have s3 : Sk w2 w3 (some g) i := Sk.at g3' ha a3 (by simp) set_marks
      have o3 := o2.st s3
      have m3 := m2.st o2 hv s3
      have k3 := k2.gr g3' fun a ha' _ => ⟨_, List.mem_of_getElem? hv, by rw [ownBlock_slice, ha']; rfl⟩
      have b3 := mb.set ha (by omega) a3
      have r3 := k3.rd hr hL
      refine wl_nil ?_
      refine we_held r3 ?_
      refine wh_done (by kernel_rfl) ?_
      refine we_block_norm ?_; refine we_seq ?_; refine wc_region ?_; refine wl_mv rfl rfl ?_; apply wl_val; apply opv_bin; exact rfl; exact rfl; exact bin_add64 (by omega); exact rfl; refine wl_as rfl rfl ?_; refine wl_nil ?_
      refine we_loop [(0, .slice (some ⟨bl, ol, none⟩) N c), (3, .int .i64 (i : Int)), (4, .int .i64 ((j + 1 : Nat) : Int))] (n - (j + 1)) ⟨j + 1, rfl, by omega, ⟨o3, m3, k3⟩, by intro a ha; cases ha; exact b3, rfl⟩ (by omega) ⟨rfl, rfl, by simp [lookT], trivial⟩
    · obtain rfl : j = n := by omega
      have m2' := m2.succ hv b2
      refine wc_exit ?_; refine we_seq_exit ?_; refine we_loop_exit ?_; refine we_block_exit ?_; refine we_block_norm ?_; refine we_seq ?_; refine wc_region ?_; refine wl_mv rfl rfl ?_; apply wl_val; apply opv_bin; exact rfl; exact rfl; exact bin_add64 (by omega); exact rfl; refine wl_as rfl rfl ?_; refine wl_nil ?_
      refine we_loop [(0, .slice Lp N c), (3, .int .i64 ((i + 1 : Nat) : Int))] (N - (i + 1)) ⟨i + 1, rfl, by omega, ⟨o2, m2', k2⟩, rfl⟩ (by omega) ⟨rfl, by simp [lookT], trivial⟩
  · obtain rfl : i = N := by omega
    clear h1 hi
    refine wc_exit ?_; refine we_seq_exit ?_; refine we_loop_exit ?_; refine we_block_exit ?_; refine we_seq ?_; refine wc_sr ?_; refine wl_as rfl rfl ?_; refine wl_ns ?_; refine wc_seq ?_; refine wc_sr ?_; refine wl_as rfl rfl ?_; refine wl_ns ?_; refine wc_block ?_
    refine wc_loop (fun L wr m => ∃ (j : Nat) (P : Option Addr) (cp : Nat) (gs : List Value), L = [(0, .slice Lp i c), (5, .slice P gs.length cp), (6, .int .i64 (j : Int))] ∧ j ≤ i ∧ gs.length = j ∧ Sd w wr base vs i P cp gs ∧ m = i - j)
      [(0, .slice Lp i c), (5, .slice none 0 0), (6, .int .i64 (0 : Nat))] i ⟨0, none, 0, [], rfl, by omega, rfl, ⟨o1, m1, k1, Ow.nil _ _ _, by simp⟩, rfl⟩ ⟨rfl, rfl, rfl, trivial⟩ ?_
    rintro _ w2 m ⟨j, P, cp, gs, rfl, hj, hgl, s2, rfl⟩
    refine wc_seq ?_; refine wc_sr ?_; refine wl_mv rfl rfl ?_; refine wl_mv rfl rfl ?_; apply wl_val; apply opv_len; exact rfl; exact tyBB.sl; exact rfl; refine wl_bin rfl rfl bin_lss rfl ?_; refine wl_ns ?_
    refine wc_cond rfl (fun h1 => ?_) (fun h1 => ?_)
    · obtain ⟨v, hv⟩ : ∃ v, vs[j]? = some v := ⟨_, List.getElem?_eq_getElem (by omega)⟩
      obtain ⟨A, n, cc, rfl, hd2, hnl⟩ := s2.1.at hv
      have hv0 := hlt0 hv
      have r2 := s2.2.2.1.rd hr hL
      have hs20 := s2.2.2.1.2.2.2.1
      refine wc_skip ?_; refine we_seq ?_; refine wc_seq ?_; refine wc_block ?_; refine wc_sr ?_; refine wl_mv rfl rfl ?_; refine wl_mv rfl rfl ?_; apply wl_elK (T := tyBB) (hr := r2) (hb := hv); exact rfl; exact rfl; exact rfl; exact rfl; exact rfl; intro _; refine wl_as rfl rfl ?_; refine wl_ns ?_; refine wc_seq ?_; refine wc_sr ?_; refine wl_as rfl rfl ?_; refine wl_ns ?_; refine wc_block ?_
      refine wc_loop (fun L wr m => ∃ (k : Nat) (A' : Option Addr) (c' : Nat), L = [(0, .slice Lp i c), (5, .slice P gs.length cp), (6, .int .i64 (j : Int)), (7, .slice A' (n + k) c'), (8, .int .i64 (k : Int))] ∧ k ≤ 16 ∧ Sk w2 wr (A.map (·.block)) j ∧ Gr w2 wr A ∧ ((∃ g, A = some ⟨g, 0, none⟩ ∧ A' = some ⟨g, 0, none⟩ ∧ c' = cc ∧ n + k ≤ cc ∧ MkB wr g j (n + k)) ∨ Ow wr w2.heap.size 5 A' (n + k) c' (bvs (mkl j (n + k)))) ∧ m = 16 - k)
        [(0, .slice Lp i c), (5, .slice P gs.length cp), (6, .int .i64 (j : Int)), (7, .slice A n cc), (8, .int .i64 (0 : Nat))] 16 ⟨0, A, cc, rfl, by omega, Sk.refl _ _ _, Gr.refl _ _, ?_, rfl⟩ ⟨rfl, rfl, rfl, rfl, rfl, trivial⟩ ?_
      · rcases hd2 with ⟨rfl, rfl, rfl⟩ | ⟨g, cs, rfl, _, _, hnc, _⟩
        · exact .inr (Ow.nil _ _ _)
        · exact .inl ⟨g, rfl, rfl, rfl, hnc, s2.2.1 j _ n cc (by omega) hv⟩
      rintro _ w3 m ⟨k, A', c', rfl, hk, t3, g3, hg3, rfl⟩
      have r3 := (s2.2.2.1.gr g3 fun a ha' _ => ⟨_, List.mem_of_getElem? hv, by rw [ownBlock_slice, ha']; rfl⟩).rd hr hL
      refine wc_seq ?_; refine wc_sr ?_; refine wl_mv rfl rfl ?_; refine wl_bin rfl rfl bin_lss rfl ?_; refine wl_ns ?_
      refine wc_cond rfl (fun h2 => ?_) (fun h2 => ?_)
      · refine wc_skip ?_; refine we_seq ?_; refine wc_seq ?_; refine wc_block ?_; refine wc_region ?_; refine wl_mv rfl rfl ?_; refine wl_mv rfl rfl ?_; refine wl_mv rfl rfl ?_; refine wl_mv rfl rfl ?_; apply wl_elK (T := tyBB) (hr := r3) (hb := hv); exact rfl; exact rfl; exact rfl; exact rfl; exact rfl; intro _; apply wl_val; apply opv_len; exact rfl; exact tyB.sl; exact rfl; refine wl_mv rfl rfl ?_; apply wl_val; apply opv_bin; exact rfl; exact rfl; exact bin_add64 (by omega); exact rfl
        refine wl_call ok_caissonref01_mark (mark_any j (n + k) (by omega) (by omega) _) ⟨rfl, rfl, trivial⟩ rfl ?_
        rintro _ _ ⟨rfl, rfl⟩
        have hmk : [mk j (n + k)] = bvs (mkt j (n + k) 1) := rfl
        have hs3 := g3.size
        refine wl_bs (vs := [_]) tyB ⟨rfl, rfl, rfl, trivial⟩ rfl (by decide) rfl fun A4 w4 o4 hb4 _ => ?_
        rw [hmk] at o4
        rcases hg3 with ⟨g, rfl, rfl, rfl, hle, mb⟩ | hown
        · rcases hd2.st t3 with ⟨h, _⟩ | ⟨g', cs, he, _, ha, _, hcc⟩
          · cases h
          cases he
          have ha4 := ha.bel hb4
          have mb4 := mb.st (X := none) (k := j) (Sk.bel hb4) (by simp)
          have t4 := t3.trans (Sk.bel hb4)
          have g4 := g3.bel hb4
          refine wl_appA (n := n + k) tyB rfl ha4 hle hcc rfl o4.rd (by decide) (bvs_one _) (by omega) (by simp only [maxLen]; omega) rfl (fun hfit w5 a5 g5 => ?_) (fun A5 c5 w5 o5 hb5 => ?_)
          · have t5 : Sk w4 w5 (some g) j := Sk.at g5 ha4 a5 (by simp [bvs_length, mkt_length]; omega) (app_marks (by omega))
            refine wl_as rfl rfl ?_; refine wl_nil ?_; refine we_block_norm ?_; refine we_seq ?_; refine wc_region ?_; refine wl_mv rfl rfl ?_; apply wl_val; apply opv_bin; exact rfl; exact rfl; exact bin_add64 (by omega); exact rfl; refine wl_as rfl rfl ?_; refine wl_nil ?_
            refine we_loop [(0, .slice Lp i c), (5, .slice P gs.length cp), (6, .int .i64 (j : Int)), (7, .slice (some ⟨g, 0, none⟩) (n + (k + 1)) _), (8, .int .i64 ((k + 1 : Nat) : Int))] (16 - (k + 1)) ⟨k + 1, _, _, rfl, by omega, t4.trans t5, g4.trans g5, .inl ⟨g, rfl, rfl, rfl, by omega, mb4.app ha4 (by omega) a5⟩, rfl⟩ (by omega) ⟨rfl, rfl, rfl, rfl, by simp [lookT], trivial⟩
          · rw [mb4.take ha4, ← bvs_append, ← mkl_add] at o5
            refine wl_as rfl rfl ?_; refine wl_nil ?_; refine we_block_norm ?_; refine we_seq ?_; refine wc_region ?_; refine wl_mv rfl rfl ?_; apply wl_val; apply opv_bin; exact rfl; exact rfl; exact bin_add64 (by omega); exact rfl; refine wl_as rfl rfl ?_; refine wl_nil ?_
            refine we_loop [(0, .slice Lp i c), (5, .slice P gs.length cp), (6, .int .i64 (j : Int)), (7, .slice A5 (n + (k + 1)) c5), (8, .int .i64 ((k + 1 : Nat) : Int))] (16 - (k + 1)) ⟨k + 1, A5, c5, rfl, by omega, t4.trans (Sk.bel hb5), g4.bel hb5, .inr (Ow.mono o5 (by have := hb4.size; omega)), rfl⟩ (by omega) ⟨rfl, rfl, rfl, rfl, by simp [lookT], trivial⟩
        · have hown4 := Ow.below hown hb4 (Nat.le_refl _)
          have hs4 := hb4.size
          refine wl_app (n := n + k) tyB rfl hown4 rfl o4.rd (bvs_one _) (by omega) (by simp only [maxLen]; omega) (by omega) rfl fun A5 c5 w5 o5 g5 _ => ?_
          rw [← bvs_append, ← mkl_add] at o5
          have hfar : ∀ a, A' = some a → w2.heap.size ≤ a.block := fun a ha => (Ow.lt hown a ha).1
          refine wl_as rfl rfl ?_; refine wl_nil ?_; refine we_block_norm ?_; refine we_seq ?_; refine wc_region ?_; refine wl_mv rfl rfl ?_; apply wl_val; apply opv_bin; exact rfl; exact rfl; exact bin_add64 (by omega); exact rfl; refine wl_as rfl rfl ?_; refine wl_nil ?_
          refine we_loop [(0, .slice Lp i c), (5, .slice P gs.length cp), (6, .int .i64 (j : Int)), (7, .slice A5 (n + (k + 1)) c5), (8, .int .i64 ((k + 1 : Nat) : Int))] (16 - (k + 1)) ⟨k + 1, A5, c5, rfl, by omega, (t3.trans (Sk.bel hb4)).far (by omega) g5 hfar, (g3.bel hb4).far g5 hfar, .inr o5, rfl⟩ (by omega) ⟨rfl, rfl, rfl, rfl, by simp [lookT], trivial⟩
      · obtain rfl : k = 16 := by omega
        have s3 := s2.gr hv t3 g3 hv0
        have hgd : Gd w3 vs (gs.length % i) (.slice A' (n + 16) c') := by
          rw [hgl, Nat.mod_eq_of_lt (by omega)]
          rcases hg3 with ⟨g, rfl, rfl, rfl, hle, mb⟩ | hown
          · exact gd_own mb hle (by omega) hv s3.1
          · exact gd_new hown (by omega) (by omega) hs20 ho
        refine wc_exit ?_; refine we_seq_exit ?_; refine we_loop_exit ?_; refine we_block_exit ?_; refine we_seq ?_; refine wc_region ?_; refine wl_mv rfl rfl ?_; refine wl_mv rfl rfl ?_
        refine wl_push (vs := [.slice A' (n + 16) c']) tyBB rfl s3.2.2.2.1 ⟨rfl, rfl, rfl, trivial⟩ rfl (by decide) rfl (by omega) (by simp only [maxLen]; omega) s3.2.2.1.2.2.2.1 rfl rfl fun p P4 cp4 w4 o4 g4 _ => ?_
        refine wl_as rfl rfl ?_; refine wl_nil ?_; refine we_block_norm ?_; refine we_seq ?_; refine wc_region ?_; refine wl_mv rfl rfl ?_; apply wl_val; apply opv_bin; exact rfl; exact rfl; exact bin_add64 (by omega); exact rfl; refine wl_as rfl rfl ?_; refine wl_nil ?_
        refine we_loop [(0, .slice Lp i c), (5, .slice P4 (gs ++ [Value.slice A' (n + 16) c']).length cp4), (6, .int .i64 ((j + 1 : Nat) : Int))] (i - (j + 1)) ⟨j + 1, P4, cp4, _, rfl, by omega, by simp [hgl], s3.push o4 g4 hgd, rfl⟩ (by omega) ⟨rfl, by rw [List.length_append]; rfl, by simp [lookT], trivial⟩
    · obtain rfl : j = i := by omega
      clear h1 hj o1 m1 k1
      refine wc_exit ?_; refine we_seq_exit ?_; refine we_loop_exit ?_; refine we_block_exit ?_; refine we_seq ?_; refine wc_seq ?_; refine wc_sr ?_; refine wl_as rfl rfl ?_; refine wl_ns ?_; refine wc_block ?_
      refine wc_loop (fun L wr m => ∃ (q : Nat) (P : Option Addr) (cp : Nat) (gs : List Value), L = [(0, .slice Lp j c), (5, .slice P gs.length cp), (9, .int .i64 (q : Int))] ∧ q ≤ j ∧ gs.length = j + q ∧ Sd w wr base vs j P cp gs ∧ m = j - q)
        [(0, .slice Lp j c), (5, .slice P gs.length cp), (9, .int .i64 (0 : Nat))] j ⟨0, P, cp, gs, rfl, by omega, hgl, s2, rfl⟩ ⟨rfl, rfl, rfl, trivial⟩ ?_
      clear s2 hgl
      rintro _ w3 m ⟨q, P, cp, gs, rfl, hq, hgl, s3, rfl⟩
      refine wc_seq ?_; refine wc_sr ?_; refine wl_mv rfl rfl ?_; refine wl_mv rfl rfl ?_; apply wl_val; apply opv_len; exact rfl; exact tyBB.sl; exact rfl; refine wl_bin rfl rfl bin_lss rfl ?_; refine wl_ns ?_
      refine wc_cond rfl (fun h1 => ?_) (fun h1 => ?_)
      · obtain ⟨v, hv⟩ : ∃ v, vs[q]? = some v := ⟨_, List.getElem?_eq_getElem (by omega)⟩
        obtain ⟨A, n, cc, rfl, hd3, hnl⟩ := s3.1.at hv
        have hv0 := hlt0 hv
        have hs30 := s3.2.2.1.2.2.2.1
        refine wc_skip ?_; refine we_seq ?_; refine wc_seq ?_; refine wc_block ?_; refine wc_sr ?_
        refine wl_mk (n := 40) (c := 40) tyB rfl rfl rfl rfl (by omega) (by omega) (by simp only [maxLen]; omega) rfl fun A4 w4 o4 hb4 _ => ?_
        refine wl_as rfl rfl ?_; refine wl_ns ?_; refine wc_seq ?_; refine wc_sr ?_; refine wl_as rfl rfl ?_; refine wl_ns ?_; refine wc_block ?_
        refine wc_loop (fun L wr m => ∃ k : Nat, L = [(0, .slice Lp j c), (5, .slice P gs.length cp), (9, .int .i64 (q : Int)), (10, .slice A4 40 40), (11, .int .i64 (k : Int))] ∧ k ≤ 40 ∧ Ow wr w3.heap.size 5 A4 40 40 (bvs (mkt q n k ++ List.replicate (40 - k) 0)) ∧ Below w3.heap.size w3 wr ∧ m = 40 - k)
          [(0, .slice Lp j c), (5, .slice P gs.length cp), (9, .int .i64 (q : Int)), (10, .slice A4 40 40), (11, .int .i64 (0 : Nat))] 40 ⟨0, rfl, by omega, by simpa [bvs, bv, mkt] using o4, hb4, rfl⟩ ⟨rfl, rfl, rfl, rfl, rfl, trivial⟩ ?_
        rintro _ w5 m ⟨k, rfl, hk, o5, hb5, rfl⟩
        have s5 := s3.bel hb5
        have r5 := s5.2.2.1.rd hr hL
        have hs5 := hb5.size
        refine wc_seq ?_; refine wc_sr ?_; refine wl_mv rfl rfl ?_; refine wl_bin rfl rfl bin_lss rfl ?_; refine wl_ns ?_
        refine wc_cond rfl (fun h2 => ?_) (fun h2 => ?_)
        · refine wc_skip ?_; refine we_seq ?_; refine wc_seq ?_; refine wc_block ?_; refine wc_region ?_; refine wl_mv rfl rfl ?_; refine wl_mv rfl rfl ?_; refine wl_mv rfl rfl ?_; refine wl_mv rfl rfl ?_; refine wl_mv rfl rfl ?_; apply wl_elK (T := tyBB) (hr := r5) (hb := hv); exact rfl; exact rfl; exact rfl; exact rfl; exact rfl; intro _; apply wl_val; apply opv_len; exact rfl; exact tyB.sl; exact rfl; refine wl_mv rfl rfl ?_; apply wl_val; apply opv_bin; exact rfl; exact rfl; exact bin_add64 (by omega); exact rfl
          refine wl_call ok_caissonref01_mark (mark_any q (n + k) (by omega) (by omega) _) ⟨rfl, rfl, trivial⟩ rfl ?_
          rintro _ _ ⟨rfl, rfl⟩
          refine wl_set (n := 40) (kk := k) tyB rfl rfl o5 rfl (by omega) (fun _ => rfl) rfl rfl fun p w6 o6 g6 _ => ?_
          have hb6 := g6.below hb5 o5 (Nat.le_refl _) hs5
          have e6 : (bvs (mkt q n k ++ List.replicate (40 - k) 0)).set k (mk q (n + k)) = bvs (mkt q n (k + 1) ++ List.replicate (40 - (k + 1)) 0) := by
            rw [mk, bvs_set]
            congr 1
            rw [List.set_append_right _ _ (by rw [mkt_length]; omega), mkt_length, Nat.sub_self, show 40 - k = (40 - (k + 1)) + 1 by omega, List.replicate_succ, List.set_cons_zero]
            simp [mkt, List.range_succ]
          rw [e6] at o6
          refine wl_nil ?_; refine we_block_norm ?_; refine we_seq ?_; refine wc_region ?_; refine wl_mv rfl rfl ?_; apply wl_val; apply opv_bin; exact rfl; exact rfl; exact bin_add64 (by omega); exact rfl; refine wl_as rfl rfl ?_; refine wl_nil ?_
          refine we_loop [(0, .slice Lp j c), (5, .slice P gs.length cp), (9, .int .i64 (q : Int)), (10, .slice A4 40 40), (11, .int .i64 ((k + 1 : Nat) : Int))] (40 - (k + 1)) ⟨k + 1, rfl, by omega, o6, hb6, rfl⟩ (by omega) ⟨rfl, rfl, rfl, rfl, by simp [lookT], trivial⟩
        · obtain rfl : k = 40 := by omega
          rw [Nat.sub_self, List.replicate_zero, List.append_nil] at o5
          refine wc_exit ?_; refine we_seq_exit ?_; refine we_loop_exit ?_; refine we_block_exit ?_; refine we_seq ?_; refine wc_region ?_; refine wl_mv rfl rfl ?_; refine wl_mv rfl rfl ?_; refine wl_mv rfl rfl ?_; apply wl_elK (T := tyBB) (hr := r5) (hb := hv); exact rfl; exact rfl; exact rfl; exact rfl; exact rfl; intro _; refine wl_mv rfl rfl ?_
          rcases (s5.1.hd hv).1 with ⟨rfl, rfl, rfl⟩ | ⟨g, cs, rfl, _, ha, hnc, hcc⟩
          · refine wl_app tyB rfl (Ow.nil w5 w5.heap.size _) rfl o5.rd (bvs_one _) (by omega) (by simp only [maxLen]; omega) (Nat.le_refl _) rfl fun A7 c7 w7 o7 g7 _ => ?_
            have hb7 := g7.below (Below.refl w5.heap.size w5) (Ow.nil w5 w5.heap.size 5) (Nat.le_refl _) (Nat.le_refl _)
            have em : mkl q (0 + 40) = mkt q 0 40 := by rw [mkl_add]; rfl
            rw [List.nil_append, ← em] at o7
            have s7 := s5.bel hb7
            have hgd : Gd w7 vs (gs.length % j) (.slice A7 (0 + 40) c7) := by
              rw [hgl, Nat.add_mod_left, Nat.mod_eq_of_lt (by omega)]
              exact gd_new o7 (by omega) (by omega) (by omega) ho
            refine wl_push (vs := [.slice A7 (0 + 40) c7]) tyBB rfl s7.2.2.2.1 ⟨rfl, rfl, rfl, trivial⟩ rfl (by decide) rfl (by omega) (by simp only [maxLen]; omega) s7.2.2.1.2.2.2.1 rfl rfl fun p P8 cp8 w8 o8 g8 _ => ?_
            refine wl_as rfl rfl ?_; refine wl_nil ?_; refine we_block_norm ?_; refine we_seq ?_; refine wc_region ?_; refine wl_mv rfl rfl ?_; apply wl_val; apply opv_bin; exact rfl; exact rfl; exact bin_add64 (by omega); exact rfl; refine wl_as rfl rfl ?_; refine wl_nil ?_
            refine we_loop [(0, .slice Lp j c), (5, .slice P8 (gs ++ [Value.slice A7 (0 + 40) c7]).length cp8), (9, .int .i64 ((q + 1 : Nat) : Int))] (j - (q + 1)) ⟨q + 1, P8, cp8, _, rfl, by omega, by simp [hgl]; omega, s7.push o8 g8 hgd, rfl⟩ (by omega) ⟨rfl, by rw [List.length_append]; rfl, by simp [lookT], trivial⟩
          · have mb := s5.2.1 q _ n cc (by omega) hv
            refine wl_appA tyB rfl ha hnc hcc rfl o5.rd (by decide) (bvs_one _) (by omega) (by simp only [maxLen]; omega) rfl (fun hfit w7 a7 g7 => ?_) (fun A7 c7 w7 o7 hb7 => ?_)
            · have t7 : Sk w5 w7 (some g) q := Sk.at g7 ha a7 (by simp [bvs_length, mkt_length]; omega) (app_marks (by omega))
              have s7 := s5.gr hv t7 g7 hv0
              have hgd : Gd w7 vs (gs.length % j) (.slice (some ⟨g, 0, none⟩) (n + 40) cc) := by
                rw [hgl, Nat.add_mod_left, Nat.mod_eq_of_lt (by omega)]
                exact gd_own (mb.app ha (by omega) a7) hfit (by omega) hv s7.1
              refine wl_push (vs := [.slice (some ⟨g, 0, none⟩) (n + 40) cc]) tyBB rfl s7.2.2.2.1 ⟨rfl, rfl, rfl, trivial⟩ rfl (by decide) rfl (by omega) (by simp only [maxLen]; omega) s7.2.2.1.2.2.2.1 rfl rfl fun p P8 cp8 w8 o8 g8 _ => ?_
              refine wl_as rfl rfl ?_; refine wl_nil ?_; refine we_block_norm ?_; refine we_seq ?_; refine wc_region ?_; refine wl_mv rfl rfl ?_; apply wl_val; apply opv_bin; exact rfl; exact rfl; exact bin_add64 (by omega); exact rfl; refine wl_as rfl rfl ?_; refine wl_nil ?_
              refine we_loop [(0, .slice Lp j c), (5, .slice P8 (gs ++ [Value.slice (some ⟨g, 0, none⟩) (n + 40) cc]).length cp8), (9, .int .i64 ((q + 1 : Nat) : Int))] (j - (q + 1)) ⟨q + 1, P8, cp8, _, rfl, by omega, by simp [hgl]; omega, s7.push o8 g8 hgd, rfl⟩ (by omega) ⟨rfl, by rw [List.length_append]; rfl, by simp [lookT], trivial⟩
            · rw [mb.take ha, ← bvs_append, ← mkl_add] at o7
              have s7 := s5.bel hb7
              have hgd : Gd w7 vs (gs.length % j) (.slice A7 (n + 40) c7) := by
                rw [hgl, Nat.add_mod_left, Nat.mod_eq_of_lt (by omega)]
                exact gd_new o7 (by omega) (by omega) (by omega) ho
              refine wl_push (vs := [.slice A7 (n + 40) c7]) tyBB rfl s7.2.2.2.1 ⟨rfl, rfl, rfl, trivial⟩ rfl (by decide) rfl (by omega) (by simp only [maxLen]; omega) s7.2.2.1.2.2.2.1 rfl rfl fun p P8 cp8 w8 o8 g8 _ => ?_
              refine wl_as rfl rfl ?_; refine wl_nil ?_; refine we_block_norm ?_; refine we_seq ?_; refine wc_region ?_; refine wl_mv rfl rfl ?_; apply wl_val; apply opv_bin; exact rfl; exact rfl; exact bin_add64 (by omega); exact rfl; refine wl_as rfl rfl ?_; refine wl_nil ?_
              refine we_loop [(0, .slice Lp j c), (5, .slice P8 (gs ++ [Value.slice A7 (n + 40) c7]).length cp8), (9, .int .i64 ((q + 1 : Nat) : Int))] (j - (q + 1)) ⟨q + 1, P8, cp8, _, rfl, by omega, by simp [hgl]; omega, s7.push o8 g8 hgd, rfl⟩ (by omega) ⟨rfl, by rw [List.length_append]; rfl, by simp [lookT], trivial⟩
      · obtain rfl : q = j := by omega
        clear h1 hq
        have rg := Ow.rd s3.2.2.2.1
        have rv := s3.2.2.1.rd hr hL
        refine wc_exit ?_; refine we_seq_exit ?_; refine we_loop_exit ?_; refine we_block_exit ?_; refine we_seq ?_; refine wc_seq ?_; refine wc_sr ?_; refine wl_as rfl rfl ?_; refine wl_ns ?_; refine wc_block ?_
        refine wc_loop (fun L wr m => ∃ t : Nat, L = [(0, .slice Lp q c), (5, .slice P gs.length cp), (12, .int .i64 (t : Int))] ∧ t ≤ gs.length ∧ Below w3.heap.size w3 wr ∧ m = gs.length - t)
          [(0, .slice Lp q c), (5, .slice P gs.length cp), (12, .int .i64 (0 : Nat))] gs.length ⟨0, rfl, by omega, Below.refl _ _, rfl⟩ ⟨rfl, rfl, rfl, trivial⟩ ?_
        rintro _ w4 m ⟨t, rfl, ht, hb4, rfl⟩
        have rg4 := rg.below hb4
        refine wc_seq ?_; refine wc_sr ?_; refine wl_mv rfl rfl ?_; refine wl_mv rfl rfl ?_; apply wl_val; apply opv_len; exact rfl; exact tyBB.sl; exact rfl; refine wl_bin rfl rfl bin_lss rfl ?_; refine wl_ns ?_
        refine wc_cond rfl (fun h1 => ?_) (fun h1 => ?_)
        · obtain ⟨v, hv⟩ : ∃ v, gs[t]? = some v := ⟨_, List.getElem?_eq_getElem (by omega)⟩
          obtain ⟨b, n, cc, rfl, hnc, hn2, mb, _⟩ := s3.2.2.2.2 t v hv
          have rb : Rd w3 (some ⟨b, 0, none⟩) n (bvs (mkl (t % q) n)) := by have := mb.rd; unfold RdB at this; rw [mkl_length] at this; exact this
          have hq0 : 0 < q := by omega
          have htq : t % q < q := Nat.mod_lt _ hq0
          refine wc_skip ?_; refine we_seq ?_; refine wc_seq ?_; refine wc_block ?_; refine wc_sr ?_; refine wl_as rfl rfl ?_; refine wl_ns ?_; refine wc_block ?_
          refine wc_loop (fun L wr m => ∃ k : Nat, L = [(0, .slice Lp q c), (5, .slice P gs.length cp), (12, .int .i64 (t : Int)), (13, .int .i64 (k : Int))] ∧ k ≤ n ∧ Below w3.heap.size w3 wr ∧ m = n - k)
            [(0, .slice Lp q c), (5, .slice P gs.length cp), (12, .int .i64 (t : Int)), (13, .int .i64 (0 : Nat))] n ⟨0, rfl, by omega, hb4, rfl⟩ ⟨rfl, rfl, rfl, rfl, trivial⟩ ?_
          rintro _ w5 m ⟨k, rfl, hk, hb5, rfl⟩
          have rg5 := rg.below hb5
          have rb5 := rb.below hb5
          refine wc_seq ?_; refine wc_sr ?_; refine wl_mv rfl rfl ?_; refine wl_mv rfl rfl ?_; refine wl_mv rfl rfl ?_; apply wl_elK (T := tyBB) (hr := rg5) (hb := hv); exact rfl; exact rfl; exact rfl; exact rfl; exact rfl; intro _; apply wl_val; apply opv_len; exact rfl; exact tyB.sl; exact rfl; refine wl_bin rfl rfl bin_lss rfl ?_; refine wl_ns ?_
          refine wc_cond rfl (fun h2 => ?_) (fun h2 => ?_)
          · have hx := mkl_get (i := t % q) (show k < n by omega)
            refine wc_skip ?_; refine we_seq ?_; refine wc_seq ?_; refine wc_block ?_; refine wc_seq ?_
            refine wc_drawB mixed (by kernel_rfl) ?_
            apply wq_val; intro _ hw_; apply opv_move; exact rfl; exact rfl; apply wq_val; intro _ hw_; apply opv_move; exact rfl; exact rfl; apply wq_elK (T := tyBB) (hr := rg5) (hb := hv); exact rfl; exact rfl; exact rfl; exact rfl; exact rfl; intro _; apply wq_val; intro _ hw_; apply opv_move; exact rfl; exact rfl; apply wq_byK (T := tyB) (hr := rb5) (hb := hx); exact rfl; exact rfl; exact rfl; exact rfl; exact rfl; intro _; apply wq_val; intro _ hw_; apply opv_move; exact rfl; exact rfl; apply wq_val; intro _ hw_; apply opv_move; exact rfl; exact rfl; apply wq_val; intro _ hw_; apply opv_len; exact rfl; exact tyBB.sl; exact rfl; apply wq_val; intro _ hw_; apply opv_bin; exact rfl; exact rfl; exact bin_rem (by omega); exact rfl; apply wq_val; intro _ hw_; apply opv_move; exact rfl; exact rfl
            refine wq_call ok_caissonref01_mark (fun w hw => (mark_any (t % q) k (by omega) (by omega) w).mono (fun v w' h => ⟨(show v = Value.int .u8 ((mkb (t % q) k).toNat : Int) from h.1), h.2 ▸ hw⟩)) ⟨rfl, rfl, trivial⟩ rfl ?_
            apply wq_val; intro _ hw_; apply opv_bin; exact rfl; exact rfl; exact bin_neq; exact rfl; refine wq_nil fun w1 hw1 => ?_
            refine we_seq ?_
            refine wc_cond rfl (fun h => absurd rfl h) (fun _ => ?_)
            refine wc_skip ?_; refine we_block_norm ?_; refine we_seq ?_; refine wc_region ?_; refine wl_mv rfl rfl ?_; apply wl_val; apply opv_bin; exact rfl; exact rfl; exact bin_add64 (by omega); exact rfl; refine wl_as rfl rfl ?_; refine wl_nil ?_
            refine we_loop [(0, .slice Lp q c), (5, .slice P gs.length cp), (12, .int .i64 (t : Int)), (13, .int .i64 ((k + 1 : Nat) : Int))] (n - (k + 1)) ⟨k + 1, rfl, by omega, hb5.trans (hw1.mono hb5.size), rfl⟩ (by omega) ⟨rfl, rfl, rfl, by simp [lookT], trivial⟩
          · refine wc_exit ?_; refine we_seq_exit ?_; refine we_loop_exit ?_; refine we_block_exit ?_; refine we_block_norm ?_; refine we_seq ?_; refine wc_region ?_; refine wl_mv rfl rfl ?_; apply wl_val; apply opv_bin; exact rfl; exact rfl; exact bin_add64 (by omega); exact rfl; refine wl_as rfl rfl ?_; refine wl_nil ?_
            refine we_loop [(0, .slice Lp q c), (5, .slice P gs.length cp), (12, .int .i64 ((t + 1 : Nat) : Int))] (gs.length - (t + 1)) ⟨t + 1, rfl, by omega, hb5, rfl⟩ (by omega) ⟨rfl, rfl, by simp [lookT], trivial⟩
        · clear h1 ht
          refine wc_exit ?_; refine we_seq_exit ?_; refine we_loop_exit ?_; refine we_block_exit ?_; refine we_seq ?_; refine wc_seq ?_; refine wc_sr ?_; refine wl_as rfl rfl ?_; refine wl_ns ?_; refine wc_block ?_
          refine wc_loop (fun L wr m => ∃ t : Nat, L = [(0, .slice Lp q c), (14, .int .i64 (t : Int))] ∧ t ≤ q ∧ Below w3.heap.size w3 wr ∧ m = q - t)
            [(0, .slice Lp q c), (14, .int .i64 (0 : Nat))] q ⟨0, rfl, by omega, hb4, rfl⟩ ⟨rfl, rfl, trivial⟩ ?_
          rintro _ w4 m ⟨t, rfl, ht, hb4, rfl⟩
          refine wc_seq ?_; refine wc_sr ?_; refine wl_mv rfl rfl ?_; refine wl_mv rfl rfl ?_; apply wl_val; apply opv_len; exact rfl; exact tyBB.sl; exact rfl; refine wl_bin rfl rfl bin_lss rfl ?_; refine wl_ns ?_
          refine wc_cond rfl (fun h1 => ?_) (fun h1 => ?_)
          · obtain ⟨v, hv⟩ : ∃ v, vs[t]? = some v := ⟨_, List.getElem?_eq_getElem (by omega)⟩
            obtain ⟨A, n, cc, rfl, hd, hn2⟩ := s3.1.at hv
            refine wc_skip ?_; refine we_seq ?_; refine wc_seq ?_; refine wc_block ?_; refine wc_sr ?_; refine wl_as rfl rfl ?_; refine wl_ns ?_; refine wc_block ?_
            refine wc_loop (fun L wr m => ∃ k : Nat, L = [(0, .slice Lp q c), (14, .int .i64 (t : Int)), (15, .int .i64 (k : Int))] ∧ k ≤ n ∧ Below w3.heap.size w3 wr ∧ m = n - k)
              [(0, .slice Lp q c), (14, .int .i64 (t : Int)), (15, .int .i64 (0 : Nat))] n ⟨0, rfl, by omega, hb4, rfl⟩ ⟨rfl, rfl, rfl, trivial⟩ ?_
            rintro _ w5 m ⟨k, rfl, hk, hb5, rfl⟩
            have rv5 := rv.below hb5
            refine wc_seq ?_; refine wc_sr ?_; refine wl_mv rfl rfl ?_; refine wl_mv rfl rfl ?_; refine wl_mv rfl rfl ?_; apply wl_elK (T := tyBB) (hr := rv5) (hb := hv); exact rfl; exact rfl; exact rfl; exact rfl; exact rfl; intro _; apply wl_val; apply opv_len; exact rfl; exact tyB.sl; exact rfl; refine wl_bin rfl rfl bin_lss rfl ?_; refine wl_ns ?_
            refine wc_cond rfl (fun h2 => ?_) (fun h2 => ?_)
            · rcases hd with ⟨_, h0, _⟩ | ⟨g, cs, rfl, _, _, _, _⟩
              · omega
              have mb := s3.2.1 t _ n cc (by omega) hv
              have rb5 : Rd w5 (some ⟨g, 0, none⟩) n (bvs (mkl t n)) := by have := RdB.below mb.rd hb5; unfold RdB at this; rw [mkl_length] at this; exact this
              have hx := mkl_get (i := t) (show k < n by omega)
              refine wc_skip ?_; refine we_seq ?_; refine wc_seq ?_; refine wc_block ?_; refine wc_seq ?_
              refine wc_drawB mixed (by kernel_rfl) ?_
              apply wq_val; intro _ hw_; apply opv_move; exact rfl; exact rfl; apply wq_val; intro _ hw_; apply opv_move; exact rfl; exact rfl; apply wq_elK (T := tyBB) (hr := rv5) (hb := hv); exact rfl; exact rfl; exact rfl; exact rfl; exact rfl; intro _; apply wq_val; intro _ hw_; apply opv_move; exact rfl; exact rfl; apply wq_byK (T := tyB) (hr := rb5) (hb := hx); exact rfl; exact rfl; exact rfl; exact rfl; exact rfl; intro _; apply wq_val; intro _ hw_; apply opv_move; exact rfl; exact rfl; apply wq_val; intro _ hw_; apply opv_move; exact rfl; exact rfl
              refine wq_call ok_caissonref01_mark (fun w hw => (mark_any t k (by omega) (by omega) w).mono (fun v w' h => ⟨(show v = Value.int .u8 ((mkb t k).toNat : Int) from h.1), h.2 ▸ hw⟩)) ⟨rfl, rfl, trivial⟩ rfl ?_
              apply wq_val; intro _ hw_; apply opv_bin; exact rfl; exact rfl; exact bin_neq; exact rfl; refine wq_nil fun w1 hw1 => ?_
              refine we_seq ?_
              refine wc_cond rfl (fun h => absurd rfl h) (fun _ => ?_)
              refine wc_skip ?_; refine we_block_norm ?_; refine we_seq ?_; refine wc_region ?_; refine wl_mv rfl rfl ?_; apply wl_val; apply opv_bin; exact rfl; exact rfl; exact bin_add64 (by omega); exact rfl; refine wl_as rfl rfl ?_; refine wl_nil ?_
              refine we_loop [(0, .slice Lp q c), (14, .int .i64 (t : Int)), (15, .int .i64 ((k + 1 : Nat) : Int))] (n - (k + 1)) ⟨k + 1, rfl, by omega, hb5.trans (hw1.mono hb5.size), rfl⟩ (by omega) ⟨rfl, rfl, by simp [lookT], trivial⟩
            · refine wc_exit ?_; refine we_seq_exit ?_; refine we_loop_exit ?_; refine we_block_exit ?_; refine we_block_norm ?_; refine we_seq ?_; refine wc_region ?_; refine wl_mv rfl rfl ?_; apply wl_val; apply opv_bin; exact rfl; exact rfl; exact bin_add64 (by omega); exact rfl; refine wl_as rfl rfl ?_; refine wl_nil ?_
              refine we_loop [(0, .slice Lp q c), (14, .int .i64 ((t + 1 : Nat) : Int))] (q - (t + 1)) ⟨t + 1, rfl, by omega, hb5, rfl⟩ (by omega) ⟨rfl, by simp [lookT], trivial⟩
          · refine wc_exit ?_; refine we_seq_exit ?_; refine we_loop_exit ?_; refine we_block_exit ?_; refine we_seq ?_; refine wc_sr ?_; refine wl_as rfl rfl ?_; refine wl_ns ?_; refine wc_ret ?_
            exact we_ret1 rfl rfl ⟨_, rfl, rfl, s3.2.2.1.bel hb4⟩
end Go.Proofs.Ytaacnknniaipmaa

/-
  Words for the laws that say that answers are memory of their own: what is answered is gathered in a list, each in a block of its own, and stays so.
-/
namespace Go.Proofs.Ytaacnknniaipmaa
open Go.RowKit

/-- The slices of a list read as these rows. -/
def RdV (w : World) (vs : List Value) (rows : List (List UInt8)) : Prop :=
  vs.length = rows.length ∧ ∀ (i : Nat) (r : List UInt8), rows[i]? = some r → ∃ (A' : Option Addr) (c' : Nat), vs[i]? = some (Value.slice A' r.length c') ∧ RdB w A' r ∧ r.length ≤ c'
section
variable {w w' w0 : World} {A B : Option Addr} {vs vs' l1 l2 : List Value} {rows rows' : List (List UInt8)} {base b n c m : Nat}
theorem RdV.rd (h : RdV w vs rows) (hr : Rd w A n vs) (hn : rows.length = n) : RdBB w A rows := by subst hn; exact ⟨vs, hr, h.2⟩
theorem RdV.nil : RdV w [] [] := ⟨rfl, by simp⟩
theorem RdV.cons {r : List UInt8} (h : RdV w vs rows) (hr : RdB w A r) (hn : r.length = n) (hc : r.length ≤ c) : RdV w (.slice A n c :: vs) (r :: rows) := by
  subst hn
  refine ⟨by simp [h.1], fun i q hi => ?_⟩
  cases i with
  | zero => simp only [List.getElem?_cons_zero, Option.some.injEq] at hi; subst hi; exact ⟨A, c, rfl, hr, hc⟩
  | succ i => simpa using h.2 i q (by simpa using hi)
theorem RdV.append (h : RdV w vs rows) (h' : RdV w vs' rows') : RdV w (vs ++ vs') (rows ++ rows') := by
  refine ⟨by simp [h.1, h'.1], fun i q hi => ?_⟩
  rw [List.getElem?_append] at hi
  split at hi
  · rename_i hl
    rw [List.getElem?_append_left (by rw [h.1]; exact hl)]; exact h.2 i q hi
  · rename_i hl
    rw [List.getElem?_append_right (by rw [h.1]; omega), h.1]; exact h'.2 _ q hi
theorem RdV.bel (h : RdV w vs rows) (hb : Below w.heap.size w w') : RdV w' vs rows := ⟨h.1, fun i r hi => by
  obtain ⟨A', c', h1, h2, h3⟩ := h.2 i r hi
  exact ⟨A', c', h1, h2.below hb, h3⟩⟩
theorem RdV.gr (h : RdV w vs rows) (g : Gr w w' B) (hne : ∀ b, B = some b → ∀ v ∈ vs, v.ownBlock ≠ some b.block) : RdV w' vs rows := ⟨h.1, fun i r hi => by
  obtain ⟨A', c', h1, h2, h3⟩ := h.2 i r hi
  refine ⟨A', c', h1, Rd.gr h2 g fun a b ha hb => ?_, h3⟩
  have := hne b hb _ (List.mem_of_getElem? h1)
  rw [ownBlock_slice, ha] at this
  simpa using this⟩

theorem Own1.nil : Own1 w base [] := ⟨by simp, List.Pairwise.nil⟩
theorem Own1.bel (h : Own1 w base vs) (hb : Below w.heap.size w w') : Own1 w' base vs := h.st (X := none) (k := 0) (Sk.bel hb)
theorem Own1.mono {base' : Nat} (h : Own1 w base vs) (hb : base' ≤ base) : Own1 w base' vs := ⟨fun v hv => by
  obtain ⟨A, n, c, e, hd, hn⟩ := h.1 v hv
  refine ⟨A, n, c, e, ?_, hn⟩
  rcases hd with hd | ⟨g, cs, e1, e2, e3⟩
  · exact .inl hd
  · exact .inr ⟨g, cs, e1, Nat.le_trans hb e2, e3⟩, h.2⟩
theorem Own1.one (h : Hd w base A n c) (hn : n ≤ 1099511627776) : Own1 w base [.slice A n c] := ⟨by intro v hv; simp at hv; subst hv; exact ⟨A, n, c, rfl, h, hn⟩, by simp⟩
theorem own_symm {v v' : Value} (h : ∀ g, v.ownBlock = some g → v'.ownBlock ≠ some g) : ∀ g, v'.ownBlock = some g → v.ownBlock ≠ some g := fun g h1 h2 => h g h2 h1
/-- New lists are put between the others. -/
theorem Own1.ins (h : Own1 w base (l1 ++ l2)) (hb : Below w.heap.size w w') (h' : Own1 w' w.heap.size vs) (hbase : base ≤ w.heap.size) : Own1 w' base (l1 ++ (vs ++ l2)) := by
  have hk := h.bel hb
  have hp : (vs ++ l2 ++ l1).Pairwise fun v v' => ∀ g, v.ownBlock = some g → v'.ownBlock ≠ some g := by
    rw [List.append_assoc, List.pairwise_append]
    refine ⟨h'.2, ?_, fun v hv v' hv' g hg hg' => ?_⟩
    · have := h.2
      rw [List.pairwise_append] at this ⊢
      exact ⟨this.2.1, this.1, fun a ha b hb' => own_symm (this.2.2 b hb' a ha)⟩
    · have h1 := (h'.lt hv hg).2
      have h2 := (h.lt (show v' ∈ l1 ++ l2 by simp at hv' ⊢; exact hv'.symm) hg').1
      omega
  refine ⟨fun v hv => ?_, ?_⟩
  · simp only [List.mem_append] at hv
    rcases hv with hv | hv | hv
    · exact hk.1 v (by simp [hv])
    · exact (h'.mono hbase).1 v hv
    · exact hk.1 v (by simp [hv])
  · rw [List.pairwise_append] at hp ⊢
    exact ⟨hp.2.1, hp.1, fun a ha b hb' => own_symm (hp.2.2 b hb' a ha)⟩
/-- One new list is put at place k of the others. -/
theorem Own1.add {l : List Value} (k : Nat) (h : Own1 w base l) (hb : Below w.heap.size w w') (h' : Hd w' w.heap.size A n c) (hn : n ≤ 1099511627776) (hbase : base ≤ w.heap.size) : Own1 w' base (l.take k ++ .slice A n c :: l.drop k) :=
  Own1.ins (l1 := l.take k) (l2 := l.drop k) (by rw [List.take_append_drop]; exact h) hb (Own1.one h' hn) hbase
theorem OwBB.own (h : OwBB w base A c rows) (hl : rows.flatten.length ≤ 1099511627776) : ∃ vs, Ow w base 32 A rows.length c vs ∧ RdV w vs rows ∧ Own1 w base vs := by
  obtain ⟨vs, ho, hr, hp⟩ := h
  refine ⟨vs, ho, ⟨ho.len, fun i r hi => ?_⟩, fun v hv => ?_, hp⟩
  · obtain ⟨A', c', h1, h2, _⟩ := hr i r hi
    exact ⟨A', c', h1, OwB.rd h2, h2.cap⟩
  · obtain ⟨i, hi, rfl⟩ := List.getElem_of_mem hv
    have hil : i < rows.length := by have := ho.len; omega
    obtain ⟨A', c', h1, h2, _⟩ := hr i _ (List.getElem?_eq_getElem hil)
    rw [List.getElem?_eq_getElem hi] at h1
    simp only [Option.some.injEq] at h1
    have hm : rows[i].length ≤ rows.flatten.length := flat_mem (List.getElem?_eq_getElem hil)
    exact ⟨A', _, c', h1, h2.nw.hd, by omega⟩
theorem own_ar {xs : List Value} (h : Ow w b 32 A n c xs) {a : Addr} (ha : A = some a) : ∃ cs, Ar w a.block 32 cs := by
  rcases h.2 with ⟨hv, _⟩ | ⟨g', cap, cur, hv, _, hg', _⟩
  · injection hv with hA; rw [ha] at hA; cases hA
  · injection hv with hA; rw [ha] at hA; cases hA
    exact ⟨cur.toList, by simpa [Ar] using hg'⟩
theorem ar_type {g : Nat} {t t' : TypeId} {cs cs' : List Value} (h : Ar w g t cs) (h' : Ar w g t' cs') : t = t' := by
  unfold Ar at h h'
  rw [h] at h'
  simp only [Option.some.injEq, Obj.cells.injEq] at h'
  exact h'.2.1
theorem Own1.row_ne {xs : List Value} (h : Own1 w base vs) (ho : Ow w b 32 A n c xs) : ∀ a, A = some a → ∀ v ∈ vs, v.ownBlock ≠ some a.block := fun a ha v hv hg => by
  obtain ⟨ds, hd⟩ := own_ar ho ha
  obtain ⟨A', n', c', rfl, hh, _⟩ := h.1 v hv
  rw [ownBlock_slice] at hg
  rcases hh with ⟨rfl, _⟩ | ⟨g, cs, rfl, _, har, _⟩
  · simp at hg
  · simp at hg; subst hg
    exact absurd (ar_type har hd) (by decide)
theorem Own1.row {xs : List Value} (h : Own1 w base vs) (ho : Ow w b 32 A n c xs) (g : Gr w w' A) : Own1 w' base vs := by
  refine h.st (X := none) (k := 0) ?_
  cases A with
  | none => exact Sk.other (g := 0) (t := 32) (cs := []) g (by simp) (.inl rfl) (by decide)
  | some a =>
    obtain ⟨ds, hd⟩ := own_ar ho rfl
    exact Sk.other (g := a.block) (t := 32) (cs := ds) g (by intro a' ha; cases ha; rfl) (.inr hd) (by decide)
/-- Bytes of one block change, and none other. -/
theorem Own1.sz {g : Nat} {cs cs' : List Value} (h : Own1 w base vs) (hg : Gr w w' (some ⟨g, 0, none⟩)) (ha : Ar w g 5 cs) (ha' : Ar w' g 5 cs') (hl : cs'.length = cs.length) : Own1 w' base vs := ⟨fun v hv => by
  obtain ⟨A, n, c, e, hd, hn⟩ := h.1 v hv
  refine ⟨A, n, c, e, ?_, hn⟩
  rcases hd with hd | ⟨g', ds, e1, e2, e3, e4, e5⟩
  · exact .inl hd
  · by_cases hgg : g' = g
    · subst hgg
      have : ds = cs := by
        unfold Ar at ha e3
        rw [ha] at e3
        simp only [Option.some.injEq, Obj.cells.injEq] at e3
        have := congrArg Array.toList e3.1
        simpa using this.symm
      subst this
      exact .inr ⟨g', cs', e1, e2, ha', e4, by omega⟩
    · refine .inr ⟨g', ds, e1, e2, ?_, e4, e5⟩
      unfold Ar
      rw [hg.block g' e3.lt (by simp; exact hgg)]
      exact e3, h.2⟩
/-- Where another block has changed. -/
theorem Ar.gr {g g' : Nat} {t : TypeId} {cs : List Value} (h : Ar w g t cs) (hg : Gr w w' (some ⟨g', 0, none⟩)) (hne : g ≠ g') : Ar w' g t cs := by
  unfold Ar
  rw [hg.block g h.lt (by simp; exact hne)]
  exact h
theorem OwBB.gr {g : Nat} (h : OwBB w base A c rows) (hg : Gr w w' (some ⟨g, 0, none⟩)) (hlt : g < base) : OwBB w' base A c rows := by
  obtain ⟨vs, ho, hr, hp⟩ := h
  refine ⟨vs, Ow.gr (base' := 0) (e' := 0) ho hg fun a b ha hb => ?_, fun i r hi => ?_, hp⟩
  · have := (Ow.lt ho a ha).1; cases hb; simp; omega
  · obtain ⟨A', c', h1, h2, h3⟩ := hr i r hi
    refine ⟨A', c', h1, Ow.gr (base' := 0) (e' := 0) h2 hg fun a b ha hb => ?_, h3⟩
    have := (Ow.lt h2 a ha).1; cases hb; simp; omega
/-- What has been gathered, ahead of the last test. -/
def Fin (w : World) (base : Nat) (vs ts : List Value) (rows : List (List UInt8)) (bA : Nat) (A : Option Addr) (n c : Nat) (bW : Nat) (W : Option Addr) (cW : Nat) : Prop :=
  Own1 w base (vs ++ ts) ∧ RdV w vs rows ∧ Ow w bA 32 A n c vs ∧ OwBB w bW W cW rows
theorem Fin.bel {ts : List Value} {bA bW cW : Nat} {W : Option Addr} (h : Fin w base vs ts rows bA A n c bW W cW) (hb : Below w.heap.size w w') : Fin w' base vs ts rows bA A n c bW W cW :=
  ⟨h.1.bel hb, h.2.1.bel hb, Ow.below h.2.2.1 hb (Nat.le_refl _), h.2.2.2.below hb⟩
theorem Fin.over {ts : List Value} {bA bW cW g : Nat} {W : Option Addr} {cs cs' : List Value} {v : Value} (h : Fin w base vs ts rows bA A n c bW W cW) (hg : Gr w w' (some ⟨g, 0, none⟩)) (ha : Ar w g 5 cs) (ha' : Ar w' g 5 cs') (hl : cs'.length = cs.length)
    (hv : v ∈ ts) (hvb : v.ownBlock = some g) (h1 : g < bA) (h2 : g < bW) : Fin w' base vs ts rows bA A n c bW W cW := by
  obtain ⟨o, r, a, W⟩ := h
  have hp := o.2
  rw [List.pairwise_append] at hp
  refine ⟨o.sz hg ha ha' hl, r.gr hg fun b hb u hu hc => hp.2.2 u hu v hv g ?_ hvb, Ow.gr (base' := 0) (e' := 0) a hg fun a' b ha' hb => ?_, W.gr hg h2⟩
  · cases hb; exact hc
  · have := (Ow.lt a a' ha').1; cases hb; simp; omega
end
end Go.Proofs.Ytaacnknniaipmaa

/-
  Pieces of bytes of any make, told for the test of Apart; copies with spare room; new bytes with room behind them.
-/
namespace Go.Proofs.Ytaacnknniaipmaa
open Go.RowKit

theorem ow_hd {w : World} {A : Option Addr} {n c base : Nat} {xs : List Value} {S : BS} (h : (Cd.ow 5 A n c xs).P w S) (hb : ∀ b, S b → base ≤ b) : Hd w base A n c := by
  rcases h.2.2 with ⟨hv, hn⟩ | ⟨g, cap, cur, hv, _, hg, hnc, _, hsz, _⟩
  · injection hv with hA _ hc; exact .inl ⟨hA, hn, hc⟩
  · injection hv with hA _ hc
    refine .inr ⟨g, cur.toList, hA, hb g (h.1 ⟨g, 0, none⟩ hA), by unfold Ar; simpa using hg, by omega, by simp; omega⟩
/-- A piece that holds just the bytes of a slice. -/
def HdC (c : Cd) (A : Option Addr) (n d : Nat) : Prop := ∀ (w : World) (S : BS), c.P w S → (∀ a, A = some a → S a.block) ∧ ∀ base, (∀ b, S b → base ≤ b) → Hd w base A n d
inductive ByQ : List Cd → List Value → Prop
  | nil : ByQ [] []
  | cons {c : Cd} {A : Option Addr} {n d : Nat} {H : List Cd} {vs : List Value} : n ≤ 1099511627776 → HdC c A n d → ByQ H vs → ByQ (c :: H) (.slice A n d :: vs)
theorem ByQ.append {H H' : List Cd} {vs vs' : List Value} (h : ByQ H vs) (h' : ByQ H' vs') : ByQ (H ++ H') (vs ++ vs') := by
  induction h with
  | nil => exact h'
  | cons hn hc _ ih => exact .cons hn hc ih
theorem hdc_ow {A : Option Addr} {n c : Nat} {xs : List Value} : HdC (.ow 5 A n c xs) A n c := fun _ _ h => ⟨h.1, fun _ hb => ow_hd h hb⟩
theorem byQ_in {w : World} {H : List Cd} {vs : List Value} (h : ByQ H vs) : ∀ {S : BS}, Sat w H S → ∀ v ∈ vs, ∀ g, v.ownBlock = some g → S g := by
  induction h with
  | nil => intro S _ v hv; cases hv
  | @cons c A n d H vs hn hk _ ih =>
    rintro S ⟨T, hT, hc, hr⟩ v hv g hg
    rcases List.mem_cons.1 hv with rfl | hv
    · rw [ownBlock_slice] at hg
      cases A with
      | none => cases hg
      | some a => simp at hg; subst hg; exact hT _ ((hk w T hc).1 a rfl)
    · exact (ih hr v hv g hg).1
theorem byQ_own {w : World} {base : Nat} {H : List Cd} {vs : List Value} (h : ByQ H vs) : ∀ {S : BS}, Sat w H S → (∀ b, S b → base ≤ b) → Own1 w base vs := by
  induction h with
  | nil => intro S _ _; exact Own1.nil
  | @cons c A n d H vs hn hk hH ih =>
    rintro S ⟨T, hT, hc, hr⟩ hb
    obtain ⟨hA, hd⟩ := hk w T hc
    have hin : ∀ v ∈ vs, ∀ g, v.ownBlock = some g → ¬ T g := fun v hv g hg => (byQ_in hH hr v hv g hg).2
    have ho := ih hr fun b h => hb b h.1
    refine ⟨fun v hv => ?_, List.pairwise_cons.2 ⟨fun v hv g hg hg' => ?_, ho.2⟩⟩
    · rcases List.mem_cons.1 hv with rfl | hv
      · exact ⟨A, n, d, rfl, hd base fun b h => hb b (hT b h), hn⟩
      · exact ho.1 v hv
    · rw [ownBlock_slice] at hg
      cases A with
      | none => cases hg
      | some a => simp at hg; subst hg; exact hin v hv _ hg' (hA a rfl)
/-- Pieces of bytes are told apart by the reference; the other pieces stay. -/
theorem apartQ_any {w0 w : World} {V : Option Addr} {N c : Nat} {vs : List Value} {H1 H2 : List Cd} (hs : St NoB w0 w (.ow 32 V N c vs :: .ck (packC H1) :: H2)) (hby : ByQ H1 vs) (hN : N ≤ 4194304) :
    CallsV Try.prog 29 #[.slice V N c] w fun v w' => v = .bool true ∧ St NoB w0 w' H2 := by
  have hrd := (hs.ow 0 rfl).rd
  obtain ⟨hm, T, hT, hV, U, hU, hpk, hr⟩ := hs
  have hpk : Sat w H1 U := hpk
  have hin := byQ_in hby hpk
  have hbase : ∀ b, U b → w0.heap.size ≤ b := fun b h => (hU b h).1.elim (fun k => k.elim) id
  refine (apartK_any (base := w0.heap.size) hrd (fun a ha v hv hg => (hU _ (hin v hv _ hg)).2 (hV.1 a ha)) (byQ_own hby hpk hbase) hm.size hN).mono fun v w' ⟨hv, h1, h2, h3, h4, h5⟩ => ⟨hv, ?_, ?_⟩
  · refine ⟨h1.trans hm.os, h2.trans hm.tape, h3.trans hm.output, Nat.le_trans hm.size h4, fun b hb hn => ?_⟩
    rw [h5 b (Nat.lt_of_lt_of_le hb hm.size) fun v hv hg => by have := hbase b (hin v hv b hg); omega]
    exact hm.block b hb hn
  · exact hr.move h4 fun b hb k => ⟨k.1.1, h5 b hb fun v hv hg => k.2 (hin v hv b hg)⟩
/-! #### A copy with its spare room -/
theorem blk_ow {w : World} {g : Nat} {cs : List Value} {S : BS} (h : (Cd.blk g 5 cs).P w S) (hl : cs.length ≤ maxLen) : (Cd.ow 5 (some ⟨g, 0, none⟩) cs.length cs.length cs).P w S := by
  refine ⟨fun a ha => by cases ha; exact h.1, by simp, .inr ⟨g, cs.length, cs.toArray, rfl, Nat.zero_le _, h.2, Nat.le_refl _, hl, by simp, by simp⟩⟩
def spP (x : List UInt8 × Nat) : Cd := .ow 5 (some ⟨x.2, 0, none⟩) (x.1.length + 40) (x.1.length + 40) (bvs (spareL x.1))
def spV (x : List UInt8 × Nat) : Value := .slice (some ⟨x.2, 0, none⟩) (x.1.length + 40) (x.1.length + 40)
theorem St.newSp {M : BS} {w0 w w' : World} {H : List Cd} {g : Nat} {xs : List UInt8} (hs : St M w0 w H) (hb : Below w.heap.size w w') (hg : w.heap.size ≤ g) (ha : Ar w' g 5 (bvs (spareL xs))) (hl : xs.length ≤ 1099511627776) : St M w0 w' (spP (xs, g) :: H) := by
  refine (hs.newA hb hg ha).map fun S h => h.mapC fun T h => ?_
  have hlen : (bvs (spareL xs)).length = xs.length + 40 := by rw [bvs_length, spareL_length]
  have := blk_ow h (by rw [hlen]; simp only [maxLen]; omega)
  rwa [hlen] at this
theorem sp_rd {w : World} {x : List UInt8 × Nat} {S : BS} (h : (spP x).P w S) : RdB w (some ⟨x.2, 0, none⟩) (spareL x.1) ∧ RdB w (some ⟨x.2, 0, none⟩) x.1 := by
  have h1 : RdB w (some ⟨x.2, 0, none⟩) (spareL x.1) := by
    have := h.2.rd
    unfold RdB
    rw [spareL_length]; exact this
  refine ⟨h1, ?_⟩
  have h2 := Rd.cut (l := 0) (h := x.1.length) (c := x.1.length + 40) h.2.rd (Nat.zero_le _) (by omega) (Nat.le_refl _)
  rw [cutA_zero, Nat.sub_zero, List.drop_zero] at h2
  unfold RdB
  have e : (bvs (spareL x.1)).take x.1.length = bvs x.1 := by rw [bvs, ← List.map_take, spareL_take]; rfl
  rw [e] at h2
  exact h2
theorem St.sp {M : BS} {w0 w : World} {H : List Cd} {x : List UInt8 × Nat} (hs : St M w0 w H) (i : Nat) (hi : nthC H i = some (spP x)) : RdB w (some ⟨x.2, 0, none⟩) (spareL x.1) ∧ RdB w (some ⟨x.2, 0, none⟩) x.1 := by
  obtain ⟨T, hc, _⟩ := hs.get i hi
  exact sp_rd hc
/-! #### Ranges with memory of their own -/
/-- New bytes with room behind them, as a piece. -/
def nwC (A : Option Addr) (c : Nat) (xs : List UInt8) : Ck := ⟨fun w S => (∀ a, A = some a → S a.block) ∧ NwB w 0 A c xs, fun {w w' S S'} ⟨h1, h2⟩ hz hm => by
  rcases h2 with ⟨rfl, h⟩ | ⟨g, cs, rfl, hg, ha, h⟩
  · exact ⟨fun a h => (by cases h), .inl ⟨rfl, h⟩⟩
  · have := hm g ha.lt (h1 _ rfl)
    exact ⟨fun a h => (by cases h; exact this.1), .inr ⟨g, cs, rfl, hg, this.2.trans ha, h⟩⟩⟩
theorem St.newN {M : BS} {w0 w w' : World} {H : List Cd} {A : Option Addr} {c : Nat} {xs : List UInt8} (hs : St M w0 w H) (hb : Below w.heap.size w w') (hn : NwB w' w.heap.size A c xs) : St M w0 w' (.ck (nwC A c xs) :: H) :=
  hs.new (T := fun b => w.heap.size ≤ b) (c := .ck (nwC A c xs)) hb ⟨fun a ha => by
    rcases hn with ⟨rfl, _⟩ | ⟨g, cs, rfl, hg, _⟩
    · cases ha
    · cases ha; exact hg, hn.mono (Nat.zero_le _)⟩ fun _ _ h => h
theorem St.nw {M : BS} {w0 w : World} {H : List Cd} {A : Option Addr} {c : Nat} {xs : List UInt8} (h : St M w0 w H) (i : Nat) (hi : nthC H i = some (.ck (nwC A c xs))) : RdB w A xs ∧ xs.length ≤ c := by
  obtain ⟨T, hc, _⟩ := h.get i hi
  exact ⟨hc.2.rd, hc.2.cap⟩
theorem hdc_nw {A : Option Addr} {c : Nat} {xs : List UInt8} : HdC (.ck (nwC A c xs)) A xs.length c := fun w S h => ⟨h.1, fun base hb => by
  refine NwB.hd ?_
  rcases h.2 with h2 | ⟨g, cs, hA, _, h2⟩
  · exact .inl h2
  · exact .inr ⟨g, cs, hA, hb g (h.1 ⟨g, 0, none⟩ hA), h2⟩⟩
end Go.Proofs.Ytaacnknniaipmaa

/-
  Walk over the law SessionKeeps.
-/
namespace Go.Proofs.Ytaacnknniaipmaa
open Go.RowKit

theorem i64_0 : I64 0 := ⟨by decide, by decide⟩
theorem i64_4 : I64 4 := ⟨by decide, by decide⟩
theorem w64_0 : W64 0 := by unfold W64; decide
/-- What a piece of facts says of a row lies in the piece's own blocks. -/
theorem kp_in {K : World → Prop} {w : World} {S : BS} {e : TypeId} {A : Option Addr} {n c : Nat} {xs : List Value} (h : (Cd.ck (kp K)).P w S) (hK : ∀ w, K w → Ow w 0 e A n c xs) : ∀ a, A = some a → S a.block := by
  intro a ha
  refine Classical.byContradiction fun hn => ?_
  obtain ⟨h1, h2⟩ := h
  have hlt := (Ow.lt (hK w h1) a ha).2
  have hw := hK _ (h2 { w with heap := w.heap.setIfInBounds a.block (.cells #[] (e + 1)) } (by simp) fun b hb hs => by
    have hne : a.block ≠ b := fun h => hn (h ▸ hs)
    simp [Array.getElem?_setIfInBounds, hne])
  rcases hw.2 with ⟨hv, _⟩ | ⟨g, cap, cur, hv, _, hg, _⟩
  · injection hv with hA _ _
    rw [ha] at hA; cases hA
  · injection hv with hA _ _
    rw [ha] at hA
    cases hA
    simp [hlt] at hg
theorem St.kpOw {M : BS} {w0 w : World} {H : List Cd} {K : World → Prop} {e : TypeId} {A : Option Addr} {n c : Nat} {xs : List Value} (h : St M w0 w (.ck (Go.Proofs.Ytaacnknniaipmaa.kp K) :: H)) (hK : ∀ w, K w → Ow w 0 e A n c xs) : St M w0 w (.ow e A n c xs :: H) :=
  h.map fun _ ⟨T, h1, h2, h3⟩ => ⟨T, h1, ⟨kp_in h2 hK, hK _ h2.1⟩, h3⟩
set_option maxRecDepth 8000 in
set_option maxHeartbeats 4000000 in
theorem keeps24_any {A : Option Addr} {n c : Nat} {data : By} {w : World} (hr : RdB w A data) (hn : data.length = n) (_hc : n ≤ c) (hl : data.length ≤ 1048576) :
    CallsV Try.prog 6 #[.slice A n c] w fun v w' => v = .bool true ∧ Below w.heap.size w w' := by
  subst hn
  have hs := St.init w
  have hmax : maxLen = 9223372036854775807 := rfl
  refine calls_in (N := _) Try.func6 rfl Try.ntmps6 rfl ?_; show WC _ _ _ _ _ _
  refine wc_sr ?_; refine wl_as rfl rfl ?_; refine wl_ns ?_; refine wc_seq ?_; refine wc_sr ?_
  refine wl_call ok_caissonlaw24_awake (awake24_any _) trivial rfl ?_
  rintro _ _ ⟨rfl, hbx⟩
  replace hs := hs.below hbx
  clear hbx
  apply wl_val; apply opv_not; exact rfl; exact rfl; refine wl_ns ?_; apply wc_condFb; exact rfl; exact Bool.not_true; refine wc_skip ?_; refine we_seq ?_; refine wc_seq ?_; refine wc_sr ?_; refine wl_mv rfl rfl ?_; apply wl_val; apply opv_len; exact rfl; exact tyB.sl; exact rfl; refine wl_bin rfl rfl bin_gtr rfl ?_; refine wl_ns ?_
  by_cases hd : data.length > 2000
  · have hd' : (data.length : Int) > 2000 := by omega
    apply wc_decT; exact rfl; (with_reducible assumption); refine wc_sr ?_; refine wl_as rfl rfl ?_; refine wl_ns ?_; refine wc_ret ?_; refine we_seq_ret ?_
    exact we_ret1 rfl rfl ⟨_, rfl, rfl, hs.bel⟩
  have hd' : ¬ (data.length : Int) > 2000 := by omega
  apply wc_decF; exact rfl; (with_reducible assumption); refine wc_skip ?_; refine we_seq ?_; refine wc_sr ?_; refine wl_mv rfl rfl ?_
  refine wl_call ok_caissonref01_Spare (spare_any (xs := data) (hr.below hs.bel) rfl (by omega)) ⟨rfl, trivial⟩ rfl ?_
  rintro _ w1 ⟨g1, rfl, hg1, ha1, hbx⟩
  replace hs := hs.newSp hbx hg1 ha1 (by omega)
  clear hg1 ha1 hbx
  refine wl_mv rfl rfl ?_; apply wl_val; apply opv_extract; exact rfl; exact rfl; exact rfl; apply wl_val; apply opv_extract; exact rfl; exact rfl; exact rfl; refine wl_as rfl rfl ?_; refine wl_as rfl rfl ?_; refine wl_ns ?_; refine wc_sr ?_; refine wl_mv rfl rfl ?_
  refine wl_val (opv_build (vs := [(0, .int .i64 4), (11, .slice (some ⟨g1, 0, none⟩) data.length (data.length + 40))]) (cs := pkV ⟨4, 0, 0, 0, 0, 0, 0, (0, 0), 0, zMsg, zRes, data⟩ (msV zMsg none 0 none 0) (reV zRes none 0 none 0 none 0) (some ⟨g1, 0, none⟩) (data.length + 40)) ⟨rfl, rfl, rfl, rfl, trivial⟩ (by kernel_rfl)) rfl ?_
  refine ws_var (cs := pkV ⟨4, 0, 0, 0, 0, 0, 0, (0, 0), 0, zMsg, zRes, data⟩ (msV zMsg none 0 none 0) (reV zRes none 0 none 0 none 0) (some ⟨g1, 0, none⟩) (data.length + 40)) hs zeroPk sPk rfl (fun _ => rfl) (by first | rfl | simp [Value.oneCell']) rfl ?_; clear hs; intro g5 _ hs
  refine wl_ns ?_; refine wc_sr ?_; apply wl_val; apply opv_loadX; exact rfl; exact hs.ar 0 rfl; exact sPk; exact rfl
  have hsp := hs.sp 1 rfl
  refine wl_call ok_session_Packet_Bytes (pkBytes_any (p := ⟨4, 0, 0, 0, 0, 0, 0, (0, 0), 0, zMsg, zRes, data⟩) (by simp) rdr_nil (Rd.nil _ none) (Nat.le_refl 0) (by simp [zMsg]) (by simp [zMsg]) (by simp [zMsg]) rdr_nil rdr_nil (Rd.nil _ none) (Nat.le_refl 0) (by simp [zRes]) (by simp [zRes]) hsp.2 (by dsimp only; omega) (by dsimp only; omega)) ⟨rfl, trivial⟩ rfl ?_
  rintro _ w2 ⟨B, cb, rfl, oB, hbx⟩
  replace hs := (hs.newN hbx oB).drop 1 rfl
  dsimp only [delC] at hs
  clear hbx oB
  obtain ⟨l, hll⟩ : ∃ l, [intsB [(4 : Int)], intsB [(0 : Int)], txB (0, 0), data] = l := ⟨_, rfl⟩
  have hsz : l.flatten.length ≤ 2100 ∧ l.length = 4 := by
    have b1 := intsB_len [(4 : Int)]
    have b2 := intsB_len [(0 : Int)]
    have b3 := wordsB_len [0, 0] (by simp)
    rw [← hll]
    unfold txB
    refine ⟨?_, rfl⟩
    simp only [List.flatten_cons, List.flatten_nil, List.append_nil, List.length_append, List.length_cons, List.length_nil] at b1 b2 b3 ⊢
    omega
  have hfr := framed_length l (fun x hx => by have := mem_flat hx; omega)
  have hpl : pkL ⟨4, 0, 0, 0, 0, 0, 0, (0, 0), 0, zMsg, zRes, data⟩ = some l := by
    unfold pkL
    rw [if_neg (show ¬ (4 : Int) = 1 by decide), if_neg (show ¬ (4 : Int) = 2 by decide), if_neg (show ¬ (4 : Int) = 3 by decide), if_pos rfl, ← hll]
  have hpb : pkB ⟨4, 0, 0, 0, 0, 0, 0, (0, 0), 0, zMsg, zRes, data⟩ = (crcRec (framed l), 0) := by
    unfold pkB
    rw [hpl]
    dsimp only
    unfold sealB
    rw [if_neg (by omega)]
  have hrd : readP (crcRec (framed l)) = (⟨4, 0, 0, 0, 0, 0, 0, (0, 0), 0, zMsg, zRes, data⟩, 0) := by
    rw [read_seal (p := ⟨4, 0, 0, 0, 0, 0, 0, (0, 0), 0, zMsg, zRes, data⟩) ⟨i64_4, i64_0, i64_0, i64_0, i64_0, i64_0, i64_0, w64_0, w64_0, i64_0, ⟨i64_0, i64_0, i64_0, w64_0, w64_0, w64_0, w64_0, by simp [zMsg]⟩, ⟨i64_0, i64_0, w64_0, w64_0⟩⟩ hpl (by omega)]
    unfold trimP
    rw [if_neg (show ¬ (4 : Int) = 1 by decide), if_neg (show ¬ (4 : Int) = 2 by decide), if_neg (show ¬ (4 : Int) = 3 by decide), if_pos rfl]
    rfl
  rw [hpb] at hs ⊢
  dsimp only at hs ⊢
  obtain ⟨bs, hbs⟩ : ∃ bs, crcRec (framed l) = bs := ⟨_, rfl⟩
  have hbl : bs.length ≤ 4096 := by rw [← hbs, crcRec_length]; omega
  rw [hbs] at hs hrd ⊢
  clear hpb hpl hfr hsz hsp hll
  refine wl_mv rfl rfl ?_; apply wl_val; apply opv_extract; exact rfl; exact rfl; exact rfl; apply wl_val; apply opv_extract; exact rfl; exact rfl; exact rfl; refine wl_as rfl rfl ?_; refine wl_as rfl rfl ?_; refine wl_ns ?_; refine wc_sr ?_; refine wl_mv rfl rfl ?_
  refine wl_call ok_caissonref01_Spare (spare_any (xs := bs) (hs.nw 0 rfl).1 rfl (by omega)) ⟨rfl, trivial⟩ rfl ?_
  rintro _ w3 ⟨g2, rfl, hg2, ha2, hbx⟩
  replace hs := hs.newSp hbx hg2 ha2 (by omega)
  clear hg2 ha2 hbx
  refine wl_mv rfl rfl ?_; apply wl_val; apply opv_extract; exact rfl; exact rfl; exact rfl; apply wl_val; apply opv_extract; exact rfl; exact rfl; exact rfl; refine wl_as rfl rfl ?_; refine wl_as rfl rfl ?_; refine wl_ns ?_; refine wc_sr ?_; refine wl_mv rfl rfl ?_
  refine wl_call ok_session_Read (sread_any (hs.sp 0 rfl).2 rfl (by dsimp only; omega) (by dsimp only; omega)) ⟨rfl, trivial⟩ rfl ?_
  dsimp only
  rw [hrd]
  rintro _ _ ⟨Ea, cea, Ma, cma, Pa, cpa, Wa, cwa, Ya, cya, Da, cda, rfl, hsx⟩
  dsimp only at hsx
  replace hs := (hs.call hsx).kpOw (e := 5) (A := Da) (n := data.length) (c := cda) (xs := bvs data) fun w h => h.2.mono (Nat.zero_le _)
  clear hsx
  dsimp only [List.cons_append, List.nil_append] at hs ⊢
  refine wl_mv rfl rfl ?_; apply wl_val; apply opv_extract; exact rfl; exact rfl; exact rfl; apply wl_val; apply opv_extract; exact rfl; exact rfl; exact rfl
  refine ws_var (cs := pkV ⟨4, 0, 0, 0, 0, 0, 0, (0, 0), 0, zMsg, zRes, data⟩ (msV zMsg Ea cea Ma cma) (reV zRes Pa cpa Wa cwa Ya cya) Da cda) hs zeroPk sPk rfl (fun _ => rfl) (by first | rfl | simp [Value.oneCell']) rfl ?_; clear hs; intro g10 _ hs
  refine wl_as rfl rfl ?_; refine wl_ns ?_; refine wc_sr ?_; refine wl_mv rfl rfl ?_
  refine wl_call ok_session_Read (sread_any (hs.sp 2 rfl).2 rfl (by dsimp only; omega) (by dsimp only; omega)) ⟨rfl, trivial⟩ rfl ?_
  dsimp only
  rw [hrd]
  rintro _ _ ⟨Eb, ceb, Mb, cmb, Pb, cpb, Wb, cwb, Yb, cyb, Db, cdb, rfl, hsx⟩
  dsimp only at hsx
  replace hs := (hs.call hsx).kpOw (e := 5) (A := Db) (n := data.length) (c := cdb) (xs := bvs data) fun w h => h.2.mono (Nat.zero_le _)
  clear hsx
  dsimp only [List.cons_append, List.nil_append] at hs ⊢
  refine wl_mv rfl rfl ?_; apply wl_val; apply opv_extract; exact rfl; exact rfl; exact rfl; apply wl_val; apply opv_extract; exact rfl; exact rfl; exact rfl
  refine ws_var (cs := pkV ⟨4, 0, 0, 0, 0, 0, 0, (0, 0), 0, zMsg, zRes, data⟩ (msV zMsg Eb ceb Mb cmb) (reV zRes Pb cpb Wb cwb Yb cyb) Db cdb) hs zeroPk sPk rfl (fun _ => rfl) (by first | rfl | simp [Value.oneCell']) rfl ?_; clear hs; intro g12 _ hs
  refine wl_as rfl rfl ?_; refine wl_ns ?_; refine wc_seq ?_; refine wc_sr ?_; refine wl_mv rfl rfl ?_; refine wl_bin rfl rfl bin_neq rfl ?_; refine wl_mv rfl rfl ?_; apply wl_take; exact rfl; exact rfl; exact rfl; refine bF ?_; omega; refine wl_mv rfl rfl ?_; apply wl_take; exact rfl; exact rfl; exact rfl; refine bF ?_; omega; refine wl_mv rfl rfl ?_; apply wl_take; exact rfl; exact rfl; exact rfl; refine bF ?_; omega
  refine wl_call ok_caissonref01_Kept (kept_yes (xs := data) (hs.sp 6 rfl).1 (hr.below hs.bel) rfl rfl (by omega)) ⟨rfl, rfl, trivial⟩ rfl ?_
  rintro _ _ ⟨rfl, hbx⟩
  replace hs := hs.below hbx
  clear hbx
  apply wl_take; exact rfl; exact rfl; exact rfl; refine bF ?_; omega; apply wl_val; apply opv_not; exact rfl; exact rfl; apply wl_val; apply opv_pickF; exact rfl; refine bF ?_; omega; exact rfl; exact rfl; refine wl_mv rfl rfl ?_; apply wl_take; exact rfl; exact rfl; exact rfl; exact Bool.not_true; refine wl_mv rfl rfl ?_; apply wl_take; exact rfl; exact rfl; exact rfl; exact Bool.not_true; refine wl_mv rfl rfl ?_; apply wl_take; exact rfl; exact rfl; exact rfl; exact Bool.not_true
  refine wl_call ok_caissonref01_Kept (kept_yes (xs := bs) (hs.sp 4 rfl).1 (hs.nw 5 rfl).1 rfl rfl (by omega)) ⟨rfl, rfl, trivial⟩ rfl ?_
  rintro _ _ ⟨rfl, hbx⟩
  replace hs := hs.below hbx
  clear hbx
  apply wl_take; exact rfl; exact rfl; exact rfl; exact Bool.not_true; apply wl_val; apply opv_not; exact rfl; exact rfl; apply wl_val; apply opv_pickF; exact rfl; exact Bool.not_true; exact rfl; exact rfl; refine wl_ns ?_; apply wc_condFb; exact rfl; exact Bool.not_true; refine wc_skip ?_; refine we_seq ?_; refine wc_sr ?_
  refine wl_call ok_session_New (cnew_any 1 _) ⟨rfl, trivial⟩ rfl ?_
  rintro _ _ ⟨g, rfl, hsx⟩
  replace hs := hs.call hsx
  clear hsx
  dsimp only [List.cons_append, List.nil_append] at hs
  refine wl_as rfl rfl ?_; refine wl_ns ?_; refine wc_sr ?_; refine wl_mv rfl rfl ?_
  obtain ⟨S2, hS2, hB2, hM2, hH2, hB⟩ := St.lend (H1 := [_]) (H2 := [_, _, _, _, _, _, _]) hs
  refine wl_call ok_session_Client_Ask (cask_any hS2 (enc := []) (fun w' _ => enc0_any w') (by decide) (by simp)) ⟨rfl, rfl, trivial⟩ rfl ?_
  rintro _ _ hcase
  rcases hcase with ⟨h8, _⟩ | ⟨_, rfl, Q, cq, hsx⟩
  · simp at h8
  replace hs := hB _ _ hsx
  clear hsx hB hH2 hM2 hB2 hS2
  dsimp only [List.cons_append, List.nil_append] at hs
  refine wl_ns ?_; refine wc_sr ?_; refine wl_mv rfl rfl ?_
  refine wl_call ok_session_Client_Call (ccall_any (hs.ar 0 rfl) (hs.ow 1 rfl).rd (by simp)) ⟨rfl, rfl, trivial⟩ rfl ?_
  rintro _ _ ⟨Du, cu, rfl, hsx⟩
  replace hs := hs.call hsx
  clear hsx
  dsimp only [List.cons_append, List.nil_append] at hs
  refine wl_mv rfl rfl ?_; apply wl_val; apply opv_extract; exact rfl; exact rfl; exact rfl; apply wl_val; apply opv_extract; exact rfl; exact rfl; exact rfl
  refine ws_var (cs := pkV ⟨4, 0, 1, 0, 0, 0, 0, (1, 1), 0, zMsg, zRes, []⟩ (msV zMsg none 0 none 0) (reV zRes none 0 none 0 none 0) Du cu) hs zeroPk sPk rfl (fun _ => rfl) (by first | rfl | simp [Value.oneCell']) rfl ?_; clear hs; intro g15 _ hs
  refine wl_as rfl rfl ?_; refine wl_ns ?_; refine wc_sr ?_; refine wl_mv rfl rfl ?_
  refine wl_call ok_session_Client_Call (ccall_any (hs.ar 2 rfl) (hs.ow 3 rfl).rd (by simp)) ⟨rfl, rfl, trivial⟩ rfl ?_
  rintro _ _ ⟨Dv, cv, rfl, hsx⟩
  replace hs := hs.call hsx
  clear hsx
  dsimp only [List.cons_append, List.nil_append] at hs
  refine wl_mv rfl rfl ?_; apply wl_val; apply opv_extract; exact rfl; exact rfl; exact rfl; apply wl_val; apply opv_extract; exact rfl; exact rfl; exact rfl
  refine ws_var (cs := pkV ⟨4, 0, 1, 0, 0, 0, 0, (1, 1), 0, zMsg, zRes, []⟩ (msV zMsg none 0 none 0) (reV zRes none 0 none 0 none 0) Dv cv) hs zeroPk sPk rfl (fun _ => rfl) (by first | rfl | simp [Value.oneCell']) rfl ?_; clear hs; intro g17 _ hs
  refine wl_as rfl rfl ?_; refine wl_ns ?_; refine wc_sr ?_; apply wl_val; apply opv_fa; exact fa_Pk11; exact rfl; exact rfl; apply wl_val; apply opv_ldX; exact rfl; exact hs.ar 8 rfl; exact g1_by; exact rfl; exact rfl; refine wl_mv rfl rfl ?_
  refine wl_call ok_caissonref01_Equal (equal_yes rfl (hs.ow 9 rfl).rd (hr.below hs.bel) rfl rfl (by omega)) ⟨rfl, rfl, trivial⟩ rfl ?_
  rintro _ _ ⟨rfl, hbx⟩
  replace hs := hs.below hbx
  clear hbx
  refine wl_mv rfl rfl ?_; apply wl_take; exact rfl; exact rfl; exact rfl; exact rfl; refine wl_mv rfl rfl ?_; apply wl_take; exact rfl; exact rfl; exact rfl; exact rfl; refine wl_mv rfl rfl ?_; apply wl_take; exact rfl; exact rfl; exact rfl; exact rfl; refine wl_mv rfl rfl ?_; apply wl_take; exact rfl; exact rfl; exact rfl; exact rfl; apply wl_val; apply opv_fa; exact fa_Pk11; exact rfl; exact rfl; apply wl_take; exact rfl; exact rfl; exact rfl; exact rfl; apply wl_val; apply opv_ldX; exact rfl; exact hs.ar 8 rfl; exact g1_by; exact rfl; exact rfl; apply wl_take; exact rfl; exact rfl; exact rfl; exact rfl; apply wl_val; apply opv_fa; exact fa_Pk11; exact rfl; exact rfl; apply wl_take; exact rfl; exact rfl; exact rfl; exact rfl; apply wl_val; apply opv_ldX; exact rfl; exact hs.ar 6 rfl; exact g1_by; exact rfl; exact rfl; apply wl_take; exact rfl; exact rfl; exact rfl; exact rfl; apply wl_val; apply opv_fa; exact fa_Pk11; exact rfl; exact rfl; apply wl_take; exact rfl; exact rfl; exact rfl; exact rfl; apply wl_val; apply opv_ldX; exact rfl; exact hs.ar 2 rfl; exact g1_by; exact rfl; exact rfl; apply wl_take; exact rfl; exact rfl; exact rfl; exact rfl; apply wl_val; apply opv_fa; exact fa_Pk11; exact rfl; exact rfl; apply wl_take; exact rfl; exact rfl; exact rfl; exact rfl; apply wl_val; apply opv_ldX; exact rfl; exact hs.ar 0 rfl; exact g1_by; exact rfl; exact rfl; apply wl_take; exact rfl; exact rfl; exact rfl; exact rfl
  refine ws_bs (vs := [spV (data, g1), spV (bs, g2), .slice B bs.length cb, .slice Da data.length cda, .slice Db data.length cdb, .slice Du ([] : By).length cu, .slice Dv ([] : By).length cv]) hs tyBB ⟨rfl, rfl, rfl, rfl, rfl, rfl, rfl, rfl, rfl, rfl, rfl, rfl, rfl, rfl, rfl, rfl, rfl, rfl, rfl, rfl, rfl, trivial⟩ rfl (by decide) rfl ?_
  clear hs; intro V _ hs
  apply wl_take; exact rfl; exact rfl; exact rfl; exact rfl
  replace hs := (((((((((((((hs.front 2 rfl).front 4 rfl).front 8 rfl).front 10 rfl).front 12 rfl).front 12 rfl).front 13 rfl).drop 8 rfl).drop 8 rfl).drop 8 rfl).drop 8 rfl).drop 8 rfl).drop 8 rfl)
  replace hs := (St.pk (H1 := [spP (data, g1), spP (bs, g2), .ck (nwC B cb bs), .ow 5 Da data.length cda (bvs data), .ow 5 Db data.length cdb (bvs data), .ow 5 Du ([] : By).length cu (bvs []), .ow 5 Dv ([] : By).length cv (bvs [])]) (H := [.ow 32 V 7 7 _]) hs).front 1 rfl
  dsimp only [delC] at hs
  have hby : ByQ [spP (data, g1), spP (bs, g2), .ck (nwC B cb bs), .ow 5 Da data.length cda (bvs data), .ow 5 Db data.length cdb (bvs data), .ow 5 Du ([] : By).length cu (bvs []), .ow 5 Dv ([] : By).length cv (bvs [])] [spV (data, g1), spV (bs, g2), .slice B bs.length cb, .slice Da data.length cda, .slice Db data.length cdb, .slice Du ([] : By).length cu, .slice Dv ([] : By).length cv] := .cons (by dsimp only; omega) hdc_ow (.cons (by dsimp only; omega) hdc_ow (.cons (by omega) hdc_nw (.cons (by omega) hdc_ow (.cons (by omega) hdc_ow (.cons (by decide) hdc_ow (.cons (by decide) hdc_ow .nil))))))
  refine wl_call ok_caissonref01_Apart (apartQ_any hs hby (by omega)) ⟨rfl, trivial⟩ rfl ?_
  clear hs
  rintro _ _ ⟨rfl, hs⟩
  apply wl_val; apply opv_pickT; exact rfl; exact rfl; exact rfl; exact rfl; refine wl_as rfl rfl ?_; refine wl_ns ?_; refine wc_ret ?_
  exact we_ret1 rfl rfl ⟨_, rfl, rfl, hs.bel⟩
end Go.Proofs.Ytaacnknniaipmaa
