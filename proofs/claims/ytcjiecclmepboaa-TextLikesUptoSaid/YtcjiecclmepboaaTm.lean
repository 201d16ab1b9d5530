
/-
  The walk over the reference's Like.
-/
import Derived.Test.YtcjiecclmepboaaTl
namespace Go.Proofs.Ytcjiecclmepboaa
open Go.RowKit

theorem ivs_get {p : List Nat} {j : Nat} (h : j < p.length) : (p.map iv)[j]? = some (.int .i64 (p.getD j 0 : Int)) := by
  simp [List.getD, List.getElem?_eq_getElem h, iv]
theorem mm_row (t p : List Nat) (j i : Nat) : mm t p (j + 1) i = colS (mm t p j) (p.getD j 0) t i := rfl
theorem mm_zero (t p : List Nat) (i : Nat) : mm t p 0 i = decide (i = 0) := rfl
set_option maxHeartbeats 4000000 in
set_option maxRecDepth 10000 in
theorem refLike_any {s pat : List UInt8} (hs : s.length ≤ 1048576) (hp : pat.length ≤ 1048576) (w : World) :
    CallsV Try.prog 17 #[str s, str pat] w fun v w' => v = .bool (likeN ((rs s).map lowN) (rs pat)) ∧ Below w.heap.size w w' := by
  obtain ⟨t, ht⟩ : ∃ t, (rs s).map lowN = t := ⟨_, rfl⟩
  obtain ⟨t0, ht0⟩ : ∃ t0, rs s = t0 := ⟨_, rfl⟩
  obtain ⟨p, hpp⟩ : ∃ p, rs pat = p := ⟨_, rfl⟩
  have htl := rs_length s
  have hpl := rs_length pat
  have hv0 : ∀ c ∈ t0, c ≤ 1114111 := fun c hc => by have := rs_all s c (by rw [ht0]; exact hc); unfold Val at this; omega
  have hvp : ∀ c ∈ p, c ≤ 1114111 := fun c hc => by have := rs_all pat c (by rw [hpp]; exact hc); unfold Val at this; omega
  rw [ht0] at ht htl
  rw [hpp] at hpl
  have hlen : t.length = t0.length := by rw [← ht]; simp
  rw [ht0, ht, hpp]
  refine calls_in (N := _) Try.func17 rfl Try.ntmps17 rfl ?_; show WC _ _ _ _ _ _
  refine wc_sr ?_; refine wl_as rfl rfl ?_; refine wl_ns ?_; refine wc_sr ?_; refine wl_mv rfl rfl ?_
  refine wl_call ok_caissonref02_Runes (refRunes_any (l := s) (by omega) w) ⟨rfl, trivial⟩ rfl ?_
  rintro _ w1 ⟨A, A', c, c', rfl, o1, _, hb1⟩
  rw [ht0] at o1 ⊢
  refine wl_mv rfl rfl ?_; apply wl_val; apply opv_extract; exact rfl; exact rfl; exact rfl; apply wl_val; apply opv_extract; exact rfl; exact rfl; exact rfl; refine wl_as rfl rfl ?_; refine wl_as rfl rfl ?_; refine wl_ns ?_; refine wc_sr ?_; refine wl_mv rfl rfl ?_
  refine wl_call ok_caissonref02_Runes (refRunes_any (l := pat) (by omega) w1) ⟨rfl, trivial⟩ rfl ?_
  rintro _ w2 ⟨D, D', d, d', rfl, o2, _, hb2⟩
  rw [hpp] at o2 ⊢
  have rt := (Ow.below o1 hb2 (Nat.le_refl _)).rd
  have rp := o2.rd
  have hb := hb1.trans (hb2.mono hb1.size)
  clear o1 o2 hb1 hb2
  refine wl_mv rfl rfl ?_; apply wl_val; apply opv_extract; exact rfl; exact rfl; exact rfl; apply wl_val; apply opv_extract; exact rfl; exact rfl; exact rfl; refine wl_as rfl rfl ?_; refine wl_as rfl rfl ?_; refine wl_ns ?_; refine wc_sr ?_; refine wl_mv rfl rfl ?_; apply wl_val; apply opv_len; exact rfl; exact tyI.sl; exact rfl; apply wl_val; apply opv_bin; exact rfl; exact rfl; exact bin_add64 (by omega); exact rfl
  refine wl_mk (n := p.length + 1) (c := p.length + 1) tyT rfl rfl rfl rfl (Nat.le_refl _) (by omega) (by simp only [maxLen]; omega) rfl fun B w3 o3 hb3 _ => ?_
  refine wl_as rfl rfl ?_; refine wl_ns ?_; refine wc_sr ?_; refine wl_mv rfl rfl ?_
  refine wl_set (kk := 0) (u := bo true) tyT rfl rfl o3 rfl (by omega) (fun _ => rfl) rfl rfl fun q w4 o4 g4 hs4 => ?_
  have hb4 := g4.below hb3 o3 (Nat.le_refl _) hb3.size
  have e4 : (List.replicate (p.length + 1) (Value.bool false)).set 0 (bo true) = rowB (fun j => mm t p j 0) 1 (p.length + 1) := by
    rw [rowB_zero (fun j => mm t p j 0)]
    exact rowB_set (by omega) rfl
  rw [e4] at o4
  clear o3 e4 hb3 g4
  refine wl_ns ?_; refine wc_seq ?_; refine wc_sr ?_; refine wl_as rfl rfl ?_; refine wl_ns ?_; refine wc_block ?_
  refine wc_loop (fun L wr m => ∃ j : Nat, L = [(5, .slice A t0.length c), (7, .slice D p.length d), (9, .slice B (p.length + 1) (p.length + 1)), (10, .int .i64 (j : Int))] ∧ 1 ≤ j ∧ j ≤ p.length + 1 ∧ Ow wr w2.heap.size 4 B (p.length + 1) (p.length + 1) (rowB (fun j => mm t p j 0) j (p.length + 1)) ∧ Below w2.heap.size w2 wr ∧ m = p.length + 1 - j)
    [(5, .slice A t0.length c), (7, .slice D p.length d), (9, .slice B (p.length + 1) (p.length + 1)), (10, .int .i64 (1 : Nat))] p.length ⟨1, rfl, by omega, by omega, o4, hb4, by omega⟩ ⟨rfl, rfl, rfl, rfl, trivial⟩ ?_
  clear o4 hb4
  rintro _ w5 m ⟨j, rfl, hj1, hj2, o5, hb5, rfl⟩
  have rp5 := rp.below hb5
  refine wc_seq ?_; refine wc_sr ?_; refine wl_mv rfl rfl ?_; refine wl_mv rfl rfl ?_; apply wl_val; apply opv_len; exact rfl; exact tyI.sl; exact rfl; refine wl_bin rfl rfl bin_leq rfl ?_; refine wl_ns ?_
  refine wc_cond rfl (fun h1 => ?_) (fun h1 => ?_)
  · obtain ⟨j, rfl⟩ : ∃ j', j = j' + 1 := ⟨j - 1, by omega⟩
    have hjp : j < p.length := by omega
    have rb := o5.rd
    obtain ⟨f, hf⟩ : ∃ f : Nat → Bool, (fun j => mm t p j 0) = f := ⟨_, rfl⟩
    have hff : f (j + 1) = (f j && decide (p.getD j 0 = 37)) := by rw [← hf]; rfl
    rw [hf] at o5 rb
    have xb : (rowB f (j + 1) (p.length + 1))[j]? = some (bo (f j)) := rowB_get (by omega)
    have xp := ivs_get hjp
    by_cases hA : f j = true
    · rw [hA] at xb
      refine wc_skip ?_; refine we_seq ?_; refine wc_seq ?_; refine wc_block ?_; refine wc_region ?_; refine wl_mv rfl rfl ?_; refine wl_mv rfl rfl ?_; refine wl_mv rfl rfl ?_; refine wl_mv rfl rfl ?_; apply wl_val; apply opv_bin; exact rfl; exact rfl; exact bin_sub64 (by omega); exact rfl; apply wl_elK (T := tyT) (hr := rb) (hb := xb); exact rfl; exact rfl; omega; exact rfl; exact rfl; intro _; refine wl_mv rfl rfl ?_; apply wl_take; exact rfl; exact rfl; exact rfl; exact rfl; refine wl_mv rfl rfl ?_; apply wl_take; exact rfl; exact rfl; exact rfl; exact rfl; refine wl_mv rfl rfl ?_; apply wl_take; exact rfl; exact rfl; exact rfl; exact rfl; apply wl_val; apply opv_bin; exact rfl; exact rfl; exact bin_sub64 (by omega); exact rfl; apply wl_elTK (T := tyI) (hr := rp5) (hb := xp); exact rfl; exact rfl; exact rfl; exact rfl; exact rfl; exact rfl; exact rfl; exact rfl; exact rfl; exact rfl; exact rfl; omega; exact rfl; exact rfl; intro _; apply wl_take; exact rfl; exact rfl; exact rfl; exact rfl; refine wl_bin rfl rfl bin_eql rfl ?_; apply wl_val; apply opv_pickT; exact rfl; exact rfl; exact rfl; exact rfl
      refine wl_set (kk := j + 1) (u := bo (decide ((p.getD j 0 : Int) = 37))) tyT rfl rfl o5 rfl (by omega) (fun _ => rfl) rfl rfl fun _ w6 o6 g6 _ => ?_
      have hb6 := g6.below hb5 o5 (Nat.le_refl _) hb5.size
      rw [rowB_set (f := f) (v := decide ((p.getD j 0 : Int) = 37)) (by omega) (by rw [hff, hA, Bool.true_and, Bool.eq_iff_iff]; simp only [decide_eq_true_eq]; omega)] at o6
      refine wl_nil ?_; refine we_block_norm ?_; refine we_seq ?_; refine wc_region ?_; refine wl_mv rfl rfl ?_; apply wl_val; apply opv_bin; exact rfl; exact rfl; exact bin_add64 (by omega); exact rfl; refine wl_as rfl rfl ?_; refine wl_nil ?_
      refine we_loop [(5, .slice A t0.length c), (7, .slice D p.length d), (9, .slice B (p.length + 1) (p.length + 1)), (10, .int .i64 ((j + 1 + 1 : Nat) : Int))] (p.length + 1 - (j + 1 + 1)) ⟨j + 1 + 1, rfl, by omega, by omega, by rw [hf]; exact o6, hb6, rfl⟩ (by omega) ⟨rfl, rfl, rfl, by simp [lookT], trivial⟩
    · rw [Bool.not_eq_true] at hA
      rw [hA] at xb
      refine wc_skip ?_; refine we_seq ?_; refine wc_seq ?_; refine wc_block ?_; refine wc_region ?_; refine wl_mv rfl rfl ?_; refine wl_mv rfl rfl ?_; refine wl_mv rfl rfl ?_; refine wl_mv rfl rfl ?_; apply wl_val; apply opv_bin; exact rfl; exact rfl; exact bin_sub64 (by omega); exact rfl; apply wl_elK (T := tyT) (hr := rb) (hb := xb); exact rfl; exact rfl; omega; exact rfl; exact rfl; intro _; refine wl_mv rfl rfl ?_; apply wl_skip; exact rfl; exact rfl; exact rfl; exact bR2; exact rfl; apply wl_skip; exact rfl; exact rfl; exact rfl; exact bR2; exact rfl; apply wl_skip; exact rfl; exact rfl; exact rfl; exact bR2; exact rfl; apply wl_skip; exact rfl; exact rfl; exact rfl; exact bR2; exact rfl; apply wl_skip; exact rfl; exact rfl; exact rfl; exact bR2; exact rfl; apply wl_skip; exact rfl; exact rfl; exact rfl; exact bR2; exact rfl; apply wl_val; apply opv_pickF; exact rfl; exact rfl; exact rfl; exact rfl
      refine wl_set (kk := j + 1) (u := bo false) tyT rfl rfl o5 rfl (by omega) (fun _ => rfl) rfl rfl fun _ w6 o6 g6 _ => ?_
      have hb6 := g6.below hb5 o5 (Nat.le_refl _) hb5.size
      rw [rowB_set (f := f) (v := false) (by omega) (by rw [hff, hA]; rfl)] at o6
      refine wl_nil ?_; refine we_block_norm ?_; refine we_seq ?_; refine wc_region ?_; refine wl_mv rfl rfl ?_; apply wl_val; apply opv_bin; exact rfl; exact rfl; exact bin_add64 (by omega); exact rfl; refine wl_as rfl rfl ?_; refine wl_nil ?_
      refine we_loop [(5, .slice A t0.length c), (7, .slice D p.length d), (9, .slice B (p.length + 1) (p.length + 1)), (10, .int .i64 ((j + 1 + 1 : Nat) : Int))] (p.length + 1 - (j + 1 + 1)) ⟨j + 1 + 1, rfl, by omega, by omega, by rw [hf]; exact o6, hb6, rfl⟩ (by omega) ⟨rfl, rfl, rfl, by simp [lookT], trivial⟩
  obtain rfl : j = p.length + 1 := by omega
  clear h1 hj1 hj2 rp5
  refine wc_exit ?_; refine we_seq_exit ?_; refine we_loop_exit ?_; refine we_block_exit ?_; refine we_seq ?_; refine wc_seq ?_; refine wc_sr ?_; refine wl_as rfl rfl ?_; refine wl_ns ?_; refine wc_block ?_
  refine wc_loop (fun L wr m => ∃ (i : Nat) (B : Option Addr), L = [(5, .slice A t0.length c), (7, .slice D p.length d), (9, .slice B (p.length + 1) (p.length + 1)), (11, .int .i64 ((i + 1 : Nat) : Int))] ∧ i ≤ t0.length ∧ Ow wr w2.heap.size 4 B (p.length + 1) (p.length + 1) (rowB (fun j => mm t p j i) (p.length + 1) (p.length + 1)) ∧ Below w2.heap.size w2 wr ∧ m = t0.length - i)
    [(5, .slice A t0.length c), (7, .slice D p.length d), (9, .slice B (p.length + 1) (p.length + 1)), (11, .int .i64 (1 : Nat))] t0.length ⟨0, B, rfl, by omega, o5, hb5, rfl⟩ ⟨rfl, rfl, rfl, rfl, trivial⟩ ?_
  clear o5 hb5
  rintro _ w6 m ⟨i, B, rfl, hi, o6, hb6, rfl⟩
  refine wc_seq ?_; refine wc_sr ?_; refine wl_mv rfl rfl ?_; refine wl_mv rfl rfl ?_; apply wl_val; apply opv_len; exact rfl; exact tyI.sl; exact rfl; refine wl_bin rfl rfl bin_leq rfl ?_; refine wl_ns ?_
  refine wc_cond rfl (fun h1 => ?_) (fun h1 => ?_)
  · have hit : i < t0.length := by omega
    have xt := ivs_get hit
    have hti : t.getD i 0 = lowN (t0.getD i 0) := by rw [← ht]; simp [List.getD, List.getElem?_eq_getElem hit]
    have htv : t0.getD i 0 ≤ 1114111 := hv0 _ (by simp [List.getD, List.getElem?_eq_getElem hit])
    obtain ⟨ti, hti0⟩ : ∃ ti, t0.getD i 0 = ti := ⟨_, rfl⟩
    rw [hti0] at xt hti htv
    refine wc_skip ?_; refine we_seq ?_; refine wc_seq ?_; refine wc_block ?_; refine wc_sr ?_; refine wl_mv rfl rfl ?_; apply wl_val; apply opv_len; exact rfl; exact tyI.sl; exact rfl; apply wl_val; apply opv_bin; exact rfl; exact rfl; exact bin_add64 (by omega); exact rfl
    refine wl_mk (n := p.length + 1) (c := p.length + 1) tyT rfl rfl rfl rfl (Nat.le_refl _) (by omega) (by simp only [maxLen]; omega) rfl fun C w7 o7 hb7 _ => ?_
    have hbc : ∀ a b, B = some a → C = some b → a.block ≠ b.block := fun a b ha hb => by have := (Ow.lt o6 a ha).2; have := (Ow.lt o7 b hb).1; omega
    have p7 := Ow.below o6 hb7 (Nat.le_refl _)
    have hb27 := hb6.trans (hb7.mono hb6.size)
    rw [rowB_zero (fun j => mm t p j (i + 1)), rowB_skip (by omega) rfl] at o7
    obtain ⟨pr, hpr⟩ : ∃ pr : Nat → Bool, (fun j => mm t p j i) = pr := ⟨_, rfl⟩
    obtain ⟨f, hf⟩ : ∃ f : Nat → Bool, (fun j => mm t p j (i + 1)) = f := ⟨_, rfl⟩
    have hfa : ∀ j, p.getD j 0 = 37 → f (j + 1) = (f j || pr (j + 1)) := fun j h => by
      rw [← hf, ← hpr]; simp only [mm_row]; rw [colS_any h, Bool.or_comm]
    have hfo : ∀ j, ¬ p.getD j 0 = 37 → f (j + 1) = (pr j && (decide (p.getD j 0 = 95) || decide (lowN (p.getD j 0) = lowN ti))) := fun j h => by
      rw [← hf, ← hpr]; simp only [mm_row]; rw [colS_one h, hti]
    rw [hpr] at p7
    rw [hf] at o7
    refine wl_as rfl rfl ?_; refine wl_ns ?_; refine wc_seq ?_; refine wc_sr ?_; refine wl_as rfl rfl ?_; refine wl_ns ?_; refine wc_block ?_
    refine wc_loop (fun L wr m => ∃ j : Nat, L = [(5, .slice A t0.length c), (7, .slice D p.length d), (9, .slice B (p.length + 1) (p.length + 1)), (11, .int .i64 ((i + 1 : Nat) : Int)), (12, .slice C (p.length + 1) (p.length + 1)), (13, .int .i64 (j : Int))] ∧ 1 ≤ j ∧ j ≤ p.length + 1 ∧ Ow wr w2.heap.size 4 B (p.length + 1) (p.length + 1) (rowB pr (p.length + 1) (p.length + 1)) ∧ Ow wr w2.heap.size 4 C (p.length + 1) (p.length + 1) (rowB f j (p.length + 1)) ∧ Below w2.heap.size w2 wr ∧ m = p.length + 1 - j)
      [(5, .slice A t0.length c), (7, .slice D p.length d), (9, .slice B (p.length + 1) (p.length + 1)), (11, .int .i64 ((i + 1 : Nat) : Int)), (12, .slice C (p.length + 1) (p.length + 1)), (13, .int .i64 ((1 : Nat) : Int))] p.length ⟨1, rfl, by omega, by omega, p7, Ow.mono o7 (by have := hb6.size; omega), hb27, by omega⟩ ⟨rfl, rfl, rfl, rfl, rfl, rfl, trivial⟩ ?_
    clear p7 o7 hb27 hb7 o6 hb6
    rintro _ w8 m ⟨j, rfl, hj1, hj2, o8, n8, hb8, rfl⟩
    refine wc_seq ?_; refine wc_sr ?_; refine wl_mv rfl rfl ?_; refine wl_mv rfl rfl ?_; apply wl_val; apply opv_len; exact rfl; exact tyI.sl; exact rfl; refine wl_bin rfl rfl bin_leq rfl ?_; refine wl_ns ?_
    refine wc_cond rfl (fun h2 => ?_) (fun h2 => ?_)
    · obtain ⟨j, rfl⟩ : ∃ j', j = j' + 1 := ⟨j - 1, by omega⟩
      have hjp : j < p.length := by omega
      have hjn : j + 1 < p.length + 1 := by omega
      have xp := ivs_get hjp
      have hcl : p.getD j 0 ≤ 1114111 := hvp _ (by simp [List.getD, List.getElem?_eq_getElem hjp])
      have ha := hfa j
      have ho := hfo j
      obtain ⟨ch, hch⟩ : ∃ ch, p.getD j 0 = ch := ⟨_, rfl⟩
      rw [hch] at xp hcl ha ho
      have ra := o8.rd
      have rn := n8.rd
      have rp8 := rp.below hb8
      have rt8 := rt.below hb8
      refine wc_skip ?_; refine we_seq ?_; refine wc_seq ?_; refine wc_block ?_; refine wc_sr ?_; refine wl_mv rfl rfl ?_; refine wl_mv rfl rfl ?_; apply wl_val; apply opv_bin; exact rfl; exact rfl; exact bin_sub64 (by omega); exact rfl; apply wl_elK (T := tyI) (hr := rp8) (hb := xp); exact rfl; exact rfl; omega; exact rfl; exact rfl; intro _; refine wl_bin rfl rfl bin_eql rfl ?_; refine wl_ns ?_
      refine wc_cond rfl (fun h3 => ?_) (fun h3 => ?_)
      · replace ha := ha (by omega)
        have xn : (rowB f (j + 1) (p.length + 1))[j]? = some (bo (f j)) := rowB_get (by omega)
        have xa : (rowB pr (p.length + 1) (p.length + 1))[j + 1]? = some (bo (pr (j + 1))) := rowB_get (by omega)
        by_cases hA : f j = true
        · rw [hA] at xn
          refine wc_region ?_; refine wl_mv rfl rfl ?_; refine wl_mv rfl rfl ?_; refine wl_mv rfl rfl ?_; refine wl_mv rfl rfl ?_; apply wl_val; apply opv_bin; exact rfl; exact rfl; exact bin_sub64 (by omega); exact rfl; apply wl_elK (T := tyT) (hr := rn) (hb := xn); exact rfl; exact rfl; omega; exact rfl; exact rfl; intro _; refine wl_mv rfl rfl ?_; apply wl_skip; exact rfl; exact rfl; exact rfl; exact bR1; exact rfl; apply wl_skip; exact rfl; exact rfl; exact rfl; exact bR1; exact rfl; apply wl_skip; exact rfl; exact rfl; exact rfl; exact bR1; exact rfl; apply wl_skip; exact rfl; exact rfl; exact rfl; exact bR1; exact rfl; apply wl_val; apply opv_pickT; exact rfl; exact rfl; exact rfl; exact rfl
          refine wl_set (kk := j + 1) (u := bo true) tyT rfl rfl n8 rfl hjn (fun _ => rfl) rfl rfl fun _ w9 n9 g9 _ => ?_
          have hb9 := g9.below hb8 n8 (Nat.le_refl _) hb8.size
          have o9 := Ow.gr (base' := 0) (e' := 0) o8 g9 hbc
          rw [rowB_set (f := f) (v := true) hjn (by rw [ha, hA]; rfl)] at n9
          refine wl_nil ?_; refine we_block_norm ?_; refine we_seq ?_; refine wc_region ?_; refine wl_mv rfl rfl ?_; apply wl_val; apply opv_bin; exact rfl; exact rfl; exact bin_add64 (by omega); exact rfl; refine wl_as rfl rfl ?_; refine wl_nil ?_
          refine we_loop [(5, .slice A t0.length c), (7, .slice D p.length d), (9, .slice B (p.length + 1) (p.length + 1)), (11, .int .i64 ((i + 1 : Nat) : Int)), (12, .slice C (p.length + 1) (p.length + 1)), (13, .int .i64 ((j + 1 + 1 : Nat) : Int))] (p.length + 1 - (j + 1 + 1)) ⟨j + 1 + 1, rfl, by omega, by omega, o9, n9, hb9, rfl⟩ (by omega) ⟨rfl, rfl, rfl, rfl, rfl, by simp [lookT], trivial⟩
        · rw [Bool.not_eq_true] at hA
          rw [hA] at xn
          refine wc_region ?_; refine wl_mv rfl rfl ?_; refine wl_mv rfl rfl ?_; refine wl_mv rfl rfl ?_; refine wl_mv rfl rfl ?_; apply wl_val; apply opv_bin; exact rfl; exact rfl; exact bin_sub64 (by omega); exact rfl; apply wl_elK (T := tyT) (hr := rn) (hb := xn); exact rfl; exact rfl; omega; exact rfl; exact rfl; intro _; refine wl_mv rfl rfl ?_; apply wl_take; exact rfl; exact rfl; exact rfl; exact rfl; refine wl_mv rfl rfl ?_; apply wl_take; exact rfl; exact rfl; exact rfl; exact rfl; refine wl_mv rfl rfl ?_; apply wl_elTK (T := tyT) (hr := ra) (hb := xa); exact rfl; exact rfl; exact rfl; exact rfl; exact rfl; exact rfl; exact rfl; exact rfl; exact rfl; exact rfl; exact rfl; exact rfl; exact rfl; exact rfl; intro _; apply wl_val; apply opv_pickF; exact rfl; exact rfl; exact rfl; exact rfl
          refine wl_set (kk := j + 1) (u := bo (pr (j + 1))) tyT rfl rfl n8 rfl hjn (fun _ => rfl) rfl rfl fun _ w9 n9 g9 _ => ?_
          have hb9 := g9.below hb8 n8 (Nat.le_refl _) hb8.size
          have o9 := Ow.gr (base' := 0) (e' := 0) o8 g9 hbc
          rw [rowB_set (f := f) (v := pr (j + 1)) hjn (by rw [ha, hA]; rfl)] at n9
          refine wl_nil ?_; refine we_block_norm ?_; refine we_seq ?_; refine wc_region ?_; refine wl_mv rfl rfl ?_; apply wl_val; apply opv_bin; exact rfl; exact rfl; exact bin_add64 (by omega); exact rfl; refine wl_as rfl rfl ?_; refine wl_nil ?_
          refine we_loop [(5, .slice A t0.length c), (7, .slice D p.length d), (9, .slice B (p.length + 1) (p.length + 1)), (11, .int .i64 ((i + 1 : Nat) : Int)), (12, .slice C (p.length + 1) (p.length + 1)), (13, .int .i64 ((j + 1 + 1 : Nat) : Int))] (p.length + 1 - (j + 1 + 1)) ⟨j + 1 + 1, rfl, by omega, by omega, o9, n9, hb9, rfl⟩ (by omega) ⟨rfl, rfl, rfl, rfl, rfl, by simp [lookT], trivial⟩
      · replace ho := ho (by omega)
        have xa : (rowB pr (p.length + 1) (p.length + 1))[j]? = some (bo (pr j)) := rowB_get (by omega)
        have xn : (rowB f (j + 1) (p.length + 1))[j + 1]? = some (bo false) := rowB_rest (by omega) hjn
        have hgr := Gr.of_below C ((Below.refl w8.heap.size w8).drew) (Nat.le_refl _)
        have hS : Rd w8.drew B (p.length + 1) (rowB pr (p.length + 1) (p.length + 1)) ∧ Rd w8.drew D p.length (p.map iv) ∧ Rd w8.drew A t0.length (t0.map iv) := ⟨ra, rp8, rt8⟩
        skip
        refine wc_held (fun w' => Rd w' B (p.length + 1) (rowB pr (p.length + 1) (p.length + 1)) ∧ Rd w' D p.length (p.map iv) ∧ Rd w' A t0.length (t0.map iv)) mixed ?_
        by_cases hA : pr j = true
        · rw [hA] at xa
          by_cases h95 : ch = 95
          · apply wh_takeH 0; exact rfl; intro _ hw_; apply opv_move; exact rfl; exact rfl; kernel_rfl; exact hS; apply wh_takeH 1; exact rfl; intro _ hw_; apply opv_move; exact rfl; exact rfl; kernel_rfl; exact hS; apply wh_takeH 2; exact rfl; intro _ hw_; apply opv_move; exact rfl; exact rfl; kernel_rfl; exact hS; apply wh_takeH 3; exact rfl; intro _ hw_; apply opv_move; exact rfl; exact rfl; kernel_rfl; exact hS; apply wh_takeH 4; exact rfl; intro _ hw_; apply opv_bin; exact rfl; exact rfl; exact bin_sub64 (by omega); exact rfl; kernel_rfl; exact hS; apply wh_takeH 5; exact rfl; intro _ hw_; apply opv_idxR (T := tyT) (hr := ra) (hu := xa); exact rfl; exact rfl; omega; exact rfl; kernel_rfl; exact hS; apply wh_takeH 6; exact rfl; intro _ hw_; refine opv_loadR tyT rfl (hw_.1) xa; exact rfl; kernel_rfl; exact hS; apply wh_takeH 7; exact rfl; intro _ hw_; apply opv_move; exact rfl; exact rfl; kernel_rfl; exact hS; apply wh_takeGH 8; exact rfl; exact rfl; exact rfl; exact rfl; exact rfl; intro _ hw_; apply opv_move; exact rfl; exact rfl; kernel_rfl; exact hS; apply wh_takeGH 9; exact rfl; exact rfl; exact rfl; exact rfl; exact rfl; intro _ hw_; apply opv_move; exact rfl; exact rfl; kernel_rfl; exact hS; apply wh_takeGH 10; exact rfl; exact rfl; exact rfl; exact rfl; exact rfl; intro _ hw_; apply opv_bin; exact rfl; exact rfl; exact bin_sub64 (by omega); exact rfl; kernel_rfl; exact hS; apply wh_takeGH 11; exact rfl; exact rfl; exact rfl; exact rfl; exact rfl; intro _ hw_; apply opv_idxR (T := tyI) (hr := rp8) (hu := xp); exact rfl; exact rfl; omega; exact rfl; kernel_rfl; exact hS; apply wh_takeGH 12; exact rfl; exact rfl; exact rfl; exact rfl; exact rfl; intro _ hw_; refine opv_loadR tyI rfl (hw_.2.1) xp; exact rfl; kernel_rfl; exact hS; apply wh_takeGH 13; exact rfl; exact rfl; exact rfl; exact rfl; exact rfl; intro _ hw_; apply opv_bin; exact rfl; exact rfl; exact bin_eql; exact rfl; kernel_rfl; exact hS; apply wh_takeGH 14; exact rfl; exact rfl; exact rfl; exact rfl; exact rfl; intro _ hw_; apply opv_move; exact rfl; exact rfl; kernel_rfl; exact hS; apply wh_skipGH 15; exact rfl; exact rfl; exact rfl; exact rfl; refine bTn ?_; omega; exact rfl; kernel_rfl; exact hS; apply wh_skipGH 16; exact rfl; exact rfl; exact rfl; exact rfl; refine bTn ?_; omega; exact rfl; kernel_rfl; exact hS; apply wh_skipGH 17; exact rfl; exact rfl; exact rfl; exact rfl; refine bTn ?_; omega; exact rfl; kernel_rfl; exact hS; apply wh_skipGH 18; exact rfl; exact rfl; exact rfl; exact rfl; refine bTn ?_; omega; exact rfl; kernel_rfl; exact hS; apply wh_skipGH 19; exact rfl; exact rfl; exact rfl; exact rfl; refine bTn ?_; omega; exact rfl; kernel_rfl; exact hS; apply wh_skipGH 20; exact rfl; exact rfl; exact rfl; exact rfl; refine bTn ?_; omega; exact rfl; kernel_rfl; exact hS; apply wh_skipGH 21; exact rfl; exact rfl; exact rfl; exact rfl; refine bTn ?_; omega; exact rfl; kernel_rfl; exact hS; apply wh_skipGH 22; exact rfl; exact rfl; exact rfl; exact rfl; refine bTn ?_; omega; exact rfl; kernel_rfl; exact hS; apply wh_skipGH 23; exact rfl; exact rfl; exact rfl; exact rfl; refine bTn ?_; omega; exact rfl; kernel_rfl; exact hS; apply wh_skipGH 24; exact rfl; exact rfl; exact rfl; exact rfl; refine bTn ?_; omega; exact rfl; kernel_rfl; exact hS; apply wh_skipGH 25; exact rfl; exact rfl; exact rfl; exact rfl; refine bTn ?_; omega; exact rfl; kernel_rfl; exact hS; apply wh_skipGH 26; exact rfl; exact rfl; exact rfl; exact rfl; refine bTn ?_; omega; exact rfl; kernel_rfl; exact hS; apply wh_skipGH 27; exact rfl; exact rfl; exact rfl; exact rfl; refine bTn ?_; omega; exact rfl; kernel_rfl; exact hS; apply wh_takeGH 28; exact rfl; exact rfl; exact rfl; exact rfl; exact rfl; intro _ hw_; apply opv_pickT; exact rfl; refine bT ?_; omega; exact rfl; exact rfl; kernel_rfl; exact hS; apply wh_takeH 29; exact rfl; intro _ hw_; apply opv_pickT; exact rfl; exact rfl; exact rfl; exact rfl; kernel_rfl; exact hS; apply wh_takeH 30; exact rfl; intro _ hw_; apply opv_idxR (T := tyT) (hr := rn) (hu := xn); exact rfl; exact rfl; exact rfl; exact rfl; kernel_rfl; exact hS
            refine wh_one 31 (o := ⟨_, _, _, _, _, _⟩) (by kernel_rfl) rfl ?_
            refine wl_stO (w := w8.drew) (kk := j + 1) (u := bo (true)) tyT n8 hjn rfl rfl rfl fun w9 n9 g9' _ => ?_
            have g9 := hgr.trans g9'
            have hb9 := g9.below hb8 n8 (Nat.le_refl _) hb8.size
            have o9 := Ow.gr (base' := 0) (e' := 0) o8 g9 hbc
            rw [rowB_set (f := f) (v := true) hjn (by rw [ho, hA, h95]; rfl)] at n9
            refine wl_nil ?_
            refine we_held ⟨o9.rd, rp.below hb9, rt.below hb9⟩ ?_
            refine wh_done (by kernel_rfl) ?_
            refine we_block_norm ?_; refine we_seq ?_; refine wc_region ?_; refine wl_mv rfl rfl ?_; apply wl_val; apply opv_bin; exact rfl; exact rfl; exact bin_add64 (by omega); exact rfl; refine wl_as rfl rfl ?_; refine wl_nil ?_
            refine we_loop [(5, .slice A t0.length c), (7, .slice D p.length d), (9, .slice B (p.length + 1) (p.length + 1)), (11, .int .i64 ((i + 1 : Nat) : Int)), (12, .slice C (p.length + 1) (p.length + 1)), (13, .int .i64 ((j + 1 + 1 : Nat) : Int))] (p.length + 1 - (j + 1 + 1)) ⟨j + 1 + 1, rfl, by omega, by omega, o9, n9, hb9, rfl⟩ (by omega) ⟨rfl, rfl, rfl, rfl, rfl, by simp [lookT], trivial⟩
          · apply wh_takeH 0; exact rfl; intro _ hw_; apply opv_move; exact rfl; exact rfl; kernel_rfl; exact hS; apply wh_takeH 1; exact rfl; intro _ hw_; apply opv_move; exact rfl; exact rfl; kernel_rfl; exact hS; apply wh_takeH 2; exact rfl; intro _ hw_; apply opv_move; exact rfl; exact rfl; kernel_rfl; exact hS; apply wh_takeH 3; exact rfl; intro _ hw_; apply opv_move; exact rfl; exact rfl; kernel_rfl; exact hS; apply wh_takeH 4; exact rfl; intro _ hw_; apply opv_bin; exact rfl; exact rfl; exact bin_sub64 (by omega); exact rfl; kernel_rfl; exact hS; apply wh_takeH 5; exact rfl; intro _ hw_; apply opv_idxR (T := tyT) (hr := ra) (hu := xa); exact rfl; exact rfl; omega; exact rfl; kernel_rfl; exact hS; apply wh_takeH 6; exact rfl; intro _ hw_; refine opv_loadR tyT rfl (hw_.1) xa; exact rfl; kernel_rfl; exact hS; apply wh_takeH 7; exact rfl; intro _ hw_; apply opv_move; exact rfl; exact rfl; kernel_rfl; exact hS; apply wh_takeGH 8; exact rfl; exact rfl; exact rfl; exact rfl; exact rfl; intro _ hw_; apply opv_move; exact rfl; exact rfl; kernel_rfl; exact hS; apply wh_takeGH 9; exact rfl; exact rfl; exact rfl; exact rfl; exact rfl; intro _ hw_; apply opv_move; exact rfl; exact rfl; kernel_rfl; exact hS; apply wh_takeGH 10; exact rfl; exact rfl; exact rfl; exact rfl; exact rfl; intro _ hw_; apply opv_bin; exact rfl; exact rfl; exact bin_sub64 (by omega); exact rfl; kernel_rfl; exact hS; apply wh_takeGH 11; exact rfl; exact rfl; exact rfl; exact rfl; exact rfl; intro _ hw_; apply opv_idxR (T := tyI) (hr := rp8) (hu := xp); exact rfl; exact rfl; omega; exact rfl; kernel_rfl; exact hS; apply wh_takeGH 12; exact rfl; exact rfl; exact rfl; exact rfl; exact rfl; intro _ hw_; refine opv_loadR tyI rfl (hw_.2.1) xp; exact rfl; kernel_rfl; exact hS; apply wh_takeGH 13; exact rfl; exact rfl; exact rfl; exact rfl; exact rfl; intro _ hw_; apply opv_bin; exact rfl; exact rfl; exact bin_eql; exact rfl; kernel_rfl; exact hS; apply wh_takeGH 14; exact rfl; exact rfl; exact rfl; exact rfl; exact rfl; intro _ hw_; apply opv_move; exact rfl; exact rfl; kernel_rfl; exact hS; apply wh_takeGH 15; exact rfl; exact rfl; exact rfl; exact rfl; refine bF ?_; omega; intro _ hw_; apply opv_move; exact rfl; exact rfl; kernel_rfl; exact hS; apply wh_takeGH 16; exact rfl; exact rfl; exact rfl; exact rfl; refine bF ?_; omega; intro _ hw_; apply opv_move; exact rfl; exact rfl; kernel_rfl; exact hS; apply wh_takeGH 17; exact rfl; exact rfl; exact rfl; exact rfl; refine bF ?_; omega; intro _ hw_; apply opv_bin; exact rfl; exact rfl; exact bin_sub64 (by omega); exact rfl; kernel_rfl; exact hS; apply wh_takeGH 18; exact rfl; exact rfl; exact rfl; exact rfl; refine bF ?_; omega; intro _ hw_; apply opv_idxR (T := tyI) (hr := rp8) (hu := xp); exact rfl; exact rfl; omega; exact rfl; kernel_rfl; exact hS; apply wh_takeGH 19; exact rfl; exact rfl; exact rfl; exact rfl; refine bF ?_; omega; intro _ hw_; refine opv_loadR tyI rfl (hw_.2.1) xp; exact rfl; kernel_rfl; exact hS; apply wh_takeGH 21; exact rfl; exact rfl; exact rfl; exact rfl; refine bF ?_; omega; intro _ hw_; apply opv_move; exact rfl; exact rfl; kernel_rfl; exact hS; apply wh_takeGH 22; exact rfl; exact rfl; exact rfl; exact rfl; refine bF ?_; omega; intro _ hw_; apply opv_move; exact rfl; exact rfl; kernel_rfl; exact hS; apply wh_takeGH 23; exact rfl; exact rfl; exact rfl; exact rfl; refine bF ?_; omega; intro _ hw_; apply opv_bin; exact rfl; exact rfl; exact bin_sub64 (by omega); exact rfl; kernel_rfl; exact hS; apply wh_takeGH 24; exact rfl; exact rfl; exact rfl; exact rfl; refine bF ?_; omega; intro _ hw_; apply opv_idxR (T := tyI) (hr := rt8) (hu := xt); exact rfl; exact rfl; omega; exact rfl; kernel_rfl; exact hS; apply wh_takeGH 25; exact rfl; exact rfl; exact rfl; exact rfl; refine bF ?_; omega; intro _ hw_; refine opv_loadR tyI rfl (hw_.2.2) xt; exact rfl; kernel_rfl; exact hS
            refine wh_one 20 (o := ⟨_, _, _, _, _, _⟩) (by kernel_rfl) rfl ?_
            apply wl_take; exact rfl; exact rfl; exact rfl; refine bF ?_; omega; apply wl_callX (vs := [_]) ok_caissonref02_Low; exact ⟨rfl, trivial⟩; exact rfl; exact refLow_any _ (by assumption) _; rintro _ _ ⟨rfl, rfl⟩; refine wl_nil ?_
            refine we_held hS ?_
            refine wh_one 26 (o := ⟨_, _, _, _, _, _⟩) (by kernel_rfl) rfl ?_
            apply wl_take; exact rfl; exact rfl; exact rfl; refine bF ?_; omega; apply wl_callX (vs := [_]) ok_caissonref02_Low; exact ⟨rfl, trivial⟩; exact rfl; exact refLow_any _ (by assumption) _; rintro _ _ ⟨rfl, rfl⟩; refine wl_nil ?_
            refine we_held hS ?_
            apply wh_takeGH 27; exact rfl; exact rfl; exact rfl; exact rfl; refine bF ?_; omega; intro _ hw_; apply opv_bin; exact rfl; exact rfl; exact bin_eql; exact rfl; kernel_rfl; exact hS; apply wh_takeGH 28; exact rfl; exact rfl; exact rfl; exact rfl; exact rfl; intro _ hw_; apply opv_pickF; exact rfl; refine bF ?_; omega; exact rfl; exact rfl; kernel_rfl; exact hS; apply wh_takeH 29; exact rfl; intro _ hw_; apply opv_pickT; exact rfl; exact rfl; exact rfl; exact rfl; kernel_rfl; exact hS; apply wh_takeH 30; exact rfl; intro _ hw_; apply opv_idxR (T := tyT) (hr := rn) (hu := xn); exact rfl; exact rfl; exact rfl; exact rfl; kernel_rfl; exact hS
            refine wh_one 31 (o := ⟨_, _, _, _, _, _⟩) (by kernel_rfl) rfl ?_
            refine wl_stO (w := w8.drew) (kk := j + 1) (u := bo (decide ((lowN ch : Int) = (lowN ti : Int)))) tyT n8 hjn rfl rfl rfl fun w9 n9 g9' _ => ?_
            have g9 := hgr.trans g9'
            have hb9 := g9.below hb8 n8 (Nat.le_refl _) hb8.size
            have o9 := Ow.gr (base' := 0) (e' := 0) o8 g9 hbc
            rw [rowB_set (f := f) (v := decide ((lowN ch : Int) = (lowN ti : Int))) hjn (by rw [ho, hA, decide_eq_false h95, Bool.true_and, Bool.false_or, Bool.eq_iff_iff]; simp only [decide_eq_true_eq]; omega)] at n9
            refine wl_nil ?_
            refine we_held ⟨o9.rd, rp.below hb9, rt.below hb9⟩ ?_
            refine wh_done (by kernel_rfl) ?_
            refine we_block_norm ?_; refine we_seq ?_; refine wc_region ?_; refine wl_mv rfl rfl ?_; apply wl_val; apply opv_bin; exact rfl; exact rfl; exact bin_add64 (by omega); exact rfl; refine wl_as rfl rfl ?_; refine wl_nil ?_
            refine we_loop [(5, .slice A t0.length c), (7, .slice D p.length d), (9, .slice B (p.length + 1) (p.length + 1)), (11, .int .i64 ((i + 1 : Nat) : Int)), (12, .slice C (p.length + 1) (p.length + 1)), (13, .int .i64 ((j + 1 + 1 : Nat) : Int))] (p.length + 1 - (j + 1 + 1)) ⟨j + 1 + 1, rfl, by omega, by omega, o9, n9, hb9, rfl⟩ (by omega) ⟨rfl, rfl, rfl, rfl, rfl, by simp [lookT], trivial⟩
        · rw [Bool.not_eq_true] at hA
          rw [hA] at xa
          apply wh_takeH 0; exact rfl; intro _ hw_; apply opv_move; exact rfl; exact rfl; kernel_rfl; exact hS; apply wh_takeH 1; exact rfl; intro _ hw_; apply opv_move; exact rfl; exact rfl; kernel_rfl; exact hS; apply wh_takeH 2; exact rfl; intro _ hw_; apply opv_move; exact rfl; exact rfl; kernel_rfl; exact hS; apply wh_takeH 3; exact rfl; intro _ hw_; apply opv_move; exact rfl; exact rfl; kernel_rfl; exact hS; apply wh_takeH 4; exact rfl; intro _ hw_; apply opv_bin; exact rfl; exact rfl; exact bin_sub64 (by omega); exact rfl; kernel_rfl; exact hS; apply wh_takeH 5; exact rfl; intro _ hw_; apply opv_idxR (T := tyT) (hr := ra) (hu := xa); exact rfl; exact rfl; omega; exact rfl; kernel_rfl; exact hS; apply wh_takeH 6; exact rfl; intro _ hw_; refine opv_loadR tyT rfl (hw_.1) xa; exact rfl; kernel_rfl; exact hS; apply wh_takeH 7; exact rfl; intro _ hw_; apply opv_move; exact rfl; exact rfl; kernel_rfl; exact hS; apply wh_skipGH 8; exact rfl; exact rfl; exact rfl; exact rfl; exact bR2; exact rfl; kernel_rfl; exact hS; apply wh_skipGH 9; exact rfl; exact rfl; exact rfl; exact rfl; exact bR2; exact rfl; kernel_rfl; exact hS; apply wh_skipGH 10; exact rfl; exact rfl; exact rfl; exact rfl; exact bR2; exact rfl; kernel_rfl; exact hS; apply wh_skipGH 11; exact rfl; exact rfl; exact rfl; exact rfl; exact bR2; exact rfl; kernel_rfl; exact hS; apply wh_skipGH 12; exact rfl; exact rfl; exact rfl; exact rfl; exact bR2; exact rfl; kernel_rfl; exact hS; apply wh_skipGH 13; exact rfl; exact rfl; exact rfl; exact rfl; exact bR2; exact rfl; kernel_rfl; exact hS; apply wh_skipGH 14; exact rfl; exact rfl; exact rfl; exact rfl; exact bR2; exact rfl; kernel_rfl; exact hS; apply wh_skipUH 15; exact rfl; exact rfl; exact rfl; exact rfl; exact rfl; kernel_rfl; exact hS; apply wh_skipUH 16; exact rfl; exact rfl; exact rfl; exact rfl; exact rfl; kernel_rfl; exact hS; apply wh_skipUH 17; exact rfl; exact rfl; exact rfl; exact rfl; exact rfl; kernel_rfl; exact hS; apply wh_skipUH 18; exact rfl; exact rfl; exact rfl; exact rfl; exact rfl; kernel_rfl; exact hS; apply wh_skipUH 19; exact rfl; exact rfl; exact rfl; exact rfl; exact rfl; kernel_rfl; exact hS; apply wh_skipUH 20; exact rfl; exact rfl; exact rfl; exact rfl; exact rfl; kernel_rfl; exact hS; apply wh_skipUH 21; exact rfl; exact rfl; exact rfl; exact rfl; exact rfl; kernel_rfl; exact hS; apply wh_skipUH 22; exact rfl; exact rfl; exact rfl; exact rfl; exact rfl; kernel_rfl; exact hS; apply wh_skipUH 23; exact rfl; exact rfl; exact rfl; exact rfl; exact rfl; kernel_rfl; exact hS; apply wh_skipUH 24; exact rfl; exact rfl; exact rfl; exact rfl; exact rfl; kernel_rfl; exact hS; apply wh_skipUH 25; exact rfl; exact rfl; exact rfl; exact rfl; exact rfl; kernel_rfl; exact hS; apply wh_skipUH 26; exact rfl; exact rfl; exact rfl; exact rfl; exact rfl; kernel_rfl; exact hS; apply wh_skipUH 27; exact rfl; exact rfl; exact rfl; exact rfl; exact rfl; kernel_rfl; exact hS; apply wh_skipGH 28; exact rfl; exact rfl; exact rfl; exact rfl; exact bR2; exact rfl; kernel_rfl; exact hS; apply wh_takeH 29; exact rfl; intro _ hw_; apply opv_pickF; exact rfl; exact rfl; exact rfl; exact rfl; kernel_rfl; exact hS; apply wh_takeH 30; exact rfl; intro _ hw_; apply opv_idxR (T := tyT) (hr := rn) (hu := xn); exact rfl; exact rfl; exact rfl; exact rfl; kernel_rfl; exact hS
          refine wh_one 31 (o := ⟨_, _, _, _, _, _⟩) (by kernel_rfl) rfl ?_
          refine wl_stO (w := w8.drew) (kk := j + 1) (u := bo (false)) tyT n8 hjn rfl rfl rfl fun w9 n9 g9' _ => ?_
          have g9 := hgr.trans g9'
          have hb9 := g9.below hb8 n8 (Nat.le_refl _) hb8.size
          have o9 := Ow.gr (base' := 0) (e' := 0) o8 g9 hbc
          rw [rowB_set (f := f) (v := false) hjn (by rw [ho, hA]; rfl)] at n9
          refine wl_nil ?_
          refine we_held ⟨o9.rd, rp.below hb9, rt.below hb9⟩ ?_
          refine wh_done (by kernel_rfl) ?_
          refine we_block_norm ?_; refine we_seq ?_; refine wc_region ?_; refine wl_mv rfl rfl ?_; apply wl_val; apply opv_bin; exact rfl; exact rfl; exact bin_add64 (by omega); exact rfl; refine wl_as rfl rfl ?_; refine wl_nil ?_
          refine we_loop [(5, .slice A t0.length c), (7, .slice D p.length d), (9, .slice B (p.length + 1) (p.length + 1)), (11, .int .i64 ((i + 1 : Nat) : Int)), (12, .slice C (p.length + 1) (p.length + 1)), (13, .int .i64 ((j + 1 + 1 : Nat) : Int))] (p.length + 1 - (j + 1 + 1)) ⟨j + 1 + 1, rfl, by omega, by omega, o9, n9, hb9, rfl⟩ (by omega) ⟨rfl, rfl, rfl, rfl, rfl, by simp [lookT], trivial⟩
    · obtain rfl : j = p.length + 1 := by omega
      rw [← hf] at n8
      refine wc_exit ?_; refine we_seq_exit ?_; refine we_loop_exit ?_; refine we_block_exit ?_; refine we_seq ?_; refine wc_region ?_; refine wl_mv rfl rfl ?_; refine wl_as rfl rfl ?_; refine wl_nil ?_; refine we_block_norm ?_; refine we_seq ?_; refine wc_region ?_; refine wl_mv rfl rfl ?_; apply wl_val; apply opv_bin; exact rfl; exact rfl; exact bin_add64 (by omega); exact rfl; refine wl_as rfl rfl ?_; refine wl_nil ?_
      refine we_loop [(5, .slice A t0.length c), (7, .slice D p.length d), (9, .slice C (p.length + 1) (p.length + 1)), (11, .int .i64 ((i + 1 + 1 : Nat) : Int))] (t0.length - (i + 1)) ⟨i + 1, C, rfl, by omega, n8, hb8, rfl⟩ (by omega) ⟨rfl, rfl, rfl, by simp [lookT], trivial⟩
  · obtain rfl : i = t0.length := by omega
    have xe : (rowB (fun j => mm t p j t0.length) (p.length + 1) (p.length + 1))[p.length]? = some (bo (likeN t p)) := by
      rw [likeN, hlen]; exact rowB_get (by omega)
    have r6 := o6.rd
    refine wc_exit ?_; refine we_seq_exit ?_; refine we_loop_exit ?_; refine we_block_exit ?_; refine we_seq ?_; refine wc_sr ?_; refine wl_mv rfl rfl ?_; refine wl_mv rfl rfl ?_; apply wl_val; apply opv_len; exact rfl; exact tyI.sl; exact rfl; apply wl_elK (T := tyT) (hr := r6) (hb := xe); exact rfl; exact rfl; exact rfl; exact rfl; exact rfl; intro _; refine wl_as rfl rfl ?_; refine wl_ns ?_; refine wc_ret ?_
    exact we_ret1 rfl rfl ⟨_, rfl, rfl, hb.trans (hb6.mono hb.size)⟩
end Go.Proofs.Ytcjiecclmepboaa
