
/-
  The fixed fact of the laws of texts.
-/
import Derived.Test.YtcjiecclmepboaaFp
import Derived.Test.YtcjiecclmepboaaHeld
namespace Go.Proofs.Ytcjiecclmepboaa
open Go.RowKit
/-- True is handed back, and nothing that stood has changed. -/
abbrev RetTr (w : World) (v : Value) (w' : World) : Prop := v = .bool true ∧ Below w.heap.size w w'
theorem rs_fact : (rs [97, 195, 169]).length = 2 := by decide +kernel
theorem fold_fact : foldB [195, 132, 114, 103, 101, 114] = [195, 164, 114, 103, 101, 114] := by decide +kernel
theorem awake2_any (w : World) : CallsV Try.prog 13 #[] w (RetTr w) := by
  refine calls_in (N := _) Try.func13 rfl Try.ntmps13 rfl ?_; show WC _ _ _ _ _ _
  refine wc_sr ?_; refine wl_as rfl rfl ?_; refine wl_ns ?_; refine wc_sr ?_
  refine wl_call ok_text_Len (len_any (l := [97, 195, 169]) (by decide) w) ⟨rfl, trivial⟩ rfl ?_
  rintro _ w1 ⟨rfl, hb1⟩
  rw [rs_fact]
  refine wl_bin rfl rfl bin_eql rfl ?_; refine wl_mv rfl rfl ?_; apply wl_take; exact rfl; exact rfl; exact rfl; refine bT ?_; omega
  refine wl_call ok_text_Fold (fold_any (l := [195, 132, 114, 103, 101, 114]) (by decide) w1) ⟨rfl, trivial⟩ rfl ?_
  rintro _ w2 ⟨rfl, hb2⟩
  rw [fold_fact]
  apply wl_take; exact rfl; exact rfl; exact rfl; refine bT ?_; omega; refine wl_bin rfl rfl bin_eqlS rfl ?_; apply wl_val; apply opv_pickT; exact rfl; refine bT ?_; omega; exact rfl; exact rfl; refine wl_as rfl rfl ?_; refine wl_ns ?_; refine wc_ret ?_
  exact we_ret1 rfl rfl ⟨_, rfl, by simp, hb1.trans (hb2.mono hb1.size)⟩

/-- The places at which the runes begin, and the end. -/
def pl (l : List UInt8) : List Nat := places l ++ [l.length]
theorem pl_length (l : List UInt8) : (pl l).length = (rs l).length + 1 := by simp [pl, places_length]
theorem starts_le : ∀ (n : Nat) (l : List UInt8) (p : Nat), l.length ≤ n → ∀ x ∈ starts p (rw l), x ≤ p + l.length
  | 0, l, p, h => by have : l = [] := List.eq_nil_of_length_eq_zero (by omega); subst this; simp [rw_nil, starts]
  | n + 1, l, p, h => by
    by_cases h0 : l = []
    · subst h0; simp [rw_nil, starts]
    · rw [rw_cons h0, starts]
      have hw := dec_width h0
      intro x hx
      rcases List.mem_cons.1 hx with rfl | hx
      · omega
      · have := starts_le n (l.drop (dec l).2) (p + (dec l).2) (by simp; omega) x hx
        simp at this; omega
theorem pl_le {l : List UInt8} {k x : Nat} (h : (pl l)[k]? = some x) : x ≤ l.length := by
  have hm := List.mem_of_getElem? h
  rw [pl, List.mem_append] at hm
  rcases hm with hm | hm
  · have := starts_le _ l 0 (Nat.le_refl _) x hm; omega
  · simp at hm; omega
theorem clipB_at {l : List UInt8} {n : Int} {k x : Nat} (hk : k = min n.toNat (rs l).length) (h : (pl l)[k]? = some x) : clipB l n = l.take x := by
  have hpl := places_length l
  unfold clipB
  by_cases hn : n.toNat < (rs l).length
  · have : k = n.toNat := by omega
    subst this
    rw [pl, List.getElem?_append_left (by omega)] at h
    rw [h]
  · have : k = (rs l).length := by omega
    subst this
    rw [pl, List.getElem?_append_right (by omega), hpl, Nat.sub_self] at h
    simp at h
    subst h
    rw [List.getElem?_eq_none (by omega)]
    simp
theorem textClips_walk {w : World} {l : List UInt8} (hl : l.length ≤ 1048576) {n : Int} (hn : -9223372036854775808 ≤ n ∧ n ≤ 9223372036854775807) :
    CallsV Try.prog 3 #[str l, .int .i64 n] w (RetTr w) := by
  have hrl := rs_length l
  have hpl := pl_length l
  refine calls_in (N := _) Try.func3 rfl Try.ntmps3 rfl ?_; show WC _ _ _ _ _ _
  refine wc_sr ?_; refine wl_as rfl rfl ?_; refine wl_ns ?_; refine wc_seq ?_; refine wc_sr ?_
  refine wl_call ok_caissonlaw02_awake (awake2_any w) trivial rfl ?_
  rintro _ w1 ⟨rfl, hb1⟩
  apply wl_val; apply opv_not; exact rfl; exact rfl; refine wl_ns ?_; apply wc_condFb; exact rfl; exact Bool.not_true; refine wc_skip ?_; refine we_seq ?_; refine wc_sr ?_; refine wl_mv rfl rfl ?_
  refine wl_call ok_caissonref02_Runes (refRunes_any (l := l) (by omega) w1) ⟨rfl, trivial⟩ rfl ?_
  rintro _ w2 ⟨A, B, c, d, rfl, _, o2, hb2⟩
  have hb := hb1.trans (hb2.mono hb1.size)
  have r2 := o2.rd
  change Rd w2 B (pl l).length ((pl l).map iv) at r2
  change WL _ _ _ _ _ ((_, .tuple #[.slice A (rs l).length c, .slice B (pl l).length d]) :: _) _
  refine wl_mv rfl rfl ?_; apply wl_val; apply opv_extract; exact rfl; exact rfl; exact rfl; apply wl_val; apply opv_extract; exact rfl; exact rfl; exact rfl; refine wl_as rfl rfl ?_; refine wl_as rfl rfl ?_; refine wl_ns ?_; refine wc_sr ?_; refine wl_mv rfl rfl ?_; refine wl_as rfl rfl ?_; refine wl_ns ?_; refine wc_seq ?_; refine wc_sr ?_; refine wl_mv rfl rfl ?_; refine wl_bin rfl rfl bin_lss rfl ?_; refine wl_ns ?_
  refine wc_cutE (fun L' w' => L' = [(0, str l), (1, .int .i64 n), (6, .slice B (pl l).length d), (7, .int .i64 (n.toNat : Int))] ∧ w2 = w') ?_ ?_
  · refine wc_cond rfl (fun h => ?_) (fun h => ?_)
    · refine wc_region ?_; refine wl_as rfl rfl ?_; refine wl_nil ?_
      exact we_cut _ ⟨rfl, rfl⟩ ⟨rfl, rfl, rfl, congrArg (fun z => some (Value.int .i64 z)) (by omega), trivial⟩
    · refine wc_skip ?_
      exact we_cut _ ⟨rfl, rfl⟩ ⟨rfl, rfl, rfl, congrArg (fun z => some (Value.int .i64 z)) (by omega), trivial⟩
  rintro _ _ ⟨rfl, rfl⟩
  refine we_seq ?_; refine wc_seq ?_; refine wc_sr ?_; refine wl_mv rfl rfl ?_; refine wl_mv rfl rfl ?_; apply wl_val; apply opv_len; exact rfl; exact tyI.sl; exact rfl; apply wl_val; apply opv_bin; exact rfl; exact rfl; exact bin_sub64 (by omega); exact rfl; refine wl_bin rfl rfl bin_gtr rfl ?_; refine wl_ns ?_
  refine wc_cutE (fun L' w' => ∃ k : Nat, L' = [(0, str l), (1, .int .i64 n), (6, .slice B (pl l).length d), (7, .int .i64 (k : Int))] ∧ k = min n.toNat (rs l).length ∧ w2 = w') ?_ ?_
  · refine wc_cond rfl (fun h => ?_) (fun h => ?_)
    · refine wc_region ?_; refine wl_mv rfl rfl ?_; apply wl_val; apply opv_len; exact rfl; exact tyI.sl; exact rfl; apply wl_val; apply opv_bin; exact rfl; exact rfl; exact bin_sub64 (by omega); exact rfl; refine wl_as rfl rfl ?_; refine wl_nil ?_
      exact we_cut _ ⟨(rs l).length, rfl, by omega, rfl⟩ ⟨rfl, rfl, rfl, congrArg (fun z => some (Value.int .i64 z)) (by omega), trivial⟩
    · refine wc_skip ?_
      exact we_cut _ ⟨n.toNat, rfl, by omega, rfl⟩ ⟨rfl, rfl, rfl, rfl, trivial⟩
  rintro _ _ ⟨k, rfl, hk, rfl⟩
  obtain ⟨x, hx⟩ : ∃ x, (pl l)[k]? = some x := ⟨_, List.getElem?_eq_getElem (by omega)⟩
  have hxi : ((pl l).map iv)[k]? = some (iv x) := by rw [List.getElem?_map, hx]; rfl
  have hxl := pl_le hx
  refine we_seq ?_; refine wc_seq ?_
  refine wc_heldB mixed fun w3 hS => ?_
  apply wh_take 0; exact rfl; kernel_rfl; kernel_rfl; kernel_rfl; exact hS; intro _ _; apply opv_move; exact rfl; exact rfl; apply wh_take 1; exact rfl; kernel_rfl; kernel_rfl; kernel_rfl; exact hS; intro _ _; apply opv_move; exact rfl; exact rfl; apply wh_take 3; exact rfl; kernel_rfl; kernel_rfl; kernel_rfl; exact hS; intro _ _; apply opv_move; exact rfl; exact rfl; apply wh_take 4; exact rfl; kernel_rfl; kernel_rfl; kernel_rfl; exact hS; intro _ _; apply opv_move; exact rfl; exact rfl; apply wh_take 5; exact rfl; kernel_rfl; kernel_rfl; kernel_rfl; exact hS; intro _ _; apply opv_move; exact rfl; exact rfl
  refine wh_take 6 rfl (by kernel_rfl) (by kernel_rfl) (by kernel_rfl) hS (fun _ _ => opv_idxR tyI rfl rfl r2 rfl hxi) rfl ?_
  refine wh_take 7 rfl (by kernel_rfl) (by kernel_rfl) (by kernel_rfl) hS (fun _ hw => opv_loadR tyI rfl (r2.below hw) hxi) rfl ?_
  refine wh_take 8 rfl (by kernel_rfl) (by kernel_rfl) (by kernel_rfl) hS (fun _ _ => opv_slS (a := 0) (b := x) tyStr rfl rfl ⟨_, rfl⟩ (by omega) hxl) rfl ?_
  refine wh_one 2 (o := ⟨_, _, _, _, _, _⟩) (by kernel_rfl) rfl ?_
  refine wl_call ok_text_Clip (clip_any (l := l) (by omega) n hn _) ⟨rfl, rfl, trivial⟩ rfl ?_
  rintro _ w4 ⟨rfl, hb4⟩
  have hS4 := hS.trans (hb4.mono hS.size)
  refine wl_nil ?_
  refine we_held hS4 ?_
  apply wh_take 9; exact rfl; kernel_rfl; kernel_rfl; kernel_rfl; exact hS4; intro _ _; apply opv_bin; exact rfl; exact rfl; exact bin_eqlS; exact rfl; apply wh_take 10; exact rfl; kernel_rfl; kernel_rfl; kernel_rfl; exact hS4; intro _ _; apply opv_assign; exact rfl; exact rfl
  refine wh_done (by kernel_rfl) ?_
  refine we_seq ?_; refine wc_ret ?_
  refine we_ret1 rfl rfl ⟨_, rfl, ?_, hb.trans (hS4.mono hb.size)⟩
  rw [clipB_at hk hx, List.drop_zero]; simp
end Go.Proofs.Ytcjiecclmepboaa
