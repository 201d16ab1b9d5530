
/-
  Walks over the reference's Runes, Put and Fold.
-/
import Derived.Test.YtcjiecclmepboaaTd
namespace Go.Proofs.Ytcjiecclmepboaa
open Go.RowKit

theorem bin_quo64 {P : Program} {t : TypeId} {a b : Nat} (hb : 0 < b) (ha : a ≤ 9223372036854775807) : BinV P .quo t (.int .i64 (a : Int)) (.int .i64 (b : Int)) (.int .i64 ((a / b : Nat) : Int)) := bin_quo hb (IntWalk.i64_in _ (by have := Nat.div_le_self a b; generalize a / b = q at this ⊢; omega))
/-- An int as a cell. -/
def iv (n : Nat) : Value := .int .i64 (n : Int)
/-- Two lists of ints as new memory, each in its own. -/
def RetII (w : World) (xs ys : List Nat) (v : Value) (w' : World) : Prop :=
  ∃ (A B : Option Addr) (c d : Nat), v = .tuple #[.slice A xs.length c, .slice B ys.length d] ∧ Ow w' w.heap.size 3 A xs.length c (xs.map iv) ∧ Ow w' w.heap.size 3 B ys.length d (ys.map iv) ∧ Below w.heap.size w w'
theorem refRunes_any {l : List UInt8} (hl : l.length ≤ 1099511627776) (w : World) : CallsV Try.prog 14 #[str l] w (RetII w (rs l) (places l ++ [l.length])) := by
  refine calls_in (N := _) Try.func14 rfl Try.ntmps14 rfl ?_; show WC _ _ _ _ _ _
  refine wc_sr ?_; refine wl_as rfl rfl ?_; refine wl_as rfl rfl ?_; refine wl_ns ?_; refine wc_sr ?_; refine wl_as rfl rfl ?_; refine wl_ns ?_; refine wc_sr ?_; refine wl_as rfl rfl ?_; refine wl_ns ?_; refine wc_sr ?_; refine wl_as rfl rfl ?_; refine wl_ns ?_; refine wc_seq ?_; refine wc_block ?_
  refine wc_loop (fun L wr m => ∃ (p : Nat) (ds dp : List Nat) (A B : Option Addr) (c d : Nat), L = [(0, str l), (4, .slice A ds.length c), (5, .slice B dp.length d), (6, .int .i64 (p : Int))] ∧ Ow wr w.heap.size 3 A ds.length c (ds.map iv) ∧ Ow wr w.heap.size 3 B dp.length d (dp.map iv) ∧ (∀ a b, A = some a → B = some b → a.block ≠ b.block) ∧ Below w.heap.size w wr ∧ p ≤ l.length ∧ ds.length ≤ p ∧ dp.length ≤ p ∧ ds ++ rs (l.drop p) = rs l ∧ dp ++ starts p (rw (l.drop p)) = places l ∧ m = l.length - p)
    [(0, str l), (4, .slice none 0 0), (5, .slice none 0 0), (6, .int .i64 (0 : Nat))] l.length ⟨0, [], [], none, none, 0, 0, rfl, Ow.nil _ _ _, Ow.nil _ _ _, by simp, Below.refl _ _, by omega, by simp, by simp, rfl, rfl, rfl⟩ ⟨rfl, rfl, rfl, rfl, trivial⟩ ?_
  rintro _ w1 m ⟨p, ds, dp, A, B, c, d, rfl, o1, q1, hne, hb1, hp, hn1, hn2, he1, he2, rfl⟩
  refine wc_seq ?_; refine wc_sr ?_; refine wl_mv rfl rfl ?_; refine wl_mv rfl rfl ?_; apply wl_val; apply opv_lenL; exact rfl; exact Try.underlying9; exact rfl; refine wl_bin rfl rfl bin_lss rfl ?_; refine wl_ns ?_
  refine wc_cond rfl (fun h1 => ?_) (fun h1 => ?_)
  · have hlt : p < l.length := by omega
    have hd := dec_at hlt
    rw [rs_step hlt] at he1
    rw [rw_step hlt] at he2
    refine wc_skip ?_; refine we_seq ?_; refine wc_block ?_; refine wc_sr ?_; refine wl_mv rfl rfl ?_; refine wl_mv rfl rfl ?_
    refine wl_call ok_caissonref02_First (first_any hlt hl _) ⟨rfl, rfl, trivial⟩ rfl ?_
    rintro _ _ ⟨rfl, rfl⟩
    refine wl_mv rfl rfl ?_; apply wl_val; apply opv_extract; exact rfl; exact rfl; exact rfl; apply wl_val; apply opv_extract; exact rfl; exact rfl; exact rfl; apply wl_val; apply opv_extract; exact rfl; exact rfl; exact rfl; refine wl_as rfl rfl ?_; refine wl_as rfl rfl ?_; refine wl_as rfl rfl ?_; refine wl_ns ?_; refine wc_sr ?_; refine wl_mv rfl rfl ?_; refine wl_mv rfl rfl ?_
    refine wl_push (vs := [iv (dec (l.drop p)).1]) tyI rfl o1 ⟨rfl, rfl, rfl, trivial⟩ rfl (by decide) rfl (by omega) (by simp only [maxLen]; omega) hb1.size rfl rfl fun x A2 c2 w2 o2 g2 hat2 => ?_
    have hne2 := ne_push hne hat2 fun b hb => (Ow.lt q1 b hb).2
    have hb2 := g2.below hb1 o1 (Nat.le_refl _) hb1.size
    have q2 : Ow w2 w.heap.size 3 B dp.length d (dp.map iv) := Ow.gr (base' := 0) (e' := 0) q1 g2 (ne_comm hne)
    refine wl_as rfl rfl ?_; refine wl_ns ?_; refine wc_sr ?_; refine wl_mv rfl rfl ?_; refine wl_mv rfl rfl ?_
    refine wl_push (vs := [iv p]) tyI rfl q2 ⟨rfl, rfl, rfl, trivial⟩ rfl (by decide) rfl (by omega) (by simp only [maxLen]; omega) hb2.size rfl rfl fun x B3 d3 w3 q3 g3 hat3 => ?_
    have hne3 := ne_push (ne_comm hne2) hat3 fun b hb => (Ow.lt o2 b hb).2
    have hb3 := g3.below hb2 q2 (Nat.le_refl _) hb2.size
    have o3 := Ow.gr (base' := 0) (e' := 0) o2 g3 hne2
    refine wl_as rfl rfl ?_; refine wl_ns ?_; refine wc_region ?_; refine wl_mv rfl rfl ?_; refine wl_mv rfl rfl ?_; apply wl_val; apply opv_bin; exact rfl; exact rfl; exact bin_add64 (by omega); exact rfl; refine wl_as rfl rfl ?_; refine wl_nil ?_; refine we_block_norm ?_
    refine we_loop [(0, str l), (4, .slice A2 (ds ++ [(dec (l.drop p)).1]).length c2), (5, .slice B3 (dp ++ [p]).length d3), (6, .int .i64 ((p + (dec (l.drop p)).2 : Nat) : Int))] (l.length - (p + (dec (l.drop p)).2))
      ⟨_, _, _, A2, B3, c2, d3, rfl, by simpa using o3, by simpa using q3, ne_comm hne3, hb3, hd.2.1, by simp; omega, by simp; omega, by rw [List.append_assoc]; exact he1, by rw [List.append_assoc]; exact he2, rfl⟩ (by omega) ⟨rfl, by rw [List.length_append]; rfl, by rw [List.length_append]; rfl, by simp [lookT], trivial⟩
  · obtain rfl : p = l.length := by omega
    rw [rs_end (by omega), List.append_nil] at he1
    rw [rw_end (by omega), starts, List.append_nil] at he2
    subst he1 he2
    refine wc_exit ?_; refine we_seq_exit ?_; refine we_loop_exit ?_; refine we_block_exit ?_; refine we_seq ?_; refine wc_sr ?_; refine wl_mv rfl rfl ?_; refine wl_mv rfl rfl ?_; refine wl_mv rfl rfl ?_; apply wl_val; apply opv_lenL; exact rfl; exact Try.underlying9; exact rfl
    refine wl_push (vs := [iv l.length]) tyI rfl q1 ⟨rfl, rfl, rfl, trivial⟩ rfl (by decide) rfl (by omega) (by simp only [maxLen]; omega) hb1.size rfl rfl fun x B3 d3 w3 q3 g3 hat3 => ?_
    have o3 := Ow.gr (base' := 0) (e' := 0) o1 g3 hne
    have hb3 := g3.below hb1 q1 (Nat.le_refl _) hb1.size
    refine wl_as rfl rfl ?_; refine wl_as rfl rfl ?_; refine wl_ns ?_; refine wc_ret ?_
    exact we_ret2 rfl rfl rfl ⟨_, rfl, A, B3, c, d3, by simp, o3, by simpa using q3, hb3⟩

theorem enc_bad {c : Int} (h : (c < 0 ∨ 1114111 < c) ∨ (55296 ≤ c ∧ c ≤ 57343)) : Lib.encodeRune c = enc 65533 := by
  rw [enc_three (by omega), Lib.encodeRune, Lib.encodeRuneZ_bad (by omega)]; decide
theorem own_enc {w w' : World} {A : Option Addr} {n : Nat} {vs : List Value} {xs : List UInt8} {c : Int} {d : Nat} (ho : Ow w' w.heap.size 5 A n n vs) (hb : Below w.heap.size w w') (hc : Lib.encodeRune c = enc d) (he : enc d = xs) (hv : bvs xs = vs) : RetB w (Lib.encodeRune c) (.slice A n n) w' := by
  subst hv
  have hn : xs.length = n := by have := ho.len; rwa [bvs_length] at this
  subst hn
  rw [hc, he]
  exact ⟨A, _, rfl, ho, hb⟩
set_option maxHeartbeats 1000000 in
set_option maxRecDepth 10000 in
theorem put_any {c : Int} (hc : -2147483648 ≤ c ∧ c ≤ 2147483647) (w : World) : CallsV Try.prog 72 #[.int .i64 c] w (RetB w (Lib.encodeRune c)) := by
  refine calls_in (N := _) Try.func72 rfl Try.ntmps72 rfl ?_; show WC _ _ _ _ _ _
  refine wc_sr ?_; refine wl_as rfl rfl ?_; refine wl_ns ?_; refine wc_seq ?_; refine wc_sr ?_; refine wl_mv rfl rfl ?_; refine wl_bin rfl rfl bin_lss rfl ?_; refine wl_mv rfl rfl ?_
  refine wl_cutV 3 8 (.bool (decide ((c < 0) ∨ (1114111 < c)))) ?c9 ?_; (case c9 => (dsimp only [List.take]; by_cases hc0 : (c < 0); (focus (apply wl_skip; exact rfl; exact rfl; exact rfl; refine bTn ?_; (with_reducible assumption); exact rfl; apply wl_skip; exact rfl; exact rfl; exact rfl; refine bTn ?_; (with_reducible assumption); exact rfl; apply wl_val; apply opv_pickT; exact rfl; refine bT ?_; (with_reducible assumption); exact rfl; exact rfl; refine wl_nil ?_; refine we_cut _ ⟨rfl, rfl⟩ ⟨congrArg (fun b => some (Value.bool b)) ?e9_0, ?s9_0⟩; (case e9_0 => ((simp [hc0]; done))); (case s9_0 => (refine And.intro rfl ?_; refine And.intro rfl ?_; refine And.intro rfl ?_; refine And.intro rfl ?_; refine And.intro rfl ?_; exact True.intro)))); (focus (apply wl_take; exact rfl; exact rfl; exact rfl; refine bF ?_; (with_reducible assumption); refine wl_mv rfl rfl ?_; apply wl_take; exact rfl; exact rfl; exact rfl; refine bF ?_; (with_reducible assumption); refine wl_bin rfl rfl bin_gtr rfl ?_; apply wl_val; apply opv_pickF; exact rfl; refine bF ?_; (with_reducible assumption); exact rfl; exact rfl; refine wl_nil ?_; refine we_cut _ ⟨rfl, rfl⟩ ⟨congrArg (fun b => some (Value.bool b)) ?e9_1, ?s9_1⟩; (case e9_1 => ((simp [hc0]; done))); (case s9_1 => (refine And.intro rfl ?_; refine And.intro rfl ?_; refine And.intro rfl ?_; refine And.intro rfl ?_; refine And.intro rfl ?_; exact True.intro)))))); dsimp only [List.drop]
  refine wl_mv rfl rfl ?_
  refine wl_cutV 7 16 (.bool (decide ((c < 0 ∨ 1114111 < c) ∨ (55296 ≤ c ∧ c ≤ 57343)))) ?c16 ?_; (case c16 => (dsimp only [List.take]; by_cases hc0 : (c < 0 ∨ 1114111 < c); (focus (by_cases hc1 : (55296 ≤ c); (focus (apply wl_skip; exact rfl; exact rfl; exact rfl; refine bTn ?_; (with_reducible assumption); exact rfl; apply wl_skip; exact rfl; exact rfl; exact rfl; refine bTn ?_; (with_reducible assumption); exact rfl; apply wl_skip; exact rfl; exact rfl; exact rfl; refine bTn ?_; (with_reducible assumption); exact rfl; apply wl_skipU; exact rfl; exact rfl; exact rfl; exact rfl; apply wl_skipU; exact rfl; exact rfl; exact rfl; exact rfl; apply wl_skip; exact rfl; exact rfl; exact rfl; refine bTn ?_; (with_reducible assumption); exact rfl; apply wl_val; apply opv_pickT; exact rfl; refine bT ?_; (with_reducible assumption); exact rfl; exact rfl; refine wl_nil ?_; refine we_cut _ ⟨rfl, rfl⟩ ⟨congrArg (fun b => some (Value.bool b)) ?e16_0, ?s16_0⟩; (case e16_0 => ((simp [hc0, hc1]; done))); (case s16_0 => (refine And.intro rfl ?_; refine And.intro rfl ?_; refine And.intro rfl ?_; refine And.intro rfl ?_; refine And.intro rfl ?_; refine And.intro rfl ?_; refine And.intro rfl ?_; exact True.intro)))); (focus (apply wl_skip; exact rfl; exact rfl; exact rfl; refine bTn ?_; (with_reducible assumption); exact rfl; apply wl_skip; exact rfl; exact rfl; exact rfl; refine bTn ?_; (with_reducible assumption); exact rfl; apply wl_skip; exact rfl; exact rfl; exact rfl; refine bTn ?_; (with_reducible assumption); exact rfl; apply wl_skipU; exact rfl; exact rfl; exact rfl; exact rfl; apply wl_skipU; exact rfl; exact rfl; exact rfl; exact rfl; apply wl_skip; exact rfl; exact rfl; exact rfl; refine bTn ?_; (with_reducible assumption); exact rfl; apply wl_val; apply opv_pickT; exact rfl; refine bT ?_; (with_reducible assumption); exact rfl; exact rfl; refine wl_nil ?_; refine we_cut _ ⟨rfl, rfl⟩ ⟨congrArg (fun b => some (Value.bool b)) ?e16_1, ?s16_1⟩; (case e16_1 => ((simp [hc0, hc1]; done))); (case s16_1 => (refine And.intro rfl ?_; refine And.intro rfl ?_; refine And.intro rfl ?_; refine And.intro rfl ?_; refine And.intro rfl ?_; refine And.intro rfl ?_; refine And.intro rfl ?_; exact True.intro)))))); (focus (by_cases hc1 : (55296 ≤ c); (focus (apply wl_take; exact rfl; exact rfl; exact rfl; refine bF ?_; (with_reducible assumption); refine wl_mv rfl rfl ?_; apply wl_take; exact rfl; exact rfl; exact rfl; refine bF ?_; (with_reducible assumption); refine wl_bin rfl rfl bin_geq rfl ?_; apply wl_take; exact rfl; exact rfl; exact rfl; refine bF ?_; (with_reducible assumption); refine wl_mv rfl rfl ?_; apply wl_take; exact rfl; exact rfl; exact rfl; refine bT ?_; (with_reducible assumption); refine wl_mv rfl rfl ?_; apply wl_take; exact rfl; exact rfl; exact rfl; refine bT ?_; (with_reducible assumption); refine wl_bin rfl rfl bin_leq rfl ?_; apply wl_take; exact rfl; exact rfl; exact rfl; refine bF ?_; (with_reducible assumption); apply wl_val; apply opv_pickT; exact rfl; refine bT ?_; (with_reducible assumption); exact rfl; exact rfl; apply wl_val; apply opv_pickF; exact rfl; refine bF ?_; (with_reducible assumption); exact rfl; exact rfl; refine wl_nil ?_; refine we_cut _ ⟨rfl, rfl⟩ ⟨congrArg (fun b => some (Value.bool b)) ?e16_2, ?s16_2⟩; (case e16_2 => ((simp [hc0, hc1]; done))); (case s16_2 => (refine And.intro rfl ?_; refine And.intro rfl ?_; refine And.intro rfl ?_; refine And.intro rfl ?_; refine And.intro rfl ?_; refine And.intro rfl ?_; refine And.intro rfl ?_; exact True.intro)))); (focus (apply wl_take; exact rfl; exact rfl; exact rfl; refine bF ?_; (with_reducible assumption); refine wl_mv rfl rfl ?_; apply wl_take; exact rfl; exact rfl; exact rfl; refine bF ?_; (with_reducible assumption); refine wl_bin rfl rfl bin_geq rfl ?_; apply wl_take; exact rfl; exact rfl; exact rfl; refine bF ?_; (with_reducible assumption); refine wl_mv rfl rfl ?_; apply wl_skip; exact rfl; exact rfl; exact rfl; refine bFn ?_; (with_reducible assumption); exact rfl; apply wl_skip; exact rfl; exact rfl; exact rfl; refine bFn ?_; (with_reducible assumption); exact rfl; apply wl_take; exact rfl; exact rfl; exact rfl; refine bF ?_; (with_reducible assumption); apply wl_val; apply opv_pickF; exact rfl; refine bF ?_; (with_reducible assumption); exact rfl; exact rfl; apply wl_val; apply opv_pickF; exact rfl; refine bF ?_; (with_reducible assumption); exact rfl; exact rfl; refine wl_nil ?_; refine we_cut _ ⟨rfl, rfl⟩ ⟨congrArg (fun b => some (Value.bool b)) ?e16_3, ?s16_3⟩; (case e16_3 => ((simp [hc0, hc1]; done))); (case s16_3 => (refine And.intro rfl ?_; refine And.intro rfl ?_; refine And.intro rfl ?_; refine And.intro rfl ?_; refine And.intro rfl ?_; refine And.intro rfl ?_; refine And.intro rfl ?_; exact True.intro)))))))); dsimp only [List.drop]
  refine wl_ns ?_
  refine wc_cutE (fun L' w' => ∃ d : Nat, L' = [(0, .int .i64 (d : Int))] ∧ Val d ∧ Lib.encodeRune c = enc d ∧ w = w') ?_ ?_
  · refine wc_cond rfl (fun h => ?_) (fun h => ?_)
    · refine wc_region ?_; refine wl_as rfl rfl ?_; refine wl_nil ?_
      exact we_cut [(0, .int .i64 (65533 : Nat))] ⟨65533, rfl, by unfold Val; omega, enc_bad h, rfl⟩ ⟨rfl, trivial⟩
    · obtain ⟨d, rfl⟩ := Int.eq_ofNat_of_zero_le (show 0 ≤ c by omega)
      refine wc_skip ?_
      exact we_cut [(0, .int .i64 (d : Int))] ⟨d, rfl, by unfold Val; omega, rfl, rfl⟩ ⟨rfl, trivial⟩
  rintro _ _ ⟨d, rfl, hv, hcd, rfl⟩
  have hd : d ≤ 1114111 := by unfold Val at hv; omega
  clear hc
  refine we_seq ?_; refine wc_seq ?_; refine wc_block ?_; refine wc_sr ?_; refine wl_mv rfl rfl ?_; refine wl_bin rfl rfl bin_lss rfl ?_; refine wl_as rfl rfl ?_; refine wl_ns ?_
  refine wc_cond rfl (fun h1 => ?_) (fun h1 => ?_)
  · refine wc_sr ?_; refine wl_mv rfl rfl ?_; apply wl_val; apply opv_convR; exact rfl; exact Try.underlying3; exact Try.underlying5; exact IntWalk.u8_in _ (by omega); exact rfl
    refine wl_bs (vs := [_]) tyB ⟨rfl, rfl, rfl, trivial⟩ rfl (by decide) rfl fun A w1 o1 hb1 _ => ?_
    refine wl_as rfl rfl ?_; refine wl_ns ?_; refine wc_ret ?_; refine we_block_ret ?_; refine we_seq_ret ?_
    exact we_ret1 rfl rfl ⟨_, rfl, own_enc o1 hb1 hcd (enc_one (by omega)) (by simp only [bvs, List.map]; rw [bv_of (by omega)])⟩
  refine wc_sr ?_; refine wl_mv rfl rfl ?_; refine wl_bin rfl rfl bin_lss rfl ?_; refine wl_as rfl rfl ?_; refine wl_ns ?_
  refine wc_cond rfl (fun h2 => ?_) (fun h2 => ?_)
  · refine wc_sr ?_; refine wl_mv rfl rfl ?_; apply wl_val; apply opv_bin; exact rfl; exact rfl; exact bin_quo64 (b := 64) (by decide) (by omega); exact rfl; apply wl_val; apply opv_bin; exact rfl; exact rfl; exact bin_add64 (by omega); exact rfl; apply wl_val; apply opv_convR; exact rfl; exact Try.underlying3; exact Try.underlying5; exact IntWalk.u8_in _ (by omega); exact rfl; refine wl_mv rfl rfl ?_; apply wl_val; apply opv_bin; exact rfl; exact rfl; exact bin_rem (b := 64) (by decide); exact rfl; apply wl_val; apply opv_bin; exact rfl; exact rfl; exact bin_add64 (by omega); exact rfl; apply wl_val; apply opv_convR; exact rfl; exact Try.underlying3; exact Try.underlying5; exact IntWalk.u8_in _ (by omega); exact rfl
    refine wl_bs (vs := [_, _]) tyB ⟨rfl, rfl, rfl, rfl, rfl, rfl, trivial⟩ rfl (by decide) rfl fun A w1 o1 hb1 _ => ?_
    refine wl_as rfl rfl ?_; refine wl_ns ?_; refine wc_ret ?_; refine we_block_ret ?_; refine we_seq_ret ?_
    exact we_ret1 rfl rfl ⟨_, rfl, own_enc o1 hb1 hcd (enc_two (by omega) (by omega)) (by simp only [bvs, List.map]; rw [bv_of (by omega), bv_of (by omega)]; rfl)⟩
  refine wc_sr ?_; refine wl_mv rfl rfl ?_; refine wl_bin rfl rfl bin_lss rfl ?_; refine wl_as rfl rfl ?_; refine wl_ns ?_
  refine wc_cond rfl (fun h3 => ?_) (fun h3 => ?_)
  · refine wc_sr ?_; refine wl_mv rfl rfl ?_; apply wl_val; apply opv_bin; exact rfl; exact rfl; exact bin_quo64 (b := 4096) (by decide) (by omega); exact rfl; apply wl_val; apply opv_bin; exact rfl; exact rfl; exact bin_add64 (by omega); exact rfl; apply wl_val; apply opv_convR; exact rfl; exact Try.underlying3; exact Try.underlying5; exact IntWalk.u8_in _ (by omega); exact rfl; refine wl_mv rfl rfl ?_; apply wl_val; apply opv_bin; exact rfl; exact rfl; exact bin_quo64 (b := 64) (by decide) (by omega); exact rfl; apply wl_val; apply opv_bin; exact rfl; exact rfl; exact bin_rem (b := 64) (by decide); exact rfl; apply wl_val; apply opv_bin; exact rfl; exact rfl; exact bin_add64 (by omega); exact rfl; apply wl_val; apply opv_convR; exact rfl; exact Try.underlying3; exact Try.underlying5; exact IntWalk.u8_in _ (by omega); exact rfl; refine wl_mv rfl rfl ?_; apply wl_val; apply opv_bin; exact rfl; exact rfl; exact bin_rem (b := 64) (by decide); exact rfl; apply wl_val; apply opv_bin; exact rfl; exact rfl; exact bin_add64 (by omega); exact rfl; apply wl_val; apply opv_convR; exact rfl; exact Try.underlying3; exact Try.underlying5; exact IntWalk.u8_in _ (by omega); exact rfl
    refine wl_bs (vs := [_, _, _]) tyB ⟨rfl, rfl, rfl, rfl, rfl, rfl, rfl, rfl, rfl, trivial⟩ rfl (by decide) rfl fun A w1 o1 hb1 _ => ?_
    refine wl_as rfl rfl ?_; refine wl_ns ?_; refine wc_ret ?_; refine we_block_ret ?_; refine we_seq_ret ?_
    exact we_ret1 rfl rfl ⟨_, rfl, own_enc o1 hb1 hcd (enc_three (by unfold Val at hv; omega)) (by simp only [bvs, List.map]; rw [bv_of (by omega), bv_of (by omega), bv_of (by omega)]; rfl)⟩
  refine wc_skip ?_; refine we_block_norm ?_; refine we_seq ?_; refine wc_sr ?_; refine wl_mv rfl rfl ?_; apply wl_val; apply opv_bin; exact rfl; exact rfl; exact bin_quo64 (b := 262144) (by decide) (by omega); exact rfl; apply wl_val; apply opv_bin; exact rfl; exact rfl; exact bin_add64 (by omega); exact rfl; apply wl_val; apply opv_convR; exact rfl; exact Try.underlying3; exact Try.underlying5; exact IntWalk.u8_in _ (by omega); exact rfl; refine wl_mv rfl rfl ?_; apply wl_val; apply opv_bin; exact rfl; exact rfl; exact bin_quo64 (b := 4096) (by decide) (by omega); exact rfl; apply wl_val; apply opv_bin; exact rfl; exact rfl; exact bin_rem (b := 64) (by decide); exact rfl; apply wl_val; apply opv_bin; exact rfl; exact rfl; exact bin_add64 (by omega); exact rfl; apply wl_val; apply opv_convR; exact rfl; exact Try.underlying3; exact Try.underlying5; exact IntWalk.u8_in _ (by omega); exact rfl; refine wl_mv rfl rfl ?_; apply wl_val; apply opv_bin; exact rfl; exact rfl; exact bin_quo64 (b := 64) (by decide) (by omega); exact rfl; apply wl_val; apply opv_bin; exact rfl; exact rfl; exact bin_rem (b := 64) (by decide); exact rfl; apply wl_val; apply opv_bin; exact rfl; exact rfl; exact bin_add64 (by omega); exact rfl; apply wl_val; apply opv_convR; exact rfl; exact Try.underlying3; exact Try.underlying5; exact IntWalk.u8_in _ (by omega); exact rfl; refine wl_mv rfl rfl ?_; apply wl_val; apply opv_bin; exact rfl; exact rfl; exact bin_rem (b := 64) (by decide); exact rfl; apply wl_val; apply opv_bin; exact rfl; exact rfl; exact bin_add64 (by omega); exact rfl; apply wl_val; apply opv_convR; exact rfl; exact Try.underlying3; exact Try.underlying5; exact IntWalk.u8_in _ (by omega); exact rfl
  refine wl_bs (vs := [_, _, _, _]) tyB ⟨rfl, rfl, rfl, rfl, rfl, rfl, rfl, rfl, rfl, rfl, rfl, rfl, trivial⟩ rfl (by decide) rfl fun A w1 o1 hb1 _ => ?_
  refine wl_as rfl rfl ?_; refine wl_ns ?_; refine wc_ret ?_
  exact we_ret1 rfl rfl ⟨_, rfl, own_enc o1 hb1 hcd (enc_four (by omega) (by omega)) (by simp only [bvs, List.map]; rw [bv_of (by omega), bv_of (by omega), bv_of (by omega), bv_of (by omega)]; rfl)⟩

theorem take_snoc' {α : Type} {l : List α} {k : Nat} {x : α} (h : l[k]? = some x) : l.take (k + 1) = l.take k ++ [x] := by
  rw [List.take_add_one, h]; rfl
theorem refFold_any {l : List UInt8} (hl : l.length ≤ 1099511627776) (w : World) : CallsV Try.prog 24 #[str l] w fun v w' => v = str (foldB l) ∧ Below w.heap.size w w' := by
  have hrl := rs_length l
  refine calls_in (N := _) Try.func24 rfl Try.ntmps24 rfl ?_; show WC _ _ _ _ _ _
  refine wc_sr ?_; refine wl_as rfl rfl ?_; refine wl_ns ?_; refine wc_sr ?_; refine wl_mv rfl rfl ?_
  refine wl_call ok_caissonref02_Runes (refRunes_any hl _) ⟨rfl, trivial⟩ rfl ?_
  rintro _ w1 ⟨A, B, c, d, rfl, o1, _, hb1⟩
  have r1 := o1.rd
  refine wl_mv rfl rfl ?_; apply wl_val; apply opv_extract; exact rfl; exact rfl; exact rfl; apply wl_val; apply opv_extract; exact rfl; exact rfl; exact rfl; refine wl_as rfl rfl ?_; refine wl_as rfl rfl ?_; refine wl_ns ?_; refine wc_sr ?_; refine wl_as rfl rfl ?_; refine wl_ns ?_; refine wc_seq ?_; refine wc_sr ?_; refine wl_as rfl rfl ?_; refine wl_ns ?_; refine wc_block ?_
  refine wc_loop (fun L wr m => ∃ (k : Nat) (C : Option Addr) (cc : Nat), L = [(3, .slice A (rs l).length c), (5, .slice C (encs (((rs l).take k).map lowN)).length cc), (6, .int .i64 (k : Int))] ∧ k ≤ (rs l).length ∧ OwB wr w1.heap.size C cc (encs (((rs l).take k).map lowN)) ∧ Below w1.heap.size w1 wr ∧ m = (rs l).length - k)
    [(3, .slice A (rs l).length c), (5, .slice none 0 0), (6, .int .i64 (0 : Nat))] (rs l).length ⟨0, none, 0, rfl, by omega, Ow.nil _ _ _, Below.refl _ _, rfl⟩ ⟨rfl, rfl, rfl, trivial⟩ ?_
  rintro _ w2 m ⟨k, C, cc, rfl, hk, o2, hb2, rfl⟩
  have r2 := r1.below hb2
  have hb := hb1.trans (hb2.mono hb1.size)
  have hel := encs_length (((rs l).take k).map lowN)
  have htl : ((rs l).take k).length ≤ k := List.length_take_le _ _
  rw [List.length_map] at hel
  refine wc_seq ?_; refine wc_sr ?_; refine wl_mv rfl rfl ?_; refine wl_mv rfl rfl ?_; apply wl_val; apply opv_len; exact rfl; exact tyI.sl; exact rfl; refine wl_bin rfl rfl bin_lss rfl ?_; refine wl_ns ?_
  refine wc_cond rfl (fun h1 => ?_) (fun h1 => ?_)
  · obtain ⟨x, hx⟩ : ∃ x, (rs l)[k]? = some x := ⟨_, List.getElem?_eq_getElem (by omega)⟩
    have hxi : ((rs l).map iv)[k]? = some (iv x) := by rw [List.getElem?_map, hx]; rfl
    have hxv := rs_all l x (List.mem_of_getElem? hx)
    have hx1 : x ≤ 1114111 := by unfold Val at hxv; omega
    have hlv := lowN_val hxv
    have hx2 : lowN x ≤ 1114111 := by unfold Val at hlv; omega
    refine wc_skip ?_; refine we_seq ?_; refine wc_seq ?_; refine wc_block ?_; refine wc_region ?_; refine wl_mv rfl rfl ?_; refine wl_mv rfl rfl ?_; refine wl_mv rfl rfl ?_; apply wl_elK (T := tyI) (hr := r2) (hb := hxi); exact rfl; exact rfl; exact rfl; exact rfl; exact rfl; intro _
    refine wl_call ok_caissonref02_Low (refLow_any x hx1 _) ⟨rfl, trivial⟩ rfl ?_
    rintro _ _ ⟨rfl, rfl⟩
    refine wl_call ok_caissonref02_Put (put_any (c := (lowN x : Int)) (by omega) _) ⟨rfl, trivial⟩ rfl ?_
    rintro _ w3 ⟨A3, c3, rfl, o3, hb3⟩
    have o2' := OwB.below o2 hb3
    have hl3 := enc_length (lowN x)
    have hl3' : (Lib.encodeRune (lowN x : Int)).length = (enc (lowN x)).length := rfl
    refine wl_app tyB rfl o2' rfl o3.rd (bvs_one _) (by omega) (by simp only [maxLen]; omega) (by have := hb2.size; have := hb3.size; omega) rfl fun A4 c4 w4 o4 g4 _ => ?_
    have hb4 := g4.below (hb2.trans (hb3.mono hb2.size)) o2' (Nat.le_refl _) (by have := hb2.size; have := hb3.size; omega)
    have e4 : encs (((rs l).take k).map lowN) ++ Lib.encodeRune (lowN x : Int) = encs (((rs l).take (k + 1)).map lowN) := by
      rw [take_snoc' hx, List.map_append, encs_append]; simp [encs]; rfl
    replace o4 := OwB.app o4
    rw [e4] at o4
    refine wl_as rfl rfl ?_; refine wl_nil ?_; refine we_block_norm ?_; refine we_seq ?_; refine wc_region ?_; refine wl_mv rfl rfl ?_; apply wl_val; apply opv_bin; exact rfl; exact rfl; exact bin_add64 (by omega); exact rfl; refine wl_as rfl rfl ?_; refine wl_nil ?_
    refine we_loop [(3, .slice A (rs l).length c), (5, .slice A4 (encs (((rs l).take (k + 1)).map lowN)).length c4), (6, .int .i64 ((k + 1 : Nat) : Int))] ((rs l).length - (k + 1)) ⟨k + 1, A4, c4, rfl, by omega, o4, hb4, rfl⟩ (by omega) ⟨rfl, by rw [← e4, List.length_append]; rfl, by simp [lookT], trivial⟩
  · obtain rfl : k = (rs l).length := by omega
    rw [List.take_of_length_le (Nat.le_refl _)] at o2 ⊢
    refine wc_exit ?_; refine we_seq_exit ?_; refine we_loop_exit ?_; refine we_block_exit ?_; refine we_seq ?_; refine wc_sr ?_; refine wl_mv rfl rfl ?_
    refine wl_val (opv_ofBytes Try.underlying30 Try.underlying5 tyStr rfl o2.rd) rfl ?_
    refine wl_as rfl rfl ?_; refine wl_ns ?_; refine wc_ret ?_
    exact we_ret1 rfl rfl ⟨_, rfl, rfl, hb⟩
end Go.Proofs.Ytcjiecclmepboaa
