/-
  The texts of this proof, joined: Pg, Pd, Ba, Bb, Va, Wb, Wc, Wd, Vb, Vc, Wi, Wj, Wk, Vd, Bc, Nn, Na, Nb, Nc, Nd, Ne, Nf.
-/
import Derived.Test.YtmdbjeabifkimaaCalM2
import Derived.Test.YtmdbjeabifkimaaCalM1
import Derived.RangeFuncFrom
import Derived.RangeFuncLeaves
import Derived.TacticsIn
import Derived.LaidEqlPtr
import Derived.Laws.StructEq

/-
  Plain laws of sealed records. No program in sight.
-/
namespace Go.Proofs.Ytmdbjeabifkimaa

end Go.Proofs.Ytmdbjeabifkimaa

/-
  Plain laws of frames. No program in sight.
-/
namespace Go.Proofs.Ytmdbjeabifkimaa

def framed (l : List (List UInt8)) : List UInt8 := l.flatMap fun r => putU r.length ++ r
/-- The parts behind place q; out: those ahead of it. -/
def partsF : Nat → List UInt8 → Nat → List (List UInt8) → List (List UInt8) × Nat
  | 0, _, _, out => (out, 0)
  | f + 1, b, q, out =>
    if b.length ≤ q then (out, 0)
    else if (getU b q).2.2 = 0 then
      if b.length < (getU b q).2.1.toNat + (getU b q).1 then ([], 5)
      else partsF f b ((getU b q).2.1.toNat + (getU b q).1) (out ++ [(b.take ((getU b q).2.1.toNat + (getU b q).1)).drop (getU b q).2.1.toNat])
    else ([], (getU b q).2.2)
def parts (b : List UInt8) : List (List UInt8) × Nat := partsF b.length b 0 []

theorem putU_pos (n : Nat) : 0 < (putU n).length := by
  rw [putU]; split <;> simp
theorem getU_next {b : List UInt8} {q n : Nat} {x : Int} (h : getU b q = (n, x, 0)) : ∃ k : Nat, x = k ∧ q < k ∧ k ≤ b.length := by
  obtain ⟨q', k, hq, rfl, h1, h2, h3, _⟩ := getU_inv h
  obtain rfl : q = q' := by omega
  have := congrArg List.length h3
  have hp := putU_pos n
  refine ⟨k, rfl, ?_, h2⟩
  simp at this; omega
theorem partsF_end {f : Nat} {b : List UInt8} {q : Nat} {out : List (List UInt8)} (h : b.length ≤ q) : partsF f b q out = (out, 0) := by
  cases f with
  | zero => rfl
  | succ f => rw [partsF, if_pos h]
theorem partsF_err {f : Nat} {b : List UInt8} {q n e : Nat} {x : Int} {out : List (List UInt8)} (h : ¬ b.length ≤ q) (hu : getU b q = (n, x, e)) (he : ¬ e = 0) : partsF (f + 1) b q out = ([], e) := by
  rw [partsF, if_neg h, hu, if_neg he]
theorem partsF_short {f : Nat} {b : List UInt8} {q n k : Nat} {out : List (List UInt8)} (h : ¬ b.length ≤ q) (hu : getU b q = (n, (k : Int), 0)) (hs : b.length < k + n) : partsF (f + 1) b q out = ([], 5) := by
  rw [partsF, if_neg h, hu, if_pos rfl]
  simp only [Int.toNat_natCast]
  rw [if_pos hs]
theorem partsF_step {f : Nat} {b : List UInt8} {q n k : Nat} {out : List (List UInt8)} (h : ¬ b.length ≤ q) (hu : getU b q = (n, (k : Int), 0)) (hs : ¬ b.length < k + n) : partsF (f + 1) b q out = partsF f b (k + n) (out ++ [(b.take (k + n)).drop k]) := by
  rw [partsF, if_neg h, hu, if_pos rfl]
  simp only [Int.toNat_natCast]
  rw [if_neg hs]
/-- How much a list's parts hold, and what error there is. -/
theorem partsF_size : ∀ (f : Nat) (b : List UInt8) (q : Nat) (out : List (List UInt8)), q ≤ b.length → out.length + out.flatten.length ≤ q → (partsF f b q out).1.length + (partsF f b q out).1.flatten.length ≤ b.length
  | 0, b, q, out, hq, h => by simp only [partsF]; omega
  | f + 1, b, q, out, hq, h => by
    by_cases h1 : b.length ≤ q
    · rw [partsF_end h1]; exact Nat.le_trans h hq
    · obtain ⟨n, x, e, hu⟩ : ∃ n x e, getU b q = (n, x, e) := ⟨_, _, _, rfl⟩
      by_cases he : e = 0
      · subst he
        obtain ⟨k, rfl, h2, h3⟩ := getU_next hu
        by_cases hs : b.length < k + n
        · rw [partsF_short h1 hu hs]; simp
        · rw [partsF_step h1 hu hs]
          refine partsF_size f b _ _ (by omega) ?_
          simp only [List.flatten_append, List.flatten_cons, List.flatten_nil, List.length_append, List.length_cons, List.length_nil, List.length_drop, List.length_take]
          omega
      · rw [partsF_err h1 hu he]; simp
theorem getU_mid {pre rest : List UInt8} {n : Nat} (hn : n < 2 ^ 64) : getU (pre ++ (putU n ++ rest)) pre.length = (n, ((pre.length + (putU n).length : Nat) : Int), 0) := by
  have h := getAux_putU rest n 0 0 (by decide) hn (by omega) (.inl rfl)
  have := getU_ok (b := pre ++ (putU n ++ rest)) (q := pre.length) (n := n) (k := (putU n).length) (by simp) (by rw [List.drop_left, h]; simp)
  rw [this]; simp
theorem partsF_framed : ∀ (l : List (List UInt8)) (f : Nat) (pre : List UInt8) (out : List (List UInt8)), (∀ r ∈ l, r.length < 2 ^ 64) → (framed l).length ≤ f → partsF f (pre ++ framed l) pre.length out = (out ++ l, 0)
  | [], f, pre, out, _, _ => by rw [partsF_end (by simp [framed])]; simp
  | r :: l, f, pre, out, hr, hf => by
    have e : framed (r :: l) = putU r.length ++ (r ++ framed l) := by simp [framed]
    rw [e] at hf ⊢
    have hp := putU_pos r.length
    simp only [List.length_append] at hf
    obtain ⟨f, rfl⟩ : ∃ g, f = g + 1 := ⟨f - 1, by omega⟩
    have hg := getU_mid (pre := pre) (rest := r ++ framed l) (hr r (by simp))
    rw [partsF_step (by simp; omega) hg (by simp only [List.length_append]; omega)]
    have hb : pre ++ (putU r.length ++ (r ++ framed l)) = (pre ++ putU r.length ++ r) ++ framed l := by simp
    have hlen : (pre ++ putU r.length ++ r).length = pre.length + (putU r.length).length + r.length := by simp only [List.length_append]
    have hcut : ((pre ++ (putU r.length ++ (r ++ framed l))).take (pre.length + (putU r.length).length + r.length)).drop (pre.length + (putU r.length).length) = r := by
      rw [hb, ← hlen, List.take_left, show pre.length + (putU r.length).length = (pre ++ putU r.length).length by simp, List.drop_left]
    rw [hcut, hb, ← hlen, partsF_framed l f _ _ (fun x hx => hr x (by simp [hx])) (by omega)]
    simp
theorem parts_framed {l : List (List UInt8)} (h : ∀ r ∈ l, r.length < 2 ^ 64) : parts (framed l) = (l, 0) := by
  have := partsF_framed l (framed l).length [] [] h (Nat.le_refl _)
  simpa [parts] using this
theorem framed_take {l : List (List UInt8)} {k : Nat} {x : List UInt8} (h : l[k]? = some x) : framed (l.take (k + 1)) = framed (l.take k) ++ putU x.length ++ x := by
  rw [take_getR h]; simp [framed]
theorem framed_length : ∀ (l : List (List UInt8)), (∀ r ∈ l, r.length < 2 ^ 64) → (framed l).length ≤ l.flatten.length + 10 * l.length
  | [], _ => by simp [framed]
  | x :: l, h => by
    have h1 := framed_length l (fun r hr => h r (by simp [hr]))
    have h2 := putU_le (h x (by simp))
    simp only [framed, List.flatMap_cons, List.length_append, List.flatten_cons, List.length_cons] at h1 ⊢
    omega
theorem framed_take_le (l : List (List UInt8)) (k : Nat) : (framed (l.take k)).length ≤ (framed l).length := by
  have : framed l = framed (l.take k) ++ framed (l.drop k) := by
    rw [framed, framed, framed, ← List.flatMap_append, List.take_append_drop]
  rw [this, List.length_append]; omega
theorem mem_flat {l : List (List UInt8)} {x : List UInt8} (h : x ∈ l) : x.length ≤ l.flatten.length := by
  obtain ⟨k, hk, rfl⟩ := List.getElem_of_mem h
  exact flat_mem (List.getElem?_eq_getElem hk)
end Go.Proofs.Ytmdbjeabifkimaa

/-
  Blocks of entries in plain words: how they are written, how they are read, and that what was written is read back. No program in sight.
-/
namespace Go.Proofs.Ytmdbjeabifkimaa

/-! #### Reading -/
end Go.Proofs.Ytmdbjeabifkimaa

/-
  Blocks in plain words: what Build has written is decoded as the same entries. No program in sight.
-/
namespace Go.Proofs.Ytmdbjeabifkimaa

end Go.Proofs.Ytmdbjeabifkimaa

/-
  Walks over the sum's steps, its table and its bitwise answer.
-/
namespace Go.Proofs.Ytmdbjeabifkimaa
open Go.RowKit

end Go.Proofs.Ytmdbjeabifkimaa

/-
  Walks over PutU of the program and of the reference, inside, and GetU of both.
-/
namespace Go.Proofs.Ytmdbjeabifkimaa
open Go.RowKit

def PutI (w : World) (n : Nat) (s : Nat) : FL → World → Nat → Prop := fun L wr m =>
  ∃ (pre : List UInt8) (A : Option Addr) (c : Nat), L = [(0, .int .u64 m), (s, .slice A pre.length c)] ∧ OwB wr w.heap.size A c pre ∧ putU n = pre ++ putU m ∧ Below w.heap.size w wr ∧ m < 2 ^ (64 - 7 * pre.length) ∧ 7 * pre.length ≤ 63
theorem PutI.start {w : World} {n s : Nat} (hn : n < 2 ^ 64) : PutI w n s [(0, .int .u64 n), (s, .slice none 0 0)] w n :=
  ⟨[], none, 0, rfl, Ow.nil _ _ _, rfl, Below.refl _ _, hn, by decide⟩
theorem PutI.next {w wr w' : World} {n m s : Nat} {pre : List UInt8} {A A' : Option Addr} {c c' : Nat} {v : Value} (hown : OwB wr w.heap.size A c pre) (heq : putU n = pre ++ putU m) (hbel : Below w.heap.size w wr) (hm : m < 2 ^ (64 - 7 * pre.length)) (hl : 7 * pre.length ≤ 63)
    (h : 128 ≤ m) (ho : Ow w' w.heap.size 5 A' (pre.length + 1) c' (bvs pre ++ [v])) (hg : Gr wr w' A) (hv : bv (UInt8.ofNat (m % 128 + 128)) = v) :
    PutI w n s [(0, .int .u64 (m / 128 : Nat)), (s, .slice A' (pre.length + 1) c')] w' (m / 128) := by
  have h7 : 8 ≤ 64 - 7 * pre.length := by
    rcases Nat.lt_or_ge 7 (64 - 7 * pre.length) with h' | h'
    · exact h'
    · have := Nat.lt_of_lt_of_le hm (Nat.pow_le_pow_right (by decide) h'); omega
  refine ⟨pre ++ [UInt8.ofNat (m % 128 + 128)], A', c', by simp, OwB.snoc ho hv, ?_, hg.below hbel hown (Nat.le_refl _) hbel.size, ?_, ?_⟩
  · rw [heq, putU, if_neg (by omega)]; simp
  · refine Nat.div_lt_of_lt_mul ?_
    rw [show 128 = 2 ^ 7 from rfl, ← Nat.pow_add]
    simp only [List.length_append, List.length_cons, List.length_nil]
    rw [show 7 + (64 - 7 * (pre.length + (0 + 1))) = 64 - 7 * pre.length by omega]
    exact hm
  · simp; omega
theorem PutI.last {w wr w' : World} {n m : Nat} {pre : List UInt8} {A A' : Option Addr} {c c' : Nat} {v : Value} (hown : OwB wr w.heap.size A c pre) (heq : putU n = pre ++ putU m) (hbel : Below w.heap.size w wr)
    (h : m < 128) (ho : Ow w' w.heap.size 5 A' (pre.length + 1) c' (bvs pre ++ [v])) (hg : Gr wr w' A) (hv : bv (UInt8.ofNat m) = v) :
    RetB w (putU n) (.slice A' (pre.length + 1) c') w' := by
  have e : putU n = pre ++ [UInt8.ofNat m] := by rw [heq, putU, if_pos h]
  rw [e]
  exact ⟨A', c', by simp, OwB.snoc ho hv, hg.below hbel hown (Nat.le_refl _) hbel.size⟩

theorem putU_any (n : Nat) (hn : n < 2 ^ 64) (w : World) : CallsV Try.prog 50 #[.int .u64 n] w (RetB w (putU n)) := by
  refine calls_in (N := _) Try.func50 rfl Try.ntmps50 rfl ?_; show WC _ _ _ _ _ _
  refine wc_sr ?_; refine wl_as rfl rfl ?_; refine wl_ns ?_; refine wc_sr ?_; refine wl_as rfl rfl ?_; refine wl_ns ?_; refine wc_seq ?_; refine wc_block ?_
  refine wc_loop (PutI w n 3) [(0, .int .u64 n), (3, .slice none 0 0)] n (PutI.start hn) ⟨rfl, rfl, trivial⟩ ?_
  rintro _ wr m ⟨pre, A, c, rfl, hown, heq, hbel, hm, hl⟩
  have hsz := hbel.size
  have hm64 : m < 2 ^ 64 := Nat.lt_of_lt_of_le hm (Nat.pow_le_pow_right (by decide) (by omega))
  refine wc_seq ?_; refine wc_sr ?_; refine wl_mv rfl rfl ?_; refine wl_bin rfl rfl bin_geq rfl ?_; refine wl_ns ?_
  refine wc_cond rfl (fun h => ?_) (fun h => ?_)
  · refine wc_skip ?_; refine we_seq ?_; refine wc_block ?_; refine wc_sr ?_; refine wl_mv rfl rfl ?_; refine wl_mv rfl rfl ?_; apply wl_val; apply opv_convR; exact rfl; exact Try.underlying28; exact Try.underlying5; exact wrap_nat rfl _; exact rfl
    refine wl_val (opv_bin (b := .int .u8 (128 : Nat)) rfl rfl (bin_or rfl (Nat.mod_lt _ (by decide)) (by decide))) rfl ?_
    refine wl_push (vs := [_]) tyB rfl hown ⟨rfl, rfl, rfl, trivial⟩ rfl (by decide) rfl (by omega) (by simp only [maxLen]; omega) hsz rfl rfl fun p A' c' w' ho hg hat => ?_
    refine wl_as rfl rfl ?_; refine wl_ns ?_; refine wc_region ?_; refine wl_mv rfl rfl ?_
    refine wl_val (opv_bin (b := .int .u64 (7 : Nat)) rfl rfl (bin_shr hm64)) rfl ?_
    refine wl_as rfl rfl ?_; refine wl_nil ?_; refine we_block_norm ?_
    refine we_loop _ (m / 128) (PutI.next hown heq hbel hm hl (by omega) ho hg ?_) (by omega) ⟨rfl, rfl, trivial⟩
    rw [bv_of (by omega), show IntKind.u8.bits = 8 from rfl, show 2 ^ 8 = 256 from rfl, or128]
  · refine wc_exit ?_; refine we_seq_exit ?_; refine we_loop_exit ?_; refine we_block_exit ?_; refine we_seq ?_; refine wc_sr ?_; refine wl_mv rfl rfl ?_; refine wl_mv rfl rfl ?_; apply wl_val; apply opv_convR; exact rfl; exact Try.underlying28; exact Try.underlying5; exact IntWalk.u8_in _ (by omega); exact rfl
    refine wl_push (vs := [_]) tyB rfl hown ⟨rfl, rfl, rfl, trivial⟩ rfl (by decide) rfl (by omega) (by simp only [maxLen]; omega) hsz rfl rfl fun p A' c' w' ho hg hat => ?_
    refine wl_as rfl rfl ?_; refine wl_ns ?_; refine wc_ret ?_
    exact we_ret1 rfl rfl ⟨_, rfl, PutI.last hown heq hbel (by omega) ho hg (bv_of (by omega))⟩
theorem inside_any {A : Option Addr} {n c : Nat} (p : Int) (w : World) : CallsV Try.prog 80 #[.slice A n c, .int .i64 p] w fun v w' => v = .bool (decide (0 ≤ p ∧ p ≤ n)) ∧ w = w' := by
  refine calls_in (N := _) Try.func80 rfl Try.ntmps80 rfl ?_; show WC _ _ _ _ _ _
  refine wc_sr ?_; refine wl_as rfl rfl ?_; refine wl_ns ?_; refine wc_sr ?_; refine wl_mv rfl rfl ?_; refine wl_bin rfl rfl bin_geq rfl ?_; refine wl_mv rfl rfl ?_
  refine wl_cutV 5 12 (.bool (decide ((0 ≤ p) ∧ (p ≤ n)))) ?c8 ?_; (case c8 => (dsimp only [List.take]; by_cases hc0 : (0 ≤ p); (focus (apply wl_take; exact rfl; exact rfl; exact rfl; refine bT ?_; (with_reducible assumption); refine wl_mv rfl rfl ?_; apply wl_take; exact rfl; exact rfl; exact rfl; refine bT ?_; (with_reducible assumption); refine wl_mv rfl rfl ?_; apply wl_take; exact rfl; exact rfl; exact rfl; refine bT ?_; (with_reducible assumption); apply wl_val; apply opv_len; exact rfl; exact tyB.sl; exact rfl; apply wl_take; exact rfl; exact rfl; exact rfl; refine bT ?_; (with_reducible assumption); refine wl_bin rfl rfl bin_leq rfl ?_; apply wl_val; apply opv_pickT; exact rfl; refine bT ?_; (with_reducible assumption); exact rfl; exact rfl; refine wl_nil ?_; refine we_cut _ ⟨rfl, rfl⟩ ⟨congrArg (fun b => some (Value.bool b)) ?e8_0, ?s8_0⟩; (case e8_0 => ((simp [hc0]; done))); (case s8_0 => (refine And.intro rfl ?_; refine And.intro rfl ?_; refine And.intro rfl ?_; refine And.intro rfl ?_; refine And.intro rfl ?_; refine And.intro rfl ?_; exact True.intro)))); (focus (apply wl_skip; exact rfl; exact rfl; exact rfl; refine bFn ?_; (with_reducible assumption); exact rfl; apply wl_skip; exact rfl; exact rfl; exact rfl; refine bFn ?_; (with_reducible assumption); exact rfl; apply wl_skip; exact rfl; exact rfl; exact rfl; refine bFn ?_; (with_reducible assumption); exact rfl; apply wl_skip; exact rfl; exact rfl; exact rfl; refine bFn ?_; (with_reducible assumption); exact rfl; apply wl_val; apply opv_pickF; exact rfl; refine bF ?_; (with_reducible assumption); exact rfl; exact rfl; refine wl_nil ?_; refine we_cut _ ⟨rfl, rfl⟩ ⟨congrArg (fun b => some (Value.bool b)) ?e8_1, ?s8_1⟩; (case e8_1 => ((simp [hc0]; done))); (case s8_1 => (refine And.intro rfl ?_; refine And.intro rfl ?_; refine And.intro rfl ?_; refine And.intro rfl ?_; refine And.intro rfl ?_; refine And.intro rfl ?_; exact True.intro)))))); dsimp only [List.drop]
  refine wl_as rfl rfl ?_; refine wl_ns ?_; refine wc_ret ?_
  exact we_ret1 rfl rfl ⟨_, rfl, rfl, rfl⟩
/-- A number, a place and an error are handed back. -/
def RetN (w : World) (r : Nat × Int × Nat) (v : Value) (w' : World) : Prop := v = .tuple #[.int .u64 (r.1 : Int), .int .i64 r.2.1, .int .i64 (r.2.2 : Int)] ∧ Below w.heap.size w w'

theorem getU_any {A : Option Addr} {n c : Nat} {xs : List UInt8} {p : Int} {w : World} (hr : RdB w A xs) (hn : xs.length = n) (hl : xs.length ≤ maxLen) (hp : -9223372036854775808 ≤ p ∧ p ≤ 9223372036854775807) :
    CallsV Try.prog 74 #[.slice A n c, .int .i64 p] w (RetN w (getU xs p)) := by
  subst hn
  have hmx : xs.length ≤ 9223372036854775807 := by simpa only [maxLen] using hl
  clear hl
  refine calls_in (N := _) Try.func74 rfl Try.ntmps74 rfl ?_; show WC _ _ _ _ _ _
  refine wc_sr ?_; refine wl_as rfl rfl ?_; refine wl_as rfl rfl ?_; refine wl_as rfl rfl ?_; refine wl_ns ?_; refine wc_seq ?_; refine wc_sr ?_; refine wl_mv rfl rfl ?_; refine wl_mv rfl rfl ?_
  refine wl_call ok_codec_inside (inside_any p w) ⟨rfl, rfl, trivial⟩ rfl ?_
  rintro _ _ ⟨rfl, rfl⟩
  apply wl_val; apply opv_notD; exact rfl; exact rfl; refine wl_ns ?_
  refine wc_cond rfl (fun h => ?_) (fun h => ?_)
  · refine wc_sr ?_; refine wl_as rfl rfl ?_; refine wl_as rfl rfl ?_; refine wl_as rfl rfl ?_; refine wl_ns ?_; refine wc_ret ?_; refine we_seq_ret ?_
    exact we_ret3 rfl rfl rfl rfl ⟨_, rfl, by rw [getU_arg h]; rfl, Below.refl _ _⟩
  · have h' : 0 ≤ p ∧ p ≤ xs.length := by simpa using h
    obtain ⟨q, rfl⟩ := Int.eq_ofNat_of_zero_le h'.1
    have hq : q ≤ xs.length := by omega
    refine wc_skip ?_; refine we_seq ?_; refine wc_sr ?_; refine wl_as rfl rfl ?_; refine wl_ns ?_; refine wc_seq ?_; refine wc_sr ?_; refine wl_as rfl rfl ?_; refine wl_ns ?_; refine wc_block ?_
    refine wc_loop (fun L wr m => ∃ i n : Nat, L = [(0, .slice A xs.length c), (1, .int .i64 (q : Int)), (7, .int .u64 (n : Int)), (8, .int .i64 (i : Int))] ∧ q + i ≤ xs.length ∧ i ≤ 9 ∧ n < 128 ^ i ∧ getAux 0 0 (xs.drop q) = getAux i n (xs.drop (q + i)) ∧ w = wr ∧ m = xs.length - i)
      [(0, .slice A xs.length c), (1, .int .i64 (q : Int)), (7, .int .u64 (0 : Nat)), (8, .int .i64 (0 : Nat))] xs.length ⟨0, 0, rfl, hq, by omega, by omega, rfl, rfl, rfl⟩ ⟨rfl, rfl, rfl, rfl, trivial⟩ ?_
    rintro _ _ m ⟨i, n, rfl, hqi, hi, hn, heq, rfl, rfl⟩
    refine wc_seq ?_; refine wc_sr ?_; refine wl_mv rfl rfl ?_; refine wl_mv rfl rfl ?_; apply wl_val; apply opv_bin; exact rfl; exact rfl; exact bin_add64 (by omega); exact rfl; refine wl_mv rfl rfl ?_; apply wl_val; apply opv_len; exact rfl; exact tyB.sl; exact rfl; refine wl_bin rfl rfl bin_lss rfl ?_; refine wl_ns ?_
    refine wc_cond rfl (fun h1 => ?_) (fun h1 => ?_)
    · have hlt : q + i < xs.length := by omega
      refine wc_skip ?_; refine we_seq ?_; refine wc_seq ?_; refine wc_block ?_; refine wc_sr ?_; refine wl_mv rfl rfl ?_; refine wl_mv rfl rfl ?_; refine wl_mv rfl rfl ?_; apply wl_val; apply opv_bin; exact rfl; exact rfl; exact bin_add64 (by omega); exact rfl
      refine wl_by (kk := q + i) tyB rfl rfl hr (by simp) hlt rfl rfl fun p1 x hx => ?_
      have hdrop := drop_get hx
      have hx256 := x.toNat_lt
      apply wl_val; apply opv_convR; exact rfl; exact Try.underlying5; exact Try.underlying28; exact IntWalk.u64_in _ (by omega); exact rfl; refine wl_as rfl rfl ?_; refine wl_ns ?_; refine wc_seq ?_; refine wc_sr ?_; refine wl_mv rfl rfl ?_; refine wl_bin rfl rfl bin_eql rfl ?_; refine wl_mv rfl rfl ?_
      refine wl_cutV 3 34 (.bool (decide ((i : Int) = 9 ∧ 1 < (x.toNat : Int)))) ?c22 ?_; (case c22 => (dsimp only [List.take]; by_cases hc0 : ((i : Int) = 9); (focus (by_cases hc1 : (1 < (x.toNat : Int)); (focus (apply wl_take; exact rfl; exact rfl; exact rfl; refine bT ?_; (with_reducible assumption); refine wl_mv rfl rfl ?_; apply wl_take; exact rfl; exact rfl; exact rfl; refine bT ?_; (with_reducible assumption); refine wl_bin rfl rfl bin_gtr rfl ?_; apply wl_val; apply opv_pickT; exact rfl; refine bT ?_; (with_reducible assumption); exact rfl; exact rfl; refine wl_nil ?_; refine we_cut _ ⟨rfl, rfl⟩ ⟨congrArg (fun b => some (Value.bool b)) ?e22_0, ?s22_0⟩; (case e22_0 => ((simp [hc0, hc1]; done))); (case s22_0 => (refine And.intro rfl ?_; refine And.intro rfl ?_; refine And.intro rfl ?_; refine And.intro rfl ?_; refine And.intro rfl ?_; refine And.intro rfl ?_; refine And.intro rfl ?_; refine And.intro rfl ?_; refine And.intro rfl ?_; refine And.intro rfl ?_; refine And.intro rfl ?_; refine And.intro rfl ?_; refine And.intro rfl ?_; refine And.intro rfl ?_; refine And.intro rfl ?_; refine And.intro rfl ?_; refine And.intro rfl ?_; refine And.intro rfl ?_; refine And.intro rfl ?_; refine And.intro rfl ?_; refine And.intro rfl ?_; exact True.intro)))); (focus (apply wl_take; exact rfl; exact rfl; exact rfl; refine bT ?_; (with_reducible assumption); refine wl_mv rfl rfl ?_; apply wl_take; exact rfl; exact rfl; exact rfl; refine bT ?_; (with_reducible assumption); refine wl_bin rfl rfl bin_gtr rfl ?_; apply wl_val; apply opv_pickT; exact rfl; refine bT ?_; (with_reducible assumption); exact rfl; exact rfl; refine wl_nil ?_; refine we_cut _ ⟨rfl, rfl⟩ ⟨congrArg (fun b => some (Value.bool b)) ?e22_1, ?s22_1⟩; (case e22_1 => ((simp [hc0, hc1]; done))); (case s22_1 => (refine And.intro rfl ?_; refine And.intro rfl ?_; refine And.intro rfl ?_; refine And.intro rfl ?_; refine And.intro rfl ?_; refine And.intro rfl ?_; refine And.intro rfl ?_; refine And.intro rfl ?_; refine And.intro rfl ?_; refine And.intro rfl ?_; refine And.intro rfl ?_; refine And.intro rfl ?_; refine And.intro rfl ?_; refine And.intro rfl ?_; refine And.intro rfl ?_; refine And.intro rfl ?_; refine And.intro rfl ?_; refine And.intro rfl ?_; refine And.intro rfl ?_; refine And.intro rfl ?_; refine And.intro rfl ?_; exact True.intro)))))); (focus (by_cases hc1 : (1 < (x.toNat : Int)); (focus (apply wl_skip; exact rfl; exact rfl; exact rfl; refine bFn ?_; (with_reducible assumption); exact rfl; apply wl_skip; exact rfl; exact rfl; exact rfl; refine bFn ?_; (with_reducible assumption); exact rfl; apply wl_val; apply opv_pickF; exact rfl; refine bF ?_; (with_reducible assumption); exact rfl; exact rfl; refine wl_nil ?_; refine we_cut _ ⟨rfl, rfl⟩ ⟨congrArg (fun b => some (Value.bool b)) ?e22_2, ?s22_2⟩; (case e22_2 => ((simp [hc0, hc1]; done))); (case s22_2 => (refine And.intro rfl ?_; refine And.intro rfl ?_; refine And.intro rfl ?_; refine And.intro rfl ?_; refine And.intro rfl ?_; refine And.intro rfl ?_; refine And.intro rfl ?_; refine And.intro rfl ?_; refine And.intro rfl ?_; refine And.intro rfl ?_; refine And.intro rfl ?_; refine And.intro rfl ?_; refine And.intro rfl ?_; refine And.intro rfl ?_; refine And.intro rfl ?_; refine And.intro rfl ?_; refine And.intro rfl ?_; refine And.intro rfl ?_; refine And.intro rfl ?_; refine And.intro rfl ?_; refine And.intro rfl ?_; exact True.intro)))); (focus (apply wl_skip; exact rfl; exact rfl; exact rfl; refine bFn ?_; (with_reducible assumption); exact rfl; apply wl_skip; exact rfl; exact rfl; exact rfl; refine bFn ?_; (with_reducible assumption); exact rfl; apply wl_val; apply opv_pickF; exact rfl; refine bF ?_; (with_reducible assumption); exact rfl; exact rfl; refine wl_nil ?_; refine we_cut _ ⟨rfl, rfl⟩ ⟨congrArg (fun b => some (Value.bool b)) ?e22_3, ?s22_3⟩; (case e22_3 => ((simp [hc0, hc1]; done))); (case s22_3 => (refine And.intro rfl ?_; refine And.intro rfl ?_; refine And.intro rfl ?_; refine And.intro rfl ?_; refine And.intro rfl ?_; refine And.intro rfl ?_; refine And.intro rfl ?_; refine And.intro rfl ?_; refine And.intro rfl ?_; refine And.intro rfl ?_; refine And.intro rfl ?_; refine And.intro rfl ?_; refine And.intro rfl ?_; refine And.intro rfl ?_; refine And.intro rfl ?_; refine And.intro rfl ?_; refine And.intro rfl ?_; refine And.intro rfl ?_; refine And.intro rfl ?_; refine And.intro rfl ?_; refine And.intro rfl ?_; exact True.intro)))))))); dsimp only [List.drop]
      refine wl_mv rfl rfl ?_
      refine wl_cutV 7 42 (.bool (decide (((i : Int) = 9 ∧ 1 < (x.toNat : Int)) ∨ ((x.toNat : Int) = 0 ∧ 0 < (i : Int))))) ?c35 ?_; (case c35 => (dsimp only [List.take]; by_cases hc0 : ((i : Int) = 9 ∧ 1 < (x.toNat : Int)); (focus (by_cases hc1 : ((x.toNat : Int) = 0); (focus (by_cases hc2 : (0 < (i : Int)); (focus (apply wl_take; exact rfl; exact rfl; exact rfl; refine bF ?_; omega; refine wl_mv rfl rfl ?_; apply wl_take; exact rfl; exact rfl; exact rfl; refine bF ?_; omega; refine wl_bin rfl rfl bin_eql rfl ?_; apply wl_take; exact rfl; exact rfl; exact rfl; refine bF ?_; omega; refine wl_mv rfl rfl ?_; apply wl_take; exact rfl; exact rfl; exact rfl; refine bT ?_; (with_reducible assumption); refine wl_mv rfl rfl ?_; apply wl_take; exact rfl; exact rfl; exact rfl; refine bT ?_; (with_reducible assumption); refine wl_bin rfl rfl bin_gtr rfl ?_; apply wl_take; exact rfl; exact rfl; exact rfl; refine bF ?_; omega; apply wl_val; apply opv_pickT; exact rfl; refine bT ?_; (with_reducible assumption); exact rfl; exact rfl; apply wl_val; apply opv_pickT; exact rfl; refine bT ?_; (with_reducible assumption); exact rfl; exact rfl; refine wl_nil ?_; refine we_cut _ ⟨rfl, rfl⟩ ⟨congrArg (fun b => some (Value.bool b)) ?e35_0, ?s35_0⟩; (case e35_0 => ((simp [hc0, hc1, hc2]; done))); (case s35_0 => (refine And.intro rfl ?_; refine And.intro rfl ?_; refine And.intro rfl ?_; refine And.intro rfl ?_; refine And.intro rfl ?_; refine And.intro rfl ?_; refine And.intro rfl ?_; refine And.intro rfl ?_; refine And.intro rfl ?_; refine And.intro rfl ?_; refine And.intro rfl ?_; refine And.intro rfl ?_; refine And.intro rfl ?_; refine And.intro rfl ?_; refine And.intro rfl ?_; refine And.intro rfl ?_; refine And.intro rfl ?_; refine And.intro rfl ?_; refine And.intro rfl ?_; refine And.intro rfl ?_; refine And.intro rfl ?_; refine And.intro rfl ?_; refine And.intro rfl ?_; exact True.intro)))); (focus (apply wl_take; exact rfl; exact rfl; exact rfl; refine bF ?_; omega; refine wl_mv rfl rfl ?_; apply wl_take; exact rfl; exact rfl; exact rfl; refine bF ?_; omega; refine wl_bin rfl rfl bin_eql rfl ?_; apply wl_take; exact rfl; exact rfl; exact rfl; refine bF ?_; omega; refine wl_mv rfl rfl ?_; apply wl_take; exact rfl; exact rfl; exact rfl; refine bT ?_; (with_reducible assumption); refine wl_mv rfl rfl ?_; apply wl_take; exact rfl; exact rfl; exact rfl; refine bT ?_; (with_reducible assumption); refine wl_bin rfl rfl bin_gtr rfl ?_; apply wl_take; exact rfl; exact rfl; exact rfl; refine bF ?_; omega; apply wl_val; apply opv_pickT; exact rfl; refine bT ?_; (with_reducible assumption); exact rfl; exact rfl; apply wl_val; apply opv_pickT; exact rfl; refine bT ?_; (with_reducible assumption); exact rfl; exact rfl; refine wl_nil ?_; refine we_cut _ ⟨rfl, rfl⟩ ⟨congrArg (fun b => some (Value.bool b)) ?e35_1, ?s35_1⟩; (case e35_1 => ((simp [hc0, hc1, hc2]; done))); (case s35_1 => (refine And.intro rfl ?_; refine And.intro rfl ?_; refine And.intro rfl ?_; refine And.intro rfl ?_; refine And.intro rfl ?_; refine And.intro rfl ?_; refine And.intro rfl ?_; refine And.intro rfl ?_; refine And.intro rfl ?_; refine And.intro rfl ?_; refine And.intro rfl ?_; refine And.intro rfl ?_; refine And.intro rfl ?_; refine And.intro rfl ?_; refine And.intro rfl ?_; refine And.intro rfl ?_; refine And.intro rfl ?_; refine And.intro rfl ?_; refine And.intro rfl ?_; refine And.intro rfl ?_; refine And.intro rfl ?_; refine And.intro rfl ?_; refine And.intro rfl ?_; exact True.intro)))))); (focus (by_cases hc2 : (0 < (i : Int)); (focus (apply wl_skip; exact rfl; exact rfl; exact rfl; refine bTn ?_; (with_reducible assumption); exact rfl; apply wl_skip; exact rfl; exact rfl; exact rfl; refine bTn ?_; (with_reducible assumption); exact rfl; apply wl_skip; exact rfl; exact rfl; exact rfl; refine bTn ?_; (with_reducible assumption); exact rfl; apply wl_skipU; exact rfl; exact rfl; exact rfl; exact rfl; apply wl_skipU; exact rfl; exact rfl; exact rfl; exact rfl; apply wl_skip; exact rfl; exact rfl; exact rfl; refine bTn ?_; (with_reducible assumption); exact rfl; apply wl_val; apply opv_pickT; exact rfl; refine bT ?_; (with_reducible assumption); exact rfl; exact rfl; refine wl_nil ?_; refine we_cut _ ⟨rfl, rfl⟩ ⟨congrArg (fun b => some (Value.bool b)) ?e35_2, ?s35_2⟩; (case e35_2 => ((simp [hc0, hc1, hc2]; done))); (case s35_2 => (refine And.intro rfl ?_; refine And.intro rfl ?_; refine And.intro rfl ?_; refine And.intro rfl ?_; refine And.intro rfl ?_; refine And.intro rfl ?_; refine And.intro rfl ?_; refine And.intro rfl ?_; refine And.intro rfl ?_; refine And.intro rfl ?_; refine And.intro rfl ?_; refine And.intro rfl ?_; refine And.intro rfl ?_; refine And.intro rfl ?_; refine And.intro rfl ?_; refine And.intro rfl ?_; refine And.intro rfl ?_; refine And.intro rfl ?_; refine And.intro rfl ?_; refine And.intro rfl ?_; refine And.intro rfl ?_; refine And.intro rfl ?_; refine And.intro rfl ?_; exact True.intro)))); (focus (apply wl_take; exact rfl; exact rfl; exact rfl; refine bF ?_; omega; refine wl_mv rfl rfl ?_; apply wl_take; exact rfl; exact rfl; exact rfl; refine bF ?_; omega; refine wl_bin rfl rfl bin_eql rfl ?_; apply wl_take; exact rfl; exact rfl; exact rfl; refine bF ?_; omega; refine wl_mv rfl rfl ?_; apply wl_take; exact rfl; exact rfl; exact rfl; refine bT ?_; omega; refine wl_mv rfl rfl ?_; apply wl_take; exact rfl; exact rfl; exact rfl; refine bT ?_; omega; refine wl_bin rfl rfl bin_gtr rfl ?_; apply wl_take; exact rfl; exact rfl; exact rfl; refine bF ?_; omega; apply wl_val; apply opv_pickT; exact rfl; refine bT ?_; omega; exact rfl; exact rfl; apply wl_val; apply opv_pickT; exact rfl; refine bT ?_; (with_reducible assumption); exact rfl; exact rfl; refine wl_nil ?_; refine we_cut _ ⟨rfl, rfl⟩ ⟨congrArg (fun b => some (Value.bool b)) ?e35_3, ?s35_3⟩; (case e35_3 => ((simp [hc0, hc1, hc2]; done))); (case s35_3 => (refine And.intro rfl ?_; refine And.intro rfl ?_; refine And.intro rfl ?_; refine And.intro rfl ?_; refine And.intro rfl ?_; refine And.intro rfl ?_; refine And.intro rfl ?_; refine And.intro rfl ?_; refine And.intro rfl ?_; refine And.intro rfl ?_; refine And.intro rfl ?_; refine And.intro rfl ?_; refine And.intro rfl ?_; refine And.intro rfl ?_; refine And.intro rfl ?_; refine And.intro rfl ?_; refine And.intro rfl ?_; refine And.intro rfl ?_; refine And.intro rfl ?_; refine And.intro rfl ?_; refine And.intro rfl ?_; refine And.intro rfl ?_; refine And.intro rfl ?_; exact True.intro)))))))); (focus (by_cases hc1 : ((x.toNat : Int) = 0); (focus (by_cases hc2 : (0 < (i : Int)); (focus (apply wl_take; exact rfl; exact rfl; exact rfl; refine bF ?_; (with_reducible assumption); refine wl_mv rfl rfl ?_; apply wl_take; exact rfl; exact rfl; exact rfl; refine bF ?_; (with_reducible assumption); refine wl_bin rfl rfl bin_eql rfl ?_; apply wl_take; exact rfl; exact rfl; exact rfl; refine bF ?_; (with_reducible assumption); refine wl_mv rfl rfl ?_; apply wl_take; exact rfl; exact rfl; exact rfl; refine bT ?_; (with_reducible assumption); refine wl_mv rfl rfl ?_; apply wl_take; exact rfl; exact rfl; exact rfl; refine bT ?_; (with_reducible assumption); refine wl_bin rfl rfl bin_gtr rfl ?_; apply wl_take; exact rfl; exact rfl; exact rfl; refine bF ?_; (with_reducible assumption); apply wl_val; apply opv_pickT; exact rfl; refine bT ?_; (with_reducible assumption); exact rfl; exact rfl; apply wl_val; apply opv_pickF; exact rfl; refine bF ?_; (with_reducible assumption); exact rfl; exact rfl; refine wl_nil ?_; refine we_cut _ ⟨rfl, rfl⟩ ⟨congrArg (fun b => some (Value.bool b)) ?e35_4, ?s35_4⟩; (case e35_4 => ((simp [hc0, hc1, hc2]; done))); (case s35_4 => (refine And.intro rfl ?_; refine And.intro rfl ?_; refine And.intro rfl ?_; refine And.intro rfl ?_; refine And.intro rfl ?_; refine And.intro rfl ?_; refine And.intro rfl ?_; refine And.intro rfl ?_; refine And.intro rfl ?_; refine And.intro rfl ?_; refine And.intro rfl ?_; refine And.intro rfl ?_; refine And.intro rfl ?_; refine And.intro rfl ?_; refine And.intro rfl ?_; refine And.intro rfl ?_; refine And.intro rfl ?_; refine And.intro rfl ?_; refine And.intro rfl ?_; refine And.intro rfl ?_; refine And.intro rfl ?_; refine And.intro rfl ?_; refine And.intro rfl ?_; exact True.intro)))); (focus (apply wl_take; exact rfl; exact rfl; exact rfl; refine bF ?_; (with_reducible assumption); refine wl_mv rfl rfl ?_; apply wl_take; exact rfl; exact rfl; exact rfl; refine bF ?_; (with_reducible assumption); refine wl_bin rfl rfl bin_eql rfl ?_; apply wl_take; exact rfl; exact rfl; exact rfl; refine bF ?_; (with_reducible assumption); refine wl_mv rfl rfl ?_; apply wl_take; exact rfl; exact rfl; exact rfl; refine bT ?_; (with_reducible assumption); refine wl_mv rfl rfl ?_; apply wl_take; exact rfl; exact rfl; exact rfl; refine bT ?_; (with_reducible assumption); refine wl_bin rfl rfl bin_gtr rfl ?_; apply wl_take; exact rfl; exact rfl; exact rfl; refine bF ?_; (with_reducible assumption); apply wl_val; apply opv_pickT; exact rfl; refine bT ?_; (with_reducible assumption); exact rfl; exact rfl; apply wl_val; apply opv_pickF; exact rfl; refine bF ?_; (with_reducible assumption); exact rfl; exact rfl; refine wl_nil ?_; refine we_cut _ ⟨rfl, rfl⟩ ⟨congrArg (fun b => some (Value.bool b)) ?e35_5, ?s35_5⟩; (case e35_5 => ((simp [hc0, hc1, hc2]; done))); (case s35_5 => (refine And.intro rfl ?_; refine And.intro rfl ?_; refine And.intro rfl ?_; refine And.intro rfl ?_; refine And.intro rfl ?_; refine And.intro rfl ?_; refine And.intro rfl ?_; refine And.intro rfl ?_; refine And.intro rfl ?_; refine And.intro rfl ?_; refine And.intro rfl ?_; refine And.intro rfl ?_; refine And.intro rfl ?_; refine And.intro rfl ?_; refine And.intro rfl ?_; refine And.intro rfl ?_; refine And.intro rfl ?_; refine And.intro rfl ?_; refine And.intro rfl ?_; refine And.intro rfl ?_; refine And.intro rfl ?_; refine And.intro rfl ?_; refine And.intro rfl ?_; exact True.intro)))))); (focus (by_cases hc2 : (0 < (i : Int)); (focus (apply wl_take; exact rfl; exact rfl; exact rfl; refine bF ?_; (with_reducible assumption); refine wl_mv rfl rfl ?_; apply wl_take; exact rfl; exact rfl; exact rfl; refine bF ?_; (with_reducible assumption); refine wl_bin rfl rfl bin_eql rfl ?_; apply wl_take; exact rfl; exact rfl; exact rfl; refine bF ?_; (with_reducible assumption); refine wl_mv rfl rfl ?_; apply wl_skip; exact rfl; exact rfl; exact rfl; refine bFn ?_; (with_reducible assumption); exact rfl; apply wl_skip; exact rfl; exact rfl; exact rfl; refine bFn ?_; (with_reducible assumption); exact rfl; apply wl_take; exact rfl; exact rfl; exact rfl; refine bF ?_; (with_reducible assumption); apply wl_val; apply opv_pickF; exact rfl; refine bF ?_; (with_reducible assumption); exact rfl; exact rfl; apply wl_val; apply opv_pickF; exact rfl; refine bF ?_; (with_reducible assumption); exact rfl; exact rfl; refine wl_nil ?_; refine we_cut _ ⟨rfl, rfl⟩ ⟨congrArg (fun b => some (Value.bool b)) ?e35_6, ?s35_6⟩; (case e35_6 => ((rw [Bool.eq_iff_iff]; simp only [decide_eq_true_eq, Bool.false_eq_true, true_iff, false_iff]; omega))); (case s35_6 => (refine And.intro rfl ?_; refine And.intro rfl ?_; refine And.intro rfl ?_; refine And.intro rfl ?_; refine And.intro rfl ?_; refine And.intro rfl ?_; refine And.intro rfl ?_; refine And.intro rfl ?_; refine And.intro rfl ?_; refine And.intro rfl ?_; refine And.intro rfl ?_; refine And.intro rfl ?_; refine And.intro rfl ?_; refine And.intro rfl ?_; refine And.intro rfl ?_; refine And.intro rfl ?_; refine And.intro rfl ?_; refine And.intro rfl ?_; refine And.intro rfl ?_; refine And.intro rfl ?_; refine And.intro rfl ?_; refine And.intro rfl ?_; refine And.intro rfl ?_; exact True.intro)))); (focus (apply wl_take; exact rfl; exact rfl; exact rfl; refine bF ?_; (with_reducible assumption); refine wl_mv rfl rfl ?_; apply wl_take; exact rfl; exact rfl; exact rfl; refine bF ?_; (with_reducible assumption); refine wl_bin rfl rfl bin_eql rfl ?_; apply wl_take; exact rfl; exact rfl; exact rfl; refine bF ?_; (with_reducible assumption); refine wl_mv rfl rfl ?_; apply wl_skip; exact rfl; exact rfl; exact rfl; refine bFn ?_; (with_reducible assumption); exact rfl; apply wl_skip; exact rfl; exact rfl; exact rfl; refine bFn ?_; (with_reducible assumption); exact rfl; apply wl_take; exact rfl; exact rfl; exact rfl; refine bF ?_; (with_reducible assumption); apply wl_val; apply opv_pickF; exact rfl; refine bF ?_; (with_reducible assumption); exact rfl; exact rfl; apply wl_val; apply opv_pickF; exact rfl; refine bF ?_; (with_reducible assumption); exact rfl; exact rfl; refine wl_nil ?_; refine we_cut _ ⟨rfl, rfl⟩ ⟨congrArg (fun b => some (Value.bool b)) ?e35_7, ?s35_7⟩; (case e35_7 => ((rw [Bool.eq_iff_iff]; simp only [decide_eq_true_eq, Bool.false_eq_true, true_iff, false_iff]; omega))); (case s35_7 => (refine And.intro rfl ?_; refine And.intro rfl ?_; refine And.intro rfl ?_; refine And.intro rfl ?_; refine And.intro rfl ?_; refine And.intro rfl ?_; refine And.intro rfl ?_; refine And.intro rfl ?_; refine And.intro rfl ?_; refine And.intro rfl ?_; refine And.intro rfl ?_; refine And.intro rfl ?_; refine And.intro rfl ?_; refine And.intro rfl ?_; refine And.intro rfl ?_; refine And.intro rfl ?_; refine And.intro rfl ?_; refine And.intro rfl ?_; refine And.intro rfl ?_; refine And.intro rfl ?_; refine And.intro rfl ?_; refine And.intro rfl ?_; refine And.intro rfl ?_; exact True.intro)))))))))); dsimp only [List.drop]
      refine wl_ns ?_
      refine wc_cond rfl (fun h2 => ?_) (fun h2 => ?_)
      · refine wc_sr ?_; refine wl_as rfl rfl ?_; refine wl_as rfl rfl ?_; refine wl_as rfl rfl ?_; refine wl_ns ?_; refine wc_ret ?_; refine we_seq_ret ?_; refine we_block_ret ?_; refine we_seq_ret ?_; refine we_loop_ret ?_; refine we_block_ret ?_; refine we_seq_ret ?_
        have e := getU_bad hq (heq.trans (by rw [hdrop]; exact getAux_form (by omega)))
        exact we_ret3 rfl rfl rfl rfl ⟨_, rfl, by rw [e]; rfl, Below.refl _ _⟩
      · have h3 : ¬ ((i = 9 ∧ 1 < x.toNat) ∨ (x.toNat = 0 ∧ 0 < i)) := by omega
        refine wc_skip ?_; refine we_seq ?_; refine wc_sr ?_; refine wl_mv rfl rfl ?_; refine wl_mv rfl rfl ?_
        refine wl_val (opv_bin (b := .int .u64 (128 : Nat)) rfl rfl (bin_andNot rfl (Nat.lt_trans hx256 (by decide)) (by decide))) rfl ?_
        refine wl_mv rfl rfl ?_
        refine wl_val (opv_bin (a := .int .i64 (7 : Nat)) rfl rfl (bin_mulN (by omega))) rfl ?_
        skip
        refine wl_val (opv_bin rfl rfl (bin_shl rfl)) rfl ?_
        have e9 : (128 : Nat) ^ i ≤ 128 ^ 9 := Nat.pow_le_pow_right (by decide) hi
        have hsum := sum_lt hn hi (x := x.toNat) (by omega)
        have hn64 : n < 2 ^ IntKind.u64.bits := by rw [pow128_9] at e9; simp only [IntKind.bits]; omega
        have hor : (n ||| (x.toNat &&& 2 ^ IntKind.u64.bits - 1 - 128) * 2 ^ (7 * i) % 2 ^ IntKind.u64.bits) = n + x.toNat % 128 * 128 ^ i := by
          rw [show 2 ^ IntKind.u64.bits - 1 - 128 = 18446744073709551615 - 128 from rfl, andNot128]
          have e : (128 : Nat) ^ i = 2 ^ (7 * i) := by rw [Nat.pow_mul]
          rw [← e, Nat.mod_eq_of_lt (by simp only [IntKind.bits]; omega), e, or_shift hn, e]
        refine wl_val (opv_bin rfl rfl ((bin_or rfl hn64 (Nat.mod_lt _ (by decide))).to (by rw [hor]))) rfl ?_
        refine wl_as rfl rfl ?_; refine wl_ns ?_; refine wc_sr ?_; refine wl_mv rfl rfl ?_; refine wl_bin rfl rfl bin_lss rfl ?_; refine wl_ns ?_
        refine wc_cond rfl (fun h4 => ?_) (fun h4 => ?_)
        · refine wc_sr ?_; refine wl_mv rfl rfl ?_; refine wl_mv rfl rfl ?_; refine wl_mv rfl rfl ?_; apply wl_val; apply opv_bin; exact rfl; exact rfl; exact bin_add64 (by omega); exact rfl; apply wl_val; apply opv_bin; exact rfl; exact rfl; exact bin_add64 (by omega); exact rfl; refine wl_as rfl rfl ?_; refine wl_as rfl rfl ?_; refine wl_as rfl rfl ?_; refine wl_ns ?_; refine wc_ret ?_; refine we_block_ret ?_; refine we_seq_ret ?_; refine we_loop_ret ?_; refine we_block_ret ?_; refine we_seq_ret ?_
          have e := getU_ok hq (heq.trans (by rw [hdrop]; exact getAux_last h3 (by omega)))
          refine we_ret3 rfl rfl rfl rfl ⟨_, rfl, ?_, Below.refl _ _⟩
          rw [e]
          have : ((q : Int) + ↑(i + 1)) = q + i + 1 := by omega
          rw [this]; rfl
        · have hi9 : i ≤ 8 := by omega
          refine wc_skip ?_; refine we_block_norm ?_; refine we_seq ?_; refine wc_region ?_; refine wl_mv rfl rfl ?_; apply wl_val; apply opv_bin; exact rfl; exact rfl; exact bin_add64 (by omega); exact rfl; refine wl_as rfl rfl ?_; refine wl_nil ?_
          refine we_loop [(0, .slice A xs.length c), (1, .int .i64 (q : Int)), (7, .int .u64 ((n + x.toNat % 128 * 128 ^ i : Nat) : Int)), (8, .int .i64 ((i + 1 : Nat) : Int))] (xs.length - (i + 1)) ⟨i + 1, _, rfl, by omega, by omega, group_lt hn (Nat.mod_lt _ (by decide)), ?_, rfl, rfl⟩ (by omega) ⟨rfl, rfl, rfl, rfl, trivial⟩
          rw [heq, hdrop, getAux_step h3 (by omega)]; rfl
    · refine wc_exit ?_; refine we_seq_exit ?_; refine we_loop_exit ?_; refine we_block_exit ?_; refine we_seq ?_; refine wc_sr ?_; refine wl_as rfl rfl ?_; refine wl_as rfl rfl ?_; refine wl_as rfl rfl ?_; refine wl_ns ?_; refine wc_ret ?_
      have hqe : q + i = xs.length := by omega
      have e := getU_bad hq (heq.trans (by rw [hqe, List.drop_length]; rfl))
      exact we_ret3 rfl rfl rfl rfl ⟨_, rfl, by rw [e]; rfl, Below.refl _ _⟩

theorem getU_at {A : Option Addr} {n c : Nat} {xs : List UInt8} {p : Int} {w : World} {v e : Nat} {x : Int} (h : getU xs p = (v, x, e)) (hr : RdB w A xs) (hn : xs.length = n) (hl : xs.length ≤ maxLen) (hp : -9223372036854775808 ≤ p ∧ p ≤ 9223372036854775807) :
    CallsV Try.prog 74 #[.slice A n c, .int .i64 p] w fun u w' => u = .tuple #[.int .u64 (v : Int), .int .i64 x, .int .i64 (e : Int)] ∧ Below w.heap.size w w' := by
  have := getU_any (c := c) hr hn hl hp
  rw [h] at this
  exact this
end Go.Proofs.Ytmdbjeabifkimaa

/-
  Walks over OrdText of the program and of the reference.
-/
namespace Go.Proofs.Ytmdbjeabifkimaa
open Go.RowKit

end Go.Proofs.Ytmdbjeabifkimaa

/-
  Walks over the fixed fact of layer 1's statements, and over the law CodecNumbers.
-/
namespace Go.Proofs.Ytmdbjeabifkimaa
open Go.RowKit

end Go.Proofs.Ytmdbjeabifkimaa

/-
  Walks over the sum of the program and of the reference, and over what the statements use.
-/
namespace Go.Proofs.Ytmdbjeabifkimaa
open Go.RowKit

end Go.Proofs.Ytmdbjeabifkimaa

/-
  The fixed fact of layer 3's statements, and the walk over the law CrcSums.
-/
namespace Go.Proofs.Ytmdbjeabifkimaa
open Go.RowKit

theorem RdBB.one {w : World} {A A1 : Option Addr} {c1 : Nat} {r : List UInt8} (h : Rd w A 1 [.slice A1 r.length c1]) (h1 : RdB w A1 r) (hc : r.length ≤ c1) : RdBB w A [r] :=
  ⟨_, h, fun i q hi => by
    cases i with
    | zero => simp only [List.getElem?_cons_zero, Option.some.injEq] at hi; subst hi; exact ⟨A1, c1, rfl, h1, hc⟩
    | succ i => simp at hi⟩
end Go.Proofs.Ytmdbjeabifkimaa

/-
  Walks over Frame and Parts of the program and of the references.
-/
namespace Go.Proofs.Ytmdbjeabifkimaa
open Go.RowKit

theorem frame_any {A : Option Addr} {n c : Nat} {rows : List (List UInt8)} {w : World} (hr : RdBB w A rows) (hn : rows.length = n) (hl : rows.flatten.length + 10 * rows.length ≤ 17592186044416) : CallsV Try.prog 53 #[.slice A n c] w (RetB w (framed rows)) := by
  subst hn
  have hfl := framed_length rows (fun r h => by have := mem_flat h; omega)
  refine calls_in (N := _) Try.func53 rfl Try.ntmps53 rfl ?_; show WC _ _ _ _ _ _
  refine wc_sr ?_; refine wl_as rfl rfl ?_; refine wl_ns ?_; refine wc_sr ?_; refine wl_as rfl rfl ?_; refine wl_ns ?_; refine wc_seq ?_; refine wc_sr ?_; refine wl_mv rfl rfl ?_; apply wl_val; apply opv_len; exact rfl; exact tyBB.sl; exact rfl; refine wl_mv rfl rfl ?_; refine wl_ns ?_; refine wc_block ?_
  refine wc_loop (fun L wr m => ∃ (k : Nat) (P : Option Addr) (cp : Nat), L = [(3, .slice P (framed (rows.take k)).length cp), (6, .slice A rows.length c), (7, .int .i64 (rows.length : Int)), (8, .int .i64 (k : Int))] ∧ k ≤ rows.length ∧ OwB wr w.heap.size P cp (framed (rows.take k)) ∧ Below w.heap.size w wr ∧ m = rows.length - k)
    [(3, .slice none 0 0), (6, .slice A rows.length c), (7, .int .i64 (rows.length : Int)), (8, .int .i64 (0 : Nat))] rows.length ⟨0, none, 0, rfl, by omega, Ow.nil _ _ _, Below.refl _ _, rfl⟩ ⟨rfl, rfl, rfl, rfl, trivial⟩ ?_
  rintro _ w1 m ⟨k, P, cp, rfl, hk, o1, hb1, rfl⟩
  have hle := framed_take_le rows k
  refine wc_sr ?_; refine wl_bin rfl rfl bin_lss rfl ?_; refine wl_ns ?_; refine wc_seq ?_
  refine wc_cond rfl (fun h1 => ?_) (fun h1 => ?_)
  · obtain ⟨x, hx⟩ : ∃ x, rows[k]? = some x := ⟨_, List.getElem?_eq_getElem (by omega)⟩
    obtain ⟨vs, X, cx, hv0, hvk, rx, hcx⟩ := hr.at hx
    have hv := hv0.below hb1
    have hxm := flat_mem hx
    have hpl := putU_le (n := x.length) (by omega)
    have hle2 := framed_take_le rows (k + 1)
    have e2 := framed_take hx
    have e3 := congrArg List.length e2
    simp only [List.length_append] at e3
    refine wc_skip ?_; refine we_seq ?_; refine wc_seq ?_; refine wc_block ?_; refine wc_sr ?_; apply wl_elK (T := tyBB) (hr := hv) (hb := hvk); exact rfl; exact rfl; exact rfl; exact rfl; exact rfl; intro _; refine wl_as rfl rfl ?_; refine wl_ns ?_; refine wc_region ?_; refine wl_mv rfl rfl ?_; refine wl_mv rfl rfl ?_; apply wl_val; apply opv_len; exact rfl; exact tyB.sl; exact rfl; apply wl_val; apply opv_convR; exact rfl; exact Try.underlying3; exact Try.underlying28; exact IntWalk.u64_in _ (by omega); exact rfl
    refine wl_call ok_codec_PutU (putU_any x.length (by omega) _) ⟨rfl, trivial⟩ rfl ?_
    rintro _ w2 ⟨A2, c2, rfl, o2, h2⟩
    have o1' := OwB.below o1 h2
    refine wl_app tyB rfl o1' rfl o2.rd (bvs_one _) (by omega) (by simp only [maxLen]; omega) (Nat.le_trans hb1.size h2.size) rfl fun A4 c4 w4 o4 g4 _ => ?_
    have hb4 := g4.below (hb1.trans (h2.mono hb1.size)) o1' (Nat.le_refl _) (Nat.le_trans hb1.size h2.size)
    have o5 := OwB.app o4
    refine wl_mv rfl rfl ?_
    refine wl_app tyB rfl o4 rfl (RdB.below rx hb4) (bvs_one _) (by omega) (by simp only [maxLen]; omega) hb4.size rfl fun A6 c6 w6 o6 g6 _ => ?_
    have hb6 := g6.below hb4 o4 (Nat.le_refl _) hb4.size
    have o7 : OwB w6 w.heap.size A6 c6 (framed (rows.take (k + 1))) := by
      rw [e2]; unfold OwB; rw [List.length_append, List.length_append, bvs_append, bvs_append]; exact o6
    refine wl_as rfl rfl ?_; refine wl_nil ?_; refine we_block_norm ?_; refine we_seq ?_; refine wc_region ?_; apply wl_val; apply opv_bin; exact rfl; exact rfl; exact bin_add64 (by omega); exact rfl; refine wl_mv rfl rfl ?_; refine wl_nil ?_
    refine we_loop [(3, .slice A6 (framed (rows.take (k + 1))).length c6), (6, .slice A rows.length c), (7, .int .i64 (rows.length : Int)), (8, .int .i64 ((k + 1 : Nat) : Int))] (rows.length - (k + 1)) ⟨k + 1, A6, c6, rfl, by omega, o7, hb6, rfl⟩ (by omega) ⟨by rw [e3]; rfl, rfl, rfl, by simp [lookT], trivial⟩
  · obtain rfl : k = rows.length := by omega
    rw [List.take_length] at o1 ⊢
    refine wc_exit ?_; refine we_seq_exit ?_; refine we_loop_exit ?_; refine we_block_exit ?_; refine we_seq ?_; refine wc_sr ?_; refine wl_mv rfl rfl ?_; refine wl_as rfl rfl ?_; refine wl_ns ?_; refine wc_ret ?_
    exact we_ret1 rfl rfl ⟨_, rfl, P, cp, rfl, o1, hb1⟩

end Go.Proofs.Ytmdbjeabifkimaa

/-
  Walks over Parts of the program and of the reference.
-/
namespace Go.Proofs.Ytmdbjeabifkimaa
open Go.RowKit

theorem rd_cut {w : World} {A : Option Addr} {xs : List UInt8} {c l h : Nat} (hr : RdB w A xs) (h1 : l ≤ h) (hh : h ≤ xs.length) (hc : xs.length ≤ c) : RdB w (cutA A c l) ((xs.take h).drop l) := by
  have := Rd.cut (l := l) (h := h) hr h1 hh hc
  rw [bvs_cut] at this
  have e : ((xs.take h).drop l).length = h - l := by simp; omega
  unfold RdB; rw [e]; exact this
def RetP (w : World) (x : List (List UInt8) × Nat) (v : Value) (w' : World) : Prop :=
  ∃ (A : Option Addr) (c : Nat), v = .tuple #[.slice A x.1.length c, .int .i64 (x.2 : Int)] ∧ OwBB w' w.heap.size A c x.1 ∧ Below w.heap.size w w'

theorem parts_any {A : Option Addr} {n c : Nat} {xs : List UInt8} {w : World} (hr : RdB w A xs) (hn : xs.length = n) (hc : xs.length ≤ c) (hl : xs.length ≤ 1099511627776) : CallsV Try.prog 48 #[.slice A n c] w (RetP w (parts xs)) := by
  subst hn
  refine calls_in (N := _) Try.func48 rfl Try.ntmps48 rfl ?_; show WC _ _ _ _ _ _
  refine wc_sr ?_; refine wl_as rfl rfl ?_; refine wl_as rfl rfl ?_; refine wl_ns ?_; refine wc_sr ?_; refine wl_as rfl rfl ?_; refine wl_ns ?_; refine wc_seq ?_; refine wc_sr ?_; refine wl_as rfl rfl ?_; refine wl_ns ?_; refine wc_block ?_
  refine wc_loop (fun L wr m => ∃ (q f : Nat) (out : List (List UInt8)) (P : Option Addr) (cp : Nat), L = [(0, .slice A xs.length c), (4, .slice P out.length cp), (5, .int .i64 (q : Int))] ∧ q ≤ xs.length ∧ xs.length - q ≤ f ∧ parts xs = partsF f xs q out ∧ out.length ≤ q ∧ OwBB wr w.heap.size P cp out ∧ Below w.heap.size w wr ∧ m = xs.length - q)
    [(0, .slice A xs.length c), (4, .slice none 0 0), (5, .int .i64 (0 : Nat))] xs.length ⟨0, xs.length, [], none, 0, rfl, by omega, by omega, rfl, by simp, OwBB.nil _ _, Below.refl _ _, rfl⟩ ⟨rfl, rfl, rfl, trivial⟩ ?_
  rintro _ w1 m ⟨q, f, out, P, cp, rfl, hq, hf, hp, hol, o1, hb1, rfl⟩
  refine wc_seq ?_; refine wc_sr ?_; refine wl_mv rfl rfl ?_; refine wl_mv rfl rfl ?_; apply wl_val; apply opv_len; exact rfl; exact tyB.sl; exact rfl; refine wl_bin rfl rfl bin_lss rfl ?_; refine wl_ns ?_
  refine wc_cond rfl (fun h1 => ?_) (fun h1 => ?_)
  · obtain ⟨f, rfl⟩ : ∃ g, f = g + 1 := ⟨f - 1, by omega⟩
    obtain ⟨n, x, e, hu⟩ : ∃ n x e, getU xs q = (n, x, e) := ⟨_, _, _, rfl⟩
    have r1 := RdB.below hr hb1
    refine wc_skip ?_; refine we_seq ?_; refine wc_block ?_; refine wc_sr ?_; refine wl_mv rfl rfl ?_; refine wl_mv rfl rfl ?_
    refine wl_call ok_codec_GetU (getU_at hu r1 rfl (by simp only [maxLen]; omega) (by omega)) ⟨rfl, rfl, trivial⟩ rfl ?_
    rintro _ w2 ⟨rfl, h2⟩
    have hb2 := hb1.trans (h2.mono hb1.size)
    replace o1 := o1.below h2
    replace r1 := RdB.below r1 h2
    refine wl_mv rfl rfl ?_; apply wl_val; apply opv_extract; exact rfl; exact rfl; exact rfl; apply wl_val; apply opv_extract; exact rfl; exact rfl; exact rfl; apply wl_val; apply opv_extract; exact rfl; exact rfl; exact rfl; refine wl_as rfl rfl ?_; refine wl_as rfl rfl ?_; refine wl_as rfl rfl ?_; refine wl_ns ?_; refine wc_seq ?_; refine wc_sr ?_; refine wl_mv rfl rfl ?_; refine wl_bin rfl rfl bin_neq rfl ?_; refine wl_ns ?_
    by_cases he : e = 0
    · subst he
      obtain ⟨k, rfl, hqk, hkl⟩ := getU_next hu
      have hnf : n < 18446744073709551616 := by have := getU_fits xs q; rw [hu] at this; exact this
      refine wc_cond rfl (fun h => absurd rfl h) (fun _ => ?_)
      have e1 : IntKind.u64.wrap ((xs.length : Int) - k) = (xs.length : Int) - k := IntWalk.u64_in _ (by omega)
      refine wc_skip ?_; refine we_seq ?_; refine wc_seq ?_; refine wc_sr ?_; refine wl_mv rfl rfl ?_; refine wl_mv rfl rfl ?_; apply wl_val; apply opv_len; exact rfl; exact tyB.sl; exact rfl; refine wl_mv rfl rfl ?_; apply wl_val; apply opv_bin; exact rfl; exact rfl; exact bin_sub64 (by omega); exact rfl; apply wl_val; apply opv_convR; exact rfl; exact Try.underlying3; exact Try.underlying28; exact IntWalk.u64_in _ (by omega); exact rfl; refine wl_bin rfl rfl bin_gtr rfl ?_; refine wl_ns ?_
      refine wc_cond rfl (fun h3 => ?_) (fun h3 => ?_)
      · refine wc_sr ?_; refine wl_as rfl rfl ?_; refine wl_as rfl rfl ?_; refine wl_ns ?_; refine wc_ret ?_; refine we_seq_ret ?_; refine we_block_ret ?_; refine we_loop_ret ?_; refine we_block_ret ?_; refine we_seq_ret ?_
        refine we_ret2 rfl rfl rfl ⟨_, rfl, ?_⟩
        rw [hp, partsF_short (by omega) hu (by omega)]
        exact ⟨none, 0, rfl, OwBB.nil _ _, hb2⟩
      · have hkn : k + n ≤ xs.length := by omega
        refine wc_skip ?_; refine we_seq ?_; refine wc_sr ?_; refine wl_mv rfl rfl ?_; refine wl_mv rfl rfl ?_; apply wl_val; apply opv_convR; exact rfl; exact Try.underlying28; exact Try.underlying3; exact IntWalk.i64_in _ (by omega); exact rfl; apply wl_val; apply opv_bin; exact rfl; exact rfl; exact bin_add64 (by omega); exact rfl; refine wl_as rfl rfl ?_; refine wl_ns ?_; refine wc_region ?_; refine wl_mv rfl rfl ?_; refine wl_mv rfl rfl ?_; refine wl_mv rfl rfl ?_; refine wl_mv rfl rfl ?_
        refine wl_sl (l := k) (h := k + n) tyB rfl ⟨_, rfl⟩ ⟨_, by simp only [Int.natCast_add]; rfl⟩ (by omega) (by omega) rfl ?_
        refine wl_call ok_bytes_Clone (clone_any (rd_cut r1 (by omega) hkn hc) (by simp; omega) (by simp; omega)) ⟨rfl, trivial⟩ rfl ?_
        rintro _ w3 ⟨A3, c3, rfl, o3, h3⟩
        have hb3 := hb2.trans (h3.mono hb2.size)
        refine wl_pushR o1 h3 hb2.size o3 hb3 rfl (by omega) rfl rfl rfl rfl rfl fun p A4 c4 w4 o4 hb4 => ?_
        refine wl_as rfl rfl ?_; refine wl_nil ?_; refine we_block_norm ?_
        refine we_loop [(0, .slice A xs.length c), (4, .slice A4 (out ++ [(xs.take (k + n)).drop k]).length c4), (5, .int .i64 ((k + n : Nat) : Int))] (xs.length - (k + n)) ⟨k + n, f, _, A4, c4, rfl, hkn, by omega, ?_, by simp; omega, o4, hb4, rfl⟩ (by omega) ⟨rfl, by rw [List.length_append]; rfl, by rw [Int.natCast_add]; rfl, trivial⟩
        rw [hp, partsF_step (by omega) hu (by omega)]
    · refine wc_cond rfl (fun _ => ?_) (fun h => absurd (fun h' => he (by exact_mod_cast h')) h)
      refine wc_sr ?_; refine wl_mv rfl rfl ?_; refine wl_as rfl rfl ?_; refine wl_as rfl rfl ?_; refine wl_ns ?_; refine wc_ret ?_; refine we_seq_ret ?_; refine we_block_ret ?_; refine we_loop_ret ?_; refine we_block_ret ?_; refine we_seq_ret ?_
      refine we_ret2 rfl rfl rfl ⟨_, rfl, ?_⟩
      rw [hp, partsF_err (by omega) hu he]
      exact ⟨none, 0, rfl, OwBB.nil _ _, hb2⟩
  · refine wc_exit ?_; refine we_seq_exit ?_; refine we_loop_exit ?_; refine we_block_exit ?_; refine we_seq ?_; refine wc_sr ?_; refine wl_mv rfl rfl ?_; refine wl_as rfl rfl ?_; refine wl_as rfl rfl ?_; refine wl_ns ?_; refine wc_ret ?_
    refine we_ret2 rfl rfl rfl ⟨_, rfl, ?_⟩
    rw [hp, partsF_end (by omega)]
    exact ⟨P, cp, rfl, o1, hb1⟩

end Go.Proofs.Ytmdbjeabifkimaa

/-
  Walks over the numbers of eight bytes of the program and of the references.
-/
namespace Go.Proofs.Ytmdbjeabifkimaa
open Go.RowKit

end Go.Proofs.Ytmdbjeabifkimaa

/-
  Walks over the opening of sealed records, of the program and of the reference.
-/
namespace Go.Proofs.Ytmdbjeabifkimaa
open Go.RowKit

end Go.Proofs.Ytmdbjeabifkimaa

/-
  Engine: functions as values, shifts of ints; walks over put4, get4 and common of blocks.
-/
namespace Go.Proofs.Ytmdbjeabifkimaa
open Go.RowKit

section
variable {P : Program} {N : Nat} {ops : Array Oper} {Q : Exit → Act → World → Prop} {rest : List Oper} {L : FL} {w : World} {t ty : TypeId}
theorem opv_mkFunc {f : FuncId} {xs : List Operand} {us : List Value} (hx : Looks L xs us) : OpV P (.makeFunc (.func f) #[] xs.toArray) ty L w (.func (.func f) #[] us.toArray) w := fun ρ o hρ ho _ => by
  have hm := Looks.map hρ hx
  unfold execOp
  simp only [ho, Instr.makeFunc]
  have e : xs.toArray.map ρ = us.toArray := by simp [hm]
  rw [e]
  simp
theorem exec_callF {ρ : Operand → Value} {o : Oper} {x : Operand} {f : FuncId} {fs us : Array Value} {xs : List Operand} {vs : List Value} {ats : Array TypeId} (ho : o.op = .call { callee := .value x, args := xs.toArray, argTypes := ats })
    (hc : CallOk P f) (hρ : ∀ x u, look L x = some u → ρ x = u) (hf : look L x = some (.func (.func f) fs us)) (hx : Looks L xs vs) : (execOp ρ o).run P w = .ok (.enter f (fs ++ vs.toArray ++ us)) w := by
  have hf := hρ _ _ hf
  have hm := Looks.map hρ hx
  unfold execOp
  simp only [ho, resolve, Deferred.ofValue, hf, Sem.run_bind, Sem.run_pure, Result.andThen_ok, invoke]
  have : Array.map ρ xs.toArray = vs.toArray := by simp [hm]
  rw [this]
  exact hc _ _
/-- A call of a function that is a value. -/
theorem wl_callF {d : Nat} {x : Operand} {f : FuncId} {fs us : Array Value} {xs : List Operand} {ats : Array TypeId} {ty : TypeId} {pos : String} {aft : Array Edge} {vs : List Value} {R : Value → World → Prop}
    (hc : CallOk P f) (hf : look L x = some (.func (.func f) fs us)) (hr : CallsV P f (fs ++ vs.toArray ++ us) w R) (hx : Looks L xs vs) (hd : Nat.blt d N = true)
    (h : ∀ v w', R v w' → WL P N ops Q rest ((d, v) :: L) w') :
    WL P N ops Q (⟨some d, .call { callee := .value x, args := xs.toArray, argTypes := ats }, ty, pos, aft, none⟩ :: rest) L w := fun a ha =>
  wpList_plain rfl fun K hK => by
    unfold Oper.wp
    rw [exec_callF rfl hc (fun x u hx => ha.eval hx) hf hx]
    refine Calls.mono hr ?_
    rintro _ w' ⟨v, rfl, hv⟩
    exact hK _ _ (h v w' hv _ (ha.put hd v))
end
end Go.Proofs.Ytmdbjeabifkimaa

/-
  The engine within fences: the round of a range over a function, and an iterator that calls its yield. Nothing here names the program.
-/
namespace Go.Proofs.Ytmdbjeabifkimaa
open Go.RowKit

/-- The widest fence, in a round or not. -/
def FF : Option Nat → Fence
  | none => Fence.wide
  | some r => Fence.wide.inRound r
theorem FF_fn (ro : Option Nat) (f : FuncId) : (FF ro).fn f := by cases ro <;> trivial
theorem FF_depth (ro : Option Nat) : (FF ro).depth = none := by cases ro <;> rfl
theorem callsIn_FF {ro : Option Nat} {n : Nat} {P : Program} {f : FuncId} {args : Array Value} {w : World} {R : Ending → World → Prop} (h : Calls P f args w R) : CallsIn (FF ro) n P f args w R := by
  cases ro with
  | none => exact callsIn_wide.2 h
  | some r => exact show CallsIn Fence.wide n P f args w R from callsIn_wide.2 h
/-- No operation defers. -/
def noDefer (l : List Oper) : Bool := l.all fun o => match o.op with | .defer _ => false | _ => true
theorem noDefer_cons {o : Oper} {l : List Oper} (h : noDefer (o :: l) = true) : (∀ c, o.op ≠ .defer c) ∧ noDefer l = true := by
  simp only [noDefer, List.all_cons, Bool.and_eq_true] at h
  refine ⟨fun c hc => ?_, h.2⟩
  rw [hc] at h; exact absurd h.1 (by simp)
section
variable {P : Program} {N n : Nat} {ro : Option Nat} {ops : Array Oper} {Q : Exit → Act → World → Prop} {rest : List Oper} {L : FL} {w : World} {t e : TypeId}
theorem oper_FF {o : Oper} {a : Act} {K : Act → World → Prop} (hd : ∀ c, o.op ≠ .defer c) (h : o.wp P a w K Q) : o.wpIn (FF ro) n P a w K Q := by
  refine ⟨fun f _ => FF_fn ro f, ?_⟩
  rw [Oper.semAt_eq _ _ _ hd]
  unfold Oper.wp at h
  cases hr : (execOp a.eval o).run P w with
  | ok v w1 =>
    rw [hr] at h
    cases v with
    | value v => exact h
    | skip => exact h
    | defer d => exact h
    | enter f args => exact ⟨fun hk => (by rw [FF_depth] at hk; cases hk), callsIn_FF h⟩
    | row row args =>
      refine ⟨fun hk => (by rw [FF_depth] at hk; cases hk), fun c cs _ => ?_⟩
      obtain ⟨v, w2, h1, h2⟩ := h c cs
      cases ro with
      | none => exact ⟨v, w2, h1, stepsIn_wide.2 h2⟩
      | some r => exact ⟨v, w2, h1, show StepsIn (Machine.fenced P Fence.wide) P _ _ from stepsIn_wide.2 h2⟩
    | _ => exact h.elim
  | halt x w1 =>
    rw [hr] at h
    cases x with
    | panic v => exact h
    | _ => exact h.elim
/-- A region's operations, and code, within the fence. -/
def WLF (ro : Option Nat) (n : Nat) (P : Program) (N : Nat) (ops : Array Oper) (Q : Exit → Act → World → Prop) (l : List Oper) (L : FL) (w : World) : Prop := ∀ a, Has N a L → wpListIn (FF ro) n P ops Q l a w
def WF (ro : Option Nat) (n : Nat) (P : Program) (N : Nat) (c : Code) (Q : Exit → Act → World → Prop) (L : FL) (w : World) : Prop := ∀ a, Has N a L → c.wpIn (FF ro) n P Q a w
theorem list_FF (hQ : ¬ LetsOut Q) : ∀ {l : List Oper} {a : Act} {w : World}, noDefer l = true → wpList P ops Q l a w → wpListIn (FF ro) n P ops Q l a w
  | [], _, _, _, h => h
  | o :: l, a, w, hd, h => by
    obtain ⟨h1, h2⟩ := noDefer_cons hd
    unfold wpList at h
    unfold wpListIn
    split
    · rename_i hw
      rw [if_pos hw] at h
      have h3 : o.wp P a w (wpList P ops Q l) Q := h.resolve_right fun k => hQ k.2
      have h4 := oper_FF (ro := ro) (n := n) h1 h3
      refine ⟨h4.1, ?_⟩
      have h5 := h4.2
      cases hr : (o.semAt (FF ro).round a.eval).run P w with
      | ok v w1 =>
        rw [hr] at h5
        cases v with
        | value v => exact list_FF hQ h2 h5
        | skip => exact list_FF hQ h2 h5
        | defer d => exact list_FF hQ h2 h5
        | enter f args => exact ⟨h5.1, h5.2.mono fun e w2 h6 => by cases e <;> first | exact list_FF hQ h2 h6 | exact h6⟩
        | row row args => exact ⟨h5.1, h5.2.mono fun v w2 h6 => list_FF hQ h2 h6⟩
        | round l f tmps assign body => exact ⟨h5.1, h5.2.mono fun e w2 h6 => by cases e <;> first | exact list_FF hQ h2 h6 | exact h6⟩
        | _ => exact h5
      | halt x w1 =>
        rw [hr] at h5
        cases x <;> exact h5
    · rename_i hw
      rw [if_neg hw] at h
      exact ⟨fun f _ => FF_fn ro f, list_FF hQ h2 h⟩
theorem wlf_of {l : List Oper} (hQ : ¬ LetsOut Q) (hd : noDefer l = true) (h : WL P N ops Q l L w) : WLF ro n P N ops Q l L w := fun a ha => list_FF hQ hd (h a ha)
theorem wf_region {id : Nat} {l : List Oper} (h : WLF ro n P N l.toArray Q l L w) : WF ro n P N (.region id l.toArray false) Q L w := fun a ha => wpIn_region_lit (h a ha)
theorem wf_skip (h : WE N Q .normal L w) : WF ro n P N .skip Q L w := fun a ha => wpIn_skip (h a ha)
theorem wf_ret (h : WE N Q .ret L w) : WF ro n P N .ret Q L w := fun a ha => wpIn_ret (h a ha)
theorem wf_exit {id : Nat} (h : WE N Q (.exit id) L w) : WF ro n P N (.exit id) Q L w := fun a ha => wpIn_exit (h a ha)
def SeqF (ro : Option Nat) (n : Nat) (P : Program) (y : Code) (Q : Exit → Act → World → Prop) : Exit → Act → World → Prop := Exit.then (y.wpIn (FF ro) n P Q) Q
theorem wf_seq {x y : Code} (h : WF ro n P N x (SeqF ro n P y Q) L w) : WF ro n P N (.seq x y) Q L w := fun a ha => wpIn_seq (h a ha)
theorem we_seqF {y : Code} (h : WF ro n P N y Q L w) : WE N (SeqF ro n P y Q) .normal L w := h
theorem we_seqF_ret {y : Code} (h : WE N Q .ret L w) : WE N (SeqF ro n P y Q) .ret L w := h
theorem we_seqF_exit {y : Code} {id : Nat} (h : WE N Q (.exit id) L w) : WE N (SeqF ro n P y Q) (.exit id) L w := h
theorem wf_block {id : Nat} {c : Code} (h : WF ro n P N c (Exit.inBlock id Q) L w) : WF ro n P N (.block id c) Q L w := fun a ha => wpIn_block (h a ha)
theorem wf_condTb {c : Operand} {x y : Code} {b : Bool} (hc : look L c = some (.bool b)) (hb : b = true) (h : WF ro n P N x Q L w) : WF ro n P N (.cond c x y) Q L w :=
  fun a ha => wpIn_cond_true ((ha.eval hc).trans (by rw [hb])) (h a ha)
theorem wf_condFb {c : Operand} {x y : Code} {b : Bool} (hc : look L c = some (.bool b)) (hb : b = false) (h : WF ro n P N y Q L w) : WF ro n P N (.cond c x y) Q L w :=
  fun a ha => wpIn_cond_false ((ha.eval hc).trans (by rw [hb])) (h a ha)
theorem wlf_nil (h : WE N Q .normal L w) : WLF ro n P N ops Q [] L w := fun a ha => wpListIn_nil (h a ha)
theorem wlf_val {d : Nat} {op : Op} {ty : TypeId} {pos : String} {aft : Array Edge} {v : Value} {w' : World} (hv : OpV P op ty L w v w') (hd : Nat.blt d N = true) (hnd : (match op with | .defer _ => false | _ => true) = true)
    (h : WLF ro n P N ops Q rest ((d, v) :: L) w') : WLF ro n P N ops Q (⟨some d, op, ty, pos, aft, none⟩ :: rest) L w := fun a ha => by
  unfold wpListIn
  rw [if_pos (by simp [Region.wanted])]
  refine ⟨fun f _ => FF_fn ro f, ?_⟩
  rw [Oper.semAt_eq _ _ _ (fun c hc => by simp only at hc; subst hc; simp at hnd), hv a.eval _ (fun x u hx => ha.eval hx) rfl rfl]
  exact h _ (ha.put hd v)
/-- A call of yield. -/
theorem wlf_yield {d : Nat} {x : Operand} {l : Nat} {xs : List Operand} {ats : Array TypeId} {ty : TypeId} {pos : String} {aft : Array Edge} {vs : List Value} {R : Ending → World → Prop}
    (hf : look L x = some (.func (.yield l) #[] #[])) (hx : Looks L xs vs) (hy : YieldAt (FF ro) (n - 1) P l vs.toArray w R) (hd : Nat.blt d N = true)
    (h : ∀ e w', R e w' → ∃ v, e = .returned v ∧ WLF ro n P N ops Q rest ((d, v) :: L) w') :
    WLF ro n P N ops Q (⟨some d, .call { callee := .value x, args := xs.toArray, argTypes := ats }, ty, pos, aft, none⟩ :: rest) L w := fun a ha => by
  obtain ⟨fn, tmps, assign, body, hrun, hR⟩ := hy
  unfold wpListIn
  rw [if_pos (by simp [Region.wanted])]
  refine ⟨fun f _ => FF_fn ro f, ?_⟩
  have hm := Looks.map (fun x u hx => ha.eval hx) hx
  have hm2 : Array.map a.eval xs.toArray = vs.toArray := by simp [hm]
  have hfe := ha.eval hf
  have e1 : (execOp a.eval ⟨some d, .call { callee := .value x, args := xs.toArray, argTypes := ats }, ty, pos, aft, none⟩).run P w = .ok (.round l fn tmps assign body) w := by
    unfold execOp
    simp only [resolve, Deferred.ofValue, hfe, Sem.run_bind, Sem.run_pure, Result.andThen_ok, invoke, hm2]
    simpa using hrun
  rw [Oper.semAt_eq _ _ _ (fun c hc => by simp at hc), e1]
  refine ⟨fun hk => (by rw [FF_depth] at hk; cases hk), hR.mono fun e w' h1 => ?_⟩
  obtain ⟨v, rfl, h2⟩ := h e w' h1
  exact h2 _ (ha.put hd v)
/-- A loop within the fence. -/
theorem wpIn_loopG {F : Fence} {c : Code} {I : Nat → Act → World → Prop} (hround : ∀ m a w, I m a w → c.wpIn F n P (Exit.then (fun a w => ∃ m', m' < m ∧ I m' a w) Q) a w) {m0 : Nat} {a : Act} (h0 : I m0 a w) : (Code.loop c).wpIn F n P Q a w := by
  intro b k cs hro hb hr
  have key : ∀ m a w, I m a w → ∃ e a' w', Q e a' w' ∧ ArrivesIn (Machine.fenced P F) P (lone (b.atR a (.code c :: .inLoop c :: k)) cs w) b k cs e a' w' := by
    intro m
    induction m using Nat.strongRecOn with
    | _ m ih =>
      intro a w h
      obtain ⟨e, a₁, w₁, hq, harr⟩ := hround m a w h b (.inLoop c :: k) cs hro hb hr
      cases e with
      | normal =>
        obtain ⟨m', hm', hI⟩ := hq
        obtain ⟨e₂, a₂, w₂, hq₂, harr₂⟩ := ih m' hm' a₁ w₁ hI
        exact ⟨e₂, a₂, w₂, hq₂, .of_steps (StepsIn.trans harr (.one (fenced_calm hb hr rfl) stepR_inLoop)) harr₂⟩
      | exit id => exact ⟨_, a₁, w₁, hq, .pass (x := .inLoop c) rfl (fun _ _ => .inl (by simp)) harr⟩
      | goto l => exact ⟨_, a₁, w₁, hq, .pass (x := .inLoop c) rfl (fun _ _ => .inl (by simp)) harr⟩
      | ret => exact ⟨_, a₁, w₁, hq, .pass (x := .inLoop c) rfl (fun _ _ => .inl (by simp)) harr⟩
      | panic ch => exact ⟨_, a₁, w₁, hq, .pass (x := .inLoop c) rfl (fun _ _ => .inl (by simp)) harr⟩
      | outgrown => exact ⟨_, a₁, w₁, hq, .pass (x := .inLoop c) rfl (fun _ _ => .inl (by simp)) harr⟩
  obtain ⟨e, a', w', hq, harr⟩ := key m0 a w h0
  exact ⟨e, a', w', hq, .of_steps (.one (fenced_calm hb hr rfl) stepR_loop) harr⟩
theorem wf_loop {c : Code} (I : FL → World → Nat → Prop) (L0 : FL) (m0 : Nat) (h0 : I L0 w m0) (hs : Sub L0 L)
    (round : ∀ L w m, I L w m → WF ro n P N c (LoopQ N I m Q) L w) : WF ro n P N (.loop c) Q L w := fun a ha =>
  wpIn_loopG (I := fun m a w => ∃ L, I L w m ∧ Has N a L) (fun m a w ⟨L, hI, hL⟩ => wpIn_mono (round L w m hI a hL) fun e a w h => by
    cases e with
    | normal => obtain ⟨m', hm', L', hI', hL'⟩ := h; exact ⟨m', hm', L', hI', hL'⟩
    | _ => exact h) ⟨L0, h0, ha.sub hs⟩
/-- A function's body within the fence. -/
theorem callsIn_in {f : FuncId} {fn : Func} {c : Code} {args : List Value} {R : Ending → World → Prop} (hf : P.funcs[f]? = some fn) (hb : fn.body = some c) (hN : fn.ntmps = N) (hle : Nat.ble args.length N = true)
    (h : WF none n P N c (bodyPostM (FF none) n P fn R) (numb 0 args) w) : CallsIn (FF none) n P f args.toArray w R := by
  refine callsIn_of_wp_marks hf hb (FF_fn none f) (h _ ⟨rfl, ?_, ?_⟩) rfl
  · have := Nat.le_of_ble_eq_true hle
    simp [hN]; omega
  · intro t v ht
    obtain ⟨_, h2⟩ := lookT_numb args 0 t v ht
    simp only [Nat.sub_zero] at h2
    have hlt : t < args.length := by
      rcases Nat.lt_or_ge t args.length with h | h
      · exact h
      · rw [List.getElem?_eq_none h] at h2; cases h2
    rw [List.getElem?_eq_getElem hlt] at h2
    simp [Array.getElem?_append, hlt]
    simpa using h2
/-- Facts of cells abide what an iterator does. -/
theorem ownFrom_cells {β : Type} {B : Nat} {g : Nat} {cs : List Value} : OwnFrom B (fun (_ : β) W => Ar W g t cs) := fun s W W' row hs hg hr => by
  have hlt := Ar.lt hs
  refine (hg.block g hlt fun hk => ?_).trans hs
  obtain ⟨_, o, ho, hc⟩ := hr g hk.symm
  rw [show W.heap[g]? = some (.cells cs.toArray t) from hs] at ho
  cases ho
  cases hc
end
end Go.Proofs.Ytmdbjeabifkimaa

/-
  Plain laws of lock tables: ranges that clash, who waits for whom, circles, who leaves, who goes. No program in sight.
-/
namespace Go.Proofs.Ytmdbjeabifkimaa

/-- A range of keys. -/
structure Rg where
  fr : List UInt8
  to : List UInt8
  ex : Bool
abbrev Tx := Nat × Nat
/-- A transaction that is known: what it holds, what it asks for. -/
structure Ownr where
  x : Tx
  held : List Rg
  asks : List Rg
structure Tb where
  os : List Ownr
  qu : List Tx
/-- Bytes below an end that may be open. -/
def belowB (a b : List UInt8) : Bool := b.isEmpty || decide (cmpB a b < 0)
def meetsB (a b : Rg) : Bool := belowB a.fr b.to && belowB b.fr a.to
def clash1 (x y : Rg) : Bool := (x.ex || y.ex) && meetsB x y
def clashB (a b : List Rg) : Bool := a.any fun x => b.any fun y => clash1 x y
theorem meetsB_comm (a b : Rg) : meetsB a b = meetsB b a := by rw [meetsB, meetsB, Bool.and_comm]
theorem clash1_comm (a b : Rg) : clash1 a b = clash1 b a := by rw [clash1, clash1, meetsB_comm, Bool.or_comm]
theorem clashB_iff {a b : List Rg} : clashB a b = true ↔ ∃ x ∈ a, ∃ y ∈ b, clash1 x y = true := by simp [clashB]
theorem clashB_comm (a b : List Rg) : clashB a b = clashB b a := by
  rw [Bool.eq_iff_iff, clashB_iff, clashB_iff]
  constructor
  · rintro ⟨x, hx, y, hy, h⟩; exact ⟨y, hy, x, hx, by rw [clash1_comm]; exact h⟩
  · rintro ⟨x, hx, y, hy, h⟩; exact ⟨y, hy, x, hx, by rw [clash1_comm]; exact h⟩
theorem clashB_appL {a a' b : List Rg} : clashB (a ++ a') b = (clashB a b || clashB a' b) := by simp [clashB]
theorem clashB_nilL {b : List Rg} : clashB [] b = false := rfl
theorem clashB_nilR {b : List Rg} : clashB b [] = false := by rw [clashB_comm]; rfl

/-- The names that stand ahead of one in the queue. -/
def aheadL (q : List Tx) (x : Tx) : List Tx := if x ∈ q then q.take (q.idxOf x) else []
theorem idx_split {q : List Tx} {x : Tx} (h : x ∈ q) : ∃ l r, q = l ++ x :: r ∧ x ∉ l ∧ q.idxOf x = l.length := by
  induction q with
  | nil => cases h
  | cons y q ih =>
    by_cases e : y = x
    · subst e; exact ⟨[], q, rfl, by simp, by simp [List.idxOf_cons]⟩
    · obtain ⟨l, r, h1, h2, h3⟩ := ih (by simpa [Ne.symm e] using h)
      refine ⟨y :: l, r, by rw [h1]; rfl, by simp [h2, Ne.symm e], ?_⟩
      have : (y == x) = false := by simpa using e
      rw [List.idxOf_cons, this]
      simp [h3]
theorem aheadL_split {l r : List Tx} {x : Tx} (h : x ∉ l) : aheadL (l ++ x :: r) x = l := by
  have hm : x ∈ l ++ x :: r := by simp
  obtain ⟨l', r', h1, h2, h3⟩ := idx_split hm
  have : l = l' := by
    clear h3 hm
    induction l generalizing l' with
    | nil =>
      cases l' with
      | nil => rfl
      | cons a l' => rw [List.nil_append, List.cons_append] at h1; injection h1 with h1 _; subst h1; simp at h2
    | cons a l ih =>
      cases l' with
      | nil => rw [List.nil_append, List.cons_append] at h1; injection h1 with h1 _; subst h1; simp at h
      | cons b l' =>
        rw [List.cons_append, List.cons_append] at h1
        injection h1 with h1 h4
        rw [h1, ih (fun k => h (List.mem_cons_of_mem _ k)) l' h4 (fun k => h2 (List.mem_cons_of_mem _ k))]
  subst this
  rw [aheadL, if_pos hm, h3, List.take_left']; rfl
/-- One stands ahead of the other. -/
def Ahd (q : List Tx) (y x : Tx) : Prop := [y, x].Sublist q
theorem ahd_iff {q : List Tx} (hn : q.Nodup) {y x : Tx} : y ∈ aheadL q x ↔ Ahd q y x := by
  constructor
  · intro h
    by_cases hx : x ∈ q
    · obtain ⟨l, r, rfl, h2, _⟩ := idx_split hx
      rw [aheadL_split h2] at h
      obtain ⟨a, b, rfl⟩ := List.append_of_mem h
      rw [Ahd]
      have h1 : [y].Sublist (a ++ y :: b) := by simp
      have h3 : [x].Sublist (x :: r) := by simp
      exact h1.append h3
    · rw [aheadL, if_neg hx] at h; cases h
  · intro h
    have hx : x ∈ q := h.subset (by simp)
    obtain ⟨l, r, rfl, h2, _⟩ := idx_split hx
    rw [aheadL_split h2]
    rw [Ahd] at h
    rw [List.nodup_append] at hn
    obtain ⟨n1, n2, n3⟩ := hn
    have hxr : x ∉ r := (List.nodup_cons.1 n2).1
    obtain ⟨s1, s2, e, h4, h5⟩ := List.sublist_append_iff.1 h
    cases s1 with
    | nil =>
      rw [List.nil_append] at e; subst e
      exfalso
      rcases List.sublist_cons_iff.1 h5 with h6 | ⟨r', e', h6⟩
      · exact hxr (h6.subset (by simp))
      · injection e' with _ e'; subst e'
        exact hxr (h6.subset (by simp))
    | cons a s1 =>
      rw [List.cons_append] at e
      injection e with e1 e2
      subst e1
      exact h4.subset (by simp)
theorem Ahd.mem {q : List Tx} {y x : Tx} (h : Ahd q y x) : y ∈ q ∧ x ∈ q := ⟨h.subset (by simp), h.subset (by simp)⟩
theorem Ahd.total {q : List Tx} {y x : Tx} (hy : y ∈ q) (hx : x ∈ q) (hne : y ≠ x) : Ahd q y x ∨ Ahd q x y := by
  obtain ⟨l, r, rfl⟩ := List.append_of_mem hx
  rw [List.mem_append, List.mem_cons] at hy
  rcases hy with h | h | h
  · left
    exact (List.singleton_sublist.2 h).append (List.singleton_sublist.2 (List.mem_cons_self (a := x) (l := r)))
  · exact absurd h hne
  · right
    have : [x, y].Sublist (x :: r) := List.Sublist.cons_cons _ (List.singleton_sublist.2 h)
    exact this.trans (List.sublist_append_right _ _)
theorem Ahd.filter {q : List Tx} {y x : Tx} {f : Tx → Bool} (h : Ahd q y x) (hy : f y = true) (hx : f x = true) : Ahd (q.filter f) y x := by
  have := List.Sublist.filter f h
  unfold Ahd
  simpa [hy, hx] using this
theorem Ahd.of_filter {q : List Tx} {y x : Tx} {f : Tx → Bool} (h : Ahd (q.filter f) y x) : Ahd q y x := List.Sublist.trans h List.filter_sublist
theorem Ahd.of_append {q : List Tx} {y x z : Tx} (h : Ahd (q ++ [z]) y x) : Ahd q y x ∨ (x = z ∧ y ∈ q) := by
  obtain ⟨s1, s2, e, h4, h5⟩ := List.sublist_append_iff.1 h
  rcases List.sublist_cons_iff.1 h5 with h6 | ⟨r', e', h6⟩
  · have := List.eq_nil_of_sublist_nil h6; subst this
    rw [List.append_nil] at e; subst e
    exact .inl h4
  · have := List.eq_nil_of_sublist_nil h6; subst this; subst e'
    right
    cases s1 with
    | nil => simp at e
    | cons a s1 =>
      cases s1 with
      | nil => simp at e; obtain ⟨rfl, rfl⟩ := e; exact ⟨rfl, h4.subset (by simp)⟩
      | cons b s1 => simp at e
theorem Ahd.append {q : List Tx} {y x : Tx} (r : List Tx) (h : Ahd q y x) : Ahd (q ++ r) y x := List.Sublist.trans h (List.sublist_append_left _ _)
theorem Ahd.last {q : List Tx} {y x : Tx} (h : y ∈ q) : Ahd (q ++ [x]) y x := (List.singleton_sublist.2 h).append (List.Sublist.refl [x])

def names (t : Tb) : List Tx := t.os.map (·.x)
/-- For whom one waits. -/
def blkP (t : Tb) (o p : Ownr) : Bool := !decide (p.x = o.x) && (clashB p.held o.asks || (decide (p.x ∈ aheadL t.qu o.x) && clashB p.asks o.asks))
def blockers (t : Tb) (o : Ownr) : List Ownr := t.os.filter (blkP t o)
/-- One waits for another. -/
def Ed (t : Tb) (x y : Tx) : Prop := x ∈ t.qu ∧ ∃ o ∈ t.os, o.x = x ∧ ∃ p ∈ blockers t o, p.x = y
/-- One waits for itself, by others. -/
def Circ (t : Tb) (x : Tx) : Prop := Relation.TransGen (Ed t) x x
def ownO (t : Tb) (x : Tx) : Option Ownr := t.os.find? fun o => decide (o.x = x)
def blk (t : Tb) (x : Tx) : List Ownr := match ownO t x with
  | some o => blockers t o
  | none => []
def leaveT (t : Tb) (x : Tx) : Tb := ⟨t.os.map fun o => if o.x = x then ⟨o.x, o.held, []⟩ else o, t.qu.filter fun y => !decide (y = x)⟩
def grantT (t : Tb) (x : Tx) : Tb := ⟨t.os.map fun o => if o.x = x then ⟨o.x, o.held ++ o.asks, o.asks⟩ else o, t.qu⟩
def goOne (t : Tb) (x : Tx) : Tb := leaveT (grantT t x) x
def goStep (r : Tb × List Tx) (x : Tx) : Tb × List Tx := if (blk r.1 x).isEmpty then (goOne r.1 x, r.2 ++ [x]) else r
def goT (t : Tb) : Tb × List Tx := t.qu.foldl goStep (t, [])
open Classical in
noncomputable def victim (t : Tb) : Option Tx := (t.os.reverse.find? fun o => decide (Circ t o.x)).map (·.x)
noncomputable def victs : Nat → Tb → Tb × List Tx
  | 0, t => (t, [])
  | n + 1, t => match victim t with
    | none => (t, [])
    | some v => ((victs n (leaveT t v)).1, v :: (victs n (leaveT t v)).2)
/-- Is a range in form? -/
def okR (r : Rg) : Prop := r.fr.length ≤ 1024 ∧ r.to.length ≤ 1024 ∧ (r.to = [] ∨ cmpB r.fr r.to < 0)
instance (r : Rg) : Decidable (okR r) := by unfold okR; infer_instance
def bigR (r : Rg) : Bool := decide (1024 < r.fr.length ∨ 1024 < r.to.length)
def badR (r : Rg) : Bool := decide (0 < r.to.length ∧ 0 ≤ cmpB r.fr r.to)
def checkR (l : List Rg) : Nat := if 64 < l.length then 2 else if l.any bigR then 2 else if l.any badR then 3 else 0
/-- One that asks. -/
def addO (t : Tb) (x : Tx) : Tb := if x ∈ names t then t else ⟨t.os ++ [⟨x, [], []⟩], t.qu⟩
def setA (t : Tb) (x : Tx) (l : List Rg) : Tb := ⟨t.os.map fun o => if o.x = x then ⟨o.x, o.held, l⟩ else o, t.qu⟩
def askQ (t : Tb) (x : Tx) (l : List Rg) : Tb := ⟨(setA (addO t x) x l).os, t.qu ++ [x]⟩
structure AskR where
  t : Tb
  st : Nat
  vi : List Tx
  gr : List Tx
  e : Nat
noncomputable def askT (t : Tb) (x : Tx) (l : List Rg) : AskR :=
  if checkR l ≠ 0 then ⟨t, 0, [], [], checkR l⟩
  else if x ∈ t.qu then ⟨t, 0, [], [], 7⟩
  else if (blk (askQ t x l) x).isEmpty then ⟨goOne (askQ t x l) x, 1, [], [], 0⟩
  else
    let v := victs (t.qu.length + 2) (askQ t x l)
    let g := goT v.1
    ⟨g.1, if x ∈ g.2 then 1 else if x ∈ v.2 then 3 else 2, v.2, g.2, 0⟩
def dropO (t : Tb) (x : Tx) : Tb := ⟨t.os.filter fun o => !decide (o.x = x), t.qu⟩
def relT (t : Tb) (x : Tx) : Tb × List Tx := if x ∈ names t then goT (dropO (leaveT t x) x) else goT t
/-- What holds of every table. -/
structure Wf (t : Tb) : Prop where
  nd : (names t).Nodup
  qn : t.qu.Nodup
  sub : ∀ x ∈ t.qu, x ∈ names t
  idle : ∀ o ∈ t.os, o.x ∉ t.qu → o.asks = []
  form : ∀ o ∈ t.os, ∀ r, r ∈ o.held ∨ r ∈ o.asks → okR r
  few : ∀ o ∈ t.os, o.asks.length ≤ 64
theorem names_inj {t : Tb} (h : (names t).Nodup) {o p : Ownr} (ho : o ∈ t.os) (hp : p ∈ t.os) (e : o.x = p.x) : o = p := by
  unfold names at h
  obtain ⟨i, hi, rfl⟩ := List.getElem_of_mem ho
  obtain ⟨j, hj, rfl⟩ := List.getElem_of_mem hp
  have h1 : (t.os.map (·.x))[i]'(by simpa using hi) = (t.os.map (·.x))[j]'(by simpa using hj) := by simpa using e
  have := (List.getElem_inj h).1 h1
  subst this; rfl
theorem ownO_some {t : Tb} {x : Tx} {o : Ownr} (h : ownO t x = some o) : o ∈ t.os ∧ o.x = x := ⟨List.mem_of_find?_eq_some h, by simpa using List.find?_some h⟩
theorem ownO_none {t : Tb} {x : Tx} : ownO t x = none ↔ x ∉ names t := by
  rw [ownO, List.find?_eq_none, names]
  simp
theorem ownO_of {t : Tb} (h : (names t).Nodup) {o : Ownr} (ho : o ∈ t.os) : ownO t o.x = some o := by
  cases hf : ownO t o.x with
  | none => exact absurd (List.mem_map_of_mem ho) (ownO_none.1 hf)
  | some p => have := ownO_some hf; rw [names_inj h this.1 ho this.2]
theorem blk_of {t : Tb} (h : (names t).Nodup) {o : Ownr} (ho : o ∈ t.os) : blk t o.x = blockers t o := by rw [blk, ownO_of h ho]
theorem mem_blockers {t : Tb} (hn : t.qu.Nodup) {o p : Ownr} : p ∈ blockers t o ↔ p ∈ t.os ∧ p.x ≠ o.x ∧ (clashB p.held o.asks = true ∨ Ahd t.qu p.x o.x ∧ clashB p.asks o.asks = true) := by
  simp only [blockers, List.mem_filter, blkP, Bool.and_eq_true, Bool.or_eq_true, Bool.not_eq_true', decide_eq_false_iff_not, decide_eq_true_eq, ahd_iff hn, ne_eq]
end Go.Proofs.Ytmdbjeabifkimaa

/-
  Plain laws of lock tables: what asking, leaving, going and releasing keep; that whoever waits waits for somebody, and nobody in a circle. No program in sight.
-/
namespace Go.Proofs.Ytmdbjeabifkimaa

theorem names_leave (t : Tb) (x : Tx) : names (leaveT t x) = names t := by
  unfold names leaveT
  rw [List.map_map]
  exact List.map_congr_left fun o _ => by simp only [Function.comp]; split <;> rfl
theorem names_grant (t : Tb) (x : Tx) : names (grantT t x) = names t := by
  unfold names grantT
  rw [List.map_map]
  exact List.map_congr_left fun o _ => by simp only [Function.comp]; split <;> rfl
theorem names_go (t : Tb) (x : Tx) : names (goOne t x) = names t := by rw [goOne, names_leave, names_grant]
theorem names_setA (t : Tb) (x : Tx) (l : List Rg) : names (setA t x l) = names t := by
  unfold names setA
  rw [List.map_map]
  exact List.map_congr_left fun o _ => by simp only [Function.comp]; split <;> rfl
theorem mem_leave {t : Tb} {x : Tx} {o : Ownr} : o ∈ (leaveT t x).os ↔ (o ∈ t.os ∧ o.x ≠ x) ∨ ∃ p ∈ t.os, p.x = x ∧ o = ⟨p.x, p.held, []⟩ := by
  simp only [leaveT, List.mem_map]
  constructor
  · rintro ⟨p, hp, rfl⟩
    by_cases h : p.x = x
    · right; exact ⟨p, hp, h, by rw [if_pos h]⟩
    · left; rw [if_neg h]; exact ⟨hp, h⟩
  · rintro (⟨h, hx⟩ | ⟨p, hp, hx, rfl⟩)
    · exact ⟨o, h, by rw [if_neg hx]⟩
    · exact ⟨p, hp, by rw [if_pos hx]⟩
theorem mem_go {t : Tb} {x : Tx} {o : Ownr} : o ∈ (goOne t x).os ↔ (o ∈ t.os ∧ o.x ≠ x) ∨ ∃ p ∈ t.os, p.x = x ∧ o = ⟨p.x, p.held ++ p.asks, []⟩ := by
  rw [goOne, mem_leave]
  simp only [grantT, List.mem_map]
  constructor
  · rintro (⟨⟨p, hp, rfl⟩, hx⟩ | ⟨_, ⟨p, hp, rfl⟩, hx, rfl⟩)
    · by_cases h : p.x = x
      · rw [if_pos h] at hx; exact absurd h hx
      · rw [if_neg h]; exact .inl ⟨hp, h⟩
    · by_cases h : p.x = x
      · rw [if_pos h]; exact .inr ⟨p, hp, h, rfl⟩
      · rw [if_neg h] at hx; exact absurd hx h
  · rintro (⟨h, hx⟩ | ⟨p, hp, hx, rfl⟩)
    · exact .inl ⟨⟨o, h, by rw [if_neg hx]⟩, hx⟩
    · exact .inr ⟨⟨p.x, p.held ++ p.asks, p.asks⟩, ⟨p, hp, by rw [if_pos hx]⟩, hx, rfl⟩
theorem qu_go (t : Tb) (x : Tx) : (goOne t x).qu = t.qu.filter fun y => !decide (y = x) := rfl
theorem qu_leave (t : Tb) (x : Tx) : (leaveT t x).qu = t.qu.filter fun y => !decide (y = x) := rfl
theorem mem_unq {q : List Tx} {x y : Tx} : y ∈ (q.filter fun z => !decide (z = x)) ↔ y ∈ q ∧ y ≠ x := by simp [List.mem_filter]
theorem Wf.leave {t : Tb} (h : Wf t) (x : Tx) : Wf (leaveT t x) where
  nd := by rw [names_leave]; exact h.nd
  qn := h.qn.filter _
  sub := fun y hy => by rw [names_leave]; exact h.sub y (mem_unq.1 hy).1
  idle := fun o ho hx => by
    rcases mem_leave.1 ho with ⟨h1, h2⟩ | ⟨p, hp, hx', rfl⟩
    · exact h.idle o h1 fun hk => hx (mem_unq.2 ⟨hk, h2⟩)
    · rfl
  form := fun o ho r hr => by
    rcases mem_leave.1 ho with ⟨h1, _⟩ | ⟨p, hp, _, rfl⟩
    · exact h.form o h1 r hr
    · rcases hr with hr | hr
      · exact h.form p hp r (.inl hr)
      · cases hr
  few := fun o ho => by
    rcases mem_leave.1 ho with ⟨h1, _⟩ | ⟨p, hp, _, rfl⟩
    · exact h.few o h1
    · exact Nat.zero_le _
theorem Wf.go {t : Tb} (h : Wf t) (x : Tx) : Wf (goOne t x) where
  nd := by rw [names_go]; exact h.nd
  qn := h.qn.filter _
  sub := fun y hy => by rw [names_go]; exact h.sub y (mem_unq.1 hy).1
  idle := fun o ho hx => by
    rcases mem_go.1 ho with ⟨h1, h2⟩ | ⟨p, hp, hx', rfl⟩
    · exact h.idle o h1 fun hk => hx (mem_unq.2 ⟨hk, h2⟩)
    · rfl
  form := fun o ho r hr => by
    rcases mem_go.1 ho with ⟨h1, _⟩ | ⟨p, hp, _, rfl⟩
    · exact h.form o h1 r hr
    · rcases hr with hr | hr
      · rcases List.mem_append.1 hr with hr | hr
        · exact h.form p hp r (.inl hr)
        · exact h.form p hp r (.inr hr)
      · cases hr
  few := fun o ho => by
    rcases mem_go.1 ho with ⟨h1, _⟩ | ⟨p, hp, _, rfl⟩
    · exact h.few o h1
    · exact Nat.zero_le _
theorem Wf.drop {t : Tb} (h : Wf t) (x : Tx) : Wf (dropO (leaveT t x) x) where
  nd := by
    unfold names dropO
    exact List.Nodup.sublist (List.Sublist.map _ List.filter_sublist) (h.leave x).nd
  qn := (h.leave x).qn
  sub := fun y hy => by
    have h1 := (h.leave x).sub y hy
    have h2 := (mem_unq.1 hy).2
    unfold names at h1 ⊢
    rw [List.mem_map] at h1 ⊢
    obtain ⟨o, ho, rfl⟩ := h1
    exact ⟨o, List.mem_filter.2 ⟨ho, by simpa using h2⟩, rfl⟩
  idle := fun o ho hx => (h.leave x).idle o (List.mem_filter.1 ho).1 hx
  form := fun o ho r hr => (h.leave x).form o (List.mem_filter.1 ho).1 r hr
  few := fun o ho => (h.leave x).few o (List.mem_filter.1 ho).1
/-! #### Who waits for whom -/
theorem ed_iff {t : Tb} (hn : t.qu.Nodup) {x y : Tx} : Ed t x y ↔ x ∈ t.qu ∧ x ≠ y ∧ ∃ o ∈ t.os, o.x = x ∧ ∃ p ∈ t.os, p.x = y ∧ (clashB p.held o.asks = true ∨ Ahd t.qu y x ∧ clashB p.asks o.asks = true) := by
  constructor
  · rintro ⟨h1, o, ho, rfl, p, hp, rfl⟩
    obtain ⟨h2, h3, h4⟩ := (mem_blockers hn).1 hp
    exact ⟨h1, fun e => h3 e.symm, o, ho, rfl, p, h2, rfl, h4⟩
  · rintro ⟨h1, hne, o, ho, rfl, p, hp, rfl, h4⟩
    exact ⟨h1, o, ho, rfl, p, (mem_blockers hn).2 ⟨hp, fun e => hne e.symm, h4⟩, rfl⟩
theorem ed_leave {t : Tb} (h : Wf t) {v x y : Tx} (he : Ed (leaveT t v) x y) : Ed t x y := by
  rw [ed_iff (h.leave v).qn] at he
  obtain ⟨h1, hne, o, ho, rfl, p, hp, rfl, h4⟩ := he
  rw [ed_iff h.qn]
  have h5 := mem_unq.1 h1
  refine ⟨h5.1, hne, ?_⟩
  rcases mem_leave.1 ho with ⟨h6, _⟩ | ⟨q, hq, hqx, rfl⟩
  · refine ⟨o, h6, rfl, ?_⟩
    rcases mem_leave.1 hp with ⟨h7, _⟩ | ⟨q, hq, hqx, rfl⟩
    · refine ⟨p, h7, rfl, h4.imp id fun k => ⟨k.1.of_filter, k.2⟩⟩
    · refine ⟨q, hq, rfl, ?_⟩
      rcases h4 with h4 | ⟨_, h4⟩
      · exact .inl h4
      · cases h4
  · exact absurd hqx h5.2
theorem ed_drop {t : Tb} (h : Wf t) {v x y : Tx} (he : Ed (dropO (leaveT t v) v) x y) : Ed (leaveT t v) x y := by
  rw [ed_iff (h.drop v).qn] at he
  rw [ed_iff (h.leave v).qn]
  obtain ⟨h1, hne, o, ho, rfl, p, hp, rfl, h4⟩ := he
  exact ⟨h1, hne, o, (List.mem_filter.1 ho).1, rfl, p, (List.mem_filter.1 hp).1, rfl, h4⟩
/-- One that can go does: nobody waits for anybody new. -/
theorem ed_go {t : Tb} (h : Wf t) {z x y : Tx} (hz : ∀ w, ¬ Ed t z w) (hzq : z ∈ t.qu) (he : Ed (goOne t z) x y) : Ed t x y := by
  rw [ed_iff (h.go z).qn] at he
  obtain ⟨h1, hne, o, ho, rfl, p, hp, rfl, h4⟩ := he
  have h5 := mem_unq.1 h1
  rcases mem_go.1 ho with ⟨h6, _⟩ | ⟨q, hq, hqx, rfl⟩
  · rcases mem_go.1 hp with ⟨h7, _⟩ | ⟨q, hq, hqx, rfl⟩
    · rw [ed_iff h.qn]
      exact ⟨h5.1, hne, o, h6, rfl, p, h7, rfl, h4.imp id fun k => ⟨k.1.of_filter, k.2⟩⟩
    · rcases h4 with h4 | ⟨_, h4⟩
      · rw [clashB_appL, Bool.or_eq_true] at h4
        rcases h4 with h4 | h4
        · rw [ed_iff h.qn]
          exact ⟨h5.1, hne, o, h6, rfl, q, hq, rfl, .inl h4⟩
        · subst hqx
          rcases Ahd.total hzq h5.1 (fun e => hne e.symm) with ha | ha
          · rw [ed_iff h.qn]
            exact ⟨h5.1, hne, o, h6, rfl, q, hq, rfl, .inr ⟨ha, h4⟩⟩
          · exact absurd ((ed_iff h.qn).2 ⟨hzq, fun e => hne e.symm, q, hq, rfl, o, h6, rfl, .inr ⟨ha, by rw [clashB_comm]; exact h4⟩⟩) (hz _)
      · cases h4
  · exact absurd hqx h5.2
theorem blk_nil {t : Tb} (h : Wf t) {x : Tx} (hx : x ∈ t.qu) : (blk t x).isEmpty = true ↔ ∀ y, ¬ Ed t x y := by
  obtain ⟨o, ho, rfl⟩ := List.mem_map.1 (h.sub x hx)
  rw [blk_of h.nd ho, List.isEmpty_iff]
  constructor
  · rintro he y ⟨_, o', ho', e, p, hp, _⟩
    rw [names_inj h.nd ho' ho e, he] at hp
    cases hp
  · intro he
    cases hb : blockers t o with
    | nil => rfl
    | cons p l => exact absurd ⟨hx, o, ho, rfl, p, by rw [hb]; simp, rfl⟩ (he p.x)
theorem TransGen_mono {α : Type} {r s : α → α → Prop} (h : ∀ a b, r a b → s a b) {a b : α} (hab : Relation.TransGen r a b) : Relation.TransGen s a b := by
  induction hab with
  | single hr => exact .single (h _ _ hr)
  | tail _ hr ih => exact .tail ih (h _ _ hr)
def Acyc (t : Tb) : Prop := ∀ x, ¬ Circ t x
theorem Acyc.of {t t' : Tb} (h : Acyc t) (he : ∀ x y, Ed t' x y → Ed t x y) : Acyc t' := fun x hx => h x (TransGen_mono he hx)
/-- Whoever waits waits for somebody. -/
def Stuck (t : Tb) : Prop := ∀ x ∈ t.qu, ∃ y, Ed t x y
/-- No two hold ranges that clash. -/
def Apt (t : Tb) : Prop := ∀ o ∈ t.os, ∀ p ∈ t.os, o.x ≠ p.x → clashB o.held p.held = false
theorem Apt.leave {t : Tb} (h : Apt t) (v : Tx) : Apt (leaveT t v) := fun o ho p hp hne => by
  obtain ⟨o', ho', e1, e2⟩ : ∃ o' ∈ t.os, o'.x = o.x ∧ o'.held = o.held := by
    rcases mem_leave.1 ho with ⟨h6, _⟩ | ⟨q, hq, _, rfl⟩
    · exact ⟨o, h6, rfl, rfl⟩
    · exact ⟨q, hq, rfl, rfl⟩
  obtain ⟨p', hp', e3, e4⟩ : ∃ o' ∈ t.os, o'.x = p.x ∧ o'.held = p.held := by
    rcases mem_leave.1 hp with ⟨h6, _⟩ | ⟨q, hq, _, rfl⟩
    · exact ⟨p, h6, rfl, rfl⟩
    · exact ⟨q, hq, rfl, rfl⟩
  rw [← e2, ← e4]
  exact h o' ho' p' hp' (by rw [e1, e3]; exact hne)
theorem Apt.drop {t : Tb} (h : Apt t) (v : Tx) : Apt (dropO t v) := fun o ho p hp hne => h o (List.mem_filter.1 ho).1 p (List.mem_filter.1 hp).1 hne
theorem Apt.go {t : Tb} (hw : Wf t) (h : Apt t) {z : Tx} (hzq : z ∈ t.qu) (hz : ∀ w, ¬ Ed t z w) : Apt (goOne t z) := by
  have key : ∀ o ∈ t.os, ∀ q ∈ t.os, q.x = z → o.x ≠ z → clashB o.held (q.held ++ q.asks) = false := fun o ho q hq hqz hne => by
    rw [clashB_comm, clashB_appL, Bool.or_eq_false_iff]
    refine ⟨h q hq o ho fun e => hne (e ▸ hqz), ?_⟩
    cases hc : clashB q.asks o.held with
    | false => rfl
    | true => exact absurd ((ed_iff hw.qn).2 ⟨hzq, fun e => hne e.symm, q, hq, hqz, o, ho, rfl, .inl (by rw [clashB_comm]; exact hc)⟩) (hz _)
  intro o ho p hp hne
  rcases mem_go.1 ho with ⟨h6, h6'⟩ | ⟨q, hq, hqx, rfl⟩
  · rcases mem_go.1 hp with ⟨h7, _⟩ | ⟨q, hq, hqx, rfl⟩
    · exact h o h6 p h7 hne
    · exact key o h6 q hq hqx h6'
  · rcases mem_go.1 hp with ⟨h7, h7'⟩ | ⟨q', hq', hqx', rfl⟩
    · rw [clashB_comm]; exact key p h7 q hq hqx h7'
    · exact absurd (hqx.trans hqx'.symm) hne
/-- Who stays and isn't behind the one that goes waits on. -/
theorem stay_go {t : Tb} (h : Wf t) {z x : Tx} (hx : x ≠ z) (ha : ¬ Ahd t.qu z x) (he : ∃ y, Ed t x y) : ∃ y, Ed (goOne t z) x y := by
  obtain ⟨y, he⟩ := he
  obtain ⟨h1, hne, o, ho, rfl, p, hp, rfl, h4⟩ := (ed_iff h.qn).1 he
  refine ⟨p.x, (ed_iff (h.go z).qn).2 ⟨mem_unq.2 ⟨h1, hx⟩, hne, o, mem_go.2 (.inl ⟨ho, hx⟩), rfl, ?_⟩⟩
  by_cases hpz : p.x = z
  · refine ⟨⟨p.x, p.held ++ p.asks, []⟩, mem_go.2 (.inr ⟨p, hp, hpz, rfl⟩), rfl, .inl ?_⟩
    rcases h4 with h4 | ⟨h4, _⟩
    · show clashB (p.held ++ p.asks) o.asks = true
      rw [clashB_appL, h4]; rfl
    · exact absurd (hpz ▸ h4) ha
  · refine ⟨p, mem_go.2 (.inl ⟨hp, hpz⟩), rfl, h4.imp id fun k => ⟨k.1.filter (by simpa using hpz) (by simpa using hx), k.2⟩⟩
/-! #### Those that can go do -/
/-- What is known on the way through the queue. -/
structure GoI (t0 t : Tb) (done todo : List Tx) : Prop where
  wf : Wf t
  nm : names t = names t0
  qu : t.qu = (done.filter fun y => decide (y ∈ t.qu)) ++ todo
  qs : t.qu.Sublist t0.qu
  ed : ∀ x y, Ed t x y → Ed t0 x y
  ap : Apt t0 → Apt t
  st : ∀ x ∈ done, x ∈ t.qu → ∃ y, Ed t x y
theorem goI_step {t0 t : Tb} {done todo out : List Tx} {z : Tx} (h : GoI t0 t done (z :: todo)) : GoI t0 (goStep (t, out) z).1 (done ++ [z]) todo := by
  have hq := h.qu
  have hn := h.wf.qn
  have hzq : z ∈ t.qu := by rw [hq]; simp
  have hn2 : ((done.filter fun y => decide (y ∈ t.qu)) ++ z :: todo).Nodup := by rw [← hq]; exact hn
  rw [List.nodup_append] at hn2
  obtain ⟨n1, n2, n3⟩ := hn2
  have hz1 : z ∉ done := fun hk => n3 z (List.mem_filter.2 ⟨hk, by simpa using hzq⟩) z (by simp) rfl
  have hz2 : z ∉ todo := (List.nodup_cons.1 n2).1
  have hahd : ∀ x ∈ done, x ∈ t.qu → ¬ Ahd t.qu z x := fun x hx hxq ha => by
    rw [← ahd_iff hn] at ha
    have hxd : x ∈ done.filter fun y => decide (y ∈ t.qu) := List.mem_filter.2 ⟨hx, by simpa using hxq⟩
    obtain ⟨l, r, e⟩ := List.append_of_mem hxd
    have e2 : t.qu = l ++ x :: (r ++ z :: todo) := by
      rw [e] at hq
      simpa using hq
    have hxl : x ∉ l := fun hk => by
      rw [e, List.nodup_append] at n1
      exact n1.2.2 x hk x (by simp) rfl
    rw [e2, aheadL_split hxl] at ha
    refine n3 z ?_ z (by simp) rfl
    rw [e]; simp [ha]
  unfold goStep
  dsimp only
  split
  · rename_i hb
    have hz := (blk_nil h.wf hzq).1 hb
    refine ⟨h.wf.go z, by rw [names_go]; exact h.nm, ?_, List.filter_sublist.trans h.qs, fun x y he => h.ed x y (ed_go h.wf hz hzq he), fun ha => (h.ap ha).go h.wf hzq hz, fun x hx hxq => ?_⟩
    · have e1 : (goOne t z).qu = (done.filter fun y => decide (y ∈ t.qu)) ++ todo := by
        rw [qu_go]
        have e4 : (t.qu.filter fun y => !decide (y = z)) = (((done.filter fun y => decide (y ∈ t.qu)) ++ z :: todo).filter fun y => !decide (y = z)) := congrArg _ hq
        rw [e4]
        rw [List.filter_append, List.filter_cons]
        simp only [decide_true, Bool.not_true, Bool.false_eq_true, if_false]
        have e2 : (done.filter fun y => decide (y ∈ t.qu)).filter (fun y => !decide (y = z)) = done.filter fun y => decide (y ∈ t.qu) := List.filter_eq_self.2 fun a ha => by
          have : a ≠ z := fun e => hz1 (e ▸ (List.mem_filter.1 ha).1)
          simpa using this
        have e3 : todo.filter (fun y => !decide (y = z)) = todo := List.filter_eq_self.2 fun a ha => by
          have : a ≠ z := fun e => hz2 (e ▸ ha)
          simpa using this
        rw [e2, e3]
      have e5 : ((done ++ [z]).filter fun y => decide (y ∈ (goOne t z).qu)) = done.filter fun y => decide (y ∈ t.qu) := by
        rw [List.filter_append]
        have e6 : ([z].filter fun y => decide (y ∈ (goOne t z).qu)) = [] := by
          rw [List.filter_eq_nil_iff]
          intro a ha
          rw [List.mem_singleton] at ha; subst ha
          have : a ∉ (goOne t a).qu := fun hk => (mem_unq.1 hk).2 rfl
          simpa using this
        rw [e6, List.append_nil]
        refine List.filter_congr fun a ha => ?_
        have : a ≠ z := fun e => hz1 (e ▸ ha)
        have e7 : a ∈ (goOne t z).qu ↔ a ∈ t.qu := ⟨fun hk => (mem_unq.1 hk).1, fun hk => mem_unq.2 ⟨hk, this⟩⟩
        simp only [e7]
      rw [e5]; exact e1
    · have hxz := (mem_unq.1 hxq)
      rcases List.mem_append.1 hx with hx | hx
      · exact stay_go h.wf hxz.2 (hahd x hx hxz.1) (h.st x hx hxz.1)
      · rw [List.mem_singleton] at hx; exact absurd hx hxz.2
  · rename_i hb
    have hz : ∃ y, Ed t z y := by
      by_cases hk : ∃ y, Ed t z y
      · exact hk
      · exact absurd ((blk_nil h.wf hzq).2 fun y he => hk ⟨y, he⟩) hb
    refine ⟨h.wf, h.nm, ?_, h.qs, h.ed, h.ap, fun x hx hxq => ?_⟩
    · have e1 : ((done ++ [z]).filter fun y => decide (y ∈ t.qu)) = (done.filter fun y => decide (y ∈ t.qu)) ++ [z] := by
        rw [List.filter_append, List.filter_cons]
        simp [hzq]
      rw [e1, List.append_assoc]
      exact hq
    · rcases List.mem_append.1 hx with hx | hx
      · exact h.st x hx hxq
      · rw [List.mem_singleton] at hx; rw [hx]; exact hz
theorem goI_fold {t0 : Tb} : ∀ {todo done out : List Tx} {t : Tb}, GoI t0 t done todo → GoI t0 (todo.foldl goStep (t, out)).1 (done ++ todo) []
  | [], done, out, t, h => by rw [List.append_nil]; exact h
  | z :: todo, done, out, t, h => by
    have h1 := goI_step (out := out) h
    have := goI_fold (out := (goStep (t, out) z).2) h1
    rw [List.foldl_cons, List.append_cons]
    exact this
theorem goI_start {t : Tb} (h : Wf t) : GoI t t [] t.qu := ⟨h, rfl, rfl, List.Sublist.refl _, fun _ _ h => h, id, fun _ h => absurd h (by simp)⟩
theorem goT_wf {t : Tb} (h : Wf t) : Wf (goT t).1 ∧ names (goT t).1 = names t ∧ (goT t).1.qu.Sublist t.qu ∧ (∀ x y, Ed (goT t).1 x y → Ed t x y) ∧ (Apt t → Apt (goT t).1) ∧ Stuck (goT t).1 := by
  have h1 := goI_fold (out := []) (goI_start h)
  rw [List.nil_append] at h1
  have h2 : t.qu.foldl goStep (t, []) = goT t := rfl
  rw [h2] at h1
  refine ⟨h1.wf, h1.nm, h1.qs, h1.ed, h1.ap, fun x hx => h1.st x (h1.qs.subset hx) hx⟩
/-! #### Who gives way -/
open Classical in
theorem victim_some {t : Tb} {v : Tx} (h : victim t = some v) : Circ t v := by
  unfold victim at h
  obtain ⟨o, ho, rfl⟩ := Option.map_eq_some_iff.1 h
  have := List.find?_some ho
  simpa using this
open Classical in
theorem victim_none {t : Tb} (h : victim t = none) : ∀ o ∈ t.os, ¬ Circ t o.x := by
  unfold victim at h
  rw [Option.map_eq_none_iff, List.find?_eq_none] at h
  intro o ho
  have := h o (by simpa using ho)
  simpa using this
theorem TransGen_head {α : Type} {r : α → α → Prop} {a b : α} (h : Relation.TransGen r a b) : ∃ c, r a c := by
  induction h with
  | single hr => exact ⟨_, hr⟩
  | tail _ _ ih => exact ih
theorem circ_qu {t : Tb} {x : Tx} (h : Circ t x) : x ∈ t.qu := by
  obtain ⟨c, hc⟩ := TransGen_head h
  exact hc.1
theorem acyc_of_none {t : Tb} (hw : Wf t) (h : victim t = none) : Acyc t := fun x hx => by
  obtain ⟨o, ho, rfl⟩ := List.mem_map.1 (hw.sub x (circ_qu hx))
  exact victim_none h o ho hx
theorem len_unq {q : List Tx} {v : Tx} (h : v ∈ q) : (q.filter fun y => !decide (y = v)).length < q.length := by
  rcases Nat.lt_or_ge (q.filter fun y => !decide (y = v)).length q.length with h1 | h1
  · exact h1
  · have h2 := List.Sublist.eq_of_length_le (List.filter_sublist (p := fun y => !decide (y = v)) (l := q)) h1
    rw [← h2] at h
    exact absurd rfl (mem_unq.1 h).2
theorem victs_wf : ∀ {n : Nat} {t : Tb}, Wf t → t.qu.length < n → Wf (victs n t).1 ∧ Acyc (victs n t).1 ∧ names (victs n t).1 = names t ∧ (Apt t → Apt (victs n t).1) ∧ (victs n t).1.qu = t.qu.filter fun y => !decide (y ∈ (victs n t).2)
  | 0, t, _, hl => by omega
  | n + 1, t, h, hl => by
    unfold victs
    cases hv : victim t with
    | none => exact ⟨h, acyc_of_none h hv, rfl, id, by rw [List.filter_eq_self.2]; simp⟩
    | some v =>
      have hq := circ_qu (victim_some hv)
      have hlt := len_unq hq
      obtain ⟨h1, h2, h3, h4, h5⟩ := victs_wf (n := n) (h.leave v) (by rw [qu_leave]; omega)
      refine ⟨h1, h2, by rw [← names_leave t v]; exact h3, fun ha => h4 (ha.leave v), ?_⟩
      dsimp only
      rw [h5, qu_leave, List.filter_filter]
      refine List.filter_congr fun a _ => ?_
      simp only [List.mem_cons, Bool.decide_or, Bool.not_or]
      rw [Bool.and_comm]
end Go.Proofs.Ytmdbjeabifkimaa

/-
  Types' facts of lock tables, pointers and names held against one another; what a table's memory reads as.
-/
namespace Go.Proofs.Ytmdbjeabifkimaa
open Go.RowKit

theorem e1_bool : Cell1 Try.prog 4 := ⟨by kernel_rfl, by rw [Try.underlying4]⟩
theorem e1_i64 : Cell1 Try.prog 3 := ⟨by kernel_rfl, by rw [Try.underlying3]⟩
theorem sR : StT Try.prog 61 3 := ⟨by kernel_rfl, by kernel_rfl⟩
theorem fa_sR {k : Nat} (h : k < 3) : FieldAt Try.prog 61 k k := by
  match k, h with
  | 0, _ => exact fieldAt_mk Try.underlying61 rfl rfl (by kernel_rfl)
  | 1, _ => exact fieldAt_mk Try.underlying61 rfl rfl (by kernel_rfl)
  | 2, _ => exact fieldAt_mk Try.underlying61 rfl rfl (by kernel_rfl)
def zR : List Value := [.slice none 0 0, .slice none 0 0, .bool false]
theorem zeroRg : (Try.prog.info? 61).map (·.zero) = some (some (.agg zR.toArray)) := by kernel_rfl
theorem tkR : RowK Try.prog 34 61 3 (.agg zR.toArray) 56 := ⟨Try.underlying34, by kernel_rfl, by simp [zR, Value.cells], by decide⟩
theorem e1_rgs : Cell1 Try.prog 34 := ⟨by kernel_rfl, by rw [Try.underlying34]⟩
theorem sTx : StT Try.prog 30 2 := ⟨by kernel_rfl, by kernel_rfl⟩
theorem fa_sTx {k : Nat} (h : k < 2) : FieldAt Try.prog 30 k k := by
  match k, h with
  | 0, _ => exact fieldAt_mk Try.underlying30 rfl rfl (by kernel_rfl)
  | 1, _ => exact fieldAt_mk Try.underlying30 rfl rfl (by kernel_rfl)
def zTx : List Value := [.int .u64 0, .int .u64 0]
theorem zeroTx : (Try.prog.info? 30).map (·.zero) = some (some (.agg zTx.toArray)) := by kernel_rfl
theorem tkTx : RowK Try.prog 26 30 2 (.agg zTx.toArray) 16 := ⟨Try.underlying26, by kernel_rfl, by simp [zTx, Value.cells], by decide⟩
theorem e1_txs : Cell1 Try.prog 26 := ⟨by kernel_rfl, by rw [Try.underlying26]⟩
theorem fa_O0 : FieldAt Try.prog 82 0 0 := fieldAt_mk Try.underlying82 rfl rfl (by kernel_rfl)
theorem fa_O1 : FieldAt Try.prog 82 1 2 := fieldAt_mk Try.underlying82 rfl rfl (by kernel_rfl)
theorem fa_O2 : FieldAt Try.prog 82 2 3 := fieldAt_mk Try.underlying82 rfl rfl (by kernel_rfl)
theorem fa_Tb0 : FieldAt Try.prog 47 0 0 := fieldAt_mk Try.underlying47 rfl rfl (by kernel_rfl)
theorem fa_Tb1 : FieldAt Try.prog 47 1 1 := fieldAt_mk Try.underlying47 rfl rfl (by kernel_rfl)
theorem sRs : StT Try.prog 39 3 := ⟨by kernel_rfl, by kernel_rfl⟩
theorem fa_Rs0 : FieldAt Try.prog 39 0 0 := fieldAt_mk Try.underlying39 rfl rfl (by kernel_rfl)
theorem fa_Rs1 : FieldAt Try.prog 39 1 1 := fieldAt_mk Try.underlying39 rfl rfl (by kernel_rfl)
theorem fa_Rs2 : FieldAt Try.prog 39 2 2 := fieldAt_mk Try.underlying39 rfl rfl (by kernel_rfl)
def zRs : List Value := [.int .i64 0, .slice none 0 0, .slice none 0 0]
theorem zeroRs : (Try.prog.info? 39).map (·.zero) = some (some (.agg zRs.toArray)) := by kernel_rfl
theorem tyPO : Row1 Try.prog 45 75 (.pointer none) 8 := ⟨Try.underlying45, by kernel_rfl, rfl, by rw [Try.underlying75]⟩
theorem e1_po : Cell1 Try.prog 75 := ⟨by kernel_rfl, by rw [Try.underlying75]⟩
theorem e1_pos : Cell1 Try.prog 45 := ⟨by kernel_rfl, by rw [Try.underlying45]⟩
theorem e1_pt : Cell1 Try.prog 24 := ⟨by kernel_rfl, by rw [Try.underlying24]⟩
theorem tyPPO : ∃ te, Try.prog.underlying 75 = some (.pointer te) := ⟨_, Try.underlying75⟩
theorem szO : (Try.prog.info? 82).map (·.size) = some 4 := by kernel_rfl

def pN (g : Nat) : Value := .pointer (some ⟨g, 0, none⟩)
theorem bin_neqPtrNil {P : Program} {t : TypeId} {a : Addr} (ht : ∃ te, P.underlying t = some (.pointer te)) : BinV P .neq t (.pointer (some a)) (.pointer none) (.bool true) := .mk fun x y w => by
  obtain ⟨te, ht⟩ := ht
  have h : ∀ d : Nat, (Op.equalIn (d + 1) t (.pointer (some a)) (.pointer none)).run P w = .ok false w := fun d => by simp [Op.equalIn, run_underlying ht]
  simp [eqGuard, binOp, Op.equal, Op.maxDepth, h 9999]
theorem bin_neqNilNil {P : Program} {t : TypeId} (ht : ∃ te, P.underlying t = some (.pointer te)) : BinV P .neq t (.pointer none) (.pointer none) (.bool false) := .mk fun x y w => by
  obtain ⟨te, ht⟩ := ht
  have h : ∀ d : Nat, (Op.equalIn (d + 1) t (.pointer none) (.pointer none)).run P w = .ok true w := fun d => by simp [Op.equalIn, run_underlying ht]
  simp [eqGuard, binOp, Op.equal, Op.maxDepth, h 9999]
section
variable {L : FL} {w : World}
/-- Two owners' addresses held against one another. -/
theorem opv_eqPP {x y : Operand} {yt ty T T' : TypeId} {g h : Nat} {cs cs' : List Value} (hx : look L x = some (.pointer (some ⟨g, 0, none⟩))) (hy : look L y = some (.pointer (some ⟨h, 0, none⟩))) (ha : Ar w g T cs) (hb : Ar w h T' cs') :
    OpV Try.prog (.binOp .eql 75 x y yt) ty L w (.bool (decide (g = h))) w := fun ρ o hρ ho _ => by
  obtain ⟨j, hj, hs⟩ : ∃ j, Try.prog.info? 82 = some j ∧ j.size = 4 := by
    cases hq : Try.prog.info? 82 with
    | none => have := szO; rw [hq] at this; cases this
    | some j => have := szO; rw [hq] at this; exact ⟨j, rfl, by simpa using this⟩
  unfold execOp
  simp only [ho, hρ x _ hx, hρ y _ hy]
  by_cases e : g = h
  · subst e
    have := run_eql_ptr_same (P := Try.prog) w ⟨g, 0, none⟩ Try.underlying75 hj
    simp [eqGuard, this]
  · have hne : (⟨g, 0, none⟩ : Addr) ≠ ⟨h, 0, none⟩ := fun k => e (by injection k)
    have := run_eql_ptr_other (P := Try.prog) w (a := ⟨g, 0, none⟩) (b := ⟨h, 0, none⟩) Try.underlying75 hj (by omega) hne ha hb
    simp [eqGuard, this, e]
end
/-- A name's cells. -/
def txV (x : Tx) : List Value := [.int .u64 (x.1 : Int), .int .u64 (x.2 : Int)]
theorem bin_eqlTx (x y : Tx) : BinV Try.prog .eql 30 (.agg (txV x).toArray) (.agg (txV y).toArray) (.bool (decide (x = y))) := .mk fun u v w => by
  have hf : Try.prog.underlying 30 = some (.struct (Try.prog.fieldsOf 30)) := by kernel_rfl
  have hp : Try.prog.stoodInHeld 30 = false := by kernel_rfl
  have hg : Try.prog.eqGuardType Try.prog.depth 30 = false := by kernel_rfl
  have h1 := run_eqGuard_agg (P := Try.prog) w .eql 30 u v (txV x).toArray (txV y).toArray hg
  have h2 := run_equalIn_agg (P := Try.prog) w 9999 30 (txV x).toArray (txV y).toArray hf hp
  have h3 := run_eql_struct (P := Try.prog) w 30 (txV x).toArray (txV y).toArray
  have h4 : (Op.eqFields 9999 (txV x).toArray (txV y).toArray (Try.prog.fieldsOf 30).toList).run Try.prog w = .ok (decide (x = y)) w := by
    have e : (Try.prog.fieldsOf 30).toList.map (fun f => (f.name, f.type, f.offset)) = [("Session", 28, 0), ("Seq", 28, 1)] := by kernel_rfl
    obtain ⟨f1, f2, hfs, e1, e2⟩ : ∃ f1 f2 : Field, (Try.prog.fieldsOf 30).toList = [f1, f2] ∧ (f1.name, f1.type, f1.offset) = ("Session", 28, 0) ∧ (f2.name, f2.type, f2.offset) = ("Seq", 28, 1) := by
      generalize (Try.prog.fieldsOf 30).toList = l at e
      match l, e with
      | [f1, f2], e => simp only [List.map_cons, List.map_nil, List.cons.injEq, and_true] at e; exact ⟨f1, f2, rfl, e.1, e.2⟩
      | [], e => simp at e
      | [_], e => simp at e
      | _ :: _ :: _ :: _, e => simp at e
    simp only [Prod.mk.injEq] at e1 e2
    obtain ⟨n1, t1, o1⟩ := e1
    obtain ⟨n2, t2, o2⟩ := e2
    rw [hfs]
    have hi : ∀ a b : Int, (Op.equalIn 9999 28 (.int .u64 a) (.int .u64 b)).run Try.prog w = .ok (a == b) w := fun a b => run_equalIn_int (P := Try.prog) w 9998 28 .u64 .u64 a b Try.underlying28
    have hpt : ∀ (z : Tx) , (part 28 (txV z).toArray 0).run Try.prog w = .ok (.int .u64 (z.1 : Int)) w ∧ (part 28 (txV z).toArray 1).run Try.prog w = .ok (.int .u64 (z.2 : Int)) w := fun z => by
      obtain ⟨j, hj, hs⟩ : ∃ j, Try.prog.info? 28 = some j ∧ j.size = 1 := by
        have hq : (Try.prog.info? 28).map (·.size) = some 1 := by kernel_rfl
        cases hk : Try.prog.info? 28 with
        | none => rw [hk] at hq; cases hq
        | some j => rw [hk] at hq; exact ⟨j, rfl, by simpa using hq⟩
      constructor <;> simp [part, isAgg, run_underlying Try.underlying28, sizeOf, typeInfo, hj, hs, txV]
    simp only [Op.eqFields, n1, n2, t1, t2, o1, o2]
    simp only [Sem.run_bind, (hpt x).1, (hpt y).1, (hpt x).2, (hpt y).2, Result.andThen_ok, hi, Sem.run_ite, Sem.run_pure]
    by_cases k1 : x.1 = y.1
    · by_cases k2 : x.2 = y.2
      · have : x = y := Prod.ext k1 k2
        simp [this, hi]
      · have : ¬ x = y := fun h => k2 (by rw [h])
        have k2' : ((x.2 : Int) == (y.2 : Int)) = false := by simp; omega
        simp [k1, this, hi, k2']
    · have : ¬ x = y := fun h => k1 (by rw [h])
      have k1' : ((x.1 : Int) == (y.1 : Int)) = false := by simp; omega
      simp [this, hi, k1']
  rw [Sem.run_bind, h1]
  simp only [Result.andThen_ok, h3, h2, h4]
end Go.Proofs.Ytmdbjeabifkimaa

/-
  Ranges in memory; walks over meets, clash, check and twins of locks.
-/
namespace Go.Proofs.Ytmdbjeabifkimaa
open Go.RowKit

def rgV (x : Rg) (A : Option Addr) (c : Nat) (B : Option Addr) (d : Nat) : List Value := [.slice A x.fr.length c, .slice B x.to.length d, .bool x.ex]
def rgEl (x : Rg) : El where
  P w S cs := ∃ (A : Option Addr) (c : Nat) (B : Option Addr) (d : Nat), cs = rgV x A c B d ∧ (byEl x.fr).P w S [.slice A x.fr.length c] ∧ (byEl x.to).P w S [.slice B x.to.length d]
  move := by rintro w w' S S' cs ⟨A, c, B, d, h, h1, h2⟩ hz hm; exact ⟨A, c, B, d, h, El.move _ h1 hz hm, El.move _ h2 hz hm⟩
theorem rgEl.rd {w : World} {S : Nat → Prop} {x : Rg} {cs : List Value} (h : (rgEl x).P w S cs) : ∃ A c B d, cs = rgV x A c B d ∧ RdB w A x.fr ∧ x.fr.length ≤ c ∧ RdB w B x.to ∧ x.to.length ≤ d := by
  obtain ⟨A, c, B, d, h0, h1, h2⟩ := h
  exact ⟨A, c, B, d, h0, (byE.rd h1).1, (byE.rd h1).2, (byE.rd h2).1, (byE.rd h2).2⟩
theorem rgEl.mk {w : World} {S : Nat → Prop} {x : Rg} {A B : Option Addr} {c d : Nat} (h1 : (byEl x.fr).P w S [.slice A x.fr.length c]) (h2 : (byEl x.to).P w S [.slice B x.to.length d]) : (rgEl x).P w S (rgV x A c B d) := ⟨A, c, B, d, rfl, h1, h2⟩
theorem rgV_all (x : Rg) (A : Option Addr) (c : Nat) (B : Option Addr) (d : Nat) : ∀ u ∈ [rgV x A c B d].flatten, u.oneCell' = true := by simp [rgV, Value.oneCell']
theorem belowB_nil {a b : List UInt8} (h : (b.length : Int) = 0) : belowB a b = true := by
  have : b = [] := List.eq_nil_of_length_eq_zero (by omega)
  rw [this]; rfl
theorem belowB_lt {a b : List UInt8} (h : ¬ (b.length : Int) = 0) : belowB a b = decide (cmpB a b < 0) := by
  cases b with
  | nil => exact absurd rfl h
  | cons => rfl
theorem meets_any {x y : Rg} {A B C D : Option Addr} {a b c d : Nat} {w : World} (r1 : RdB w A x.fr) (r2 : RdB w B x.to) (r3 : RdB w C y.fr) (r4 : RdB w D y.to) :
    CallsV Try.prog 78 #[.agg (rgV x A a B b).toArray, .agg (rgV y C c D d).toArray] w fun v w' => v = .bool (meetsB x y) ∧ Below w.heap.size w w' := by
  have hs := St.init w
  refine calls_in (N := _) Try.func78 rfl Try.ntmps78 rfl ?_; show WC _ _ _ _ _ _
  refine wc_sr ?_
  refine ws_box (cs := rgV x A a B b) hs rfl rfl ?_; clear hs; intro g2 _ hs
  refine ws_box (cs := rgV y C c D d) hs rfl rfl ?_; clear hs; intro g3 _ hs
  unfold rgV at hs
  refine wl_as rfl rfl ?_; refine wl_ns ?_; refine wc_sr ?_; apply wl_val; apply opv_fa; exact fa_sR (by decide); exact rfl; exact rfl; apply wl_val; apply opv_ldX; exact rfl; exact hs.ar 0 rfl; exact e1_by; exact rfl; exact rfl; apply wl_val; apply opv_len; exact rfl; exact tyB.sl; exact rfl; refine wl_bin rfl rfl bin_eql rfl ?_; refine wl_mv rfl rfl ?_
  refine wl_cutV 7 16 (.bool (belowB x.fr y.to)) ?c ?_
  case c =>
    dsimp only [List.take]
    by_cases h1 : (y.to.length : Int) = 0
    · apply wl_skip; exact rfl; exact rfl; exact rfl; refine bTn ?_; (with_reducible assumption); exact rfl; apply wl_skip; exact rfl; exact rfl; exact rfl; refine bTn ?_; (with_reducible assumption); exact rfl; apply wl_skip; exact rfl; exact rfl; exact rfl; refine bTn ?_; (with_reducible assumption); exact rfl; apply wl_skip; exact rfl; exact rfl; exact rfl; refine bTn ?_; (with_reducible assumption); exact rfl; apply wl_skip; exact rfl; exact rfl; exact rfl; refine bTn ?_; (with_reducible assumption); exact rfl; apply wl_skip; exact rfl; exact rfl; exact rfl; refine bTn ?_; (with_reducible assumption); exact rfl; apply wl_val; apply opv_pickT; exact rfl; refine bT ?_; (with_reducible assumption); exact rfl; exact rfl; refine wl_nil ?_
      exact we_cut _ ⟨rfl, rfl⟩ ⟨congrArg (fun b => some (Value.bool b)) (belowB_nil h1).symm, by refine And.intro rfl ?_; refine And.intro rfl ?_; refine And.intro rfl ?_; refine And.intro rfl ?_; refine And.intro rfl ?_; refine And.intro rfl ?_; refine And.intro rfl ?_; refine And.intro rfl ?_; refine And.intro rfl ?_; refine And.intro rfl ?_; exact True.intro⟩
    · apply wl_take; exact rfl; exact rfl; exact rfl; refine bF ?_; (with_reducible assumption); apply wl_val; apply opv_fa; exact fa_sR (by decide); exact rfl; exact rfl; apply wl_take; exact rfl; exact rfl; exact rfl; refine bF ?_; (with_reducible assumption); apply wl_val; apply opv_ldX; exact rfl; exact hs.ar 1 rfl; exact e1_by; exact rfl; exact rfl; apply wl_take; exact rfl; exact rfl; exact rfl; refine bF ?_; (with_reducible assumption); apply wl_val; apply opv_fa; exact fa_sR (by decide); exact rfl; exact rfl; apply wl_take; exact rfl; exact rfl; exact rfl; refine bF ?_; (with_reducible assumption); apply wl_val; apply opv_ldX; exact rfl; exact hs.ar 0 rfl; exact e1_by; exact rfl; exact rfl; apply wl_take; exact rfl; exact rfl; exact rfl; refine bF ?_; (with_reducible assumption)
      refine wl_call ok_codec_Cmp (cmp_any (r1.below hs.bel) (r4.below hs.bel) rfl rfl) ⟨rfl, rfl, trivial⟩ rfl ?_
      rintro _ _ ⟨rfl, rfl⟩
      apply wl_take; exact rfl; exact rfl; exact rfl; refine bF ?_; (with_reducible assumption); refine wl_bin rfl rfl bin_lss rfl ?_; apply wl_val; apply opv_pickF; exact rfl; refine bF ?_; (with_reducible assumption); exact rfl; exact rfl; refine wl_nil ?_
      exact we_cut _ ⟨rfl, rfl⟩ ⟨congrArg (fun b => some (Value.bool b)) (belowB_lt h1).symm, by refine And.intro rfl ?_; refine And.intro rfl ?_; refine And.intro rfl ?_; refine And.intro rfl ?_; refine And.intro rfl ?_; refine And.intro rfl ?_; refine And.intro rfl ?_; refine And.intro rfl ?_; refine And.intro rfl ?_; refine And.intro rfl ?_; exact True.intro⟩
  dsimp only [List.drop]
  unfold meetsB
  cases hb1 : belowB x.fr y.to with
  | false =>
    refine wl_mv rfl rfl ?_; apply wl_skip; exact rfl; exact rfl; exact rfl; exact bR2; exact rfl; apply wl_skip; exact rfl; exact rfl; exact rfl; exact bR2; exact rfl; apply wl_skip; exact rfl; exact rfl; exact rfl; exact bR2; exact rfl; apply wl_skip; exact rfl; exact rfl; exact rfl; exact bR2; exact rfl; apply wl_skip; exact rfl; exact rfl; exact rfl; exact bR2; exact rfl; apply wl_skipU; exact rfl; exact rfl; exact rfl; exact rfl; apply wl_skipU; exact rfl; exact rfl; exact rfl; exact rfl; apply wl_skipU; exact rfl; exact rfl; exact rfl; exact rfl; apply wl_skipU; exact rfl; exact rfl; exact rfl; exact rfl; apply wl_skipU; exact rfl; exact rfl; exact rfl; exact rfl; apply wl_skipU; exact rfl; exact rfl; exact rfl; exact rfl; apply wl_skip; exact rfl; exact rfl; exact rfl; exact bR2; exact rfl; apply wl_val; apply opv_pickF; exact rfl; exact rfl; exact rfl; exact rfl; refine wl_as rfl rfl ?_; refine wl_ns ?_; refine wc_ret ?_
    exact we_ret1 rfl rfl ⟨_, rfl, rfl, hs.bel⟩
  | true =>
    refine wl_mv rfl rfl ?_; apply wl_take; exact rfl; exact rfl; exact rfl; exact rfl; apply wl_val; apply opv_fa; exact fa_sR (by decide); exact rfl; exact rfl; apply wl_take; exact rfl; exact rfl; exact rfl; exact rfl; apply wl_val; apply opv_ldX; exact rfl; exact hs.ar 1 rfl; exact e1_by; exact rfl; exact rfl; apply wl_take; exact rfl; exact rfl; exact rfl; exact rfl; apply wl_val; apply opv_len; exact rfl; exact tyB.sl; exact rfl; apply wl_take; exact rfl; exact rfl; exact rfl; exact rfl; refine wl_bin rfl rfl bin_eql rfl ?_; apply wl_take; exact rfl; exact rfl; exact rfl; exact rfl; refine wl_mv rfl rfl ?_
    by_cases h1 : (x.to.length : Int) = 0
    · apply wl_skip; exact rfl; exact rfl; exact rfl; refine bTn ?_; (with_reducible assumption); exact rfl; apply wl_skip; exact rfl; exact rfl; exact rfl; refine bTn ?_; (with_reducible assumption); exact rfl; apply wl_skip; exact rfl; exact rfl; exact rfl; refine bTn ?_; (with_reducible assumption); exact rfl; apply wl_skip; exact rfl; exact rfl; exact rfl; refine bTn ?_; (with_reducible assumption); exact rfl; apply wl_skip; exact rfl; exact rfl; exact rfl; refine bTn ?_; (with_reducible assumption); exact rfl; apply wl_skip; exact rfl; exact rfl; exact rfl; refine bTn ?_; (with_reducible assumption); exact rfl; apply wl_take; exact rfl; exact rfl; exact rfl; exact rfl; apply wl_val; apply opv_pickT; exact rfl; refine bT ?_; (with_reducible assumption); exact rfl; exact rfl; apply wl_val; apply opv_pickT; exact rfl; exact rfl; exact rfl; exact rfl; refine wl_as rfl rfl ?_; refine wl_ns ?_; refine wc_ret ?_
      exact we_ret1 rfl rfl ⟨_, rfl, by rw [belowB_nil h1]; rfl, hs.bel⟩
    · apply wl_take; exact rfl; exact rfl; exact rfl; refine bF ?_; (with_reducible assumption); apply wl_val; apply opv_fa; exact fa_sR (by decide); exact rfl; exact rfl; apply wl_take; exact rfl; exact rfl; exact rfl; refine bF ?_; (with_reducible assumption); apply wl_val; apply opv_ldX; exact rfl; exact hs.ar 0 rfl; exact e1_by; exact rfl; exact rfl; apply wl_take; exact rfl; exact rfl; exact rfl; refine bF ?_; (with_reducible assumption); apply wl_val; apply opv_fa; exact fa_sR (by decide); exact rfl; exact rfl; apply wl_take; exact rfl; exact rfl; exact rfl; refine bF ?_; (with_reducible assumption); apply wl_val; apply opv_ldX; exact rfl; exact hs.ar 1 rfl; exact e1_by; exact rfl; exact rfl; apply wl_take; exact rfl; exact rfl; exact rfl; refine bF ?_; (with_reducible assumption)
      refine wl_call ok_codec_Cmp (cmp_any (r3.below hs.bel) (r2.below hs.bel) rfl rfl) ⟨rfl, rfl, trivial⟩ rfl ?_
      rintro _ _ ⟨rfl, rfl⟩
      apply wl_take; exact rfl; exact rfl; exact rfl; refine bF ?_; (with_reducible assumption); refine wl_bin rfl rfl bin_lss rfl ?_; apply wl_take; exact rfl; exact rfl; exact rfl; exact rfl; apply wl_val; apply opv_pickF; exact rfl; refine bF ?_; (with_reducible assumption); exact rfl; exact rfl; apply wl_val; apply opv_pickT; exact rfl; exact rfl; exact rfl; exact rfl; refine wl_as rfl rfl ?_; refine wl_ns ?_; refine wc_ret ?_
      exact we_ret1 rfl rfl ⟨_, rfl, by rw [belowB_lt h1]; rfl, hs.bel⟩
theorem clash_any {A B : Option Addr} {n m c d : Nat} {a b : List Rg} {w : World} (ha : RdR 3 w All A (a.map rgEl)) (hb : RdR 3 w All B (b.map rgEl)) (hn : a.length = n) (hm : b.length = m) (hla : a.length ≤ 4294967296) (hlb : b.length ≤ 4294967296) :
    CallsV Try.prog 70 #[.slice A n c, .slice B m d] w fun v w' => v = .bool (clashB a b) ∧ Below w.heap.size w w' := by
  subst hn hm
  have hs := St.init w
  refine calls_in (N := _) Try.func70 rfl Try.ntmps70 rfl ?_; show WC _ _ _ _ _ _
  refine wc_sr ?_; refine wl_as rfl rfl ?_; refine wl_ns ?_; refine wc_seq ?_; refine wc_sr ?_; refine wl_mv rfl rfl ?_; apply wl_val; apply opv_len; exact rfl; exact tkR.sl; exact rfl; refine wl_mv rfl rfl ?_; refine wl_ns ?_; refine wc_block ?_
  refine wc_loop (fun L wr mm => ∃ k : Nat, L = [(1, .slice B b.length d), (9, .slice A a.length c), (10, .int .i64 (a.length : Int)), (11, .int .i64 (k : Int))] ∧ k ≤ a.length ∧ ((a.take k).any fun x => b.any fun y => clash1 x y) = false ∧ St NoB w wr [] ∧ mm = a.length - k)
    [(1, .slice B b.length d), (9, .slice A a.length c), (10, .int .i64 (a.length : Int)), (11, .int .i64 (0 : Nat))] a.length ⟨0, rfl, by omega, rfl, hs, rfl⟩ ⟨rfl, rfl, rfl, rfl, trivial⟩ ?_
  clear hs
  rintro _ w1 mm ⟨k, rfl, hk, hf, hs, rfl⟩
  refine wc_sr ?_; refine wl_bin rfl rfl bin_lss rfl ?_; refine wl_ns ?_; refine wc_seq ?_
  refine wc_cond rfl (fun h1 => ?_) (fun h1 => ?_)
  · obtain ⟨x, hx⟩ : ∃ x, a[k]? = some x := ⟨_, List.getElem?_eq_getElem (by omega)⟩
    obtain ⟨bb, o, cs, rfl, _, _, hp, i1⟩ := RdR.at (k := 3) (by decide) ha (E := rgEl x) (i := k) (by rw [List.getElem?_map, hx]; rfl)
    obtain ⟨X, cx, Y, cy, rfl, rx, _, ry, _⟩ := rgEl.rd hp
    replace i1 := i1.below hs.bel
    refine wc_skip ?_; refine we_seq ?_; refine wc_seq ?_; refine wc_block ?_; refine wc_sr ?_; apply wl_val; apply opv_idxG tkR; exact rfl; exact rfl; exact rfl; omega; exact rfl; apply wl_val; apply opv_ldG; exact rfl; assumption; exact sR; exact rfl
    refine ws_var (cs := rgV x X cx Y cy) hs zeroRg sR rfl (fun _ => rfl) (by first | rfl | simp [Value.oneCell']) rfl ?_; clear hs; intro g6 _ hs
    refine wl_ns ?_; refine wc_sr ?_; refine wl_mv rfl rfl ?_; apply wl_val; apply opv_len; exact rfl; exact tkR.sl; exact rfl; refine wl_mv rfl rfl ?_; refine wl_ns ?_; refine wc_block ?_
    have hak := any_take (p := fun x => b.any fun y => clash1 x y) hx
    rw [hf, Bool.false_or] at hak
    refine wc_loop (fun L wr mm => ∃ j : Nat, L = [(1, .slice B b.length d), (9, .slice (some ⟨bb, o, none⟩) a.length c), (10, .int .i64 (a.length : Int)), (11, .int .i64 (k : Int)), (6, .pointer (some ⟨g6, 0, none⟩)), (15, .slice B b.length d), (16, .int .i64 (b.length : Int)), (17, .int .i64 (j : Int))] ∧ j ≤ b.length ∧ ((b.take j).any fun y => clash1 x y) = false ∧ St NoB w wr [.blk g6 61 (rgV x X cx Y cy)] ∧ mm = b.length - j)
      [(1, .slice B b.length d), (9, .slice (some ⟨bb, o, none⟩) a.length c), (10, .int .i64 (a.length : Int)), (11, .int .i64 (k : Int)), (6, .pointer (some ⟨g6, 0, none⟩)), (15, .slice B b.length d), (16, .int .i64 (b.length : Int)), (17, .int .i64 (0 : Nat))] b.length ⟨0, rfl, by omega, rfl, hs, rfl⟩ ⟨rfl, rfl, rfl, rfl, rfl, rfl, rfl, rfl, trivial⟩ ?_
    clear hs i1
    rintro _ w2 mm ⟨j, rfl, hj, hg, hs, rfl⟩
    refine wc_sr ?_; refine wl_bin rfl rfl bin_lss rfl ?_; refine wl_ns ?_; refine wc_seq ?_
    refine wc_cond rfl (fun h2 => ?_) (fun h2 => ?_)
    · obtain ⟨y, hy⟩ : ∃ y, b[j]? = some y := ⟨_, List.getElem?_eq_getElem (by omega)⟩
      obtain ⟨bc, oc, cs, rfl, _, _, hp2, i2⟩ := RdR.at (k := 3) (by decide) hb (E := rgEl y) (i := j) (by rw [List.getElem?_map, hy]; rfl)
      obtain ⟨X2, cx2, Y2, cy2, rfl, rx2, _, ry2, _⟩ := rgEl.rd hp2
      replace i2 := i2.below hs.bel
      refine wc_skip ?_; refine we_seq ?_; refine wc_seq ?_; refine wc_block ?_; refine wc_sr ?_; apply wl_val; apply opv_idxG tkR; exact rfl; exact rfl; exact rfl; omega; exact rfl; apply wl_val; apply opv_ldG; exact rfl; assumption; exact sR; exact rfl
      refine ws_var (cs := rgV y X2 cx2 Y2 cy2) hs zeroRg sR rfl (fun _ => rfl) (by first | rfl | simp [Value.oneCell']) rfl ?_; clear hs; intro g8 _ hs
      have hbt := any_take (p := fun y => clash1 x y) hy
      rw [hg, Bool.false_or] at hbt
      obtain ⟨xf, xt, xe⟩ := x
      obtain ⟨yf, yt, ye⟩ := y
      unfold rgV at hs
      dsimp only at rx ry rx2 ry2 hs
      have fin : ∀ {q : Bool}, q = clash1 ⟨xf, xt, xe⟩ ⟨yf, yt, ye⟩ → q = true → clashB a b = true := fun h1 h2 => any_at (p := fun x => b.any fun y => clash1 x y) hx (any_at (p := fun y => clash1 ⟨xf, xt, xe⟩ y) hy (h1.symm.trans h2))
      have hjj : ((j + 1 : Nat) : Int) = (j : Int) + 1 := by omega
      cases xe with
      | true =>
        refine wl_ns ?_; refine wc_sr ?_; apply wl_val; apply opv_fa; exact fa_sR (by decide); exact rfl; exact rfl; apply wl_val; apply opv_ldX; exact rfl; exact hs.ar 1 rfl; exact e1_bool; exact rfl; exact rfl; refine wl_mv rfl rfl ?_; apply wl_skip; exact rfl; exact rfl; exact rfl; exact bR1; exact rfl; apply wl_skip; exact rfl; exact rfl; exact rfl; exact bR1; exact rfl; apply wl_val; apply opv_pickT; exact rfl; exact rfl; exact rfl; exact rfl; refine wl_mv rfl rfl ?_; apply wl_take; exact rfl; exact rfl; exact rfl; exact rfl; apply wl_val; apply opv_loadX; exact rfl; exact hs.ar 1 rfl; exact sR; exact rfl; apply wl_take; exact rfl; exact rfl; exact rfl; exact rfl; apply wl_val; apply opv_loadX; exact rfl; exact hs.ar 0 rfl; exact sR; exact rfl; apply wl_take; exact rfl; exact rfl; exact rfl; exact rfl
        refine wl_call ok_lock_meets (meets_any (x := ⟨xf, xt, true⟩) (y := ⟨yf, yt, ye⟩) (rx.below hs.bel) (ry.below hs.bel) (rx2.below hs.bel) (ry2.below hs.bel)) ⟨rfl, rfl, trivial⟩ rfl ?_
        rintro _ w3 ⟨rfl, hbx⟩
        replace hs := hs.below hbx
        clear hbx
        have e1 : clash1 ⟨xf, xt, true⟩ ⟨yf, yt, ye⟩ = meetsB ⟨xf, xt, true⟩ ⟨yf, yt, ye⟩ := rfl
        cases hm : meetsB ⟨xf, xt, true⟩ ⟨yf, yt, ye⟩ with
        | true =>
          apply wl_val; apply opv_pickT; exact rfl; exact rfl; exact rfl; exact rfl; refine wl_ns ?_; apply wc_condTb; exact rfl; exact rfl; refine wc_sr ?_; refine wl_as rfl rfl ?_; refine wl_ns ?_; refine wc_ret ?_; refine we_block_ret ?_; refine we_seq_ret ?_; refine we_loop_ret ?_; refine we_block_ret ?_; refine we_block_ret ?_; refine we_seq_ret ?_; refine we_loop_ret ?_; refine we_block_ret ?_; refine we_seq_ret ?_
          exact we_ret1 rfl rfl ⟨_, rfl, by rw [fin rfl (e1.trans hm)], hs.bel⟩
        | false =>
          apply wl_val; apply opv_pickT; exact rfl; exact rfl; exact rfl; exact rfl; refine wl_ns ?_; apply wc_condFb; exact rfl; exact rfl; refine wc_skip ?_; refine we_block_norm ?_; refine we_seq ?_; refine wc_region ?_; apply wl_val; apply opv_bin; exact rfl; exact rfl; exact bin_add64 (by omega); exact rfl; refine wl_mv rfl rfl ?_; refine wl_nil ?_
          exact we_loop _ (b.length - (j + 1)) ⟨j + 1, rfl, by omega, by rw [hbt, e1, hm], hs.drop 0 rfl, rfl⟩ (by omega) ⟨rfl, rfl, rfl, rfl, rfl, rfl, rfl, by simp [lookT], trivial⟩
      | false =>
        cases ye with
        | true =>
          refine wl_ns ?_; refine wc_sr ?_; apply wl_val; apply opv_fa; exact fa_sR (by decide); exact rfl; exact rfl; apply wl_val; apply opv_ldX; exact rfl; exact hs.ar 1 rfl; exact e1_bool; exact rfl; exact rfl; refine wl_mv rfl rfl ?_; apply wl_take; exact rfl; exact rfl; exact rfl; exact rfl; apply wl_val; apply opv_fa; exact fa_sR (by decide); exact rfl; exact rfl; apply wl_take; exact rfl; exact rfl; exact rfl; exact rfl; apply wl_val; apply opv_ldX; exact rfl; exact hs.ar 0 rfl; exact e1_bool; exact rfl; exact rfl; apply wl_val; apply opv_pickF; exact rfl; exact rfl; exact rfl; exact rfl; refine wl_mv rfl rfl ?_; apply wl_take; exact rfl; exact rfl; exact rfl; exact rfl; apply wl_val; apply opv_loadX; exact rfl; exact hs.ar 1 rfl; exact sR; exact rfl; apply wl_take; exact rfl; exact rfl; exact rfl; exact rfl; apply wl_val; apply opv_loadX; exact rfl; exact hs.ar 0 rfl; exact sR; exact rfl; apply wl_take; exact rfl; exact rfl; exact rfl; exact rfl
          refine wl_call ok_lock_meets (meets_any (x := ⟨xf, xt, false⟩) (y := ⟨yf, yt, true⟩) (rx.below hs.bel) (ry.below hs.bel) (rx2.below hs.bel) (ry2.below hs.bel)) ⟨rfl, rfl, trivial⟩ rfl ?_
          rintro _ w3 ⟨rfl, hbx⟩
          replace hs := hs.below hbx
          clear hbx
          have e1 : clash1 ⟨xf, xt, false⟩ ⟨yf, yt, true⟩ = meetsB ⟨xf, xt, false⟩ ⟨yf, yt, true⟩ := rfl
          cases hm : meetsB ⟨xf, xt, false⟩ ⟨yf, yt, true⟩ with
          | true =>
            apply wl_val; apply opv_pickT; exact rfl; exact rfl; exact rfl; exact rfl; refine wl_ns ?_; apply wc_condTb; exact rfl; exact rfl; refine wc_sr ?_; refine wl_as rfl rfl ?_; refine wl_ns ?_; refine wc_ret ?_; refine we_block_ret ?_; refine we_seq_ret ?_; refine we_loop_ret ?_; refine we_block_ret ?_; refine we_block_ret ?_; refine we_seq_ret ?_; refine we_loop_ret ?_; refine we_block_ret ?_; refine we_seq_ret ?_
            exact we_ret1 rfl rfl ⟨_, rfl, by rw [fin rfl (e1.trans hm)], hs.bel⟩
          | false =>
            apply wl_val; apply opv_pickT; exact rfl; exact rfl; exact rfl; exact rfl; refine wl_ns ?_; apply wc_condFb; exact rfl; exact rfl; refine wc_skip ?_; refine we_block_norm ?_; refine we_seq ?_; refine wc_region ?_; apply wl_val; apply opv_bin; exact rfl; exact rfl; exact bin_add64 (by omega); exact rfl; refine wl_mv rfl rfl ?_; refine wl_nil ?_
            exact we_loop _ (b.length - (j + 1)) ⟨j + 1, rfl, by omega, by rw [hbt, e1, hm], hs.drop 0 rfl, rfl⟩ (by omega) ⟨rfl, rfl, rfl, rfl, rfl, rfl, rfl, by simp [lookT], trivial⟩
        | false =>
          refine wl_ns ?_; refine wc_sr ?_; apply wl_val; apply opv_fa; exact fa_sR (by decide); exact rfl; exact rfl; apply wl_val; apply opv_ldX; exact rfl; exact hs.ar 1 rfl; exact e1_bool; exact rfl; exact rfl; refine wl_mv rfl rfl ?_; apply wl_take; exact rfl; exact rfl; exact rfl; exact rfl; apply wl_val; apply opv_fa; exact fa_sR (by decide); exact rfl; exact rfl; apply wl_take; exact rfl; exact rfl; exact rfl; exact rfl; apply wl_val; apply opv_ldX; exact rfl; exact hs.ar 0 rfl; exact e1_bool; exact rfl; exact rfl; apply wl_val; apply opv_pickF; exact rfl; exact rfl; exact rfl; exact rfl; refine wl_mv rfl rfl ?_; apply wl_skip; exact rfl; exact rfl; exact rfl; exact bR2; exact rfl; apply wl_skip; exact rfl; exact rfl; exact rfl; exact bR2; exact rfl; apply wl_skip; exact rfl; exact rfl; exact rfl; exact bR2; exact rfl; apply wl_val; apply opv_pickF; exact rfl; exact rfl; exact rfl; exact rfl; refine wl_ns ?_; apply wc_condFb; exact rfl; exact rfl; refine wc_skip ?_; refine we_block_norm ?_; refine we_seq ?_; refine wc_region ?_; apply wl_val; apply opv_bin; exact rfl; exact rfl; exact bin_add64 (by omega); exact rfl; refine wl_mv rfl rfl ?_; refine wl_nil ?_
          exact we_loop _ (b.length - (j + 1)) ⟨j + 1, rfl, by omega, by rw [hbt]; rfl, hs.drop 0 rfl, rfl⟩ (by omega) ⟨rfl, rfl, rfl, rfl, rfl, rfl, rfl, by simp [lookT], trivial⟩
    · obtain rfl : j = b.length := by omega
      rw [List.take_length] at hg
      refine wc_exit ?_; refine we_seq_exit ?_; refine we_loop_exit ?_; refine we_block_exit ?_; refine we_block_norm ?_; refine we_seq ?_; refine wc_region ?_; apply wl_val; apply opv_bin; exact rfl; exact rfl; exact bin_add64 (by omega); exact rfl; refine wl_mv rfl rfl ?_; refine wl_nil ?_
      exact we_loop _ (a.length - (k + 1)) ⟨k + 1, rfl, by omega, by rw [hak]; exact hg, hs.drop 0 rfl, rfl⟩ (by omega) ⟨rfl, rfl, rfl, by simp [lookT], trivial⟩
  · obtain rfl : k = a.length := by omega
    rw [List.take_length] at hf
    refine wc_exit ?_; refine we_seq_exit ?_; refine we_loop_exit ?_; refine we_block_exit ?_; refine we_seq ?_; refine wc_sr ?_; refine wl_as rfl rfl ?_; refine wl_ns ?_; refine wc_ret ?_
    exact we_ret1 rfl rfl ⟨_, rfl, by rw [clashB, hf], hs.bel⟩
theorem check_any {A : Option Addr} {n c : Nat} {l : List Rg} {w : World} (hr : RdR 3 w All A (l.map rgEl)) (hn : l.length = n) (hl : l.length ≤ 4294967296) :
    CallsV Try.prog 44 #[.slice A n c] w fun v w' => v = .int .i64 (checkR l : Nat) ∧ Below w.heap.size w w' := by
  subst hn
  have hs := St.init w
  refine calls_in (N := _) Try.func44 rfl Try.ntmps44 rfl ?_; show WC _ _ _ _ _ _
  refine wc_sr ?_; refine wl_as rfl rfl ?_; refine wl_ns ?_; refine wc_seq ?_; refine wc_sr ?_; refine wl_mv rfl rfl ?_; apply wl_val; apply opv_len; exact rfl; exact tkR.sl; exact rfl; refine wl_bin rfl rfl bin_gtr rfl ?_; refine wl_ns ?_
  by_cases h64 : 64 < l.length
  · have h64' : (64 : Int) < (l.length : Int) := by omega
    apply wc_decT; exact rfl; (with_reducible assumption); refine wc_sr ?_; refine wl_as rfl rfl ?_; refine wl_ns ?_; refine wc_ret ?_; refine we_seq_ret ?_
    exact we_ret1 rfl rfl ⟨_, rfl, by rw [checkR, if_pos h64]; rfl, hs.bel⟩
  have h64' : ¬ (64 : Int) < (l.length : Int) := by omega
  apply wc_decF; exact rfl; (with_reducible assumption); refine wc_skip ?_; refine we_seq ?_; refine wc_sr ?_; refine wl_as rfl rfl ?_; refine wl_ns ?_; refine wc_seq ?_; refine wc_sr ?_; refine wl_mv rfl rfl ?_; apply wl_val; apply opv_len; exact rfl; exact tkR.sl; exact rfl; refine wl_mv rfl rfl ?_; refine wl_ns ?_; refine wc_block ?_
  refine wc_loop (fun L wr mm => ∃ (k f : Nat), L = [(3, .int .i64 (f : Int)), (9, .slice A l.length c), (10, .int .i64 (l.length : Int)), (11, .int .i64 (k : Int))] ∧ k ≤ l.length ∧ (l.take k).any bigR = false ∧ f = (if (l.take k).any badR then 3 else 0) ∧ St NoB w wr [] ∧ mm = l.length - k)
    [(3, .int .i64 (0 : Nat)), (9, .slice A l.length c), (10, .int .i64 (l.length : Int)), (11, .int .i64 (0 : Nat))] l.length ⟨0, 0, rfl, by omega, rfl, rfl, hs, rfl⟩ ⟨rfl, rfl, rfl, rfl, trivial⟩ ?_
  clear hs
  rintro _ w1 mm ⟨k, f, rfl, hk, hbig, hf, hs, rfl⟩
  refine wc_sr ?_; refine wl_bin rfl rfl bin_lss rfl ?_; refine wl_ns ?_; refine wc_seq ?_
  refine wc_cond rfl (fun h1 => ?_) (fun h1 => ?_)
  · obtain ⟨x, hx⟩ : ∃ x, l[k]? = some x := ⟨_, List.getElem?_eq_getElem (by omega)⟩
    obtain ⟨bb, o, cs, rfl, _, _, hp, i1⟩ := RdR.at (k := 3) (by decide) hr (E := rgEl x) (i := k) (by rw [List.getElem?_map, hx]; rfl)
    obtain ⟨X, cx, Y, cy, rfl, rx, _, ry, _⟩ := rgEl.rd hp
    replace i1 := i1.below hs.bel
    have hbt := any_take (p := bigR) hx
    have hft := any_take (p := badR) hx
    rw [hbig, Bool.false_or] at hbt
    refine wc_skip ?_; refine we_seq ?_; refine wc_seq ?_; refine wc_block ?_; refine wc_sr ?_; apply wl_val; apply opv_idxG tkR; exact rfl; exact rfl; exact rfl; omega; exact rfl; apply wl_val; apply opv_ldG; exact rfl; assumption; exact sR; exact rfl
    refine ws_var (cs := rgV x X cx Y cy) hs zeroRg sR rfl (fun _ => rfl) (by first | rfl | simp [Value.oneCell']) rfl ?_; clear hs; intro g5 _ hs
    unfold rgV at hs
    refine wl_ns ?_; refine wc_seq ?_; refine wc_sr ?_; apply wl_val; apply opv_fa; exact fa_sR (by decide); exact rfl; exact rfl; apply wl_val; apply opv_ldX; exact rfl; exact hs.ar 0 rfl; exact e1_by; exact rfl; exact rfl; apply wl_val; apply opv_len; exact rfl; exact tyB.sl; exact rfl; refine wl_bin rfl rfl bin_gtr rfl ?_; refine wl_mv rfl rfl ?_
    refine wl_cutV 9 24 (.bool (decide (((1024 : Int) < (x.fr.length : Int)) ∨ ((1024 : Int) < (x.to.length : Int))))) ?c33 ?_; (case c33 => (dsimp only [List.take]; by_cases hc0 : ((1024 : Int) < (x.fr.length : Int)); (focus (apply wl_skip; exact rfl; exact rfl; exact rfl; refine bTn ?_; (with_reducible assumption); exact rfl; apply wl_skip; exact rfl; exact rfl; exact rfl; refine bTn ?_; (with_reducible assumption); exact rfl; apply wl_skip; exact rfl; exact rfl; exact rfl; refine bTn ?_; (with_reducible assumption); exact rfl; apply wl_skip; exact rfl; exact rfl; exact rfl; refine bTn ?_; (with_reducible assumption); exact rfl; apply wl_val; apply opv_pickT; exact rfl; refine bT ?_; (with_reducible assumption); exact rfl; exact rfl; refine wl_nil ?_; refine we_cut _ ⟨rfl, rfl⟩ ⟨congrArg (fun b => some (Value.bool b)) ?e33_0, ?s33_0⟩; (case e33_0 => ((simp [hc0]; done))); (case s33_0 => (refine And.intro rfl ?_; refine And.intro rfl ?_; refine And.intro rfl ?_; refine And.intro rfl ?_; refine And.intro rfl ?_; refine And.intro rfl ?_; refine And.intro rfl ?_; refine And.intro rfl ?_; refine And.intro rfl ?_; refine And.intro rfl ?_; refine And.intro rfl ?_; refine And.intro rfl ?_; refine And.intro rfl ?_; exact True.intro)))); (focus (apply wl_take; exact rfl; exact rfl; exact rfl; refine bF ?_; (with_reducible assumption); apply wl_val; apply opv_fa; exact fa_sR (by decide); exact rfl; exact rfl; apply wl_take; exact rfl; exact rfl; exact rfl; refine bF ?_; (with_reducible assumption); apply wl_val; apply opv_ldX; exact rfl; exact hs.ar 0 rfl; exact e1_by; exact rfl; exact rfl; apply wl_take; exact rfl; exact rfl; exact rfl; refine bF ?_; (with_reducible assumption); apply wl_val; apply opv_len; exact rfl; exact tyB.sl; exact rfl; apply wl_take; exact rfl; exact rfl; exact rfl; refine bF ?_; (with_reducible assumption); refine wl_bin rfl rfl bin_gtr rfl ?_; apply wl_val; apply opv_pickF; exact rfl; refine bF ?_; (with_reducible assumption); exact rfl; exact rfl; refine wl_nil ?_; refine we_cut _ ⟨rfl, rfl⟩ ⟨congrArg (fun b => some (Value.bool b)) ?e33_1, ?s33_1⟩; (case e33_1 => ((simp [hc0]; done))); (case s33_1 => (refine And.intro rfl ?_; refine And.intro rfl ?_; refine And.intro rfl ?_; refine And.intro rfl ?_; refine And.intro rfl ?_; refine And.intro rfl ?_; refine And.intro rfl ?_; refine And.intro rfl ?_; refine And.intro rfl ?_; refine And.intro rfl ?_; refine And.intro rfl ?_; refine And.intro rfl ?_; refine And.intro rfl ?_; exact True.intro)))))); dsimp only [List.drop]
    refine wl_ns ?_
    refine wc_cond rfl (fun h2 => ?_) (fun h2 => ?_)
    · refine wc_sr ?_; refine wl_as rfl rfl ?_; refine wl_ns ?_; refine wc_ret ?_; refine we_seq_ret ?_; refine we_block_ret ?_; refine we_seq_ret ?_; refine we_loop_ret ?_; refine we_block_ret ?_; refine we_seq_ret ?_
      refine we_ret1 rfl rfl ⟨_, rfl, ?_, hs.bel⟩
      rw [checkR, if_neg h64, any_at hx (by rw [bigR]; exact decide_eq_true (by omega))]; rfl
    have hnb : bigR x = false := decide_eq_false (by omega)
    rw [hnb] at hbt
    refine wc_skip ?_; refine we_seq ?_; refine wc_sr ?_; apply wl_val; apply opv_fa; exact fa_sR (by decide); exact rfl; exact rfl; apply wl_val; apply opv_ldX; exact rfl; exact hs.ar 0 rfl; exact e1_by; exact rfl; exact rfl; apply wl_val; apply opv_len; exact rfl; exact tyB.sl; exact rfl; refine wl_bin rfl rfl bin_gtr rfl ?_; refine wl_mv rfl rfl ?_
    by_cases k1 : (0 : Int) < (x.to.length : Int)
    · apply wl_take; exact rfl; exact rfl; exact rfl; refine bT ?_; (with_reducible assumption); apply wl_val; apply opv_fa; exact fa_sR (by decide); exact rfl; exact rfl; apply wl_take; exact rfl; exact rfl; exact rfl; refine bT ?_; (with_reducible assumption); apply wl_val; apply opv_ldX; exact rfl; exact hs.ar 0 rfl; exact e1_by; exact rfl; exact rfl; apply wl_take; exact rfl; exact rfl; exact rfl; refine bT ?_; (with_reducible assumption); apply wl_val; apply opv_fa; exact fa_sR (by decide); exact rfl; exact rfl; apply wl_take; exact rfl; exact rfl; exact rfl; refine bT ?_; (with_reducible assumption); apply wl_val; apply opv_ldX; exact rfl; exact hs.ar 0 rfl; exact e1_by; exact rfl; exact rfl; apply wl_take; exact rfl; exact rfl; exact rfl; refine bT ?_; (with_reducible assumption)
      refine wl_call ok_codec_Cmp (cmp_any (rx.below hs.bel) (ry.below hs.bel) rfl rfl) ⟨rfl, rfl, trivial⟩ rfl ?_
      rintro _ _ ⟨rfl, rfl⟩
      by_cases k2 : 0 ≤ cmpB x.fr x.to
      · have hnd : badR x = true := decide_eq_true ⟨by omega, k2⟩
        rw [hnd, Bool.or_true] at hft
        apply wl_take; exact rfl; exact rfl; exact rfl; refine bT ?_; (with_reducible assumption); refine wl_bin rfl rfl bin_geq rfl ?_; apply wl_val; apply opv_pickT; exact rfl; refine bT ?_; (with_reducible assumption); exact rfl; exact rfl; refine wl_ns ?_; apply wc_decT; exact rfl; (with_reducible assumption); refine wc_region ?_; refine wl_as rfl rfl ?_; refine wl_nil ?_; refine we_block_norm ?_; refine we_seq ?_; refine wc_region ?_; apply wl_val; apply opv_bin; exact rfl; exact rfl; exact bin_add64 (by omega); exact rfl; refine wl_mv rfl rfl ?_; refine wl_nil ?_
        exact we_loop _ (l.length - (k + 1)) ⟨k + 1, 3, rfl, by omega, hbt, by rw [hft]; rfl, hs.drop 0 rfl, rfl⟩ (by omega) ⟨rfl, rfl, rfl, by simp [lookT], trivial⟩
      · have hnd : badR x = false := decide_eq_false fun h => k2 h.2
        rw [hnd, Bool.or_false] at hft
        apply wl_take; exact rfl; exact rfl; exact rfl; refine bT ?_; (with_reducible assumption); refine wl_bin rfl rfl bin_geq rfl ?_; apply wl_val; apply opv_pickT; exact rfl; refine bT ?_; (with_reducible assumption); exact rfl; exact rfl; refine wl_ns ?_; apply wc_decF; exact rfl; (with_reducible assumption); refine wc_skip ?_; refine we_block_norm ?_; refine we_seq ?_; refine wc_region ?_; apply wl_val; apply opv_bin; exact rfl; exact rfl; exact bin_add64 (by omega); exact rfl; refine wl_mv rfl rfl ?_; refine wl_nil ?_
        exact we_loop _ (l.length - (k + 1)) ⟨k + 1, f, rfl, by omega, hbt, by rw [hft]; exact hf, hs.drop 0 rfl, rfl⟩ (by omega) ⟨rfl, rfl, rfl, by simp [lookT], trivial⟩
    · have hnd : badR x = false := decide_eq_false fun h => k1 (by omega)
      rw [hnd, Bool.or_false] at hft
      apply wl_skip; exact rfl; exact rfl; exact rfl; refine bFn ?_; (with_reducible assumption); exact rfl; apply wl_skip; exact rfl; exact rfl; exact rfl; refine bFn ?_; (with_reducible assumption); exact rfl; apply wl_skip; exact rfl; exact rfl; exact rfl; refine bFn ?_; (with_reducible assumption); exact rfl; apply wl_skip; exact rfl; exact rfl; exact rfl; refine bFn ?_; (with_reducible assumption); exact rfl; apply wl_skip; exact rfl; exact rfl; exact rfl; refine bFn ?_; (with_reducible assumption); exact rfl; apply wl_skip; exact rfl; exact rfl; exact rfl; refine bFn ?_; (with_reducible assumption); exact rfl; apply wl_val; apply opv_pickF; exact rfl; refine bF ?_; (with_reducible assumption); exact rfl; exact rfl; refine wl_ns ?_; apply wc_condFb; exact rfl; exact rfl; refine wc_skip ?_; refine we_block_norm ?_; refine we_seq ?_; refine wc_region ?_; apply wl_val; apply opv_bin; exact rfl; exact rfl; exact bin_add64 (by omega); exact rfl; refine wl_mv rfl rfl ?_; refine wl_nil ?_
      exact we_loop _ (l.length - (k + 1)) ⟨k + 1, f, rfl, by omega, hbt, by rw [hft]; exact hf, hs.drop 0 rfl, rfl⟩ (by omega) ⟨rfl, rfl, rfl, by simp [lookT], trivial⟩
  · obtain rfl : k = l.length := by omega
    rw [List.take_length] at hbig hf
    refine wc_exit ?_; refine we_seq_exit ?_; refine we_loop_exit ?_; refine we_block_exit ?_; refine we_seq ?_; refine wc_sr ?_; refine wl_mv rfl rfl ?_; refine wl_as rfl rfl ?_; refine wl_ns ?_; refine wc_ret ?_
    exact we_ret1 rfl rfl ⟨_, rfl, by rw [checkR, if_neg h64, hbig, hf]; rfl, hs.bel⟩
/-- New rows of ranges. -/
def RetRg (w : World) (l : List Rg) (v : Value) (w' : World) : Prop := ∃ (A : Option Addr) (c : Nat), v = .slice A l.length c ∧ St NoB w w' [.rg 3 61 A c (l.map rgEl)]
theorem rgEl_of {x : Rg} {A B : Option Addr} {c d : Nat} (w : World) (S : BS) (h : Sat w [.ow 5 A x.fr.length c (bvs x.fr), .ow 5 B x.to.length d (bvs x.to)] S) : (Cd.ce (rgEl x) (rgV x A c B d)).P w S := by
  obtain ⟨T, hT, h1, U, hU, h2, _⟩ := h
  exact rgEl.mk (El.mono (byEl.mk h1.2.rd (OwB.cap (xs := x.fr) h1.2) fun a ha _ => h1.1 a ha) fun b _ h => hT b h) (El.mono (byEl.mk h2.2.rd (OwB.cap (xs := x.to) h2.2) fun a ha _ => h2.1 a ha) fun b _ h => (hU b h).1)
/-- The last element of a row, told with the memory that is its own. -/
theorem rg_ce {k c : Nat} {e : TypeId} {A : Option Addr} {els : List El} {E : El} {cs : List Value} {w : World} {H : List Cd} {S : BS} (h : Sat w (.rg k e A c (els ++ [rawEl cs]) :: .ce E cs :: H) S) : Sat w (.rg k e A c (els ++ [E]) :: H) S := by
  obtain ⟨T, hT, ⟨hA, css, hg, ho⟩, U, hU, hc, hr⟩ := h
  refine ⟨fun b => T b ∨ U b, fun b hb => hb.elim (hT b) fun h => (hU b h).1, ⟨fun a ha => .inl (hA a ha), css, ⟨by simpa using hg.1, fun i cs' hi => ?_⟩, by simpa using ho⟩, hr.mono fun b _ hb => ⟨hb.1.1, fun k => k.elim hb.1.2 hb.2⟩⟩
  obtain ⟨h1, E', h2, h3⟩ := hg.2 i cs' hi
  refine ⟨h1, ?_⟩
  by_cases hlt : i < els.length
  · rw [List.getElem?_append_left hlt] at h2 ⊢
    exact ⟨E', h2, El.mono h3 fun b _ hb => ⟨.inl hb.1, hb.2⟩⟩
  · have hle : i < (els ++ [rawEl cs]).length := by rw [← hg.1]; exact (List.getElem?_eq_some_iff.1 hi).1
    have hi' : i = els.length := by simp at hle; omega
    subst hi'
    rw [List.getElem?_append_right (Nat.le_refl _)] at h2 ⊢
    simp only [Nat.sub_self, List.getElem?_cons_zero, Option.some.injEq] at h2 ⊢
    subst h2
    have h3' : cs' = cs := h3
    subst h3'
    exact ⟨E, rfl, El.mono hc fun b _ hb => ⟨.inr hb, fun a ha hk => (hU b hb).2 (hk ▸ hA a ha)⟩⟩
theorem St.rgCe {M : BS} {w0 w : World} {H : List Cd} {k c : Nat} {e : TypeId} {A : Option Addr} {els : List El} {E : El} {cs : List Value} (hs : St M w0 w (.rg k e A c (els ++ [rawEl cs]) :: .ce E cs :: H)) : St M w0 w (.rg k e A c (els ++ [E]) :: H) := hs.map fun _ h => rg_ce h
theorem twins_any {A : Option Addr} {n c : Nat} {l : List Rg} {w : World} (hr : RdR 3 w All A (l.map rgEl)) (hn : l.length = n) (hl : l.length ≤ 4294967296) (hok : ∀ x ∈ l, x.fr.length ≤ 1048576 ∧ x.to.length ≤ 1048576) :
    CallsV Try.prog 43 #[.slice A n c] w (RetRg w l) := by
  subst hn
  have hs := (St.init w).nilG 3 61
  refine calls_in (N := _) Try.func43 rfl Try.ntmps43 rfl ?_; show WC _ _ _ _ _ _
  refine wc_sr ?_; refine wl_as rfl rfl ?_; refine wl_ns ?_; refine wc_sr ?_; refine wl_as rfl rfl ?_; refine wl_ns ?_; refine wc_seq ?_; refine wc_sr ?_; refine wl_mv rfl rfl ?_; apply wl_val; apply opv_len; exact rfl; exact tkR.sl; exact rfl; refine wl_mv rfl rfl ?_; refine wl_ns ?_; refine wc_block ?_
  refine wc_loop (fun L wr mm => ∃ (k : Nat) (P : Option Addr) (cp : Nat), L = [(6, .slice A l.length c), (7, .int .i64 (l.length : Int)), (3, .slice P k cp), (8, .int .i64 (k : Int))] ∧ k ≤ l.length ∧ St NoB w wr [.rg 3 61 P cp ((l.take k).map rgEl)] ∧ mm = l.length - k)
    [(6, .slice A l.length c), (7, .int .i64 (l.length : Int)), (3, .slice none 0 0), (8, .int .i64 (0 : Nat))] l.length ⟨0, none, 0, rfl, by omega, hs, rfl⟩ ⟨rfl, rfl, rfl, rfl, trivial⟩ ?_
  clear hs
  rintro _ w1 mm ⟨k, P, cp, rfl, hk, hs, rfl⟩
  refine wc_sr ?_; refine wl_bin rfl rfl bin_lss rfl ?_; refine wl_ns ?_; refine wc_seq ?_
  refine wc_cond rfl (fun h1 => ?_) (fun h1 => ?_)
  · obtain ⟨x, hx⟩ : ∃ x, l[k]? = some x := ⟨_, List.getElem?_eq_getElem (by omega)⟩
    have hox := hok x (List.mem_of_getElem? hx)
    obtain ⟨bb, o, cs, rfl, _, _, hp, i1⟩ := RdR.at (k := 3) (by decide) hr (E := rgEl x) (i := k) (by rw [List.getElem?_map, hx]; rfl)
    obtain ⟨X, cx, Y, cy, rfl, rx, _, ry, _⟩ := rgEl.rd hp
    replace i1 := i1.below hs.bel
    refine wc_skip ?_; refine we_seq ?_; refine wc_seq ?_; refine wc_block ?_; refine wc_sr ?_; apply wl_val; apply opv_idxG tkR; exact rfl; exact rfl; exact rfl; omega; exact rfl; apply wl_val; apply opv_ldG; exact rfl; assumption; exact sR; exact rfl
    refine ws_var (cs := rgV x X cx Y cy) hs zeroRg sR rfl (fun _ => rfl) (by first | rfl | simp [Value.oneCell']) rfl ?_; clear hs; intro g5 _ hs
    unfold rgV at hs
    refine wl_ns ?_
    replace hs := hs.below (Below.refl _ _).drew
    refine wc_held (fun w => Ar w g5 61 [.slice X x.fr.length cx, .slice Y x.to.length cy, .bool x.ex]) mixed ?_
    have hS := hs.ar 0 rfl
    apply wh_takeH 0; exact rfl; intro _ hw_; apply opv_move; exact rfl; exact rfl; kernel_rfl; exact hS; apply wh_takeH 1; exact rfl; intro _ hw_; apply opv_fa; exact fa_sR (by decide); exact rfl; exact rfl; kernel_rfl; exact hS; apply wh_takeH 2; exact rfl; intro _ hw_; apply opv_ldX; exact rfl; assumption; exact e1_by; exact rfl; exact rfl; kernel_rfl; exact hS; apply wh_takeH 4; exact rfl; intro _ hw_; apply opv_fa; exact fa_sR (by decide); exact rfl; exact rfl; kernel_rfl; exact hS; apply wh_takeH 5; exact rfl; intro _ hw_; apply opv_ldX; exact rfl; assumption; exact e1_by; exact rfl; exact rfl; kernel_rfl; exact hS; apply wh_takeH 7; exact rfl; intro _ hw_; apply opv_fa; exact fa_sR (by decide); exact rfl; exact rfl; kernel_rfl; exact hS; apply wh_takeH 8; exact rfl; intro _ hw_; apply opv_ldX; exact rfl; assumption; exact e1_bool; exact rfl; exact rfl; kernel_rfl; exact hS
    clear hS
    refine wh_one 3 (o := ⟨_, _, _, _, _, _⟩) (by kernel_rfl) rfl ?_
    refine wl_call ok_bytes_Clone (clone_any (rx.below hs.bel) rfl (by omega)) ⟨rfl, trivial⟩ rfl ?_; rintro _ _ ⟨C, e, rfl, o_, hbx⟩; replace hs := hs.newO hbx o_ (Nat.le_refl _); try dsimp only [List.cons_append, List.nil_append, setC, delC] at hs
    refine wl_nil ?_
    refine we_held (hs.ar 1 rfl) ?_
    refine wh_one 6 (o := ⟨_, _, _, _, _, _⟩) (by kernel_rfl) rfl ?_
    refine wl_call ok_bytes_Clone (clone_any (ry.below hs.bel) rfl (by omega)) ⟨rfl, trivial⟩ rfl ?_; rintro _ _ ⟨D, f, rfl, o_, hbx⟩; replace hs := hs.newO hbx o_ (Nat.le_refl _); try dsimp only [List.cons_append, List.nil_append, setC, delC] at hs
    refine wl_nil ?_
    refine we_held (hs.ar 2 rfl) ?_
    refine wh_one 9 (o := ⟨_, _, _, _, _, _⟩) (by kernel_rfl) rfl ?_
    refine wl_val (opv_build (vs := [(0, .slice C x.fr.length e), (1, .slice D x.to.length f), (2, .bool x.ex)]) (cs := rgV x C e D f) ⟨rfl, rfl, rfl, rfl, rfl, rfl, trivial⟩ (by kernel_rfl)) rfl ?_
    refine wl_nil ?_
    refine we_held (hs.ar 2 rfl) ?_
    refine wh_one 10 (o := ⟨_, _, _, _, _, _⟩) (by kernel_rfl) rfl ?_
    refine wl_bsG (css := [rgV x C e D f]) tkR ⟨rfl, ⟨_, rfl, rfl⟩, rfl, trivial⟩ (els := [rgV x C e D f].map rawEl) (S := NoB) rfl (by decide) (by decide) (grp_raw (by simp [rgV])) rfl fun R w7 hR hbx _ => ?_
    replace hs := ((((hs.front 1 rfl).pack (H1 := [_, _]) (.ce (rgEl x) (rgV x C e D f)) rgEl_of).newG hbx hR (Nat.le_refl _) fun _ _ h => h.elim))
    clear hR hbx
    refine wl_nil ?_
    refine we_held (hs.ar 2 rfl) ?_
    refine wh_one 11 (o := ⟨_, _, _, _, _, _⟩) (by kernel_rfl) rfl ?_
    refine ws_appR (css := [rgV x C e D f]) (m := 1) hs 3 rfl rfl tkR (by simp; omega) rfl (OwR.rd (hs.rg 0 rfl)) rfl (rgV_all _ _ _ _ _) (by omega) (by simp only [maxLen]; omega) rfl ?_
    clear hs; intro P2 cp2 w8 hs; dsimp only [setC] at hs
    refine wl_nil ?_
    refine we_held (hs.ar 2 rfl) ?_
    refine wh_one 12 (o := ⟨_, _, _, _, _, _⟩) (by kernel_rfl) rfl ?_
    refine wl_as rfl rfl ?_; refine wl_nil ?_
    refine we_held (hs.ar 2 rfl) ?_
    refine wh_done (by kernel_rfl) ?_
    refine we_block_norm ?_; refine we_seq ?_; refine wc_region ?_; apply wl_val; apply opv_bin; exact rfl; exact rfl; exact bin_add64 (by omega); exact rfl; refine wl_mv rfl rfl ?_; refine wl_nil ?_
    replace hs := St.rgCe (((hs.front 3 rfl).drop 1 rfl).drop 2 rfl)
    refine we_loop _ (l.length - (k + 1)) ⟨k + 1, P2, cp2, rfl, by omega, by rw [take_getR hx, List.map_append]; exact hs, rfl⟩ (by omega) ⟨rfl, rfl, rfl, by simp [lookT], trivial⟩
  · obtain rfl : k = l.length := by omega
    rw [List.take_length] at hs
    refine wc_exit ?_; refine we_seq_exit ?_; refine we_loop_exit ?_; refine we_block_exit ?_; refine we_seq ?_; refine wc_sr ?_; refine wl_mv rfl rfl ?_; refine wl_as rfl rfl ?_; refine wl_ns ?_; refine wc_ret ?_
    exact we_ret1 rfl rfl ⟨_, rfl, P, cp, rfl, hs⟩
end Go.Proofs.Ytmdbjeabifkimaa

/-
  Lock tables in memory: as pieces, and read; walks over Index and Contains of pointers, find, waits, names.
-/
namespace Go.Proofs.Ytmdbjeabifkimaa
open Go.RowKit

def owV (o : Ownr) (H : Option Addr) (hc : Nat) (K : Option Addr) (kc : Nat) : List Value := [.int .u64 (o.x.1 : Int), .int .u64 (o.x.2 : Int), .slice H o.held.length hc, .slice K o.asks.length kc]
/-- An owner's block, and the rows of its ranges. -/
def ownP (g : Nat) (o : Ownr) (H : Option Addr) (hc : Nat) (K : Option Addr) (kc : Nat) : List Cd := [.blk g 82 (owV o H hc K kc), .rg 3 61 H hc (o.held.map rgEl), .rg 3 61 K kc (o.asks.map rgEl)]
def ownC (g : Nat) (o : Ownr) : Ck := ⟨fun w S => ∃ H hc K kc, Sat w (ownP g o H hc K kc) S, fun ⟨H, hc, K, kc, h⟩ hz hm => ⟨H, hc, K, kc, h.move hz hm⟩⟩
abbrev ptrs (gp : Tx → Nat) (l : List Tx) : List Value := l.map fun x => pN (gp x)
abbrev ownCs (gp : Tx → Nat) (os : List Ownr) : List Cd := os.map fun o => .ck (ownC (gp o.x) o)
/-- A table's block, its two rows, its owners. -/
def lkP (t : Nat) (gp : Tx → Nat) (tb : Tb) (A : Option Addr) (c : Nat) (B : Option Addr) (d : Nat) : List Cd := .blk t 47 [.slice A tb.os.length c, .slice B tb.qu.length d] :: .ow 75 A tb.os.length c (ptrs gp (names tb)) :: .ow 75 B tb.qu.length d (ptrs gp tb.qu) :: ownCs gp tb.os
def lkC (t : Nat) (gp : Tx → Nat) (tb : Tb) : Ck := ⟨fun w S => ∃ A c B d, Sat w (lkP t gp tb A c B d) S, fun ⟨A, c, B, d, h⟩ hz hm => ⟨A, c, B, d, h.move hz hm⟩⟩
/-- The same, read. -/
def RdOw (w : World) (g : Nat) (o : Ownr) : Prop := ∃ H hc K kc, Ar w g 82 (owV o H hc K kc) ∧ RdR 3 w All H (o.held.map rgEl) ∧ RdR 3 w All K (o.asks.map rgEl) ∧ o.held.length ≤ hc ∧ o.asks.length ≤ kc
structure RdT (w : World) (t : Nat) (gp : Tx → Nat) (tb : Tb) : Prop where
  tab : ∃ A c B d, Ar w t 47 [.slice A tb.os.length c, .slice B tb.qu.length d] ∧ Rd w A tb.os.length (ptrs gp (names tb)) ∧ Rd w B tb.qu.length (ptrs gp tb.qu) ∧ tb.os.length ≤ c ∧ tb.qu.length ≤ d
  own : ∀ o ∈ tb.os, RdOw w (gp o.x) o
  inj : ∀ x ∈ names tb, ∀ y ∈ names tb, gp x = gp y → x = y
def Blk (w : World) (g : Nat) : Prop := ∃ T cs, Ar w g T cs
section
variable {w w' : World} {t g : Nat} {gp : Tx → Nat} {tb : Tb} {o : Ownr}
theorem Blk.below (h : Blk w g) (hb : Below w.heap.size w w') : Blk w' g := by obtain ⟨T, cs, h⟩ := h; exact ⟨T, cs, h.bel hb⟩
theorem RdOw.below (h : RdOw w g o) (hb : Below w.heap.size w w') : RdOw w' g o := by
  obtain ⟨H, hc, K, kc, h1, h2, h3, h4, h5⟩ := h
  exact ⟨H, hc, K, kc, h1.bel hb, h2.below hb, h3.below hb, h4, h5⟩
theorem RdT.below (h : RdT w t gp tb) (hb : Below w.heap.size w w') : RdT w' t gp tb where
  tab := by
    obtain ⟨A, c, B, d, h1, h2, h3, h4, h5⟩ := h.tab
    exact ⟨A, c, B, d, h1.bel hb, h2.below hb, h3.below hb, h4, h5⟩
  own := fun o ho => (h.own o ho).below hb
  inj := h.inj
theorem RdT.blk (h : RdT w t gp tb) {x : Tx} (hx : x ∈ names tb) : Blk w (gp x) := by
  obtain ⟨o, ho, rfl⟩ := List.mem_map.1 hx
  obtain ⟨H, hc, K, kc, h1, _⟩ := h.own o ho
  exact ⟨_, _, h1⟩
theorem RdT.mem_ptr (h : RdT w t gp tb) {l : List Tx} (hl : ∀ x ∈ l, x ∈ names tb) {x : Tx} (hx : x ∈ names tb) : gp x ∈ l.map gp ↔ x ∈ l := by
  constructor
  · intro hk
    obtain ⟨y, hy, e⟩ := List.mem_map.1 hk
    rw [← h.inj y (hl y hy) x hx e]; exact hy
  · exact fun hk => List.mem_map_of_mem hk
theorem ownC_rd {S : BS} (h : (ownC g o).P w S) : RdOw w g o ∧ S g := by
  obtain ⟨H, hc, K, kc, T1, hT1, h1, T2, hT2, h2, T3, hT3, h3, _⟩ := h
  have e2 := OwR.len_le h2.2
  have e3 := OwR.len_le h3.2
  rw [List.length_map] at e2 e3
  exact ⟨⟨H, hc, K, kc, h1.2, OwR.rd h2.2, OwR.rd h3.2, e2, e3⟩, hT1 _ h1.1⟩
theorem ownCs_inj : ∀ {os : List Ownr} {S : BS}, Sat w (ownCs gp os) S → (∀ o ∈ os, RdOw w (gp o.x) o ∧ S (gp o.x)) ∧ (os.map fun o => gp o.x).Nodup
  | [], S, _ => ⟨by simp, by simp⟩
  | o :: os, S, ⟨T, hT, hc, hr⟩ => by
    obtain ⟨h1, h2⟩ := ownCs_inj hr
    obtain ⟨h3, h4⟩ := ownC_rd hc
    refine ⟨fun p hp => ?_, ?_⟩
    · rcases List.mem_cons.1 hp with rfl | hp
      · exact ⟨h3, hT _ h4⟩
      · exact ⟨(h1 p hp).1, (h1 p hp).2.1⟩
    · rw [List.map_cons, List.nodup_cons]
      refine ⟨fun hk => ?_, h2⟩
      obtain ⟨p, hp, e⟩ := List.mem_map.1 hk
      exact (h1 p hp).2.2 (e ▸ h4)
theorem lkC_rd {S : BS} (h : (lkC t gp tb).P w S) : RdT w t gp tb := by
  obtain ⟨A, c, B, d, T1, hT1, h1, T2, hT2, h2, T3, hT3, h3, hr⟩ := h
  obtain ⟨h4, h5⟩ := ownCs_inj hr
  have cap : ∀ {A : Option Addr} {n c : Nat} {xs : List Value}, Ow w 0 75 A n c xs → n ≤ c := fun {A n c xs} h => by
    rcases h.2 with ⟨hv, hn⟩ | ⟨g, cap, cur, hv, _, _, hnc, _⟩
    · omega
    · injection hv with _ _ hc; omega
  refine ⟨⟨A, c, B, d, h1.2, h2.2.rd, h3.2.rd, cap h2.2, cap h3.2⟩, fun o ho => (h4 o ho).1, fun x hx y hy e => ?_⟩
  unfold names at hx hy
  obtain ⟨i, hi, rfl⟩ := List.getElem_of_mem hx
  obtain ⟨j, hj, rfl⟩ := List.getElem_of_mem hy
  rw [List.length_map] at hi hj
  have hij : (tb.os.map fun o => gp o.x)[i]'(by simpa using hi) = (tb.os.map fun o => gp o.x)[j]'(by simpa using hj) := by simpa using e
  have := (List.getElem_inj h5).1 hij
  subst this; rfl
theorem St.rdT {M : BS} {w0 : World} {H : List Cd} (hs : St M w0 w H) (i : Nat) (hi : nthC H i = some (.ck (lkC t gp tb))) : RdT w t gp tb := by
  obtain ⟨T, hc, _⟩ := hs.get i hi
  exact lkC_rd hc
end
theorem idxOf_at {l : List Nat} {k g : Nat} (h : l[k]? = some g) (hn : g ∉ l.take k) : l.idxOf g = k := by
  induction l generalizing k with
  | nil => simp at h
  | cons a l ih =>
    cases k with
    | zero => simp at h; subst h; simp [List.idxOf_cons]
    | succ k =>
      rw [List.take_succ_cons, List.mem_cons, not_or] at hn
      have e : (a == g) = false := by simpa using Ne.symm hn.1
      rw [List.idxOf_cons, e]
      simp [ih (by simpa using h) hn.2]
def idxV (ps : List Nat) (g : Nat) : Int := if g ∈ ps then (ps.idxOf g : Int) else -1
theorem index_any {A : Option Addr} {n c g : Nat} {ps : List Nat} {w : World} (hr : Rd w A n (ps.map pN)) (hb : ∀ p ∈ ps, Blk w p) (hg : Blk w g) (hl : ps.length ≤ 4294967296) :
    CallsV Try.prog 51 #[.slice A n c, pN g] w fun v w' => v = .int .i64 (idxV ps g) ∧ w' = w := by
  obtain rfl : n = ps.length := by have := hr.1; simpa using this.symm
  obtain ⟨T, cs, ag⟩ := hg
  unfold pN
  refine calls_in (N := _) Try.func51 rfl Try.ntmps51 rfl ?_; show WC _ _ _ _ _ _
  refine wc_sr ?_; refine wl_as rfl rfl ?_; refine wl_ns ?_; refine wc_seq ?_; refine wc_sr ?_; refine wl_mv rfl rfl ?_; apply wl_val; apply opv_len; exact rfl; exact tyPO.sl; exact rfl; refine wl_mv rfl rfl ?_; refine wl_ns ?_; refine wc_block ?_
  refine wc_loop (fun L wr mm => ∃ k : Nat, L = [(0, .slice A ps.length c), (1, .pointer (some ⟨g, 0, none⟩)), (7, .int .i64 (ps.length : Int)), (8, .int .i64 (k : Int))] ∧ k ≤ ps.length ∧ g ∉ ps.take k ∧ wr = w ∧ mm = ps.length - k)
    [(0, .slice A ps.length c), (1, .pointer (some ⟨g, 0, none⟩)), (7, .int .i64 (ps.length : Int)), (8, .int .i64 (0 : Nat))] ps.length ⟨0, rfl, by omega, by simp, rfl, rfl⟩ ⟨rfl, rfl, rfl, rfl, trivial⟩ ?_
  rintro _ w1 mm ⟨k, rfl, hk, hnot, rfl, rfl⟩
  refine wc_sr ?_; refine wl_bin rfl rfl bin_lss rfl ?_; refine wl_ns ?_; refine wc_seq ?_
  refine wc_cond rfl (fun h1 => ?_) (fun h1 => ?_)
  · obtain ⟨p, hp⟩ : ∃ p, ps[k]? = some p := ⟨_, List.getElem?_eq_getElem (by omega)⟩
    have hu : (ps.map pN)[k]? = some (pN p) := by rw [List.getElem?_map, hp]; rfl
    obtain ⟨T', cs', ap⟩ := hb p (List.mem_of_getElem? hp)
    unfold pN at hu
    refine wc_skip ?_; refine we_seq ?_; refine wc_seq ?_; refine wc_block ?_; refine wc_sr ?_; refine wl_mv rfl rfl ?_; refine wl_as rfl rfl ?_; refine wl_ns ?_; refine wc_sr ?_; refine wl_mv rfl rfl ?_; refine wl_mv rfl rfl ?_; refine wl_mv rfl rfl ?_; apply wl_elK (T := tyPO) (hr := hr) (hb := hu); exact rfl; exact rfl; exact rfl; exact rfl; exact rfl; intro _
    refine wl_val (opv_eqPP rfl rfl ag ap) rfl ?_
    refine wl_ns ?_
    refine wc_cond rfl (fun h2 => ?_) (fun h2 => ?_)
    · subst h2
      refine wc_sr ?_; refine wl_mv rfl rfl ?_; refine wl_as rfl rfl ?_; refine wl_ns ?_; refine wc_ret ?_; refine we_block_ret ?_; refine we_seq_ret ?_; refine we_loop_ret ?_; refine we_block_ret ?_; refine we_seq_ret ?_
      exact we_ret1 rfl rfl ⟨_, rfl, by rw [idxV, if_pos (List.mem_of_getElem? hp), idxOf_at hp hnot], rfl⟩
    · refine wc_skip ?_; refine we_block_norm ?_; refine we_seq ?_; refine wc_region ?_; apply wl_val; apply opv_bin; exact rfl; exact rfl; exact bin_add64 (by omega); exact rfl; refine wl_mv rfl rfl ?_; refine wl_nil ?_
      exact we_loop _ (ps.length - (k + 1)) ⟨k + 1, rfl, by omega, by rw [take_getR hp]; simp [hnot, h2], rfl, rfl⟩ (by omega) ⟨rfl, rfl, rfl, by simp [lookT], trivial⟩
  · obtain rfl : k = ps.length := by omega
    rw [List.take_length] at hnot
    refine wc_exit ?_; refine we_seq_exit ?_; refine we_loop_exit ?_; refine we_block_exit ?_; refine we_seq ?_; refine wc_sr ?_; refine wl_as rfl rfl ?_; refine wl_ns ?_; refine wc_ret ?_
    exact we_ret1 rfl rfl ⟨_, rfl, by rw [idxV, if_neg hnot], rfl⟩
theorem contains_any {A : Option Addr} {n c g : Nat} {ps : List Nat} {w : World} (hr : Rd w A n (ps.map pN)) (hb : ∀ p ∈ ps, Blk w p) (hg : Blk w g) (hl : ps.length ≤ 4294967296) :
    CallsV Try.prog 64 #[.slice A n c, pN g] w fun v w' => v = .bool (decide (g ∈ ps)) ∧ w' = w := by
  refine calls_in (N := _) Try.func64 rfl Try.ntmps64 rfl ?_; show WC _ _ _ _ _ _
  refine wc_sr ?_; refine wl_as rfl rfl ?_; refine wl_ns ?_; refine wc_sr ?_; refine wl_mv rfl rfl ?_; refine wl_mv rfl rfl ?_
  refine wl_call ok_slices_Index_lock_owner_lock_owner (index_any hr hb hg hl) ⟨rfl, rfl, trivial⟩ rfl ?_
  rintro _ w1 ⟨rfl, rfl⟩
  refine wl_bin rfl rfl bin_geq rfl ?_; refine wl_as rfl rfl ?_; refine wl_ns ?_; refine wc_ret ?_
  refine we_ret1 rfl rfl ⟨_, rfl, ?_, rfl⟩
  have : (0 ≤ idxV ps g) = (g ∈ ps) := by unfold idxV; split <;> simp_all <;> omega
  simp only [this]
end Go.Proofs.Ytmdbjeabifkimaa

/-
  Walks over find, waits, names of lock tables, and what stands on these: Status, All, Queue, Held; Index and Contains of names.
-/
namespace Go.Proofs.Ytmdbjeabifkimaa
open Go.RowKit

theorem ar_wiO {w : World} {g : Nat} {o : Ownr} {H K : Option Addr} {hc kc : Nat} (h : Ar w g 82 (owV o H hc K kc)) : Wi w g (0 + 0) (txV o.x) := ⟨h.lt, fun j u hu => (h.cell (0 + 0 + j)).trans (by
  match j, hu with
  | 0, hu => exact hu
  | 1, hu => exact hu
  | j + 2, hu => simp [txV] at hu)⟩
theorem names_get {tb : Tb} {k : Nat} {o : Ownr} (h : tb.os[k]? = some o) : (names tb)[k]? = some o.x := by rw [names, List.getElem?_map, h]; rfl
theorem names_len (tb : Tb) : (names tb).length = tb.os.length := by simp [names]
/-- The address of one's owner, if it is known. -/
noncomputable def ptrO (gp : Tx → Nat) (tb : Tb) (x : Tx) : Value := if x ∈ names tb then pN (gp x) else .pointer none
theorem find_any {t : Nat} {gp : Tx → Nat} {tb : Tb} {x : Tx} {w : World} (hT : RdT w t gp tb) (hl : tb.os.length ≤ 4294967296) :
    CallsV Try.prog 36 #[pN t, .agg (txV x).toArray] w fun v w' => v = ptrO gp tb x ∧ Below w.heap.size w w' := by
  have hs := St.init w
  obtain ⟨A, c, B, d, h1, h2, h3, h4, h5⟩ := hT.tab
  unfold pN
  refine calls_in (N := _) Try.func36 rfl Try.ntmps36 rfl ?_; show WC _ _ _ _ _ _
  refine wc_sr ?_
  refine ws_box (cs := txV x) hs rfl rfl ?_; clear hs; intro g3 _ hs
  replace h1 := h1.bel hs.bel
  refine wl_as rfl rfl ?_; refine wl_ns ?_; refine wc_seq ?_; refine wc_sr ?_; refine wl_mv rfl rfl ?_; apply wl_val; apply opv_nilOk; exact rfl; exact rfl; apply wl_val; apply opv_fa; exact fa_Tb0; exact rfl; exact rfl; apply wl_val; apply opv_ldX; exact rfl; assumption; exact e1_pos; exact rfl; exact rfl; apply wl_val; apply opv_len; exact rfl; exact tyPO.sl; exact rfl; refine wl_mv rfl rfl ?_; refine wl_ns ?_; refine wc_block ?_
  refine wc_loop (fun L wr mm => ∃ k : Nat, L = [(3, .pointer (some ⟨g3, 0, none⟩)), (10, .slice A tb.os.length c), (11, .int .i64 (tb.os.length : Int)), (12, .int .i64 (k : Int))] ∧ k ≤ tb.os.length ∧ x ∉ (names tb).take k ∧ St NoB w wr [.blk g3 30 (txV x)] ∧ mm = tb.os.length - k)
    [(3, .pointer (some ⟨g3, 0, none⟩)), (10, .slice A tb.os.length c), (11, .int .i64 (tb.os.length : Int)), (12, .int .i64 (0 : Nat))] tb.os.length ⟨0, rfl, by omega, by simp, hs, rfl⟩ ⟨rfl, rfl, rfl, rfl, trivial⟩ ?_
  clear hs h1
  rintro _ w1 mm ⟨k, rfl, hk, hnot, hs, rfl⟩
  refine wc_sr ?_; refine wl_bin rfl rfl bin_lss rfl ?_; refine wl_ns ?_; refine wc_seq ?_
  refine wc_cond rfl (fun h1 => ?_) (fun h1 => ?_)
  · obtain ⟨o, ho⟩ : ∃ o, tb.os[k]? = some o := ⟨_, List.getElem?_eq_getElem (by omega)⟩
    have hon := names_get ho
    have hr := h2.below hs.bel
    have hu : (ptrs gp (names tb))[k]? = some (pN (gp o.x)) := by rw [List.getElem?_map, hon]; rfl
    obtain ⟨H, hc, K, kc, a1, _⟩ := (hT.own o (List.mem_of_getElem? ho)).below hs.bel
    have i1 := ar_wiO a1
    unfold pN at hu
    refine wc_skip ?_; refine we_seq ?_; refine wc_seq ?_; refine wc_block ?_; refine wc_sr ?_; apply wl_elK (T := tyPO) (hr := hr) (hb := hu); exact rfl; exact rfl; exact rfl; exact rfl; exact rfl; intro _; refine wl_as rfl rfl ?_; refine wl_ns ?_; refine wc_seq ?_
    refine wc_drawB mixed (by kernel_rfl) ?_
    apply wq_val; intro _ hw_; apply opv_move; exact rfl; exact rfl; apply wq_val; intro _ hw_; apply opv_nilOk; exact rfl; exact rfl; apply wq_val; intro _ hw_; apply opv_fa; exact fa_O0; exact rfl; exact rfl; apply wq_val; intro _ hw_; apply opv_ldG; exact rfl; exact Wi.below (by assumption) hw_; exact sTx; exact rfl; apply wq_val; intro _ hw_; apply opv_loadX; exact rfl; exact Ar.bel (hs.ar 0 rfl) hw_; exact sTx; exact rfl; apply wq_val; intro _ hw_; apply opv_bin; exact rfl; exact rfl; exact (bin_eqlTx _ _); exact rfl; refine wq_nil fun w1 hw1 => ?_
    replace hs := hs.below hw1
    refine we_seq ?_
    refine wc_cond rfl (fun h2 => ?_) (fun h2 => ?_)
    · subst h2
      refine wc_sr ?_; refine wl_mv rfl rfl ?_; refine wl_as rfl rfl ?_; refine wl_ns ?_; refine wc_ret ?_; refine we_block_ret ?_; refine we_seq_ret ?_; refine we_loop_ret ?_; refine we_block_ret ?_; refine we_seq_ret ?_
      exact we_ret1 rfl rfl ⟨_, rfl, by rw [ptrO, if_pos (List.mem_of_getElem? hon)]; rfl, hs.bel⟩
    · refine wc_skip ?_; refine we_block_norm ?_; refine we_seq ?_; refine wc_region ?_; apply wl_val; apply opv_bin; exact rfl; exact rfl; exact bin_add64 (by omega); exact rfl; refine wl_mv rfl rfl ?_; refine wl_nil ?_
      exact we_loop _ (tb.os.length - (k + 1)) ⟨k + 1, rfl, by omega, by rw [take_getR hon]; simpa [hnot] using fun h => h2 h.symm, hs, rfl⟩ (by omega) ⟨rfl, rfl, rfl, by simp [lookT], trivial⟩
  · obtain rfl : k = tb.os.length := by omega
    rw [← names_len, List.take_length] at hnot
    refine wc_exit ?_; refine we_seq_exit ?_; refine we_loop_exit ?_; refine we_block_exit ?_; refine we_seq ?_; refine wc_sr ?_; refine wl_as rfl rfl ?_; refine wl_ns ?_; refine wc_ret ?_
    exact we_ret1 rfl rfl ⟨_, rfl, by rw [ptrO, if_neg hnot], hs.bel⟩
theorem ptrs_map (gp : Tx → Nat) (l : List Tx) : ptrs gp l = (l.map gp).map pN := by rw [ptrs, List.map_map]; rfl
theorem waits_any {t : Nat} {gp : Tx → Nat} {tb : Tb} {x : Tx} {w : World} (hT : RdT w t gp tb) (hw : Wf tb) (hx : x ∈ names tb) (hl : tb.qu.length ≤ 4294967296) :
    CallsV Try.prog 37 #[pN t, pN (gp x)] w fun v w' => v = .bool (decide (x ∈ tb.qu)) ∧ w' = w := by
  obtain ⟨A, c, B, d, h1, h2, h3, h4, h5⟩ := hT.tab
  have hb := hT.blk hx
  unfold pN
  refine calls_in (N := _) Try.func37 rfl Try.ntmps37 rfl ?_; show WC _ _ _ _ _ _
  refine wc_sr ?_; refine wl_as rfl rfl ?_; refine wl_ns ?_; refine wc_sr ?_; refine wl_mv rfl rfl ?_; apply wl_val; apply opv_nilOk; exact rfl; exact rfl; apply wl_val; apply opv_fa; exact fa_Tb1; exact rfl; exact rfl; apply wl_val; apply opv_ldX; exact rfl; assumption; exact e1_pos; exact rfl; exact rfl; refine wl_mv rfl rfl ?_
  refine wl_call ok_slices_Contains_lock_owner_lock_owner (contains_any (ps := tb.qu.map gp) (by rw [← ptrs_map]; exact h3) (fun p hp => by obtain ⟨y, hy, rfl⟩ := List.mem_map.1 hp; exact hT.blk (hw.sub y hy)) hb (by simpa using hl)) ⟨rfl, rfl, trivial⟩ rfl ?_
  rintro _ w1 ⟨rfl, rfl⟩
  refine wl_as rfl rfl ?_; refine wl_ns ?_; refine wc_ret ?_
  exact we_ret1 rfl rfl ⟨_, rfl, by simp only [hT.mem_ptr hw.sub hx], rfl⟩
/-- Names in a new row. -/
abbrev txEls (l : List Tx) : List El := l.map fun x => rawEl (txV x)
def RetTx (w : World) (l : List Tx) (v : Value) (w' : World) : Prop := ∃ (A : Option Addr) (c : Nat), v = .slice A l.length c ∧ St NoB w w' [.rg 2 30 A c (txEls l)]
theorem names_any {A : Option Addr} {n c : Nat} {gp : Tx → Nat} {l : List Tx} {w : World} (hr : Rd w A n (ptrs gp l)) (ho : ∀ x ∈ l, ∃ o : Ownr, o.x = x ∧ RdOw w (gp x) o) (hl : l.length ≤ 4294967296) :
    CallsV Try.prog 35 #[.slice A n c] w (RetTx w l) := by
  obtain rfl : n = l.length := by have := hr.1; simpa using this.symm
  have hs := (St.init w).nilG 2 30
  refine calls_in (N := _) Try.func35 rfl Try.ntmps35 rfl ?_; show WC _ _ _ _ _ _
  refine wc_sr ?_; refine wl_as rfl rfl ?_; refine wl_ns ?_; refine wc_sr ?_; refine wl_as rfl rfl ?_; refine wl_ns ?_; refine wc_seq ?_; refine wc_sr ?_; refine wl_mv rfl rfl ?_; apply wl_val; apply opv_len; exact rfl; exact tyPO.sl; exact rfl; refine wl_mv rfl rfl ?_; refine wl_ns ?_; refine wc_block ?_
  refine wc_loop (fun L wr mm => ∃ (k : Nat) (P : Option Addr) (cp : Nat), L = [(6, .slice A l.length c), (7, .int .i64 (l.length : Int)), (3, .slice P k cp), (8, .int .i64 (k : Int))] ∧ k ≤ l.length ∧ St NoB w wr [.rg 2 30 P cp (txEls (l.take k))] ∧ mm = l.length - k)
    [(6, .slice A l.length c), (7, .int .i64 (l.length : Int)), (3, .slice none 0 0), (8, .int .i64 (0 : Nat))] l.length ⟨0, none, 0, rfl, by omega, hs, rfl⟩ ⟨rfl, rfl, rfl, rfl, trivial⟩ ?_
  clear hs
  rintro _ w1 mm ⟨k, P, cp, rfl, hk, hs, rfl⟩
  refine wc_sr ?_; refine wl_bin rfl rfl bin_lss rfl ?_; refine wl_ns ?_; refine wc_seq ?_
  refine wc_cond rfl (fun h1 => ?_) (fun h1 => ?_)
  · obtain ⟨x, hx⟩ : ∃ x, l[k]? = some x := ⟨_, List.getElem?_eq_getElem (by omega)⟩
    obtain ⟨o, rfl, H, hc, K, kc, a1, _⟩ := ho x (List.mem_of_getElem? hx)
    have hr2 := hr.below hs.bel
    have hu : (ptrs gp l)[k]? = some (pN (gp o.x)) := by rw [List.getElem?_map, hx]; rfl
    replace a1 := a1.bel hs.bel
    have i1 := ar_wiO a1
    unfold pN at hu
    refine wc_skip ?_; refine we_seq ?_; refine wc_seq ?_; refine wc_block ?_; refine wc_sr ?_; apply wl_elK (T := tyPO) (hr := hr2) (hb := hu); exact rfl; exact rfl; exact rfl; exact rfl; exact rfl; intro _; refine wl_as rfl rfl ?_; refine wl_ns ?_; refine wc_region ?_; refine wl_mv rfl rfl ?_; refine wl_mv rfl rfl ?_; apply wl_val; apply opv_nilOk; exact rfl; exact rfl; apply wl_val; apply opv_fa; exact fa_O0; exact rfl; exact rfl; apply wl_val; apply opv_ldG; exact rfl; assumption; exact sTx; exact rfl
    refine ws_pushR (cs := txV o.x) hs 0 (fun _ => rfl) rfl tkTx (by simp; omega) ⟨_, rfl, rfl⟩ rfl rfl (by decide) (by omega) (by simp only [maxLen]; omega) rfl rfl ?_
    clear hs; intro _ P2 cp2 w2 hs; dsimp only [setC] at hs
    refine wl_as rfl rfl ?_; refine wl_nil ?_; refine we_block_norm ?_; refine we_seq ?_; refine wc_region ?_; apply wl_val; apply opv_bin; exact rfl; exact rfl; exact bin_add64 (by omega); exact rfl; refine wl_mv rfl rfl ?_; refine wl_nil ?_
    exact we_loop _ (l.length - (k + 1)) ⟨k + 1, P2, cp2, rfl, by omega, by rw [take_getR hx]; simpa [txEls] using hs, rfl⟩ (by omega) ⟨rfl, rfl, rfl, by simp [lookT], trivial⟩
  · obtain rfl : k = l.length := by omega
    rw [List.take_length] at hs
    refine wc_exit ?_; refine we_seq_exit ?_; refine we_loop_exit ?_; refine we_block_exit ?_; refine we_seq ?_; refine wc_sr ?_; refine wl_mv rfl rfl ?_; refine wl_as rfl rfl ?_; refine wl_ns ?_; refine wc_ret ?_
    exact we_ret1 rfl rfl ⟨_, rfl, P, cp, rfl, hs⟩
theorem all_any {t : Nat} {gp : Tx → Nat} {tb : Tb} {w : World} (hT : RdT w t gp tb) (hl : tb.os.length ≤ 4294967296) :
    CallsV Try.prog 11 #[pN t] w (RetTx w (names tb)) := by
  obtain ⟨A, c, B, d, h1, h2, h3, h4, h5⟩ := hT.tab
  unfold pN
  refine calls_in (N := _) Try.func11 rfl Try.ntmps11 rfl ?_; show WC _ _ _ _ _ _
  refine wc_sr ?_; refine wl_as rfl rfl ?_; refine wl_ns ?_; refine wc_sr ?_; refine wl_mv rfl rfl ?_; apply wl_val; apply opv_nilOk; exact rfl; exact rfl; apply wl_val; apply opv_fa; exact fa_Tb0; exact rfl; exact rfl; apply wl_val; apply opv_ldX; exact rfl; assumption; exact e1_pos; exact rfl; exact rfl
  refine wl_call ok_lock_names (names_any h2 (fun x hx => by obtain ⟨o, ho, rfl⟩ := List.mem_map.1 hx; exact ⟨o, rfl, hT.own o ho⟩) (by rw [names_len]; exact hl)) ⟨rfl, trivial⟩ rfl ?_
  rintro _ w1 ⟨P, cp, rfl, hsx⟩
  refine wl_as rfl rfl ?_; refine wl_ns ?_; refine wc_ret ?_
  exact we_ret1 rfl rfl ⟨_, rfl, P, cp, rfl, hsx⟩
theorem queue_any {t : Nat} {gp : Tx → Nat} {tb : Tb} {w : World} (hT : RdT w t gp tb) (hw : Wf tb) (hl : tb.qu.length ≤ 4294967296) :
    CallsV Try.prog 14 #[pN t] w (RetTx w tb.qu) := by
  obtain ⟨A, c, B, d, h1, h2, h3, h4, h5⟩ := hT.tab
  unfold pN
  refine calls_in (N := _) Try.func14 rfl Try.ntmps14 rfl ?_; show WC _ _ _ _ _ _
  refine wc_sr ?_; refine wl_as rfl rfl ?_; refine wl_ns ?_; refine wc_sr ?_; refine wl_mv rfl rfl ?_; apply wl_val; apply opv_nilOk; exact rfl; exact rfl; apply wl_val; apply opv_fa; exact fa_Tb1; exact rfl; exact rfl; apply wl_val; apply opv_ldX; exact rfl; assumption; exact e1_pos; exact rfl; exact rfl
  refine wl_call ok_lock_names (names_any h3 (fun x hx => by obtain ⟨o, ho, rfl⟩ := List.mem_map.1 (hw.sub x hx); exact ⟨o, rfl, hT.own o ho⟩) hl) ⟨rfl, trivial⟩ rfl ?_
  rintro _ w1 ⟨P, cp, rfl, hsx⟩
  refine wl_as rfl rfl ?_; refine wl_ns ?_; refine wc_ret ?_
  exact we_ret1 rfl rfl ⟨_, rfl, P, cp, rfl, hsx⟩
/-- What one is. -/
def statT (tb : Tb) (x : Tx) : Nat := if x ∈ names tb then (if x ∈ tb.qu then 2 else 1) else 0
theorem status_any {t : Nat} {gp : Tx → Nat} {tb : Tb} {x : Tx} {w : World} (hT : RdT w t gp tb) (hw : Wf tb) (hl : tb.os.length ≤ 4294967296) (hq : tb.qu.length ≤ 4294967296) :
    CallsV Try.prog 12 #[pN t, .agg (txV x).toArray] w fun v w' => v = .int .i64 (statT tb x : Nat) ∧ Below w.heap.size w w' := by
  have hs := St.init w
  unfold pN
  refine calls_in (N := _) Try.func12 rfl Try.ntmps12 rfl ?_; show WC _ _ _ _ _ _
  refine wc_sr ?_
  refine ws_box (cs := txV x) hs rfl rfl ?_; clear hs; intro g3 _ hs
  refine wl_as rfl rfl ?_; refine wl_ns ?_; refine wc_sr ?_; refine wl_mv rfl rfl ?_; apply wl_val; apply opv_loadX; exact rfl; exact hs.ar 0 rfl; exact sTx; exact rfl
  refine wl_call ok_lock_Table_find (find_any (hT.below hs.bel) hl) ⟨rfl, rfl, trivial⟩ rfl ?_
  rintro _ w1 ⟨rfl, hbx⟩
  replace hs := hs.below hbx
  clear hbx
  by_cases hx : x ∈ names tb
  · rw [ptrO, if_pos hx]
    unfold pN
    refine wl_as rfl rfl ?_; refine wl_ns ?_; refine wc_seq ?_; refine wc_block ?_; refine wc_sr ?_; refine wl_mv rfl rfl ?_; apply wl_val; apply opv_bin; exact rfl; exact rfl; exact bin_eqlPtrNil Try.underlying75; exact rfl; refine wl_as rfl rfl ?_; refine wl_ns ?_; apply wc_condFb; exact rfl; exact rfl; refine wc_sr ?_; refine wl_mv rfl rfl ?_; refine wl_mv rfl rfl ?_
    refine wl_call ok_lock_Table_waits (waits_any (hT.below hs.bel) hw hx hq) ⟨rfl, rfl, trivial⟩ rfl ?_
    rintro _ w2 ⟨rfl, rfl⟩
    by_cases hxq : x ∈ tb.qu
    · refine wl_as rfl rfl ?_; refine wl_ns ?_; apply wc_decT; exact rfl; (with_reducible assumption); refine wc_sr ?_; refine wl_as rfl rfl ?_; refine wl_ns ?_; refine wc_ret ?_; refine we_block_ret ?_; refine we_seq_ret ?_
      exact we_ret1 rfl rfl ⟨_, rfl, by rw [statT, if_pos hx, if_pos hxq]; rfl, hs.bel⟩
    · refine wl_as rfl rfl ?_; refine wl_ns ?_; apply wc_decF; exact rfl; (with_reducible assumption); refine wc_skip ?_; refine we_block_norm ?_; refine we_seq ?_; refine wc_sr ?_; refine wl_as rfl rfl ?_; refine wl_ns ?_; refine wc_ret ?_
      exact we_ret1 rfl rfl ⟨_, rfl, by rw [statT, if_pos hx, if_neg hxq]; rfl, hs.bel⟩
  · rw [ptrO, if_neg hx]
    refine wl_as rfl rfl ?_; refine wl_ns ?_; refine wc_seq ?_; refine wc_block ?_; refine wc_sr ?_; refine wl_mv rfl rfl ?_; apply wl_val; apply opv_bin; exact rfl; exact rfl; exact bin_eqlNilNil Try.underlying75; exact rfl; refine wl_as rfl rfl ?_; refine wl_ns ?_; apply wc_condTb; exact rfl; exact rfl; refine wc_sr ?_; refine wl_as rfl rfl ?_; refine wl_ns ?_; refine wc_ret ?_; refine we_block_ret ?_; refine we_seq_ret ?_
    exact we_ret1 rfl rfl ⟨_, rfl, by rw [statT, if_neg hx]; rfl, hs.bel⟩
/-- What one holds. -/
def heldT (tb : Tb) (x : Tx) : List Rg := match ownO tb x with
  | some o => o.held
  | none => []
theorem held_any {t : Nat} {gp : Tx → Nat} {tb : Tb} {x : Tx} {w : World} (hT : RdT w t gp tb) (hw : Wf tb) (hl : tb.os.length ≤ 4294967296) (hh : ∀ o ∈ tb.os, o.held.length ≤ 4294967296) :
    CallsV Try.prog 17 #[pN t, .agg (txV x).toArray] w (RetRg w (heldT tb x)) := by
  have hs := St.init w
  unfold pN
  refine calls_in (N := _) Try.func17 rfl Try.ntmps17 rfl ?_; show WC _ _ _ _ _ _
  refine wc_sr ?_
  refine ws_box (cs := txV x) hs rfl rfl ?_; clear hs; intro g3 _ hs
  refine wl_as rfl rfl ?_; refine wl_ns ?_; refine wc_seq ?_; refine wc_sr ?_; refine wl_mv rfl rfl ?_; apply wl_val; apply opv_loadX; exact rfl; exact hs.ar 0 rfl; exact sTx; exact rfl
  refine wl_call ok_lock_Table_find (find_any (hT.below hs.bel) hl) ⟨rfl, rfl, trivial⟩ rfl ?_
  rintro _ w1 ⟨rfl, hbx⟩
  replace hs := hs.below hbx
  clear hbx
  cases hx : ownO tb x with
  | some o =>
    obtain ⟨ho, rfl⟩ := ownO_some hx
    rw [ptrO, if_pos (show o.x ∈ names tb from List.mem_map_of_mem ho)]
    obtain ⟨H, hc, K, kc, a1, r1, r2, _⟩ := (hT.own o ho).below hs.bel
    have hf := hw.form o ho
    unfold pN
    unfold owV at a1
    refine wl_as rfl rfl ?_; refine wl_ns ?_; refine wc_sr ?_; refine wl_mv rfl rfl ?_; apply wl_val; apply opv_bin; exact rfl; exact rfl; exact bin_neqPtrNil tyPPO; exact rfl; refine wl_ns ?_; apply wc_condTb; exact rfl; exact rfl; refine wc_sr ?_; refine wl_mv rfl rfl ?_; apply wl_val; apply opv_nilOk; exact rfl; exact rfl; apply wl_val; apply opv_fa; exact fa_O1; exact rfl; exact rfl; apply wl_val; apply opv_ldX; exact rfl; assumption; exact e1_rgs; exact rfl; exact rfl
    refine wl_call ok_lock_twins (twins_any r1 rfl (hh o ho) fun r hr => by have := hf r (.inl hr); unfold okR at this; omega) ⟨rfl, trivial⟩ rfl ?_
    rintro _ w2 ⟨P, cp, rfl, hsx⟩
    replace hs := (hs.nil).call hsx
    refine wl_as rfl rfl ?_; refine wl_ns ?_; refine wc_ret ?_; refine we_seq_ret ?_
    exact we_ret1 rfl rfl ⟨_, rfl, P, cp, by rw [heldT, hx], by rw [heldT, hx]; exact hs⟩
  | none =>
    rw [ptrO, if_neg (ownO_none.1 hx)]
    refine wl_as rfl rfl ?_; refine wl_ns ?_; refine wc_sr ?_; refine wl_mv rfl rfl ?_; apply wl_val; apply opv_bin; exact rfl; exact rfl; exact bin_neqNilNil tyPPO; exact rfl; refine wl_ns ?_; apply wc_condFb; exact rfl; exact rfl; refine wc_skip ?_; refine we_seq ?_; refine wc_sr ?_; refine wl_as rfl rfl ?_; refine wl_ns ?_; refine wc_ret ?_
    exact we_ret1 rfl rfl ⟨_, rfl, none, 0, by rw [heldT, hx]; rfl, by rw [heldT, hx]; exact hs.nil.nilG _ _⟩
end Go.Proofs.Ytmdbjeabifkimaa
