/-
  The texts of this proof, joined: Pc, Wh, Pd, Wi, Wj, Pe, Wk, Wm, Wc, We, Tk, Sl, Sm, Sn, Args, Op, So, Sp.
-/
import Derived.Test.YtcjiecclmepboaaKeeM2
import Derived.Test.YtcjiecclmepboaaKeeM1
import Derived.Test.YtcjiecclmepboaaKeeM3
import Derived.ProofKit
import Derived.OpenShut
import Derived.JoinedCond
import Derived.SizedLaws
import Derived.Deep.Matrix
import Derived.Carry
import Derived.Deep.Slices
import Derived.ChangeMaps5

/-
  Plain laws of lists: tuples of written lists, frames, numbers of eight bytes. No program in sight.
-/
namespace Go.Proofs.Ytcjiecclmepboaa

/-! ### Tuples -/
/-- Lists of lists are compared list by list, then by how many they are. -/
def cmpT : List (List UInt8) → List (List UInt8) → Int
  | [], [] => 0
  | [], _ :: _ => -1
  | _ :: _, [] => 1
  | x :: a, y :: b => if cmpB x y = 0 then cmpT a b else cmpB x y
def ords (l : List (List UInt8)) : List UInt8 := l.flatMap ordText

theorem cmp_refl : ∀ (a : List UInt8), cmpB a a = 0
  | [] => by simp [cmpB]
  | x :: r => by rw [cmp_same]; exact cmp_refl r
theorem cmp_zero : ∀ {a b : List UInt8}, cmpB a b = 0 → a = b
  | [], [], _ => rfl
  | [], _ :: _, h => by simp [cmpB] at h
  | _ :: _, [], h => by simp [cmpB] at h
  | x :: a, y :: b, h => by
    by_cases h1 : x < y
    · rw [cmp_lt h1] at h; omega
    · by_cases h2 : y < x
      · rw [cmp_gt h2] at h; omega
      · have e : x = y := UInt8.le_antisymm (UInt8.not_lt.1 h2) (UInt8.not_lt.1 h1)
        subst e
        rw [cmp_same] at h
        rw [cmp_zero h]
theorem cmp_neg : ∀ (a b : List UInt8), cmpB b a = - cmpB a b
  | [], [] => by simp [cmpB]
  | [], _ :: _ => by simp [cmpB]
  | _ :: _, [] => by simp [cmpB]
  | x :: a, y :: b => by
    by_cases h1 : x < y
    · rw [cmp_lt h1, cmp_gt h1]; rfl
    · by_cases h2 : y < x
      · rw [cmp_gt h2, cmp_lt h2]
      · have e : x = y := UInt8.le_antisymm (UInt8.not_lt.1 h2) (UInt8.not_lt.1 h1)
        subst e
        rw [cmp_same, cmp_same]; exact cmp_neg a b
theorem cmp_range (a b : List UInt8) : cmpB a b = -1 ∨ cmpB a b = 0 ∨ cmpB a b = 1 := by
  induction a generalizing b with
  | nil => cases b <;> simp [cmpB]
  | cons x a ih =>
    cases b with
    | nil => simp [cmpB]
    | cons y b =>
      by_cases h1 : x < y
      · rw [cmp_lt h1]; simp
      · by_cases h2 : y < x
        · rw [cmp_gt h2]; simp
        · have e : x = y := UInt8.le_antisymm (UInt8.not_lt.1 h2) (UInt8.not_lt.1 h1)
          subst e
          rw [cmp_same]; exact ih b
theorem ne_zero_pos {x : UInt8} (h : ¬ x = 0) : (0 : UInt8) < x := by
  rw [UInt8.lt_iff_toNat_lt]
  have : x.toNat ≠ 0 := fun e => h (UInt8.toNat_inj.1 (by simpa using e))
  simp; omega
theorem ordText_cons (x : UInt8) (r : List UInt8) : ordText (x :: r) = (if x = 0 then [0, 255] else [x]) ++ ordText r := by simp [ordText, esc_cons]
/-- Written lists, and whatever stands behind them, stand in the lists' order. -/
theorem cmp_ord (s t : List UInt8) : ∀ (a b : List UInt8), ¬ cmpB a b = 0 → cmpB (ordText a ++ s) (ordText b ++ t) = cmpB a b
  | [], [], h => absurd (by simp [cmpB]) h
  | [], y :: b, _ => by
    by_cases h : y = 0
    · subst h
      simp only [ordText_cons, if_true]
      have e : cmpB ([] : List UInt8) (0 :: b) = -1 := by simp [cmpB]
      rw [e]
      simp only [ordText, esc, List.flatMap_nil, List.nil_append, List.cons_append]
      rw [cmp_same, cmp_lt (by decide)]
    · have e : cmpB ([] : List UInt8) (y :: b) = -1 := by simp [cmpB]
      rw [e]
      simp only [ordText_cons, if_neg h]
      simp only [ordText, esc, List.flatMap_nil, List.nil_append, List.cons_append]
      rw [cmp_lt (ne_zero_pos h)]
  | x :: a, [], _ => by
    by_cases h : x = 0
    · subst h
      simp only [ordText_cons, if_true]
      have e : cmpB (0 :: a) ([] : List UInt8) = 1 := by simp [cmpB]
      rw [e]
      simp only [ordText, esc, List.flatMap_nil, List.nil_append, List.cons_append]
      rw [cmp_same, cmp_gt (by decide)]
    · have e : cmpB (x :: a) ([] : List UInt8) = 1 := by simp [cmpB]
      rw [e]
      simp only [ordText_cons, if_neg h]
      simp only [ordText, esc, List.flatMap_nil, List.nil_append, List.cons_append]
      rw [cmp_gt (ne_zero_pos h)]
  | x :: a, y :: b, h => by
    by_cases hxy : x = y
    · subst hxy
      rw [cmp_same] at h ⊢
      have ih := cmp_ord s t a b h
      by_cases h0 : x = 0
      · simp only [ordText_cons, if_pos h0, List.cons_append, List.nil_append]
        rw [cmp_same, cmp_same, ih]
      · simp only [ordText_cons, if_neg h0, List.cons_append, List.nil_append]
        rw [cmp_same, ih]
    · by_cases h1 : x < y
      · rw [cmp_lt h1]
        by_cases h0 : x = 0
        · have hy : ¬ y = 0 := fun e => hxy (by rw [h0, e])
          simp only [ordText_cons, if_pos h0, if_neg hy, List.cons_append, List.nil_append]
          rw [cmp_lt (ne_zero_pos hy)]
        · have hy : ¬ y = 0 := by
            rintro rfl
            rw [UInt8.lt_iff_toNat_lt] at h1; simp at h1
          simp only [ordText_cons, if_neg h0, if_neg hy, List.cons_append, List.nil_append]
          rw [cmp_lt h1]
      · have h2 : y < x := by
          rcases UInt8.lt_or_lt_of_ne hxy with h | h
          · exact absurd h h1
          · exact h
        rw [cmp_gt h2]
        by_cases h0 : y = 0
        · have hx : ¬ x = 0 := fun e => hxy (by rw [h0, e])
          simp only [ordText_cons, if_pos h0, if_neg hx, List.cons_append, List.nil_append]
          rw [cmp_gt (ne_zero_pos hx)]
        · have hx : ¬ x = 0 := by
            rintro rfl
            rw [UInt8.lt_iff_toNat_lt] at h2; simp at h2
          simp only [ordText_cons, if_neg h0, if_neg hx, List.cons_append, List.nil_append]
          rw [cmp_gt h2]
theorem ordText_pos (x : List UInt8) : 0 < (ordText x).length := by simp [ordText]
theorem cmp_ords : ∀ (a b : List (List UInt8)), cmpB (ords a) (ords b) = cmpT a b
  | [], [] => by simp [ords, cmpB, cmpT]
  | [], y :: b => by
    have := ordText_pos y
    simp only [cmpT]
    exact cmp_short (by simp [ords]) (by simp [ords]; omega)
  | x :: a, [] => by
    have := ordText_pos x
    simp only [cmpT]
    exact cmp_long (by simp [ords]; omega) (by simp [ords])
  | x :: a, y :: b => by
    simp only [cmpT, ords, List.flatMap_cons]
    by_cases h : cmpB x y = 0
    · rw [if_pos h, cmp_zero h, cmp_pre]; exact cmp_ords a b
    · rw [if_neg h, cmp_ord _ _ x y h]
/-- What a loop over both has found so far. -/
theorem cmpT_drop {a b : List (List UInt8)} {k : Nat} {x y : List UInt8} (hx : a[k]? = some x) (hy : b[k]? = some y) : cmpT (a.drop k) (b.drop k) = if cmpB x y = 0 then cmpT (a.drop (k + 1)) (b.drop (k + 1)) else cmpB x y := by
  obtain ⟨h1, e1⟩ := List.getElem?_eq_some_iff.1 hx
  obtain ⟨h2, e2⟩ := List.getElem?_eq_some_iff.1 hy
  rw [List.drop_eq_getElem_cons h1, List.drop_eq_getElem_cons h2, e1, e2]
  rfl
theorem cmpT_end {a b : List (List UInt8)} {k : Nat} (h : ¬ (k < a.length ∧ k < b.length)) : k ≤ a.length → k ≤ b.length → cmpT (a.drop k) (b.drop k) = if a.length < b.length then -1 else if b.length < a.length then 1 else 0 := by
  intro h1 h2
  rcases Nat.lt_trichotomy a.length b.length with hl | hl | hl
  · rw [if_pos hl]
    have : k = a.length := by omega
    subst this
    rw [List.drop_length, List.drop_eq_getElem_cons hl]; rfl
  · have : k = a.length := by omega
    subst this
    rw [List.drop_length, hl, List.drop_length]; simp [cmpT]
  · rw [if_neg (by omega), if_pos hl]
    have : k = b.length := by omega
    subst this
    rw [List.drop_length, List.drop_eq_getElem_cons hl]; rfl
theorem take_getR {α : Type} {l : List α} {k : Nat} {b : α} (h : l[k]? = some b) : l.take (k + 1) = l.take k ++ [b] := by
  rw [List.take_add_one, h]; rfl
theorem ords_take {l : List (List UInt8)} {k : Nat} {x : List UInt8} (h : l[k]? = some x) : ords (l.take (k + 1)) = ords (l.take k) ++ ordText x := by
  rw [take_getR h]; simp [ords]
theorem ords_length : ∀ (l : List (List UInt8)), (ords l).length ≤ 2 * l.flatten.length + 2 * l.length
  | [] => by simp [ords]
  | x :: l => by
    have h1 := ords_length l
    have h2 := esc_length x
    simp only [ords, List.flatMap_cons, List.length_append, List.flatten_cons, List.length_cons, ordText, List.length_nil] at h1 ⊢
    omega
theorem ords_take_le (l : List (List UInt8)) (k : Nat) : (ords (l.take k)).length ≤ (ords l).length := by
  have : ords l = ords (l.take k) ++ ords (l.drop k) := by
    rw [ords, ords, ords, ← List.flatMap_append, List.take_append_drop]
  rw [this, List.length_append]; omega
theorem flat_mem : ∀ {l : List (List UInt8)} {k : Nat} {x : List UInt8}, l[k]? = some x → x.length ≤ l.flatten.length
  | [], _, _, h => by simp at h
  | y :: l, 0, x, h => by
    simp only [List.getElem?_cons_zero, Option.some.injEq] at h
    subst h
    rw [List.flatten_cons, List.length_append]; omega
  | y :: l, k + 1, x, h => by
    simp only [List.getElem?_cons_succ] at h
    have := flat_mem h
    rw [List.flatten_cons, List.length_append]; omega
end Go.Proofs.Ytcjiecclmepboaa


/-
  Walks over Copies and Equals of the references.
-/
namespace Go.Proofs.Ytcjiecclmepboaa
open Go.RowKit

end Go.Proofs.Ytcjiecclmepboaa


/-
  Plain laws of frames. No program in sight.
-/
namespace Go.Proofs.Ytcjiecclmepboaa

def framed (l : List (List UInt8)) : List UInt8 := l.flatMap fun r => putU r.length ++ r
/-- The parts behind place q; out: those ahead of it. -/
def partsF : Nat → List UInt8 → Nat → List (List UInt8) → List (List UInt8) × Nat
  | 0, _, _, out => (out, 0)
  | f + 1, b, q, out =>
    if b.length ≤ q then (out, 0)
    else if (getU b q).2.2 = 0 then
      if b.length < (getU b q).2.1.toNat + (getU b q).1 then ([], 5)
      else partsF f b ((getU b q).2.1.toNat + (getU b q).1) (out ++ [(b.take ((getU b q).2.1.toNat + (getU b q).1)).drop (getU b q).2.1.toNat])
    else ([], (getU b q).2.2)
def parts (b : List UInt8) : List (List UInt8) × Nat := partsF b.length b 0 []

theorem putU_pos (n : Nat) : 0 < (putU n).length := by
  rw [putU]; split <;> simp
theorem getU_next {b : List UInt8} {q n : Nat} {x : Int} (h : getU b q = (n, x, 0)) : ∃ k : Nat, x = k ∧ q < k ∧ k ≤ b.length := by
  obtain ⟨q', k, hq, rfl, h1, h2, h3, _⟩ := getU_inv h
  obtain rfl : q = q' := by omega
  have := congrArg List.length h3
  have hp := putU_pos n
  refine ⟨k, rfl, ?_, h2⟩
  simp at this; omega
theorem partsF_end {f : Nat} {b : List UInt8} {q : Nat} {out : List (List UInt8)} (h : b.length ≤ q) : partsF f b q out = (out, 0) := by
  cases f with
  | zero => rfl
  | succ f => rw [partsF, if_pos h]
theorem partsF_err {f : Nat} {b : List UInt8} {q n e : Nat} {x : Int} {out : List (List UInt8)} (h : ¬ b.length ≤ q) (hu : getU b q = (n, x, e)) (he : ¬ e = 0) : partsF (f + 1) b q out = ([], e) := by
  rw [partsF, if_neg h, hu, if_neg he]
theorem partsF_short {f : Nat} {b : List UInt8} {q n k : Nat} {out : List (List UInt8)} (h : ¬ b.length ≤ q) (hu : getU b q = (n, (k : Int), 0)) (hs : b.length < k + n) : partsF (f + 1) b q out = ([], 5) := by
  rw [partsF, if_neg h, hu, if_pos rfl]
  simp only [Int.toNat_natCast]
  rw [if_pos hs]
theorem partsF_step {f : Nat} {b : List UInt8} {q n k : Nat} {out : List (List UInt8)} (h : ¬ b.length ≤ q) (hu : getU b q = (n, (k : Int), 0)) (hs : ¬ b.length < k + n) : partsF (f + 1) b q out = partsF f b (k + n) (out ++ [(b.take (k + n)).drop k]) := by
  rw [partsF, if_neg h, hu, if_pos rfl]
  simp only [Int.toNat_natCast]
  rw [if_neg hs]
/-- How much a list's parts hold, and what error there is. -/
theorem partsF_size : ∀ (f : Nat) (b : List UInt8) (q : Nat) (out : List (List UInt8)), q ≤ b.length → out.length + out.flatten.length ≤ q → (partsF f b q out).1.length + (partsF f b q out).1.flatten.length ≤ b.length
  | 0, b, q, out, hq, h => by simp only [partsF]; omega
  | f + 1, b, q, out, hq, h => by
    by_cases h1 : b.length ≤ q
    · rw [partsF_end h1]; exact Nat.le_trans h hq
    · obtain ⟨n, x, e, hu⟩ : ∃ n x e, getU b q = (n, x, e) := ⟨_, _, _, rfl⟩
      by_cases he : e = 0
      · subst he
        obtain ⟨k, rfl, h2, h3⟩ := getU_next hu
        by_cases hs : b.length < k + n
        · rw [partsF_short h1 hu hs]; simp
        · rw [partsF_step h1 hu hs]
          refine partsF_size f b _ _ (by omega) ?_
          simp only [List.flatten_append, List.flatten_cons, List.flatten_nil, List.length_append, List.length_cons, List.length_nil, List.length_drop, List.length_take]
          omega
      · rw [partsF_err h1 hu he]; simp
theorem getU_mid {pre rest : List UInt8} {n : Nat} (hn : n < 2 ^ 64) : getU (pre ++ (putU n ++ rest)) pre.length = (n, ((pre.length + (putU n).length : Nat) : Int), 0) := by
  have h := getAux_putU rest n 0 0 (by decide) hn (by omega) (.inl rfl)
  have := getU_ok (b := pre ++ (putU n ++ rest)) (q := pre.length) (n := n) (k := (putU n).length) (by simp) (by rw [List.drop_left, h]; simp)
  rw [this]; simp
theorem partsF_framed : ∀ (l : List (List UInt8)) (f : Nat) (pre : List UInt8) (out : List (List UInt8)), (∀ r ∈ l, r.length < 2 ^ 64) → (framed l).length ≤ f → partsF f (pre ++ framed l) pre.length out = (out ++ l, 0)
  | [], f, pre, out, _, _ => by rw [partsF_end (by simp [framed])]; simp
  | r :: l, f, pre, out, hr, hf => by
    have e : framed (r :: l) = putU r.length ++ (r ++ framed l) := by simp [framed]
    rw [e] at hf ⊢
    have hp := putU_pos r.length
    simp only [List.length_append] at hf
    obtain ⟨f, rfl⟩ : ∃ g, f = g + 1 := ⟨f - 1, by omega⟩
    have hg := getU_mid (pre := pre) (rest := r ++ framed l) (hr r (by simp))
    rw [partsF_step (by simp; omega) hg (by simp only [List.length_append]; omega)]
    have hb : pre ++ (putU r.length ++ (r ++ framed l)) = (pre ++ putU r.length ++ r) ++ framed l := by simp
    have hlen : (pre ++ putU r.length ++ r).length = pre.length + (putU r.length).length + r.length := by simp only [List.length_append]
    have hcut : ((pre ++ (putU r.length ++ (r ++ framed l))).take (pre.length + (putU r.length).length + r.length)).drop (pre.length + (putU r.length).length) = r := by
      rw [hb, ← hlen, List.take_left, show pre.length + (putU r.length).length = (pre ++ putU r.length).length by simp, List.drop_left]
    rw [hcut, hb, ← hlen, partsF_framed l f _ _ (fun x hx => hr x (by simp [hx])) (by omega)]
    simp
theorem parts_framed {l : List (List UInt8)} (h : ∀ r ∈ l, r.length < 2 ^ 64) : parts (framed l) = (l, 0) := by
  have := partsF_framed l (framed l).length [] [] h (Nat.le_refl _)
  simpa [parts] using this
theorem framed_take {l : List (List UInt8)} {k : Nat} {x : List UInt8} (h : l[k]? = some x) : framed (l.take (k + 1)) = framed (l.take k) ++ putU x.length ++ x := by
  rw [take_getR h]; simp [framed]
theorem framed_length : ∀ (l : List (List UInt8)), (∀ r ∈ l, r.length < 2 ^ 64) → (framed l).length ≤ l.flatten.length + 10 * l.length
  | [], _ => by simp [framed]
  | x :: l, h => by
    have h1 := framed_length l (fun r hr => h r (by simp [hr]))
    have h2 := putU_le (h x (by simp))
    simp only [framed, List.flatMap_cons, List.length_append, List.flatten_cons, List.length_cons] at h1 ⊢
    omega
theorem framed_take_le (l : List (List UInt8)) (k : Nat) : (framed (l.take k)).length ≤ (framed l).length := by
  have : framed l = framed (l.take k) ++ framed (l.drop k) := by
    rw [framed, framed, framed, ← List.flatMap_append, List.take_append_drop]
  rw [this, List.length_append]; omega
theorem mem_flat {l : List (List UInt8)} {x : List UInt8} (h : x ∈ l) : x.length ≤ l.flatten.length := by
  obtain ⟨k, hk, rfl⟩ := List.getElem_of_mem h
  exact flat_mem (List.getElem?_eq_getElem hk)
end Go.Proofs.Ytcjiecclmepboaa


/-
  Walks over Frame and Parts of the program and of the references.
-/
namespace Go.Proofs.Ytcjiecclmepboaa
open Go.RowKit

theorem frame_any {A : Option Addr} {n c : Nat} {rows : List (List UInt8)} {w : World} (hr : RdBB w A rows) (hn : rows.length = n) (hl : rows.flatten.length + 10 * rows.length ≤ 17592186044416) : CallsV Try.prog 88 #[.slice A n c] w (RetB w (framed rows)) := by
  subst hn
  have hfl := framed_length rows (fun r h => by have := mem_flat h; omega)
  refine calls_in (N := _) Try.func88 rfl Try.ntmps88 rfl ?_; show WC _ _ _ _ _ _
  refine wc_sr ?_; refine wl_as rfl rfl ?_; refine wl_ns ?_; refine wc_sr ?_; refine wl_as rfl rfl ?_; refine wl_ns ?_; refine wc_seq ?_; refine wc_sr ?_; refine wl_mv rfl rfl ?_; apply wl_val; apply opv_len; exact rfl; exact tyBB.sl; exact rfl; refine wl_mv rfl rfl ?_; refine wl_ns ?_; refine wc_block ?_
  refine wc_loop (fun L wr m => ∃ (k : Nat) (P : Option Addr) (cp : Nat), L = [(3, .slice P (framed (rows.take k)).length cp), (6, .slice A rows.length c), (7, .int .i64 (rows.length : Int)), (8, .int .i64 (k : Int))] ∧ k ≤ rows.length ∧ OwB wr w.heap.size P cp (framed (rows.take k)) ∧ Below w.heap.size w wr ∧ m = rows.length - k)
    [(3, .slice none 0 0), (6, .slice A rows.length c), (7, .int .i64 (rows.length : Int)), (8, .int .i64 (0 : Nat))] rows.length ⟨0, none, 0, rfl, by omega, Ow.nil _ _ _, Below.refl _ _, rfl⟩ ⟨rfl, rfl, rfl, rfl, trivial⟩ ?_
  rintro _ w1 m ⟨k, P, cp, rfl, hk, o1, hb1, rfl⟩
  have hle := framed_take_le rows k
  refine wc_sr ?_; refine wl_bin rfl rfl bin_lss rfl ?_; refine wl_ns ?_; refine wc_seq ?_
  refine wc_cond rfl (fun h1 => ?_) (fun h1 => ?_)
  · obtain ⟨x, hx⟩ : ∃ x, rows[k]? = some x := ⟨_, List.getElem?_eq_getElem (by omega)⟩
    obtain ⟨vs, X, cx, hv0, hvk, rx, hcx⟩ := hr.at hx
    have hv := hv0.below hb1
    have hxm := flat_mem hx
    have hpl := putU_le (n := x.length) (by omega)
    have hle2 := framed_take_le rows (k + 1)
    have e2 := framed_take hx
    have e3 := congrArg List.length e2
    simp only [List.length_append] at e3
    refine wc_skip ?_; refine we_seq ?_; refine wc_seq ?_; refine wc_block ?_; refine wc_sr ?_; apply wl_elK (T := tyBB) (hr := hv) (hb := hvk); exact rfl; exact rfl; exact rfl; exact rfl; exact rfl; intro _; refine wl_as rfl rfl ?_; refine wl_ns ?_; refine wc_region ?_; refine wl_mv rfl rfl ?_; refine wl_mv rfl rfl ?_; apply wl_val; apply opv_len; exact rfl; exact tyB.sl; exact rfl; apply wl_val; apply opv_convR; exact rfl; exact Try.underlying3; exact Try.underlying121; exact IntWalk.u64_in _ (by omega); exact rfl
    refine wl_call ok_codec_PutU (putU_any x.length (by omega) _) ⟨rfl, trivial⟩ rfl ?_
    rintro _ w2 ⟨A2, c2, rfl, o2, h2⟩
    have o1' := OwB.below o1 h2
    refine wl_app tyB rfl o1' rfl o2.rd (bvs_one _) (by omega) (by simp only [maxLen]; omega) (Nat.le_trans hb1.size h2.size) rfl fun A4 c4 w4 o4 g4 _ => ?_
    have hb4 := g4.below (hb1.trans (h2.mono hb1.size)) o1' (Nat.le_refl _) (Nat.le_trans hb1.size h2.size)
    have o5 := OwB.app o4
    refine wl_mv rfl rfl ?_
    refine wl_app tyB rfl o4 rfl (RdB.below rx hb4) (bvs_one _) (by omega) (by simp only [maxLen]; omega) hb4.size rfl fun A6 c6 w6 o6 g6 _ => ?_
    have hb6 := g6.below hb4 o4 (Nat.le_refl _) hb4.size
    have o7 : OwB w6 w.heap.size A6 c6 (framed (rows.take (k + 1))) := by
      rw [e2]; unfold OwB; rw [List.length_append, List.length_append, bvs_append, bvs_append]; exact o6
    refine wl_as rfl rfl ?_; refine wl_nil ?_; refine we_block_norm ?_; refine we_seq ?_; refine wc_region ?_; apply wl_val; apply opv_bin; exact rfl; exact rfl; exact bin_add64 (by omega); exact rfl; refine wl_mv rfl rfl ?_; refine wl_nil ?_
    refine we_loop [(3, .slice A6 (framed (rows.take (k + 1))).length c6), (6, .slice A rows.length c), (7, .int .i64 (rows.length : Int)), (8, .int .i64 ((k + 1 : Nat) : Int))] (rows.length - (k + 1)) ⟨k + 1, A6, c6, rfl, by omega, o7, hb6, rfl⟩ (by omega) ⟨by rw [e3]; rfl, rfl, rfl, by simp [lookT], trivial⟩
  · obtain rfl : k = rows.length := by omega
    rw [List.take_length] at o1 ⊢
    refine wc_exit ?_; refine we_seq_exit ?_; refine we_loop_exit ?_; refine we_block_exit ?_; refine we_seq ?_; refine wc_sr ?_; refine wl_mv rfl rfl ?_; refine wl_as rfl rfl ?_; refine wl_ns ?_; refine wc_ret ?_
    exact we_ret1 rfl rfl ⟨_, rfl, P, cp, rfl, o1, hb1⟩

theorem refFrame_any {A : Option Addr} {n c : Nat} {rows : List (List UInt8)} {w : World} (hr : RdBB w A rows) (hn : rows.length = n) (hl : rows.flatten.length + 10 * rows.length ≤ 17592186044416) : CallsV Try.prog 91 #[.slice A n c] w (RetB w (framed rows)) := by
  subst hn
  have hfl := framed_length rows (fun r h => by have := mem_flat h; omega)
  refine calls_in (N := _) Try.func91 rfl Try.ntmps91 rfl ?_; show WC _ _ _ _ _ _
  refine wc_sr ?_; refine wl_as rfl rfl ?_; refine wl_ns ?_; refine wc_sr ?_; refine wl_as rfl rfl ?_; refine wl_ns ?_; refine wc_seq ?_; refine wc_sr ?_; refine wl_as rfl rfl ?_; refine wl_ns ?_; refine wc_block ?_
  refine wc_loop (fun L wr m => ∃ (k : Nat) (P : Option Addr) (cp : Nat), L = [(0, .slice A rows.length c), (3, .slice P (framed (rows.take k)).length cp), (4, .int .i64 (k : Int))] ∧ k ≤ rows.length ∧ OwB wr w.heap.size P cp (framed (rows.take k)) ∧ Below w.heap.size w wr ∧ m = rows.length - k)
    [(0, .slice A rows.length c), (3, .slice none 0 0), (4, .int .i64 (0 : Nat))] rows.length ⟨0, none, 0, rfl, by omega, Ow.nil _ _ _, Below.refl _ _, rfl⟩ ⟨rfl, rfl, rfl, trivial⟩ ?_
  rintro _ w1 m ⟨k, P, cp, rfl, hk, o1, hb1, rfl⟩
  have hle := framed_take_le rows k
  refine wc_seq ?_; refine wc_sr ?_; refine wl_mv rfl rfl ?_; refine wl_mv rfl rfl ?_; apply wl_val; apply opv_len; exact rfl; exact tyBB.sl; exact rfl; refine wl_bin rfl rfl bin_lss rfl ?_; refine wl_ns ?_
  refine wc_cond rfl (fun h1 => ?_) (fun h1 => ?_)
  · obtain ⟨x, hx⟩ : ∃ x, rows[k]? = some x := ⟨_, List.getElem?_eq_getElem (by omega)⟩
    obtain ⟨vs, X, cx, hv0, hvk, rx, hcx⟩ := hr.at hx
    have hv := hv0.below hb1
    have hxm := flat_mem hx
    have hpl := putU_le (n := x.length) (by omega)
    have hle2 := framed_take_le rows (k + 1)
    have e2 := framed_take hx
    have e3 := congrArg List.length e2
    simp only [List.length_append] at e3
    refine wc_skip ?_; refine we_seq ?_; refine wc_seq ?_; refine wc_block ?_; refine wc_sr ?_; refine wl_mv rfl rfl ?_; refine wl_mv rfl rfl ?_; refine wl_mv rfl rfl ?_; apply wl_elK (T := tyBB) (hr := hv) (hb := hvk); exact rfl; exact rfl; exact rfl; exact rfl; exact rfl; intro _; apply wl_val; apply opv_len; exact rfl; exact tyB.sl; exact rfl; apply wl_val; apply opv_convR; exact rfl; exact Try.underlying3; exact Try.underlying121; exact IntWalk.u64_in _ (by omega); exact rfl
    refine wl_call ok_caissonref01_PutU (refPutU_any x.length (by omega) _) ⟨rfl, trivial⟩ rfl ?_
    rintro _ w2 ⟨A2, c2, rfl, o2, h2⟩
    have o1' := OwB.below o1 h2
    refine wl_app tyB rfl o1' rfl o2.rd (bvs_one _) (by omega) (by simp only [maxLen]; omega) (Nat.le_trans hb1.size h2.size) rfl fun A4 c4 w4 o4 g4 _ => ?_
    have hb4 := g4.below (hb1.trans (h2.mono hb1.size)) o1' (Nat.le_refl _) (Nat.le_trans hb1.size h2.size)
    have hv4 := hv0.below hb4
    refine wl_as rfl rfl ?_; refine wl_ns ?_; refine wc_region ?_; refine wl_mv rfl rfl ?_; refine wl_mv rfl rfl ?_; refine wl_mv rfl rfl ?_; apply wl_elK (T := tyBB) (hr := hv4) (hb := hvk); exact rfl; exact rfl; exact rfl; exact rfl; exact rfl; intro _
    refine wl_app tyB rfl o4 rfl (RdB.below rx hb4) (bvs_one _) (by omega) (by simp only [maxLen]; omega) hb4.size rfl fun A6 c6 w6 o6 g6 _ => ?_
    have hb6 := g6.below hb4 o4 (Nat.le_refl _) hb4.size
    have o7 : OwB w6 w.heap.size A6 c6 (framed (rows.take (k + 1))) := by
      rw [e2]; unfold OwB; rw [List.length_append, List.length_append, bvs_append, bvs_append]; exact o6
    refine wl_as rfl rfl ?_; refine wl_nil ?_; refine we_block_norm ?_; refine we_seq ?_; refine wc_region ?_; refine wl_mv rfl rfl ?_; apply wl_val; apply opv_bin; exact rfl; exact rfl; exact bin_add64 (by omega); exact rfl; refine wl_as rfl rfl ?_; refine wl_nil ?_
    refine we_loop [(0, .slice A rows.length c), (3, .slice A6 (framed (rows.take (k + 1))).length c6), (4, .int .i64 ((k + 1 : Nat) : Int))] (rows.length - (k + 1)) ⟨k + 1, A6, c6, rfl, by omega, o7, hb6, rfl⟩ (by omega) ⟨rfl, by rw [e3]; rfl, by simp [lookT], trivial⟩
  · obtain rfl : k = rows.length := by omega
    rw [List.take_length] at o1 ⊢
    refine wc_exit ?_; refine we_seq_exit ?_; refine we_loop_exit ?_; refine we_block_exit ?_; refine we_seq ?_; refine wc_sr ?_; refine wl_mv rfl rfl ?_; refine wl_as rfl rfl ?_; refine wl_ns ?_; refine wc_ret ?_
    exact we_ret1 rfl rfl ⟨_, rfl, P, cp, rfl, o1, hb1⟩
end Go.Proofs.Ytcjiecclmepboaa


/-
  Walks over Parts of the program and of the reference.
-/
namespace Go.Proofs.Ytcjiecclmepboaa
open Go.RowKit

theorem rd_cut {w : World} {A : Option Addr} {xs : List UInt8} {c l h : Nat} (hr : RdB w A xs) (h1 : l ≤ h) (hh : h ≤ xs.length) (hc : xs.length ≤ c) : RdB w (cutA A c l) ((xs.take h).drop l) := by
  have := Rd.cut (l := l) (h := h) hr h1 hh hc
  rw [bvs_cut] at this
  have e : ((xs.take h).drop l).length = h - l := by simp; omega
  unfold RdB; rw [e]; exact this
def RetP (w : World) (x : List (List UInt8) × Nat) (v : Value) (w' : World) : Prop :=
  ∃ (A : Option Addr) (c : Nat), v = .tuple #[.slice A x.1.length c, .int .i64 (x.2 : Int)] ∧ OwBB w' w.heap.size A c x.1 ∧ Below w.heap.size w w'

theorem parts_any {A : Option Addr} {n c : Nat} {xs : List UInt8} {w : World} (hr : RdB w A xs) (hn : xs.length = n) (hc : xs.length ≤ c) (hl : xs.length ≤ 1099511627776) : CallsV Try.prog 89 #[.slice A n c] w (RetP w (parts xs)) := by
  subst hn
  refine calls_in (N := _) Try.func89 rfl Try.ntmps89 rfl ?_; show WC _ _ _ _ _ _
  refine wc_sr ?_; refine wl_as rfl rfl ?_; refine wl_as rfl rfl ?_; refine wl_ns ?_; refine wc_sr ?_; refine wl_as rfl rfl ?_; refine wl_ns ?_; refine wc_seq ?_; refine wc_sr ?_; refine wl_as rfl rfl ?_; refine wl_ns ?_; refine wc_block ?_
  refine wc_loop (fun L wr m => ∃ (q f : Nat) (out : List (List UInt8)) (P : Option Addr) (cp : Nat), L = [(0, .slice A xs.length c), (4, .slice P out.length cp), (5, .int .i64 (q : Int))] ∧ q ≤ xs.length ∧ xs.length - q ≤ f ∧ parts xs = partsF f xs q out ∧ out.length ≤ q ∧ OwBB wr w.heap.size P cp out ∧ Below w.heap.size w wr ∧ m = xs.length - q)
    [(0, .slice A xs.length c), (4, .slice none 0 0), (5, .int .i64 (0 : Nat))] xs.length ⟨0, xs.length, [], none, 0, rfl, by omega, by omega, rfl, by simp, OwBB.nil _ _, Below.refl _ _, rfl⟩ ⟨rfl, rfl, rfl, trivial⟩ ?_
  rintro _ w1 m ⟨q, f, out, P, cp, rfl, hq, hf, hp, hol, o1, hb1, rfl⟩
  refine wc_seq ?_; refine wc_sr ?_; refine wl_mv rfl rfl ?_; refine wl_mv rfl rfl ?_; apply wl_val; apply opv_len; exact rfl; exact tyB.sl; exact rfl; refine wl_bin rfl rfl bin_lss rfl ?_; refine wl_ns ?_
  refine wc_cond rfl (fun h1 => ?_) (fun h1 => ?_)
  · obtain ⟨f, rfl⟩ : ∃ g, f = g + 1 := ⟨f - 1, by omega⟩
    obtain ⟨n, x, e, hu⟩ : ∃ n x e, getU xs q = (n, x, e) := ⟨_, _, _, rfl⟩
    have r1 := RdB.below hr hb1
    refine wc_skip ?_; refine we_seq ?_; refine wc_block ?_; refine wc_sr ?_; refine wl_mv rfl rfl ?_; refine wl_mv rfl rfl ?_
    refine wl_call ok_codec_GetU (getU_at hu r1 rfl (by simp only [maxLen]; omega) (by omega)) ⟨rfl, rfl, trivial⟩ rfl ?_
    rintro _ w2 ⟨rfl, h2⟩
    have hb2 := hb1.trans (h2.mono hb1.size)
    replace o1 := o1.below h2
    replace r1 := RdB.below r1 h2
    refine wl_mv rfl rfl ?_; apply wl_val; apply opv_extract; exact rfl; exact rfl; exact rfl; apply wl_val; apply opv_extract; exact rfl; exact rfl; exact rfl; apply wl_val; apply opv_extract; exact rfl; exact rfl; exact rfl; refine wl_as rfl rfl ?_; refine wl_as rfl rfl ?_; refine wl_as rfl rfl ?_; refine wl_ns ?_; refine wc_seq ?_; refine wc_sr ?_; refine wl_mv rfl rfl ?_; refine wl_bin rfl rfl bin_neq rfl ?_; refine wl_ns ?_
    by_cases he : e = 0
    · subst he
      obtain ⟨k, rfl, hqk, hkl⟩ := getU_next hu
      have hnf : n < 18446744073709551616 := by have := getU_fits xs q; rw [hu] at this; exact this
      refine wc_cond rfl (fun h => absurd rfl h) (fun _ => ?_)
      have e1 : IntKind.u64.wrap ((xs.length : Int) - k) = (xs.length : Int) - k := IntWalk.u64_in _ (by omega)
      refine wc_skip ?_; refine we_seq ?_; refine wc_seq ?_; refine wc_sr ?_; refine wl_mv rfl rfl ?_; refine wl_mv rfl rfl ?_; apply wl_val; apply opv_len; exact rfl; exact tyB.sl; exact rfl; refine wl_mv rfl rfl ?_; apply wl_val; apply opv_bin; exact rfl; exact rfl; exact bin_sub64 (by omega); exact rfl; apply wl_val; apply opv_convR; exact rfl; exact Try.underlying3; exact Try.underlying121; exact IntWalk.u64_in _ (by omega); exact rfl; refine wl_bin rfl rfl bin_gtr rfl ?_; refine wl_ns ?_
      refine wc_cond rfl (fun h3 => ?_) (fun h3 => ?_)
      · refine wc_sr ?_; refine wl_as rfl rfl ?_; refine wl_as rfl rfl ?_; refine wl_ns ?_; refine wc_ret ?_; refine we_seq_ret ?_; refine we_block_ret ?_; refine we_loop_ret ?_; refine we_block_ret ?_; refine we_seq_ret ?_
        refine we_ret2 rfl rfl rfl ⟨_, rfl, ?_⟩
        rw [hp, partsF_short (by omega) hu (by omega)]
        exact ⟨none, 0, rfl, OwBB.nil _ _, hb2⟩
      · have hkn : k + n ≤ xs.length := by omega
        refine wc_skip ?_; refine we_seq ?_; refine wc_sr ?_; refine wl_mv rfl rfl ?_; refine wl_mv rfl rfl ?_; apply wl_val; apply opv_convR; exact rfl; exact Try.underlying121; exact Try.underlying3; exact IntWalk.i64_in _ (by omega); exact rfl; apply wl_val; apply opv_bin; exact rfl; exact rfl; exact bin_add64 (by omega); exact rfl; refine wl_as rfl rfl ?_; refine wl_ns ?_; refine wc_region ?_; refine wl_mv rfl rfl ?_; refine wl_mv rfl rfl ?_; refine wl_mv rfl rfl ?_; refine wl_mv rfl rfl ?_
        refine wl_sl (l := k) (h := k + n) tyB rfl ⟨_, rfl⟩ ⟨_, by simp only [Int.natCast_add]; rfl⟩ (by omega) (by omega) rfl ?_
        refine wl_call ok_bytes_Clone (clone_any (rd_cut r1 (by omega) hkn hc) (by simp; omega) (by simp; omega)) ⟨rfl, trivial⟩ rfl ?_
        rintro _ w3 ⟨A3, c3, rfl, o3, h3⟩
        have hb3 := hb2.trans (h3.mono hb2.size)
        refine wl_pushR o1 h3 hb2.size o3 hb3 rfl (by omega) rfl rfl rfl rfl rfl fun p A4 c4 w4 o4 hb4 => ?_
        refine wl_as rfl rfl ?_; refine wl_nil ?_; refine we_block_norm ?_
        refine we_loop [(0, .slice A xs.length c), (4, .slice A4 (out ++ [(xs.take (k + n)).drop k]).length c4), (5, .int .i64 ((k + n : Nat) : Int))] (xs.length - (k + n)) ⟨k + n, f, _, A4, c4, rfl, hkn, by omega, ?_, by simp; omega, o4, hb4, rfl⟩ (by omega) ⟨rfl, by rw [List.length_append]; rfl, by rw [Int.natCast_add]; rfl, trivial⟩
        rw [hp, partsF_step (by omega) hu (by omega)]
    · refine wc_cond rfl (fun _ => ?_) (fun h => absurd (fun h' => he (by exact_mod_cast h')) h)
      refine wc_sr ?_; refine wl_mv rfl rfl ?_; refine wl_as rfl rfl ?_; refine wl_as rfl rfl ?_; refine wl_ns ?_; refine wc_ret ?_; refine we_seq_ret ?_; refine we_block_ret ?_; refine we_loop_ret ?_; refine we_block_ret ?_; refine we_seq_ret ?_
      refine we_ret2 rfl rfl rfl ⟨_, rfl, ?_⟩
      rw [hp, partsF_err (by omega) hu he]
      exact ⟨none, 0, rfl, OwBB.nil _ _, hb2⟩
  · refine wc_exit ?_; refine we_seq_exit ?_; refine we_loop_exit ?_; refine we_block_exit ?_; refine we_seq ?_; refine wc_sr ?_; refine wl_mv rfl rfl ?_; refine wl_as rfl rfl ?_; refine wl_as rfl rfl ?_; refine wl_ns ?_; refine wc_ret ?_
    refine we_ret2 rfl rfl rfl ⟨_, rfl, ?_⟩
    rw [hp, partsF_end (by omega)]
    exact ⟨P, cp, rfl, o1, hb1⟩

theorem refParts_any {A : Option Addr} {n c : Nat} {xs : List UInt8} {w : World} (hr : RdB w A xs) (hn : xs.length = n) (hc : xs.length ≤ c) (hl : xs.length ≤ 1099511627776) : CallsV Try.prog 92 #[.slice A n c] w (RetP w (parts xs)) := by
  subst hn
  refine calls_in (N := _) Try.func92 rfl Try.ntmps92 rfl ?_; show WC _ _ _ _ _ _
  refine wc_sr ?_; refine wl_as rfl rfl ?_; refine wl_as rfl rfl ?_; refine wl_ns ?_; refine wc_sr ?_; refine wl_as rfl rfl ?_; refine wl_ns ?_; refine wc_sr ?_; refine wl_as rfl rfl ?_; refine wl_ns ?_; refine wc_seq ?_; refine wc_block ?_
  refine wc_loop (fun L wr m => ∃ (q f : Nat) (out : List (List UInt8)) (P : Option Addr) (cp : Nat), L = [(0, .slice A xs.length c), (4, .slice P out.length cp), (5, .int .i64 (q : Int))] ∧ q ≤ xs.length ∧ xs.length - q ≤ f ∧ parts xs = partsF f xs q out ∧ out.length ≤ q ∧ OwBB wr w.heap.size P cp out ∧ Below w.heap.size w wr ∧ m = xs.length - q)
    [(0, .slice A xs.length c), (4, .slice none 0 0), (5, .int .i64 (0 : Nat))] xs.length ⟨0, xs.length, [], none, 0, rfl, by omega, by omega, rfl, by simp, OwBB.nil _ _, Below.refl _ _, rfl⟩ ⟨rfl, rfl, rfl, trivial⟩ ?_
  rintro _ w1 m ⟨q, f, out, P, cp, rfl, hq, hf, hp, hol, o1, hb1, rfl⟩
  refine wc_seq ?_; refine wc_sr ?_; refine wl_mv rfl rfl ?_; refine wl_mv rfl rfl ?_; apply wl_val; apply opv_len; exact rfl; exact tyB.sl; exact rfl; refine wl_bin rfl rfl bin_lss rfl ?_; refine wl_ns ?_
  refine wc_cond rfl (fun h1 => ?_) (fun h1 => ?_)
  · obtain ⟨f, rfl⟩ : ∃ g, f = g + 1 := ⟨f - 1, by omega⟩
    obtain ⟨n, x, e, hu⟩ : ∃ n x e, getU xs q = (n, x, e) := ⟨_, _, _, rfl⟩
    have r1 := RdB.below hr hb1
    refine wc_skip ?_; refine we_seq ?_; refine wc_block ?_; refine wc_sr ?_; refine wl_mv rfl rfl ?_; refine wl_mv rfl rfl ?_
    refine wl_call ok_caissonref01_GetU (refGetU_at hu r1 rfl (by simp only [maxLen]; omega) (by omega)) ⟨rfl, rfl, trivial⟩ rfl ?_
    rintro _ w2 ⟨rfl, h2⟩
    have hb2 := hb1.trans (h2.mono hb1.size)
    replace o1 := o1.below h2
    replace r1 := RdB.below r1 h2
    refine wl_mv rfl rfl ?_; apply wl_val; apply opv_extract; exact rfl; exact rfl; exact rfl; apply wl_val; apply opv_extract; exact rfl; exact rfl; exact rfl; apply wl_val; apply opv_extract; exact rfl; exact rfl; exact rfl; refine wl_as rfl rfl ?_; refine wl_as rfl rfl ?_; refine wl_as rfl rfl ?_; refine wl_ns ?_; refine wc_seq ?_; refine wc_sr ?_; refine wl_mv rfl rfl ?_; refine wl_bin rfl rfl bin_neq rfl ?_; refine wl_ns ?_
    by_cases he : e = 0
    · subst he
      obtain ⟨k, rfl, hqk, hkl⟩ := getU_next hu
      have hnf : n < 18446744073709551616 := by have := getU_fits xs q; rw [hu] at this; exact this
      refine wc_cond rfl (fun h => absurd rfl h) (fun _ => ?_)
      refine wc_skip ?_; refine we_seq ?_; refine wc_seq ?_; refine wc_sr ?_; refine wl_mv rfl rfl ?_; refine wl_mv rfl rfl ?_; apply wl_val; apply opv_len; exact rfl; exact tyB.sl; exact rfl; refine wl_mv rfl rfl ?_; apply wl_val; apply opv_bin; exact rfl; exact rfl; exact bin_sub64 (by omega); exact rfl; apply wl_val; apply opv_convR; exact rfl; exact Try.underlying3; exact Try.underlying121; exact IntWalk.u64_in _ (by omega); exact rfl; refine wl_bin rfl rfl bin_gtr rfl ?_; refine wl_ns ?_
      refine wc_cond rfl (fun h3 => ?_) (fun h3 => ?_)
      · refine wc_sr ?_; refine wl_as rfl rfl ?_; refine wl_as rfl rfl ?_; refine wl_ns ?_; refine wc_ret ?_; refine we_seq_ret ?_; refine we_block_ret ?_; refine we_loop_ret ?_; refine we_block_ret ?_; refine we_seq_ret ?_
        refine we_ret2 rfl rfl rfl ⟨_, rfl, ?_⟩
        rw [hp, partsF_short (by omega) hu (by omega)]
        exact ⟨none, 0, rfl, OwBB.nil _ _, hb2⟩
      · have hkn : k + n ≤ xs.length := by omega
        refine wc_skip ?_; refine we_seq ?_; refine wc_sr ?_; refine wl_mv rfl rfl ?_; refine wl_mv rfl rfl ?_; refine wl_mv rfl rfl ?_; refine wl_mv rfl rfl ?_; refine wl_mv rfl rfl ?_; apply wl_val; apply opv_convR; exact rfl; exact Try.underlying121; exact Try.underlying3; exact IntWalk.i64_in _ (by omega); exact rfl; apply wl_val; apply opv_bin; exact rfl; exact rfl; exact bin_add64 (by omega); exact rfl
        refine wl_sl (l := k) (h := k + n) tyB rfl ⟨_, rfl⟩ ⟨_, by simp only [Int.natCast_add]; rfl⟩ (by omega) (by omega) rfl ?_
        refine wl_call ok_caissonref01_Copy (copy_any (rd_cut r1 (by omega) hkn hc) (by simp; omega) (by simp; omega)) ⟨rfl, trivial⟩ rfl ?_
        rintro _ w3 ⟨A3, c3, rfl, o3, h3⟩
        have hb3 := hb2.trans (h3.mono hb2.size)
        refine wl_pushR o1 h3 hb2.size o3 hb3 rfl (by omega) rfl rfl rfl rfl rfl fun p A4 c4 w4 o4 hb4 => ?_
        refine wl_as rfl rfl ?_; refine wl_ns ?_; refine wc_region ?_; refine wl_mv rfl rfl ?_; refine wl_mv rfl rfl ?_; apply wl_val; apply opv_convR; exact rfl; exact Try.underlying121; exact Try.underlying3; exact IntWalk.i64_in _ (by omega); exact rfl; apply wl_val; apply opv_bin; exact rfl; exact rfl; exact bin_add64 (by omega); exact rfl; refine wl_as rfl rfl ?_; refine wl_nil ?_; refine we_block_norm ?_
        refine we_loop [(0, .slice A xs.length c), (4, .slice A4 (out ++ [(xs.take (k + n)).drop k]).length c4), (5, .int .i64 ((k + n : Nat) : Int))] (xs.length - (k + n)) ⟨k + n, f, _, A4, c4, rfl, hkn, by omega, ?_, by simp; omega, o4, hb4, rfl⟩ (by omega) ⟨rfl, by rw [List.length_append]; rfl, by rw [Int.natCast_add]; rfl, trivial⟩
        rw [hp, partsF_step (by omega) hu (by omega)]
    · refine wc_cond rfl (fun _ => ?_) (fun h => absurd (fun h' => he (by exact_mod_cast h')) h)
      refine wc_sr ?_; refine wl_mv rfl rfl ?_; refine wl_as rfl rfl ?_; refine wl_as rfl rfl ?_; refine wl_ns ?_; refine wc_ret ?_; refine we_seq_ret ?_; refine we_block_ret ?_; refine we_loop_ret ?_; refine we_block_ret ?_; refine we_seq_ret ?_
      refine we_ret2 rfl rfl rfl ⟨_, rfl, ?_⟩
      rw [hp, partsF_err (by omega) hu he]
      exact ⟨none, 0, rfl, OwBB.nil _ _, hb2⟩
  · refine wc_exit ?_; refine we_seq_exit ?_; refine we_loop_exit ?_; refine we_block_exit ?_; refine we_seq ?_; refine wc_sr ?_; refine wl_mv rfl rfl ?_; refine wl_as rfl rfl ?_; refine wl_as rfl rfl ?_; refine wl_ns ?_; refine wc_ret ?_
    refine we_ret2 rfl rfl rfl ⟨_, rfl, ?_⟩
    rw [hp, partsF_end (by omega)]
    exact ⟨P, cp, rfl, o1, hb1⟩
end Go.Proofs.Ytcjiecclmepboaa


/-
  Plain laws of numbers written in eight bytes, the greatest first. No program in sight.
-/
namespace Go.Proofs.Ytcjiecclmepboaa

/-- The lowest k bytes of a number, the greatest first. -/
def ordK : Nat → Nat → List UInt8
  | 0, _ => []
  | k + 1, n => ordK k (n / 256) ++ [UInt8.ofNat n]
def ordU (n : Nat) : List UInt8 := ordK 8 n
def numB (l : List UInt8) : Nat := l.foldl (fun n x => n * 256 + x.toNat) 0
def getOrdU (b : List UInt8) (p : Int) : Nat × Int × Nat :=
  if p < 0 ∨ (b.length : Int) < p then (0, 0, 1)
  else if (b.length : Int) - p < 8 then (0, 0, 5)
  else (numB ((b.drop p.toNat).take 8), p + 8, 0)

theorem ordK_length : ∀ (k n : Nat), (ordK k n).length = k
  | 0, _ => rfl
  | k + 1, n => by simp [ordK, ordK_length k]
theorem ordU_length (n : Nat) : (ordU n).length = 8 := ordK_length 8 n
theorem numB_snoc (l : List UInt8) (x : UInt8) : numB (l ++ [x]) = numB l * 256 + x.toNat := by simp [numB]
theorem numB_ordK : ∀ (k n : Nat), numB (ordK k n) = n % 256 ^ k
  | 0, n => by simp [ordK, numB, Nat.mod_one]
  | k + 1, n => by
    rw [ordK, numB_snoc, numB_ordK k]
    rw [Nat.pow_succ, Nat.mul_comm (256 ^ k) 256, Nat.mod_mul]
    simp
    omega
theorem numB_ordU {n : Nat} (h : n < 2 ^ 64) : numB (ordU n) = n := by
  rw [ordU, numB_ordK]; exact Nat.mod_eq_of_lt h
theorem ordK_numB : ∀ (k : Nat) (l : List UInt8), l.length = k → ordK k (numB l) = l
  | 0, l, h => by simp [ordK, List.length_eq_zero_iff.1 h]
  | k + 1, l, h => by
    have hne : l ≠ [] := by rintro rfl; simp at h
    have e := List.dropLast_concat_getLast hne
    rw [← e, numB_snoc, ordK]
    have hx := (l.getLast hne).toNat_lt
    have e1 : (numB l.dropLast * 256 + (l.getLast hne).toNat) / 256 = numB l.dropLast := by omega
    rw [e1, ordK_numB k _ (by simp [h])]
    congr 2
    apply UInt8.toNat_inj.1
    simp
theorem ordU_numB {l : List UInt8} (h : l.length = 8) : ordU (numB l) = l := ordK_numB 8 l h
theorem numB_cons : ∀ (l : List UInt8) (a : Nat), l.foldl (fun n x => n * 256 + x.toNat) a = a * 256 ^ l.length + numB l
  | [], a => by simp [numB]
  | x :: l, a => by
    have h1 := numB_cons l (a * 256 + x.toNat)
    have h2 := numB_cons l (0 * 256 + x.toNat)
    simp only [numB, List.foldl_cons, List.length_cons] at h1 h2 ⊢
    rw [h1, h2, Nat.pow_succ]
    simp only [Nat.add_mul, Nat.mul_assoc, Nat.zero_mul, Nat.zero_add]
    rw [Nat.mul_comm 256 (256 ^ l.length)]
    omega
theorem numB_lt (l : List UInt8) : numB l < 256 ^ l.length := by
  have h := numB_ordK l.length (numB l)
  rw [ordK_numB _ l rfl] at h
  rw [h]; exact Nat.mod_lt _ (Nat.pow_pos (by decide))
theorem cmp_num : ∀ (a b : List UInt8), a.length = b.length → (cmpB a b < 0 ↔ numB a < numB b)
  | [], [], _ => by simp [cmpB, numB]
  | [], _ :: _, h => by simp at h
  | _ :: _, [], h => by simp at h
  | x :: a, y :: b, h => by
    simp only [List.length_cons, Nat.add_right_cancel_iff] at h
    have ha : numB (x :: a) = x.toNat * 256 ^ a.length + numB a := by
      have := numB_cons a (0 * 256 + x.toNat); simp only [numB, List.foldl_cons] at this ⊢; rw [this]; simp
    have hb : numB (y :: b) = y.toNat * 256 ^ a.length + numB b := by
      have := numB_cons b (0 * 256 + y.toNat); simp only [numB, List.foldl_cons] at this ⊢; rw [this, h]; simp
    have la := numB_lt a
    have lb := numB_lt b
    rw [← h] at lb
    rw [ha, hb]
    by_cases h1 : x < y
    · rw [cmp_lt h1]
      rw [UInt8.lt_iff_toNat_lt] at h1
      have := Nat.mul_le_mul_right (256 ^ a.length) (show x.toNat + 1 ≤ y.toNat from h1)
      rw [Nat.add_mul, Nat.one_mul] at this
      constructor
      · intro _; omega
      · intro _; decide
    · by_cases h2 : y < x
      · rw [cmp_gt h2]
        rw [UInt8.lt_iff_toNat_lt] at h2
        have := Nat.mul_le_mul_right (256 ^ a.length) (show y.toNat + 1 ≤ x.toNat from h2)
        rw [Nat.add_mul, Nat.one_mul] at this
        constructor
        · intro h; omega
        · intro h; omega
      · have e : x = y := UInt8.le_antisymm (UInt8.not_lt.1 h2) (UInt8.not_lt.1 h1)
        subst e
        rw [cmp_same, cmp_num a b h]
        omega
theorem cmp_ordU {n m : Nat} (hn : n < 2 ^ 64) (hm : m < 2 ^ 64) : (cmpB (ordU n) (ordU m) < 0) = (n < m) := by
  rw [cmp_num _ _ (by rw [ordU_length, ordU_length]), numB_ordU hn, numB_ordU hm]
theorem ordK_get : ∀ (k n i : Nat), i < k → (ordK k n)[i]? = some (UInt8.ofNat (n / 256 ^ (k - 1 - i)))
  | 0, _, _, h => by omega
  | k + 1, n, i, h => by
    rw [ordK]
    by_cases hi : i < k
    · rw [List.getElem?_append_left (by rw [ordK_length]; exact hi), ordK_get k _ i hi, Nat.div_div_eq_div_mul]
      have e : 256 * 256 ^ (k - 1 - i) = 256 ^ (k + 1 - 1 - i) := by
        rw [show k + 1 - 1 - i = (k - 1 - i) + 1 by omega, Nat.pow_succ, Nat.mul_comm]
      rw [e]
    · have : i = k := by omega
      subst this
      rw [List.getElem?_append_right (by rw [ordK_length]; omega), ordK_length]
      simp
theorem numB_step {l : List UInt8} {k : Nat} {x : UInt8} (h : l[k]? = some x) : numB (l.take (k + 1)) = numB (l.take k) * 256 + x.toNat := by
  rw [take_getR h, numB_snoc]
theorem xor_top {u : Nat} (h : u < 2 ^ 64) : u ^^^ 9223372036854775808 = (u + 9223372036854775808) % 18446744073709551616 := by
  rw [show 9223372036854775808 = 2 ^ 63 from rfl, show 18446744073709551616 = 2 ^ 64 from rfl]
  apply Nat.eq_of_testBit_eq
  intro j
  rw [Nat.testBit_xor, Nat.testBit_mod_two_pow, Nat.add_comm]
  rcases Nat.lt_trichotomy j 63 with hj | hj | hj
  · rw [Nat.testBit_two_pow_of_ne (by omega), Nat.testBit_two_pow_add_gt hj]
    have : j < 64 := by omega
    simp [this]
  · subst hj
    rw [Nat.testBit_two_pow_self, Nat.testBit_two_pow_add_eq]
    simp
  · rw [Nat.testBit_two_pow_of_ne (by omega), Nat.testBit_lt_two_pow (Nat.lt_of_lt_of_le h (Nat.pow_le_pow_right (by decide) (by omega)))]
    have : ¬ j < 64 := by omega
    simp [this]
theorem getOrdU_arg {b : List UInt8} {p : Int} (h : ¬ (0 ≤ p ∧ p ≤ b.length)) : getOrdU b p = (0, 0, 1) := by
  rw [getOrdU, if_pos (by omega)]
theorem getOrdU_end {b : List UInt8} {p : Int} (h : 0 ≤ p ∧ p ≤ b.length) (h8 : (b.length : Int) - p < 8) : getOrdU b p = (0, 0, 5) := by
  rw [getOrdU, if_neg (by omega), if_pos h8]
theorem getOrdU_ok {b : List UInt8} {q : Nat} (h : q + 8 ≤ b.length) : getOrdU b q = (numB ((b.drop q).take 8), (q : Int) + 8, 0) := by
  rw [getOrdU, if_neg (by omega), if_neg (by omega)]; simp
theorem getOrdU_cases (b : List UInt8) (p : Int) : (∃ e : Nat, ¬ e = 0 ∧ getOrdU b p = (0, 0, e)) ∨ ∃ q : Nat, p = q ∧ q + 8 ≤ b.length ∧ getOrdU b p = (numB ((b.drop q).take 8), (q : Int) + 8, 0) := by
  by_cases h : 0 ≤ p ∧ p ≤ b.length
  · by_cases h8 : (b.length : Int) - p < 8
    · exact .inl ⟨5, by decide, getOrdU_end h h8⟩
    · obtain ⟨q, rfl⟩ := Int.eq_ofNat_of_zero_le h.1
      exact .inr ⟨q, rfl, by omega, getOrdU_ok (by omega)⟩
  · exact .inl ⟨1, by decide, getOrdU_arg h⟩
end Go.Proofs.Ytcjiecclmepboaa


/-
  Walks over the numbers of eight bytes of the program and of the references.
-/
namespace Go.Proofs.Ytcjiecclmepboaa
open Go.RowKit

theorem fill_up {α : Type} {l : List α} {z x : α} {k m : Nat} (h : l[k]? = some x) : (l.take k ++ List.replicate (m + 1) z).set k x = l.take (k + 1) ++ List.replicate m z := by
  have hk := (List.getElem?_eq_some_iff.1 h).1
  have e : (l.take k).length = k := by simp; omega
  rw [List.set_append_right _ _ (by omega), e, Nat.sub_self, List.replicate_succ, List.set_cons_zero, take_getR h]
  simp
theorem fill_down {α : Type} {l : List α} {z x : α} {k : Nat} (h : l[k]? = some x) : (List.replicate (k + 1) z ++ l.drop (k + 1)).set k x = List.replicate k z ++ l.drop k := by
  obtain ⟨hk, e⟩ := List.getElem?_eq_some_iff.1 h
  rw [List.set_append_left _ _ (by simp), List.replicate_succ', List.set_append_right _ _ (by simp)]
  rw [List.drop_eq_getElem_cons hk, e]
  simp
theorem byte_of (m : Nat) : Value.int .u8 ((m % 2 ^ IntKind.u8.bits : Nat) : Int) = bv (UInt8.ofNat m) := by
  simp [bv, IntKind.bits]

theorem ordU_any (n : Nat) (hn : n < 2 ^ 64) (w : World) : CallsV Try.prog 102 #[.int .u64 n] w (RetB w (ordU n)) := by
  refine calls_in (N := _) Try.func102 rfl Try.ntmps102 rfl ?_; show WC _ _ _ _ _ _
  refine wc_sr ?_; refine wl_as rfl rfl ?_; refine wl_ns ?_; refine wc_sr ?_
  refine wl_mk (n := 8) (c := 8) tyB rfl rfl rfl rfl (by omega) (by omega) (by simp only [maxLen]; omega) rfl fun A1 w1 o1 hb1 _ => ?_
  refine wl_as rfl rfl ?_; refine wl_ns ?_; refine wc_seq ?_; refine wc_sr ?_; refine wl_mv rfl rfl ?_; apply wl_val; apply opv_len; exact rfl; exact tyB.sl; exact rfl; refine wl_mv rfl rfl ?_; refine wl_ns ?_; refine wc_block ?_
  refine wc_loop (fun L wr m => ∃ k : Nat, L = [(0, .int .u64 (n : Int)), (3, .slice A1 8 8), (7, .int .i64 (8 : Int)), (8, .int .i64 (k : Int))] ∧ k ≤ 8 ∧ Ow wr w.heap.size 5 A1 8 8 (bvs ((ordU n).take k ++ List.replicate (8 - k) 0)) ∧ Below w.heap.size w wr ∧ m = 8 - k)
    [(0, .int .u64 (n : Int)), (3, .slice A1 8 8), (7, .int .i64 (8 : Int)), (8, .int .i64 (0 : Nat))] 8 ⟨0, rfl, by omega, by simpa [bvs, bv] using o1, hb1, rfl⟩ ⟨rfl, rfl, rfl, rfl, trivial⟩ ?_
  rintro _ w2 m ⟨k, rfl, hk, o2, hb2, rfl⟩
  refine wc_sr ?_; refine wl_bin rfl rfl bin_lss rfl ?_; refine wl_ns ?_; refine wc_seq ?_
  refine wc_cond rfl (fun h1 => ?_) (fun h1 => ?_)
  · have hg := ordK_get 8 n k (by omega)
    have hk7 : k ≤ 7 := by omega
    refine wc_skip ?_; refine we_seq ?_; refine wc_seq ?_; refine wc_block ?_; refine wc_sr ?_; refine wl_mv rfl rfl ?_; refine wl_as rfl rfl ?_; refine wl_ns ?_; refine wc_region ?_; refine wl_mv rfl rfl ?_; refine wl_mv rfl rfl ?_; refine wl_mv rfl rfl ?_; refine wl_mv rfl rfl ?_; apply wl_val; apply opv_bin; exact rfl; exact rfl; exact bin_sub64 (by omega); exact rfl
    refine wl_val (opv_bin rfl rfl ((bin_mul64 (by omega)).to (show _ = Value.int .i64 ((8 * (7 - k) : Nat) : Int) from by congr 1; omega))) rfl ?_
    refine wl_val (opv_bin rfl rfl (bin_shr hn)) rfl ?_
    apply wl_val; apply opv_convR; exact rfl; exact Try.underlying121; exact Try.underlying5; exact wrap_nat rfl _; exact rfl
    refine wl_set (kk := k) tyB rfl rfl o2 rfl (by omega) (fun _ => rfl) rfl rfl fun p w3 o3 g3 _ => ?_
    have hb3 := g3.below hb2 o2 (Nat.le_refl _) hb2.size
    rw [byte_of, bvs_set, show 8 - k = (7 - k) + 1 by omega, Nat.pow_mul, fill_up (l := ordU n) (by rw [ordU, hg])] at o3
    refine wl_nil ?_; refine we_block_norm ?_; refine we_seq ?_; refine wc_region ?_; apply wl_val; apply opv_bin; exact rfl; exact rfl; exact bin_add64 (by omega); exact rfl; refine wl_mv rfl rfl ?_; refine wl_nil ?_
    refine we_loop [(0, .int .u64 (n : Int)), (3, .slice A1 8 8), (7, .int .i64 (8 : Int)), (8, .int .i64 ((k + 1 : Nat) : Int))] (8 - (k + 1)) ⟨k + 1, rfl, by omega, by rw [show 8 - (k + 1) = 7 - k by omega]; exact o3, hb3, rfl⟩ (by omega) ⟨rfl, rfl, rfl, rfl, trivial⟩
  · obtain rfl : k = 8 := by omega
    have e : (ordU n).take 8 ++ List.replicate (8 - 8) 0 = ordU n := by rw [List.take_of_length_le (by rw [ordU_length]; omega)]; simp
    rw [e] at o2
    refine wc_exit ?_; refine we_seq_exit ?_; refine we_loop_exit ?_; refine we_block_exit ?_; refine we_seq ?_; refine wc_sr ?_; refine wl_mv rfl rfl ?_; refine wl_as rfl rfl ?_; refine wl_ns ?_; refine wc_ret ?_
    exact we_ret1 rfl rfl ⟨_, rfl, A1, 8, by rw [ordU_length], by unfold OwB; rw [ordU_length]; exact o2, hb2⟩

theorem refOrdU_any (n : Nat) (hn : n < 2 ^ 64) (w : World) : CallsV Try.prog 106 #[.int .u64 n] w (RetB w (ordU n)) := by
  refine calls_in (N := _) Try.func106 rfl Try.ntmps106 rfl ?_; show WC _ _ _ _ _ _
  refine wc_sr ?_; refine wl_as rfl rfl ?_; refine wl_ns ?_; refine wc_sr ?_
  refine wl_mk (n := 8) (c := 8) tyB rfl rfl rfl rfl (by omega) (by omega) (by simp only [maxLen]; omega) rfl fun A1 w1 o1 hb1 _ => ?_
  refine wl_as rfl rfl ?_; refine wl_ns ?_; refine wc_seq ?_; refine wc_sr ?_; refine wl_as rfl rfl ?_; refine wl_ns ?_; refine wc_block ?_
  refine wc_loop (fun L wr m => ∃ k : Nat, L = [(0, .int .u64 ((n / 256 ^ (8 - k) : Nat) : Int)), (3, .slice A1 8 8), (4, .int .i64 ((k : Int) - 1))] ∧ k ≤ 8 ∧ Ow wr w.heap.size 5 A1 8 8 (bvs (List.replicate k 0 ++ (ordU n).drop k)) ∧ Below w.heap.size w wr ∧ m = k)
    [(0, .int .u64 (n : Int)), (3, .slice A1 8 8), (4, .int .i64 7)] 8 ⟨8, by simp, by omega, by rw [List.drop_of_length_le (by rw [ordU_length]; omega)]; simpa [bvs, bv] using o1, hb1, rfl⟩ ⟨rfl, rfl, rfl, trivial⟩ ?_
  rintro _ w2 m ⟨k, rfl, hk, o2, hb2, rfl⟩
  refine wc_seq ?_; refine wc_sr ?_; refine wl_mv rfl rfl ?_; refine wl_bin rfl rfl bin_geq rfl ?_; refine wl_ns ?_
  refine wc_cond rfl (fun h1 => ?_) (fun h1 => ?_)
  · obtain ⟨k, rfl⟩ : ∃ j, m = j + 1 := ⟨m - 1, by omega⟩
    have hg := ordK_get 8 n k (by omega)
    have ek : ((k + 1 : Nat) : Int) - 1 = (k : Int) := by omega
    rw [ek]
    refine wc_skip ?_; refine we_seq ?_; refine wc_seq ?_; refine wc_block ?_; refine wc_sr ?_; refine wl_mv rfl rfl ?_; refine wl_mv rfl rfl ?_; refine wl_mv rfl rfl ?_
    refine wl_val (opv_bin (b := .int .u64 (256 : Nat)) rfl rfl (bin_rem (by omega))) rfl ?_
    apply wl_val; apply opv_convR; exact rfl; exact Try.underlying121; exact Try.underlying5; exact IntWalk.u8_in _ (by omega); exact rfl
    refine wl_set (kk := k) tyB rfl rfl o2 rfl (by omega) (fun _ => rfl) rfl rfl fun p w3 o3 g3 _ => ?_
    have hb3 := g3.below hb2 o2 (Nat.le_refl _) hb2.size
    have ev : n / 256 ^ (8 - (k + 1)) % 256 = n / 256 ^ (8 - (k + 1)) % 2 ^ IntKind.u8.bits := rfl
    rw [ev, byte_of, bvs_set, show 8 - (k + 1) = 8 - 1 - k by omega, fill_down (l := ordU n) (by rw [ordU, hg])] at o3
    refine wl_ns ?_; refine wc_region ?_; refine wl_mv rfl rfl ?_
    refine wl_val (opv_bin (b := .int .u64 (256 : Nat)) rfl rfl (bin_quo (by omega) (wrap_small rfl (Nat.lt_of_le_of_lt (Nat.div_le_self _ _) (Nat.lt_of_le_of_lt (Nat.div_le_self _ _) hn))))) rfl ?_
    refine wl_as rfl rfl ?_; refine wl_nil ?_; refine we_block_norm ?_; refine we_seq ?_; refine wc_region ?_; refine wl_mv rfl rfl ?_; apply wl_val; apply opv_bin; exact rfl; exact rfl; exact bin_sub64 (by omega); exact rfl; refine wl_as rfl rfl ?_; refine wl_nil ?_
    refine we_loop [(0, .int .u64 ((n / 256 ^ (8 - k) : Nat) : Int)), (3, .slice A1 8 8), (4, .int .i64 ((k : Int) - 1))] k ⟨k, rfl, by omega, o3, hb3, rfl⟩ (by omega) ⟨?_, rfl, rfl, trivial⟩
    rw [show 8 - k = (8 - (k + 1)) + 1 by omega, Nat.pow_succ, ← Nat.div_div_eq_div_mul]; rfl
  · obtain rfl : m = 0 := by omega
    simp only [List.replicate_zero, List.drop_zero, List.nil_append] at o2
    refine wc_exit ?_; refine we_seq_exit ?_; refine we_loop_exit ?_; refine we_block_exit ?_; refine we_seq ?_; refine wc_sr ?_; refine wl_mv rfl rfl ?_; refine wl_as rfl rfl ?_; refine wl_ns ?_; refine wc_ret ?_
    exact we_ret1 rfl rfl ⟨_, rfl, A1, 8, by rw [ordU_length], by unfold OwB; rw [ordU_length]; exact o2, hb2⟩
end Go.Proofs.Ytcjiecclmepboaa


/-
  Walks over OrdI and the reading of eight bytes, of the program and of the references.
-/
namespace Go.Proofs.Ytcjiecclmepboaa
open Go.RowKit

/-- A signed number as the unsigned one that stands in its place. -/
def lift (i : Int) : Nat := (i + 9223372036854775808).toNat
theorem lift_lt {i : Int} (h : -9223372036854775808 ≤ i ∧ i ≤ 9223372036854775807) : lift i < 2 ^ 64 := by
  unfold lift; omega
theorem lift_wrap {i : Int} (h : -9223372036854775808 ≤ i ∧ i ≤ 9223372036854775807) : ∃ u : Nat, IntKind.u64.wrap i = u ∧ u < 2 ^ 64 ∧ (u + 9223372036854775808) % 18446744073709551616 = lift i := by
  unfold lift
  have e : IntKind.u64.wrap i = i % 18446744073709551616 := by simp [IntKind.wrap, IntKind.bits, IntKind.signed]
  rw [e]
  by_cases h0 : 0 ≤ i
  · exact ⟨i.toNat, by omega, by omega, by omega⟩
  · exact ⟨(i + 18446744073709551616).toNat, by omega, by omega, by omega⟩

theorem ordI_any (i : Int) (hi : -9223372036854775808 ≤ i ∧ i ≤ 9223372036854775807) (w : World) : CallsV Try.prog 84 #[.int .i64 i] w (RetB w (ordU (lift i))) := by
  obtain ⟨u, hu, hlt, hl⟩ := lift_wrap hi
  have hll := lift_lt hi
  refine calls_in (N := _) Try.func84 rfl Try.ntmps84 rfl ?_; show WC _ _ _ _ _ _
  refine wc_sr ?_; refine wl_as rfl rfl ?_; refine wl_ns ?_; refine wc_sr ?_; refine wl_mv rfl rfl ?_
  refine wl_val (opv_convR rfl Try.underlying2 Try.underlying121 hu) rfl ?_
  refine wl_val (opv_bin (b := .int .u64 (9223372036854775808 : Nat)) rfl rfl (bin_xor rfl hlt (by decide))) rfl ?_
  rw [xor_top hlt, hl]
  refine wl_call ok_codec_OrdU (ordU_any _ hll _) ⟨rfl, trivial⟩ rfl ?_
  rintro _ w2 ⟨A2, c2, rfl, o2, h2⟩
  refine wl_as rfl rfl ?_; refine wl_ns ?_; refine wc_ret ?_
  exact we_ret1 rfl rfl ⟨_, rfl, A2, c2, rfl, o2, h2⟩
theorem refOrdI_any (i : Int) (hi : -9223372036854775808 ≤ i ∧ i ≤ 9223372036854775807) (w : World) : CallsV Try.prog 86 #[.int .i64 i] w (RetB w (ordU (lift i))) := by
  obtain ⟨u, hu, hlt, hl⟩ := lift_wrap hi
  have hll := lift_lt hi
  refine calls_in (N := _) Try.func86 rfl Try.ntmps86 rfl ?_; show WC _ _ _ _ _ _
  refine wc_sr ?_; refine wl_as rfl rfl ?_; refine wl_ns ?_; refine wc_sr ?_; refine wl_mv rfl rfl ?_
  refine wl_val (opv_convR rfl Try.underlying2 Try.underlying121 hu) rfl ?_
  refine wl_val (opv_bin (b := .int .u64 (9223372036854775808 : Nat)) rfl rfl (bin_addU rfl)) rfl ?_
  rw [show (u + 9223372036854775808) % 2 ^ IntKind.u64.bits = lift i from hl]
  refine wl_call ok_caissonref01_OrdU (refOrdU_any _ hll _) ⟨rfl, trivial⟩ rfl ?_
  rintro _ w2 ⟨A2, c2, rfl, o2, h2⟩
  refine wl_as rfl rfl ?_; refine wl_ns ?_; refine wc_ret ?_
  exact we_ret1 rfl rfl ⟨_, rfl, A2, c2, rfl, o2, h2⟩

theorem or_byte {n : Nat} (x : UInt8) : n * 2 ^ 8 ||| x.toNat = n * 256 + x.toNat := by
  rw [show n * 256 = 2 ^ 8 * n by omega, Nat.two_pow_add_eq_or_of_lt x.toNat_lt]
theorem numB_lt' (l : List UInt8) (k : Nat) (h : k ≤ 7) : numB (l.take k) < 72057594037927936 := by
  refine Nat.lt_of_lt_of_le (numB_lt _) ?_
  refine Nat.le_trans (Nat.pow_le_pow_right (by decide) (show (l.take k).length ≤ 7 by simp; omega)) (by decide)

theorem getOrdU_any {A : Option Addr} {n c : Nat} {xs : List UInt8} {p : Int} {w : World} (hr : RdB w A xs) (hn : xs.length = n) (hc : xs.length ≤ c) (hl : xs.length ≤ 1125899906842624) (hp : -9223372036854775808 ≤ p ∧ p ≤ 9223372036854775807) :
    CallsV Try.prog 113 #[.slice A n c, .int .i64 p] w (RetN w (getOrdU xs p)) := by
  subst hn
  refine calls_in (N := _) Try.func113 rfl Try.ntmps113 rfl ?_; show WC _ _ _ _ _ _
  refine wc_sr ?_; refine wl_as rfl rfl ?_; refine wl_as rfl rfl ?_; refine wl_as rfl rfl ?_; refine wl_ns ?_; refine wc_seq ?_; refine wc_sr ?_; refine wl_mv rfl rfl ?_; refine wl_mv rfl rfl ?_
  refine wl_call ok_codec_inside (inside_any p w) ⟨rfl, rfl, trivial⟩ rfl ?_
  rintro _ _ ⟨rfl, rfl⟩
  apply wl_val; apply opv_notD; exact rfl; exact rfl; refine wl_ns ?_
  refine wc_cond rfl (fun h => ?_) (fun h => ?_)
  · refine wc_sr ?_; refine wl_as rfl rfl ?_; refine wl_as rfl rfl ?_; refine wl_as rfl rfl ?_; refine wl_ns ?_; refine wc_ret ?_; refine we_seq_ret ?_
    exact we_ret3 rfl rfl rfl rfl ⟨_, rfl, by rw [getOrdU_arg h]; rfl, Below.refl _ _⟩
  · have h' : 0 ≤ p ∧ p ≤ xs.length := by simpa using h
    obtain ⟨q, rfl⟩ := Int.eq_ofNat_of_zero_le h'.1
    refine wc_skip ?_; refine we_seq ?_; refine wc_seq ?_; refine wc_sr ?_; refine wl_mv rfl rfl ?_; apply wl_val; apply opv_len; exact rfl; exact tyB.sl; exact rfl; refine wl_mv rfl rfl ?_; apply wl_val; apply opv_bin; exact rfl; exact rfl; exact bin_sub64 (by omega); exact rfl; refine wl_bin rfl rfl bin_lss rfl ?_; refine wl_ns ?_
    refine wc_cond rfl (fun h8 => ?_) (fun h8 => ?_)
    · refine wc_sr ?_; refine wl_as rfl rfl ?_; refine wl_as rfl rfl ?_; refine wl_as rfl rfl ?_; refine wl_ns ?_; refine wc_ret ?_; refine we_seq_ret ?_
      exact we_ret3 rfl rfl rfl rfl ⟨_, rfl, by rw [getOrdU_end h' h8]; rfl, Below.refl _ _⟩
    · have hq : q + 8 ≤ xs.length := by omega
      refine wc_skip ?_; refine we_seq ?_; refine wc_sr ?_; refine wl_as rfl rfl ?_; refine wl_ns ?_; refine wc_seq ?_; refine wc_sr ?_; refine wl_mv rfl rfl ?_; refine wl_mv rfl rfl ?_; refine wl_mv rfl rfl ?_; apply wl_val; apply opv_bin; exact rfl; exact rfl; exact bin_add64 (by omega); exact rfl
      refine wl_sl (l := q) (h := q + 8) tyB rfl ⟨_, rfl⟩ ⟨_, by simp only [Int.natCast_add]; rfl⟩ (by omega) (by omega) rfl ?_
      have r1 := rd_cut hr (show q ≤ q + 8 by omega) hq hc
      have el : (xs.take (q + 8)).drop q = (xs.drop q).take 8 := by rw [List.drop_take]; congr 1; omega
      rw [el] at r1
      have hlen : ((xs.drop q).take 8).length = 8 := by simp; omega
      obtain ⟨ys, hys⟩ : ∃ ys, (xs.drop q).take 8 = ys := ⟨_, rfl⟩
      rw [hys] at r1 hlen
      unfold RdB at r1
      rw [hlen] at r1
      rw [show q + 8 - q = 8 by omega]
      apply wl_val; apply opv_len; exact rfl; exact tyB.sl; exact rfl; refine wl_mv rfl rfl ?_; refine wl_ns ?_; refine wc_block ?_
      refine wc_loop (fun L wr m => ∃ k : Nat, L = [(1, .int .i64 (q : Int)), (7, .int .u64 (numB (ys.take k) : Int)), (23, .slice (cutA A c q) 8 (c - q)), (24, .int .i64 (8 : Int)), (25, .int .i64 (k : Int))] ∧ k ≤ 8 ∧ w = wr ∧ m = 8 - k)
        [(1, .int .i64 (q : Int)), (7, .int .u64 (0 : Nat)), (23, .slice (cutA A c q) 8 (c - q)), (24, .int .i64 (8 : Int)), (25, .int .i64 (0 : Nat))] 8 ⟨0, rfl, by omega, rfl, rfl⟩ ⟨rfl, rfl, rfl, rfl, rfl, trivial⟩ ?_
      rintro _ _ m ⟨k, rfl, hk, rfl, rfl⟩
      refine wc_sr ?_; refine wl_bin rfl rfl bin_lss rfl ?_; refine wl_ns ?_; refine wc_seq ?_
      refine wc_cond rfl (fun h1 => ?_) (fun h1 => ?_)
      · obtain ⟨x, hx⟩ : ∃ x, ys[k]? = some x := ⟨_, List.getElem?_eq_getElem (by omega)⟩
        have hnl := numB_lt' ys k (by omega)
        refine wc_skip ?_; refine we_seq ?_; refine wc_seq ?_; refine wc_block ?_; refine wc_sr ?_; apply wl_byK (T := tyB) (hr := r1) (hb := hx); exact rfl; exact rfl; exact rfl; exact rfl; exact rfl; intro _; refine wl_as rfl rfl ?_; refine wl_ns ?_; refine wc_region ?_; refine wl_mv rfl rfl ?_
        refine wl_val ((opv_bin (b := .int .u64 (8 : Nat)) rfl rfl (bin_shl rfl)).to (congrArg (fun z : Nat => Value.int .u64 (z : Int)) (Nat.mod_eq_of_lt (show numB (ys.take k) * 2 ^ 8 < 2 ^ IntKind.u64.bits from by simp only [IntKind.bits]; omega)))) rfl ?_
        have hxl := x.toNat_lt
        refine wl_mv rfl rfl ?_; apply wl_val; apply opv_convR; exact rfl; exact Try.underlying5; exact Try.underlying121; exact IntWalk.u64_in _ (by omega); exact rfl
        refine wl_val (opv_bin rfl rfl (bin_or rfl (by simp only [IntKind.bits]; omega) (by simp only [IntKind.bits]; omega))) rfl ?_
        rw [or_byte, ← numB_step hx]
        refine wl_as rfl rfl ?_; refine wl_nil ?_; refine we_block_norm ?_; refine we_seq ?_; refine wc_region ?_; apply wl_val; apply opv_bin; exact rfl; exact rfl; exact bin_add64 (by omega); exact rfl; refine wl_mv rfl rfl ?_; refine wl_nil ?_
        refine we_loop [(1, .int .i64 (q : Int)), (7, .int .u64 (numB (ys.take (k + 1)) : Int)), (23, .slice (cutA A c q) 8 (c - q)), (24, .int .i64 (8 : Int)), (25, .int .i64 ((k + 1 : Nat) : Int))] (8 - (k + 1)) ⟨k + 1, rfl, by omega, rfl, rfl⟩ (by omega) ⟨rfl, rfl, rfl, rfl, rfl, trivial⟩
      · obtain rfl : k = 8 := by omega
        rw [List.take_of_length_le (by omega)]
        refine wc_exit ?_; refine we_seq_exit ?_; refine we_loop_exit ?_; refine we_block_exit ?_; refine we_seq ?_; refine wc_sr ?_; refine wl_mv rfl rfl ?_; refine wl_mv rfl rfl ?_; apply wl_val; apply opv_bin; exact rfl; exact rfl; exact bin_add64 (by omega); exact rfl; refine wl_as rfl rfl ?_; refine wl_as rfl rfl ?_; refine wl_as rfl rfl ?_; refine wl_ns ?_; refine wc_ret ?_
        exact we_ret3 rfl rfl rfl rfl ⟨_, rfl, by rw [getOrdU_ok hq, hys]; rfl, Below.refl _ _⟩

theorem refGetOrdU_any {A : Option Addr} {n c : Nat} {xs : List UInt8} {p : Int} {w : World} (hr : RdB w A xs) (hn : xs.length = n) (hl : xs.length ≤ 1125899906842624) (hp : -9223372036854775808 ≤ p ∧ p ≤ 9223372036854775807) :
    CallsV Try.prog 87 #[.slice A n c, .int .i64 p] w (RetN w (getOrdU xs p)) := by
  subst hn
  refine calls_in (N := _) Try.func87 rfl Try.ntmps87 rfl ?_; show WC _ _ _ _ _ _
  refine wc_sr ?_; refine wl_as rfl rfl ?_; refine wl_as rfl rfl ?_; refine wl_as rfl rfl ?_; refine wl_ns ?_; refine wc_seq ?_; refine wc_sr ?_; refine wl_mv rfl rfl ?_; refine wl_bin rfl rfl bin_lss rfl ?_; refine wl_mv rfl rfl ?_
  refine wl_cutV 7 16 (.bool (decide ((p < 0) ∨ ((xs.length : Int) < p)))) ?c17 ?_; (case c17 => (dsimp only [List.take]; by_cases hc0 : (p < 0); (focus (apply wl_skip; exact rfl; exact rfl; exact rfl; refine bTn ?_; (with_reducible assumption); exact rfl; apply wl_skip; exact rfl; exact rfl; exact rfl; refine bTn ?_; (with_reducible assumption); exact rfl; apply wl_skip; exact rfl; exact rfl; exact rfl; refine bTn ?_; (with_reducible assumption); exact rfl; apply wl_skip; exact rfl; exact rfl; exact rfl; refine bTn ?_; (with_reducible assumption); exact rfl; apply wl_val; apply opv_pickT; exact rfl; refine bT ?_; (with_reducible assumption); exact rfl; exact rfl; refine wl_nil ?_; refine we_cut _ ⟨rfl, rfl⟩ ⟨congrArg (fun b => some (Value.bool b)) ?e17_0, ?s17_0⟩; (case e17_0 => ((simp [hc0]; done))); (case s17_0 => (refine And.intro rfl ?_; refine And.intro rfl ?_; refine And.intro rfl ?_; refine And.intro rfl ?_; refine And.intro rfl ?_; refine And.intro rfl ?_; refine And.intro rfl ?_; refine And.intro rfl ?_; exact True.intro)))); (focus (apply wl_take; exact rfl; exact rfl; exact rfl; refine bF ?_; (with_reducible assumption); refine wl_mv rfl rfl ?_; apply wl_take; exact rfl; exact rfl; exact rfl; refine bF ?_; (with_reducible assumption); refine wl_mv rfl rfl ?_; apply wl_take; exact rfl; exact rfl; exact rfl; refine bF ?_; (with_reducible assumption); apply wl_val; apply opv_len; exact rfl; exact tyB.sl; exact rfl; apply wl_take; exact rfl; exact rfl; exact rfl; refine bF ?_; (with_reducible assumption); refine wl_bin rfl rfl bin_gtr rfl ?_; apply wl_val; apply opv_pickF; exact rfl; refine bF ?_; (with_reducible assumption); exact rfl; exact rfl; refine wl_nil ?_; refine we_cut _ ⟨rfl, rfl⟩ ⟨congrArg (fun b => some (Value.bool b)) ?e17_1, ?s17_1⟩; (case e17_1 => ((simp [hc0]; done))); (case s17_1 => (refine And.intro rfl ?_; refine And.intro rfl ?_; refine And.intro rfl ?_; refine And.intro rfl ?_; refine And.intro rfl ?_; refine And.intro rfl ?_; refine And.intro rfl ?_; refine And.intro rfl ?_; exact True.intro)))))); dsimp only [List.drop]
  refine wl_ns ?_
  refine wc_cond rfl (fun h => ?_) (fun h => ?_)
  · refine wc_sr ?_; refine wl_as rfl rfl ?_; refine wl_as rfl rfl ?_; refine wl_as rfl rfl ?_; refine wl_ns ?_; refine wc_ret ?_; refine we_seq_ret ?_
    exact we_ret3 rfl rfl rfl rfl ⟨_, rfl, by rw [getOrdU_arg (by omega)]; rfl, Below.refl _ _⟩
  · have h' : 0 ≤ p ∧ p ≤ xs.length := by omega
    obtain ⟨q, rfl⟩ := Int.eq_ofNat_of_zero_le h'.1
    refine wc_skip ?_; refine we_seq ?_; refine wc_seq ?_; refine wc_sr ?_; refine wl_mv rfl rfl ?_; apply wl_val; apply opv_len; exact rfl; exact tyB.sl; exact rfl; refine wl_mv rfl rfl ?_; apply wl_val; apply opv_bin; exact rfl; exact rfl; exact bin_sub64 (by omega); exact rfl; refine wl_bin rfl rfl bin_lss rfl ?_; refine wl_ns ?_
    refine wc_cond rfl (fun h8 => ?_) (fun h8 => ?_)
    · refine wc_sr ?_; refine wl_as rfl rfl ?_; refine wl_as rfl rfl ?_; refine wl_as rfl rfl ?_; refine wl_ns ?_; refine wc_ret ?_; refine we_seq_ret ?_
      exact we_ret3 rfl rfl rfl rfl ⟨_, rfl, by rw [getOrdU_end h' h8]; rfl, Below.refl _ _⟩
    · have hq : q + 8 ≤ xs.length := by omega
      have hlen : ((xs.drop q).take 8).length = 8 := by simp; omega
      obtain ⟨ys, hys⟩ : ∃ ys, (xs.drop q).take 8 = ys := ⟨_, rfl⟩
      rw [hys] at hlen
      refine wc_skip ?_; refine we_seq ?_; refine wc_sr ?_; refine wl_as rfl rfl ?_; refine wl_ns ?_; refine wc_seq ?_; refine wc_sr ?_; refine wl_as rfl rfl ?_; refine wl_ns ?_; refine wc_block ?_
      refine wc_loop (fun L wr m => ∃ k : Nat, L = [(0, .slice A xs.length c), (1, .int .i64 (q : Int)), (7, .int .u64 (numB (ys.take k) : Int)), (8, .int .i64 (k : Int))] ∧ k ≤ 8 ∧ w = wr ∧ m = 8 - k)
        [(0, .slice A xs.length c), (1, .int .i64 (q : Int)), (7, .int .u64 (0 : Nat)), (8, .int .i64 (0 : Nat))] 8 ⟨0, rfl, by omega, rfl, rfl⟩ ⟨rfl, rfl, rfl, rfl, trivial⟩ ?_
      rintro _ _ m ⟨k, rfl, hk, rfl, rfl⟩
      refine wc_seq ?_; refine wc_sr ?_; refine wl_mv rfl rfl ?_; refine wl_bin rfl rfl bin_lss rfl ?_; refine wl_ns ?_
      refine wc_cond rfl (fun h1 => ?_) (fun h1 => ?_)
      · obtain ⟨x, hx⟩ : ∃ x, ys[k]? = some x := ⟨_, List.getElem?_eq_getElem (by omega)⟩
        have hx2 : xs[q + k]? = some x := by
          rw [← hys, List.getElem?_take, if_pos (by omega), List.getElem?_drop] at hx; exact hx
        have hnl := numB_lt' ys k (by omega)
        have hxl := x.toNat_lt
        refine wc_skip ?_; refine we_seq ?_; refine wc_seq ?_; refine wc_block ?_; refine wc_region ?_; refine wl_mv rfl rfl ?_
        refine wl_val (opv_bin (b := .int .u64 (256 : Nat)) rfl rfl (bin_mulU' rfl (by simp only [IntKind.bits]; omega))) rfl ?_
        refine wl_mv rfl rfl ?_; refine wl_mv rfl rfl ?_; refine wl_mv rfl rfl ?_; apply wl_val; apply opv_bin; exact rfl; exact rfl; exact bin_add64 (by omega); exact rfl; apply wl_byK (T := tyB) (hr := hr) (hb := hx2); exact rfl; exact rfl; exact rfl; exact rfl; exact rfl; intro _; apply wl_val; apply opv_convR; exact rfl; exact Try.underlying5; exact Try.underlying121; exact IntWalk.u64_in _ (by omega); exact rfl
        refine wl_val (opv_bin rfl rfl (bin_addU' rfl (by simp only [IntKind.bits]; omega))) rfl ?_
        rw [← numB_step hx]
        refine wl_as rfl rfl ?_; refine wl_nil ?_; refine we_block_norm ?_; refine we_seq ?_; refine wc_region ?_; refine wl_mv rfl rfl ?_; apply wl_val; apply opv_bin; exact rfl; exact rfl; exact bin_add64 (by omega); exact rfl; refine wl_as rfl rfl ?_; refine wl_nil ?_
        refine we_loop [(0, .slice A xs.length c), (1, .int .i64 (q : Int)), (7, .int .u64 (numB (ys.take (k + 1)) : Int)), (8, .int .i64 ((k + 1 : Nat) : Int))] (8 - (k + 1)) ⟨k + 1, rfl, by omega, rfl, rfl⟩ (by omega) ⟨rfl, rfl, rfl, rfl, trivial⟩
      · obtain rfl : k = 8 := by omega
        rw [List.take_of_length_le (by omega)]
        refine wc_exit ?_; refine we_seq_exit ?_; refine we_loop_exit ?_; refine we_block_exit ?_; refine we_seq ?_; refine wc_sr ?_; refine wl_mv rfl rfl ?_; refine wl_mv rfl rfl ?_; apply wl_val; apply opv_bin; exact rfl; exact rfl; exact bin_add64 (by omega); exact rfl; refine wl_as rfl rfl ?_; refine wl_as rfl rfl ?_; refine wl_as rfl rfl ?_; refine wl_ns ?_; refine wc_ret ?_
        exact we_ret3 rfl rfl rfl rfl ⟨_, rfl, by rw [getOrdU_ok hq, hys]; rfl, Below.refl _ _⟩

/-- What GetOrdI answers. -/
def RetI (w : World) (r : Nat × Int × Nat) (v : Value) (w' : World) : Prop :=
  v = .tuple #[.int .i64 (if r.2.2 = 0 then (r.1 : Int) - 9223372036854775808 else 0), .int .i64 r.2.1, .int .i64 (r.2.2 : Int)] ∧ Below w.heap.size w w'
theorem getOrdI_any {A : Option Addr} {n c : Nat} {xs : List UInt8} {p : Int} {w : World} (hr : RdB w A xs) (hn : xs.length = n) (hc : xs.length ≤ c) (hl : xs.length ≤ 1125899906842624) (hp : -9223372036854775808 ≤ p ∧ p ≤ 9223372036854775807) :
    CallsV Try.prog 104 #[.slice A n c, .int .i64 p] w (RetI w (getOrdU xs p)) := by
  refine calls_in (N := _) Try.func104 rfl Try.ntmps104 rfl ?_; show WC _ _ _ _ _ _
  refine wc_sr ?_; refine wl_as rfl rfl ?_; refine wl_as rfl rfl ?_; refine wl_as rfl rfl ?_; refine wl_ns ?_; refine wc_sr ?_; refine wl_mv rfl rfl ?_; refine wl_mv rfl rfl ?_
  refine wl_call ok_codec_GetOrdU (getOrdU_any hr hn hc hl hp) ⟨rfl, rfl, trivial⟩ rfl ?_
  rintro _ w2 ⟨rfl, hb⟩
  rcases getOrdU_cases xs p with ⟨e, he, hv⟩ | ⟨q, rfl, hq, hv⟩
  · rw [hv]
    refine wl_mv rfl rfl ?_; apply wl_val; apply opv_extract; exact rfl; exact rfl; exact rfl; apply wl_val; apply opv_extract; exact rfl; exact rfl; exact rfl; apply wl_val; apply opv_extract; exact rfl; exact rfl; exact rfl; refine wl_as rfl rfl ?_; refine wl_as rfl rfl ?_; refine wl_as rfl rfl ?_; refine wl_ns ?_; refine wc_seq ?_; refine wc_sr ?_; refine wl_mv rfl rfl ?_; refine wl_bin rfl rfl bin_neq rfl ?_; refine wl_ns ?_
    refine wc_cond rfl (fun _ => ?_) (fun h => absurd (fun h' => he (by exact_mod_cast h')) h)
    refine wc_sr ?_; refine wl_mv rfl rfl ?_; refine wl_as rfl rfl ?_; refine wl_as rfl rfl ?_; refine wl_as rfl rfl ?_; refine wl_ns ?_; refine wc_ret ?_; refine we_seq_ret ?_
    exact we_ret3 rfl rfl rfl rfl ⟨_, rfl, by simp only [if_neg he], hb⟩
  · rw [hv]
    have hlt : numB ((xs.drop q).take 8) < 2 ^ 64 := by
      refine Nat.lt_of_lt_of_le (numB_lt _) ?_
      refine Nat.le_trans (Nat.pow_le_pow_right (by decide) (show ((xs.drop q).take 8).length ≤ 8 by simp; omega)) (by decide)
    obtain ⟨v, hvv⟩ : ∃ v, numB ((xs.drop q).take 8) = v := ⟨_, rfl⟩
    rw [hvv] at hlt ⊢
    refine wl_mv rfl rfl ?_; apply wl_val; apply opv_extract; exact rfl; exact rfl; exact rfl; apply wl_val; apply opv_extract; exact rfl; exact rfl; exact rfl; apply wl_val; apply opv_extract; exact rfl; exact rfl; exact rfl; refine wl_as rfl rfl ?_; refine wl_as rfl rfl ?_; refine wl_as rfl rfl ?_; refine wl_ns ?_; refine wc_seq ?_; refine wc_sr ?_; refine wl_mv rfl rfl ?_; refine wl_bin rfl rfl bin_neq rfl ?_; refine wl_ns ?_
    refine wc_cond rfl (fun h => absurd rfl h) (fun _ => ?_)
    refine wc_skip ?_; refine we_seq ?_; refine wc_sr ?_; refine wl_mv rfl rfl ?_
    refine wl_val (opv_bin (b := .int .u64 (9223372036854775808 : Nat)) rfl rfl (bin_xor rfl hlt (by decide))) rfl ?_
    rw [xor_top hlt]
    refine wl_val (opv_convR rfl Try.underlying121 Try.underlying2 (r := (v : Int) - 9223372036854775808) ?_) rfl ?_
    · rw [IntKind.wrap_i64]; omega
    refine wl_mv rfl rfl ?_; refine wl_mv rfl rfl ?_; refine wl_as rfl rfl ?_; refine wl_as rfl rfl ?_; refine wl_as rfl rfl ?_; refine wl_ns ?_; refine wc_ret ?_
    exact we_ret3 rfl rfl rfl rfl ⟨_, rfl, rfl, hb⟩
end Go.Proofs.Ytcjiecclmepboaa


/-
  Walks over OrdText of the program and of the reference.
-/
namespace Go.Proofs.Ytcjiecclmepboaa
open Go.RowKit

theorem ordText_any {A : Option Addr} {n c : Nat} {xs : List UInt8} {w : World} (hr : RdB w A xs) (hn : xs.length = n) (hl : xs.length ≤ 1099511627776) : CallsV Try.prog 69 #[.slice A n c] w (RetB w (ordText xs)) := by
  subst hn
  refine calls_in (N := _) Try.func69 rfl Try.ntmps69 rfl ?_; show WC _ _ _ _ _ _
  refine wc_sr ?_; refine wl_as rfl rfl ?_; refine wl_ns ?_; refine wc_sr ?_; refine wl_mv rfl rfl ?_; apply wl_val; apply opv_len; exact rfl; exact tyB.sl; exact rfl; apply wl_val; apply opv_bin; exact rfl; exact rfl; exact bin_add64 (by omega); exact rfl
  refine wl_mk (n := 0) (c := xs.length + 2) tyB rfl rfl rfl (by simp) (by omega) (by omega) (by simp only [maxLen]; omega) rfl fun A1 w1 ho1 hb1 _ => ?_
  refine wl_as rfl rfl ?_; refine wl_ns ?_; refine wc_seq ?_; refine wc_sr ?_; refine wl_mv rfl rfl ?_; apply wl_val; apply opv_len; exact rfl; exact tyB.sl; exact rfl; refine wl_mv rfl rfl ?_; refine wl_ns ?_; refine wc_block ?_
  refine wc_loop (fun L wr m => ∃ (k : Nat) (A' : Option Addr) (c' : Nat), L = [(10, .slice A xs.length c), (11, .int .i64 (xs.length : Int)), (12, .int .i64 (k : Int)), (3, .slice A' (esc (xs.take k)).length c')] ∧ k ≤ xs.length ∧ OwB wr w.heap.size A' c' (esc (xs.take k)) ∧ Below w.heap.size w wr ∧ m = xs.length - k)
    [(10, .slice A xs.length c), (11, .int .i64 (xs.length : Int)), (12, .int .i64 (0 : Nat)), (3, .slice A1 0 (xs.length + 2))] xs.length ⟨0, A1, _, rfl, by omega, ho1, hb1, rfl⟩ ⟨rfl, rfl, rfl, rfl, trivial⟩ ?_
  rintro _ wr m ⟨k, A', c', rfl, hk, ho, hb, rfl⟩
  have hsz := hb.size
  have hrx := RdB.below hr hb
  have hel := esc_length (xs.take k)
  rw [List.length_take] at hel
  refine wc_sr ?_; refine wl_bin rfl rfl bin_lss rfl ?_; refine wl_ns ?_; refine wc_seq ?_
  refine wc_cond rfl (fun h1 => ?_) (fun h1 => ?_)
  · obtain ⟨x, hx⟩ : ∃ x, xs[k]? = some x := ⟨_, List.getElem?_eq_getElem (by omega)⟩
    have ht := esc_take hx
    refine wc_skip ?_; refine we_seq ?_; refine wc_seq ?_; refine wc_block ?_; refine wc_sr ?_; apply wl_byK (T := tyB) (hr := hrx) (hb := hx); exact rfl; exact rfl; exact rfl; exact rfl; exact rfl; intro _; refine wl_as rfl rfl ?_; refine wl_ns ?_; refine wc_sr ?_; refine wl_mv rfl rfl ?_; refine wl_mv rfl rfl ?_
    refine wl_push (vs := [_]) tyB rfl ho ⟨rfl, rfl, rfl, trivial⟩ rfl (by decide) rfl (by omega) (by simp only [maxLen]; omega) hsz rfl rfl fun p2 A2 c2 w2 ho2 hg2 hat2 => ?_
    have hb2 := hg2.below hb ho (Nat.le_refl _) hsz
    have hsz2 := hb2.size
    refine wl_as rfl rfl ?_; refine wl_ns ?_; refine wc_sr ?_; refine wl_mv rfl rfl ?_; refine wl_bin rfl rfl bin_eql rfl ?_; refine wl_ns ?_
    refine wc_cond rfl (fun h2 => ?_) (fun h2 => ?_)
    · have h0 := toNat_zero.1 h2
      rw [if_pos h0] at ht
      refine wc_region ?_; refine wl_mv rfl rfl ?_
      refine wl_push (vs := [_]) tyB rfl ho2 ⟨rfl, rfl, rfl, trivial⟩ rfl (by decide) rfl (by omega) (by simp only [maxLen]; omega) hsz2 rfl rfl fun p3 A3 c3 w3 ho3 hg3 hat3 => ?_
      have hb3 := hg3.below hb2 ho2 (Nat.le_refl _) hsz2
      refine wl_as rfl rfl ?_; refine wl_nil ?_; refine we_block_norm ?_; refine we_seq ?_; refine wc_region ?_; apply wl_val; apply opv_bin; exact rfl; exact rfl; exact bin_add64 (by omega); exact rfl; refine wl_mv rfl rfl ?_; refine wl_nil ?_
      refine we_loop [(10, .slice A xs.length c), (11, .int .i64 (xs.length : Int)), (12, .int .i64 ((k + 1 : Nat) : Int)), (3, .slice A3 (esc (xs.take (k + 1))).length c3)] (xs.length - (k + 1)) ⟨k + 1, A3, c3, rfl, by omega, ?_, hb3, rfl⟩ (by omega) ⟨rfl, rfl, rfl, ?_, trivial⟩
      · rw [ht, show esc (xs.take k) ++ [0, 255] = (esc (xs.take k) ++ [0]) ++ [255] by simp]
        have h4 : Ow w2 w.heap.size 5 A2 (esc (xs.take k) ++ [0]).length c2 (bvs (esc (xs.take k) ++ [0])) := OwB.snoc ho2 (by rw [h0]; rfl)
        refine OwB.snoc (v := .int .u8 255) ?_ rfl
        rw [bvs_append, List.length_append]
        rw [h0] at ho3
        simpa [bvs, bv] using ho3
      · rw [ht]; simp; rfl
    · have h0 : ¬ x = 0 := fun e => h2 (toNat_zero.2 e)
      rw [if_neg h0] at ht
      refine wc_skip ?_; refine we_block_norm ?_; refine we_seq ?_; refine wc_region ?_; apply wl_val; apply opv_bin; exact rfl; exact rfl; exact bin_add64 (by omega); exact rfl; refine wl_mv rfl rfl ?_; refine wl_nil ?_
      refine we_loop [(10, .slice A xs.length c), (11, .int .i64 (xs.length : Int)), (12, .int .i64 ((k + 1 : Nat) : Int)), (3, .slice A2 (esc (xs.take (k + 1))).length c2)] (xs.length - (k + 1)) ⟨k + 1, A2, c2, rfl, by omega, ?_, hb2, rfl⟩ (by omega) ⟨rfl, rfl, rfl, ?_, trivial⟩
      · rw [ht]; exact OwB.snoc ho2 rfl
      · rw [ht]; simp; rfl
  · have hke : k = xs.length := by omega
    subst hke
    rw [List.take_length] at ho hel ⊢
    rw [Nat.min_self] at hel
    refine wc_exit ?_; refine we_seq_exit ?_; refine we_loop_exit ?_; refine we_block_exit ?_; refine we_seq ?_; refine wc_sr ?_; refine wl_mv rfl rfl ?_
    refine wl_push (vs := [_, _]) tyB rfl ho ⟨rfl, rfl, rfl, rfl, rfl, rfl, trivial⟩ rfl (by decide) rfl (by omega) (by simp only [maxLen]; omega) hsz rfl rfl fun p2 A2 c2 w2 ho2 hg2 hat2 => ?_
    refine wl_as rfl rfl ?_; refine wl_ns ?_; refine wc_ret ?_
    refine we_ret1 rfl rfl ⟨_, rfl, A2, c2, ?_, OwB.snoc2 ho2 rfl rfl, hg2.below hb ho (Nat.le_refl _) hsz⟩
    simp [ordText]

theorem refOrdText_any {A : Option Addr} {n c : Nat} {xs : List UInt8} {w : World} (hr : RdB w A xs) (hn : xs.length = n) (hl : xs.length ≤ 1099511627776) : CallsV Try.prog 71 #[.slice A n c] w (RetB w (ordText xs)) := by
  subst hn
  refine calls_in (N := _) Try.func71 rfl Try.ntmps71 rfl ?_; show WC _ _ _ _ _ _
  refine wc_sr ?_; refine wl_as rfl rfl ?_; refine wl_ns ?_; refine wc_sr ?_; refine wl_as rfl rfl ?_; refine wl_ns ?_; refine wc_seq ?_; refine wc_sr ?_; refine wl_as rfl rfl ?_; refine wl_ns ?_; refine wc_block ?_
  refine wc_loop (fun L wr m => ∃ (k : Nat) (A' : Option Addr) (c' : Nat), L = [(0, .slice A xs.length c), (4, .int .i64 (k : Int)), (3, .slice A' (esc (xs.take k)).length c')] ∧ k ≤ xs.length ∧ OwB wr w.heap.size A' c' (esc (xs.take k)) ∧ Below w.heap.size w wr ∧ m = xs.length - k)
    [(0, .slice A xs.length c), (4, .int .i64 (0 : Nat)), (3, .slice none 0 0)] xs.length ⟨0, none, 0, rfl, by omega, Ow.nil _ _ _, Below.refl _ _, rfl⟩ ⟨rfl, rfl, rfl, trivial⟩ ?_
  rintro _ wr m ⟨k, A', c', rfl, hk, ho, hb, rfl⟩
  have hsz := hb.size
  have hrx := RdB.below hr hb
  have hel := esc_length (xs.take k)
  rw [List.length_take] at hel
  refine wc_seq ?_; refine wc_sr ?_; refine wl_mv rfl rfl ?_; refine wl_mv rfl rfl ?_; apply wl_val; apply opv_len; exact rfl; exact tyB.sl; exact rfl; refine wl_bin rfl rfl bin_lss rfl ?_; refine wl_ns ?_
  refine wc_cond rfl (fun h1 => ?_) (fun h1 => ?_)
  · obtain ⟨x, hx⟩ : ∃ x, xs[k]? = some x := ⟨_, List.getElem?_eq_getElem (by omega)⟩
    have ht := esc_take hx
    refine wc_skip ?_; refine we_seq ?_; refine wc_seq ?_; refine wc_block ?_; refine wc_sr ?_; refine wl_mv rfl rfl ?_; refine wl_mv rfl rfl ?_; apply wl_byK (T := tyB) (hr := hrx) (hb := hx); exact rfl; exact rfl; exact rfl; exact rfl; exact rfl; intro _; refine wl_bin rfl rfl bin_eql rfl ?_; refine wl_ns ?_
    refine wc_cond rfl (fun h2 => ?_) (fun h2 => ?_)
    · have h0 := toNat_zero.1 h2
      rw [if_pos h0] at ht
      refine wc_region ?_; refine wl_mv rfl rfl ?_
      refine wl_push (vs := [_, _]) tyB rfl ho ⟨rfl, rfl, rfl, rfl, rfl, rfl, trivial⟩ rfl (by decide) rfl (by omega) (by simp only [maxLen]; omega) hsz rfl rfl fun p2 A2 c2 w2 ho2 hg2 hat2 => ?_
      refine wl_as rfl rfl ?_; refine wl_nil ?_; refine we_block_norm ?_; refine we_seq ?_; refine wc_region ?_; refine wl_mv rfl rfl ?_; apply wl_val; apply opv_bin; exact rfl; exact rfl; exact bin_add64 (by omega); exact rfl; refine wl_as rfl rfl ?_; refine wl_nil ?_
      refine we_loop [(0, .slice A xs.length c), (4, .int .i64 ((k + 1 : Nat) : Int)), (3, .slice A2 (esc (xs.take (k + 1))).length c2)] (xs.length - (k + 1)) ⟨k + 1, A2, c2, rfl, by omega, ?_, hg2.below hb ho (Nat.le_refl _) hsz, rfl⟩ (by omega) ⟨rfl, rfl, ?_, trivial⟩
      · rw [ht]; exact OwB.snoc2 ho2 rfl rfl
      · rw [ht]; simp; rfl
    · have h0 : ¬ x = 0 := fun e => h2 (toNat_zero.2 e)
      rw [if_neg h0] at ht
      refine wc_region ?_; refine wl_mv rfl rfl ?_; refine wl_mv rfl rfl ?_; refine wl_mv rfl rfl ?_; apply wl_byK (T := tyB) (hr := hrx) (hb := hx); exact rfl; exact rfl; exact rfl; exact rfl; exact rfl; intro _
      refine wl_push (vs := [_]) tyB rfl ho ⟨rfl, rfl, rfl, trivial⟩ rfl (by decide) rfl (by omega) (by simp only [maxLen]; omega) hsz rfl rfl fun p2 A2 c2 w2 ho2 hg2 hat2 => ?_
      refine wl_as rfl rfl ?_; refine wl_nil ?_; refine we_block_norm ?_; refine we_seq ?_; refine wc_region ?_; refine wl_mv rfl rfl ?_; apply wl_val; apply opv_bin; exact rfl; exact rfl; exact bin_add64 (by omega); exact rfl; refine wl_as rfl rfl ?_; refine wl_nil ?_
      refine we_loop [(0, .slice A xs.length c), (4, .int .i64 ((k + 1 : Nat) : Int)), (3, .slice A2 (esc (xs.take (k + 1))).length c2)] (xs.length - (k + 1)) ⟨k + 1, A2, c2, rfl, by omega, ?_, hg2.below hb ho (Nat.le_refl _) hsz, rfl⟩ (by omega) ⟨rfl, rfl, ?_, trivial⟩
      · rw [ht]; exact OwB.snoc ho2 rfl
      · rw [ht]; simp; rfl
  · have hke : k = xs.length := by omega
    subst hke
    rw [List.take_length] at ho hel ⊢
    rw [Nat.min_self] at hel
    refine wc_exit ?_; refine we_seq_exit ?_; refine we_loop_exit ?_; refine we_block_exit ?_; refine we_seq ?_; refine wc_sr ?_; refine wl_mv rfl rfl ?_
    refine wl_push (vs := [_, _]) tyB rfl ho ⟨rfl, rfl, rfl, rfl, rfl, rfl, trivial⟩ rfl (by decide) rfl (by omega) (by simp only [maxLen]; omega) hsz rfl rfl fun p2 A2 c2 w2 ho2 hg2 hat2 => ?_
    refine wl_as rfl rfl ?_; refine wl_ns ?_; refine wc_ret ?_
    refine we_ret1 rfl rfl ⟨_, rfl, A2, c2, ?_, OwB.snoc2 ho2 rfl rfl, hg2.below hb ho (Nat.le_refl _) hsz⟩
    simp [ordText]
end Go.Proofs.Ytcjiecclmepboaa


/-
  Walks over GetOrdText of the program and of the reference.
-/
namespace Go.Proofs.Ytcjiecclmepboaa
open Go.RowKit

/-- New bytes, a place and an error are handed back. -/
def RetG (w : World) (r : List UInt8 × Int × Nat) (v : Value) (w' : World) : Prop :=
  ∃ A c, v = .tuple #[.slice A r.1.length c, .int .i64 r.2.1, .int .i64 (r.2.2 : Int)] ∧ OwB w' w.heap.size A c r.1 ∧ Below w.heap.size w w'
theorem RetG.err {w w' : World} {r : List UInt8 × Int × Nat} {e : Nat} (h : r = ([], 0, e)) (hb : Below w.heap.size w w') : RetG w r (.tuple #[.slice none 0 0, .int .i64 0, .int .i64 (e : Int)]) w' := by
  subst h; exact ⟨none, 0, rfl, Ow.nil _ _ _, hb⟩

def GotI (w : World) (xs : List UInt8) (A : Option Addr) (c q : Nat) : FL → World → Nat → Prop := fun L wr m =>
  ∃ (n : Nat) (acc : List UInt8) (A' : Option Addr) (c' : Nat), L = [(0, .slice A xs.length c), (7, .slice A' acc.length c'), (8, .int .i64 ((q + n : Nat) : Int))] ∧ q + n ≤ xs.length ∧ acc.length ≤ n ∧
    gotAux [] 0 (xs.drop q) = gotAux acc n (xs.drop (q + n)) ∧ OwB wr w.heap.size A' c' acc ∧ Below w.heap.size w wr ∧ m = xs.length - (q + n)

theorem getOrd_any {A : Option Addr} {n c : Nat} {xs : List UInt8} {p : Int} {w : World} (hr : RdB w A xs) (hn : xs.length = n) (hl : xs.length ≤ 1099511627776) :
    CallsV Try.prog 70 #[.slice A n c, .int .i64 p] w (RetG w (getOrd xs p)) := by
  subst hn
  refine calls_in (N := _) Try.func70 rfl Try.ntmps70 rfl ?_; show WC _ _ _ _ _ _
  refine wc_sr ?_; refine wl_as rfl rfl ?_; refine wl_as rfl rfl ?_; refine wl_as rfl rfl ?_; refine wl_ns ?_; refine wc_seq ?_; refine wc_sr ?_; refine wl_mv rfl rfl ?_; refine wl_mv rfl rfl ?_
  refine wl_call ok_codec_inside (inside_any p w) ⟨rfl, rfl, trivial⟩ rfl ?_
  rintro _ _ ⟨rfl, rfl⟩
  apply wl_val; apply opv_notD; exact rfl; exact rfl; refine wl_ns ?_
  refine wc_cond rfl (fun h => ?_) (fun h => ?_)
  · refine wc_sr ?_; refine wl_as rfl rfl ?_; refine wl_as rfl rfl ?_; refine wl_as rfl rfl ?_; refine wl_ns ?_; refine wc_ret ?_; refine we_seq_ret ?_
    exact we_ret3 rfl rfl rfl rfl ⟨_, rfl, RetG.err (getOrd_arg h) (Below.refl _ _)⟩
  · have h' : 0 ≤ p ∧ p ≤ xs.length := by simpa using h
    obtain ⟨q, rfl⟩ := Int.eq_ofNat_of_zero_le h'.1
    have hq : q ≤ xs.length := by omega
    refine wc_skip ?_; refine we_seq ?_; refine wc_sr ?_; refine wl_as rfl rfl ?_; refine wl_ns ?_; refine wc_seq ?_; refine wc_sr ?_; refine wl_mv rfl rfl ?_; refine wl_as rfl rfl ?_; refine wl_ns ?_; refine wc_block ?_
    refine wc_loop (GotI w xs A c q) [(0, .slice A xs.length c), (7, .slice none 0 0), (8, .int .i64 (q : Int))] (xs.length - q) ⟨0, [], none, 0, rfl, hq, by simp, rfl, Ow.nil _ _ _, Below.refl _ _, rfl⟩ ⟨rfl, rfl, rfl, trivial⟩ ?_
    rintro _ wr m ⟨n, acc, A', c', rfl, hqn, hal, heq, ho, hb, rfl⟩
    have hsz := hb.size
    have hrx := RdB.below hr hb
    refine wc_seq ?_; refine wc_sr ?_; refine wl_mv rfl rfl ?_; refine wl_mv rfl rfl ?_; apply wl_val; apply opv_len; exact rfl; exact tyB.sl; exact rfl; refine wl_bin rfl rfl bin_lss rfl ?_; refine wl_ns ?_
    refine wc_cond rfl (fun h1 => ?_) (fun h1 => ?_)
    · obtain ⟨x, hx⟩ : ∃ x, xs[q + n]? = some x := ⟨_, List.getElem?_eq_getElem (by omega)⟩
      have hd := drop_get hx
      refine wc_skip ?_; refine we_seq ?_; refine wc_seq ?_; refine wc_block ?_; refine wc_seq ?_; refine wc_sr ?_; refine wl_mv rfl rfl ?_; refine wl_mv rfl rfl ?_; apply wl_byK (T := tyB) (hr := hrx) (hb := hx); exact rfl; exact rfl; exact rfl; exact rfl; exact rfl; intro _; refine wl_bin rfl rfl bin_neq rfl ?_; refine wl_ns ?_
      refine wc_cond rfl (fun h2 => ?_) (fun h2 => ?_)
      · have h0 : ¬ x = 0 := fun e => h2 (toNat_zero.2 e)
        refine wc_sr ?_; refine wl_mv rfl rfl ?_; refine wl_mv rfl rfl ?_; refine wl_mv rfl rfl ?_; apply wl_byK (T := tyB) (hr := hrx) (hb := hx); exact rfl; exact rfl; exact rfl; exact rfl; exact rfl; intro _
        refine wl_push (vs := [_]) tyB rfl ho ⟨rfl, rfl, rfl, trivial⟩ rfl (by decide) rfl (by omega) (by simp only [maxLen]; omega) hsz rfl rfl fun p2 A2 c2 w2 ho2 hg2 hat2 => ?_
        refine wl_as rfl rfl ?_; refine wl_ns ?_; refine wc_exit ?_; refine we_seq_exit ?_; refine we_block_exit ?_; refine we_seq ?_; refine wc_region ?_; refine wl_mv rfl rfl ?_; apply wl_val; apply opv_bin; exact rfl; exact rfl; exact bin_add64 (by omega); exact rfl; refine wl_as rfl rfl ?_; refine wl_nil ?_
        refine we_loop [(0, .slice A xs.length c), (7, .slice A2 (acc ++ [x]).length c2), (8, .int .i64 ((q + (n + 1) : Nat) : Int))] (xs.length - (q + (n + 1))) ⟨n + 1, acc ++ [x], A2, c2, rfl, by omega, by simp; omega, ?_, OwB.snoc ho2 rfl, hg2.below hb ho (Nat.le_refl _) hsz, rfl⟩ (by omega) ⟨rfl, ?_, ?_, trivial⟩
        · rw [heq, hd, got_plain h0]; rfl
        · simp; rfl
        · rw [show ((q + (n + 1) : Nat) : Int) = ((q + n : Nat) : Int) + 1 by omega]; rfl
      · obtain rfl : x = 0 := toNat_zero.1 (by omega)
        refine wc_skip ?_; refine we_seq ?_; refine wc_sr ?_; refine wl_mv rfl rfl ?_; apply wl_val; apply opv_bin; exact rfl; exact rfl; exact bin_add64 (by omega); exact rfl; refine wl_as rfl rfl ?_; refine wl_ns ?_; refine wc_seq ?_; refine wc_block ?_; refine wc_sr ?_; refine wl_mv rfl rfl ?_; refine wl_mv rfl rfl ?_; apply wl_val; apply opv_len; exact rfl; exact tyB.sl; exact rfl; refine wl_bin rfl rfl bin_eql rfl ?_; refine wl_as rfl rfl ?_; refine wl_ns ?_
        refine wc_cond rfl (fun h3 => ?_) (fun h3 => ?_)
        · have hlast : xs.drop (q + n + 1) = [] := List.drop_of_length_le (by omega)
          refine wc_sr ?_; refine wl_as rfl rfl ?_; refine wl_as rfl rfl ?_; refine wl_as rfl rfl ?_; refine wl_ns ?_; refine wc_ret ?_; refine we_block_ret ?_; refine we_seq_ret ?_; refine we_block_ret ?_; refine we_seq_ret ?_; refine we_loop_ret ?_; refine we_block_ret ?_; refine we_seq_ret ?_
          exact we_ret3 rfl rfl rfl rfl ⟨_, rfl, RetG.err (getOrd_bad hq (heq.trans (by rw [hd, hlast, got_end]))) hb⟩
        · obtain ⟨y, hy⟩ : ∃ y, xs[q + n + 1]? = some y := ⟨_, List.getElem?_eq_getElem (by omega)⟩
          have hd2 := drop_get hy
          refine wc_sr ?_; refine wl_mv rfl rfl ?_; refine wl_mv rfl rfl ?_; apply wl_byK (T := tyB) (hr := hrx) (hb := hy); exact rfl; exact rfl; exact rfl; exact rfl; exact rfl; intro _; refine wl_bin rfl rfl bin_eql rfl ?_; refine wl_as rfl rfl ?_; refine wl_ns ?_
          refine wc_cond rfl (fun h4 => ?_) (fun h4 => ?_)
          · obtain rfl : y = 1 := UInt8.toNat_inj.1 (by simp; omega)
            have e := getOrd_ok hq (heq.trans (by rw [hd, hd2, got_fin]))
            refine wc_sr ?_; refine wl_mv rfl rfl ?_; refine wl_mv rfl rfl ?_; apply wl_val; apply opv_bin; exact rfl; exact rfl; exact bin_add64 (by omega); exact rfl; refine wl_as rfl rfl ?_; refine wl_as rfl rfl ?_; refine wl_as rfl rfl ?_; refine wl_ns ?_; refine wc_ret ?_; refine we_block_ret ?_; refine we_seq_ret ?_; refine we_block_ret ?_; refine we_seq_ret ?_; refine we_loop_ret ?_; refine we_block_ret ?_; refine we_seq_ret ?_
            refine we_ret3 rfl rfl rfl rfl ⟨_, rfl, ?_⟩
            rw [e]
            refine ⟨A', c', ?_, ho, hb⟩
            have : (q : Int) + ((n + 2 : Nat) : Int) = ((q + n : Nat) : Int) + 1 + 1 := by omega
            rw [this]; rfl
          · have h1' : ¬ y = 1 := fun e => h4 (by rw [e]; rfl)
            refine wc_sr ?_; refine wl_mv rfl rfl ?_; refine wl_mv rfl rfl ?_; apply wl_byK (T := tyB) (hr := hrx) (hb := hy); exact rfl; exact rfl; exact rfl; exact rfl; exact rfl; intro _; refine wl_bin rfl rfl bin_neq rfl ?_; refine wl_as rfl rfl ?_; refine wl_ns ?_
            refine wc_cond rfl (fun h5 => ?_) (fun h5 => ?_)
            · have h6 : ¬ y = 255 := fun e => h5 (by rw [e]; rfl)
              refine wc_sr ?_; refine wl_as rfl rfl ?_; refine wl_as rfl rfl ?_; refine wl_as rfl rfl ?_; refine wl_ns ?_; refine wc_ret ?_; refine we_block_ret ?_; refine we_seq_ret ?_; refine we_block_ret ?_; refine we_seq_ret ?_; refine we_loop_ret ?_; refine we_block_ret ?_; refine we_seq_ret ?_
              exact we_ret3 rfl rfl rfl rfl ⟨_, rfl, RetG.err (getOrd_bad hq (heq.trans (by rw [hd, hd2, got_bad h1' h6]))) hb⟩
            · obtain rfl : y = 255 := UInt8.toNat_inj.1 (by simp; omega)
              refine wc_skip ?_; refine we_block_norm ?_; refine we_seq ?_; refine wc_region ?_; refine wl_mv rfl rfl ?_
              refine wl_push (vs := [_]) tyB rfl ho ⟨rfl, rfl, rfl, trivial⟩ rfl (by decide) rfl (by omega) (by simp only [maxLen]; omega) hsz rfl rfl fun p2 A2 c2 w2 ho2 hg2 hat2 => ?_
              refine wl_as rfl rfl ?_; refine wl_nil ?_; refine we_block_norm ?_; refine we_seq ?_; refine wc_region ?_; refine wl_mv rfl rfl ?_; apply wl_val; apply opv_bin; exact rfl; exact rfl; exact bin_add64 (by omega); exact rfl; refine wl_as rfl rfl ?_; refine wl_nil ?_
              refine we_loop [(0, .slice A xs.length c), (7, .slice A2 (acc ++ [0]).length c2), (8, .int .i64 ((q + (n + 2) : Nat) : Int))] (xs.length - (q + (n + 2))) ⟨n + 2, acc ++ [0], A2, c2, rfl, by omega, by simp; omega, ?_, OwB.snoc ho2 rfl, hg2.below hb ho (Nat.le_refl _) hsz, rfl⟩ (by omega) ⟨rfl, ?_, ?_, trivial⟩
              · rw [heq, hd, hd2, got_esc]; rfl
              · simp; rfl
              · rw [show ((q + (n + 2) : Nat) : Int) = ((q + n : Nat) : Int) + 1 + 1 by omega]; rfl
    · have hlast : xs.drop (q + n) = [] := List.drop_of_length_le (by omega)
      refine wc_exit ?_; refine we_seq_exit ?_; refine we_loop_exit ?_; refine we_block_exit ?_; refine we_seq ?_; refine wc_sr ?_; refine wl_as rfl rfl ?_; refine wl_as rfl rfl ?_; refine wl_as rfl rfl ?_; refine wl_ns ?_; refine wc_ret ?_
      exact we_ret3 rfl rfl rfl rfl ⟨_, rfl, RetG.err (getOrd_bad hq (heq.trans (by rw [hlast, got_nil]))) hb⟩
theorem refGetOrd_any {A : Option Addr} {n c : Nat} {xs : List UInt8} {p : Int} {w : World} (hr : RdB w A xs) (hn : xs.length = n) (hl : xs.length ≤ 1099511627776) :
    CallsV Try.prog 73 #[.slice A n c, .int .i64 p] w (RetG w (getOrd xs p)) := by
  subst hn
  refine calls_in (N := _) Try.func73 rfl Try.ntmps73 rfl ?_; show WC _ _ _ _ _ _
  refine wc_sr ?_; refine wl_as rfl rfl ?_; refine wl_as rfl rfl ?_; refine wl_as rfl rfl ?_; refine wl_ns ?_; refine wc_seq ?_; refine wc_sr ?_; refine wl_mv rfl rfl ?_; refine wl_bin rfl rfl bin_lss rfl ?_; refine wl_mv rfl rfl ?_
  refine wl_cutV 5 16 (.bool (decide ((p < 0) ∨ ((xs.length : Int) < p)))) ?c18 ?_; (case c18 => (dsimp only [List.take]; by_cases hc0 : (p < 0); (focus (apply wl_skip; exact rfl; exact rfl; exact rfl; refine bTn ?_; (with_reducible assumption); exact rfl; apply wl_skip; exact rfl; exact rfl; exact rfl; refine bTn ?_; (with_reducible assumption); exact rfl; apply wl_skip; exact rfl; exact rfl; exact rfl; refine bTn ?_; (with_reducible assumption); exact rfl; apply wl_skip; exact rfl; exact rfl; exact rfl; refine bTn ?_; (with_reducible assumption); exact rfl; apply wl_val; apply opv_pickT; exact rfl; refine bT ?_; (with_reducible assumption); exact rfl; exact rfl; refine wl_nil ?_; refine we_cut _ ⟨rfl, rfl⟩ ⟨congrArg (fun b => some (Value.bool b)) ?e18_0, ?s18_0⟩; (case e18_0 => ((simp [hc0]; done))); (case s18_0 => (refine And.intro rfl ?_; refine And.intro rfl ?_; refine And.intro rfl ?_; refine And.intro rfl ?_; refine And.intro rfl ?_; refine And.intro rfl ?_; refine And.intro rfl ?_; refine And.intro rfl ?_; exact True.intro)))); (focus (apply wl_take; exact rfl; exact rfl; exact rfl; refine bF ?_; (with_reducible assumption); refine wl_mv rfl rfl ?_; apply wl_take; exact rfl; exact rfl; exact rfl; refine bF ?_; (with_reducible assumption); refine wl_mv rfl rfl ?_; apply wl_take; exact rfl; exact rfl; exact rfl; refine bF ?_; (with_reducible assumption); apply wl_val; apply opv_len; exact rfl; exact tyB.sl; exact rfl; apply wl_take; exact rfl; exact rfl; exact rfl; refine bF ?_; (with_reducible assumption); refine wl_bin rfl rfl bin_gtr rfl ?_; apply wl_val; apply opv_pickF; exact rfl; refine bF ?_; (with_reducible assumption); exact rfl; exact rfl; refine wl_nil ?_; refine we_cut _ ⟨rfl, rfl⟩ ⟨congrArg (fun b => some (Value.bool b)) ?e18_1, ?s18_1⟩; (case e18_1 => ((simp [hc0]; done))); (case s18_1 => (refine And.intro rfl ?_; refine And.intro rfl ?_; refine And.intro rfl ?_; refine And.intro rfl ?_; refine And.intro rfl ?_; refine And.intro rfl ?_; refine And.intro rfl ?_; refine And.intro rfl ?_; exact True.intro)))))); dsimp only [List.drop]
  refine wl_ns ?_
  refine wc_cond rfl (fun h => ?_) (fun h => ?_)
  · refine wc_sr ?_; refine wl_as rfl rfl ?_; refine wl_as rfl rfl ?_; refine wl_as rfl rfl ?_; refine wl_ns ?_; refine wc_ret ?_; refine we_seq_ret ?_
    exact we_ret3 rfl rfl rfl rfl ⟨_, rfl, RetG.err (getOrd_arg (by omega)) (Below.refl _ _)⟩
  · obtain ⟨q, rfl⟩ := Int.eq_ofNat_of_zero_le (show 0 ≤ p by omega)
    have hq : q ≤ xs.length := by omega
    refine wc_skip ?_; refine we_seq ?_; refine wc_sr ?_; refine wl_as rfl rfl ?_; refine wl_ns ?_; refine wc_sr ?_; refine wl_mv rfl rfl ?_; refine wl_as rfl rfl ?_; refine wl_ns ?_; refine wc_seq ?_; refine wc_block ?_
    refine wc_loop (GotI w xs A c q) [(0, .slice A xs.length c), (7, .slice none 0 0), (8, .int .i64 (q : Int))] (xs.length - q) ⟨0, [], none, 0, rfl, hq, by simp, rfl, Ow.nil _ _ _, Below.refl _ _, rfl⟩ ⟨rfl, rfl, rfl, trivial⟩ ?_
    rintro _ wr m ⟨n, acc, A', c', rfl, hqn, hal, heq, ho, hb, rfl⟩
    have hsz := hb.size
    have hrx := RdB.below hr hb
    refine wc_seq ?_; refine wc_sr ?_; refine wl_mv rfl rfl ?_; refine wl_mv rfl rfl ?_; apply wl_val; apply opv_len; exact rfl; exact tyB.sl; exact rfl; refine wl_bin rfl rfl bin_lss rfl ?_; refine wl_ns ?_
    refine wc_cond rfl (fun h1 => ?_) (fun h1 => ?_)
    · obtain ⟨x, hx⟩ : ∃ x, xs[q + n]? = some x := ⟨_, List.getElem?_eq_getElem (by omega)⟩
      have hd := drop_get hx
      refine wc_skip ?_; refine we_seq ?_; refine wc_block ?_; refine wc_seq ?_; refine wc_sr ?_; refine wl_mv rfl rfl ?_; refine wl_mv rfl rfl ?_; apply wl_byK (T := tyB) (hr := hrx) (hb := hx); exact rfl; exact rfl; exact rfl; exact rfl; exact rfl; intro _; refine wl_bin rfl rfl bin_neq rfl ?_; refine wl_ns ?_
      refine wc_cond rfl (fun h2 => ?_) (fun h2 => ?_)
      · have h0 : ¬ x = 0 := fun e => h2 (toNat_zero.2 e)
        refine wc_sr ?_; refine wl_mv rfl rfl ?_; refine wl_mv rfl rfl ?_; refine wl_mv rfl rfl ?_; apply wl_byK (T := tyB) (hr := hrx) (hb := hx); exact rfl; exact rfl; exact rfl; exact rfl; exact rfl; intro _
        refine wl_push (vs := [_]) tyB rfl ho ⟨rfl, rfl, rfl, trivial⟩ rfl (by decide) rfl (by omega) (by simp only [maxLen]; omega) hsz rfl rfl fun p2 A2 c2 w2 ho2 hg2 hat2 => ?_
        refine wl_as rfl rfl ?_; refine wl_ns ?_; refine wc_sr ?_; refine wl_mv rfl rfl ?_; apply wl_val; apply opv_bin; exact rfl; exact rfl; exact bin_add64 (by omega); exact rfl; refine wl_as rfl rfl ?_; refine wl_ns ?_; refine wc_exit ?_; refine we_seq_exit ?_; refine we_block_exit ?_
        refine we_loop [(0, .slice A xs.length c), (7, .slice A2 (acc ++ [x]).length c2), (8, .int .i64 ((q + (n + 1) : Nat) : Int))] (xs.length - (q + (n + 1))) ⟨n + 1, acc ++ [x], A2, c2, rfl, by omega, by simp; omega, ?_, OwB.snoc ho2 rfl, hg2.below hb ho (Nat.le_refl _) hsz, rfl⟩ (by omega) ⟨rfl, ?_, ?_, trivial⟩
        · rw [heq, hd, got_plain h0]; rfl
        · simp; rfl
        · rw [show ((q + (n + 1) : Nat) : Int) = ((q + n : Nat) : Int) + 1 by omega]; rfl
      · obtain rfl : x = 0 := toNat_zero.1 (by omega)
        refine wc_skip ?_; refine we_seq ?_; refine wc_seq ?_; refine wc_sr ?_; refine wl_mv rfl rfl ?_; apply wl_val; apply opv_bin; exact rfl; exact rfl; exact bin_add64 (by omega); exact rfl; refine wl_mv rfl rfl ?_; apply wl_val; apply opv_len; exact rfl; exact tyB.sl; exact rfl; refine wl_bin rfl rfl bin_geq rfl ?_; refine wl_ns ?_
        refine wc_cond rfl (fun h3 => ?_) (fun h3 => ?_)
        · have hlast : xs.drop (q + n + 1) = [] := List.drop_of_length_le (by omega)
          refine wc_sr ?_; refine wl_as rfl rfl ?_; refine wl_as rfl rfl ?_; refine wl_as rfl rfl ?_; refine wl_ns ?_; refine wc_ret ?_; refine we_seq_ret ?_; refine we_block_ret ?_; refine we_loop_ret ?_; refine we_block_ret ?_; refine we_seq_ret ?_
          exact we_ret3 rfl rfl rfl rfl ⟨_, rfl, RetG.err (getOrd_bad hq (heq.trans (by rw [hd, hlast, got_end]))) hb⟩
        · obtain ⟨y, hy⟩ : ∃ y, xs[q + n + 1]? = some y := ⟨_, List.getElem?_eq_getElem (by omega)⟩
          have hd2 := drop_get hy
          refine wc_skip ?_; refine we_seq ?_; refine wc_seq ?_; refine wc_sr ?_; refine wl_mv rfl rfl ?_; refine wl_mv rfl rfl ?_; apply wl_val; apply opv_bin; exact rfl; exact rfl; exact bin_add64 (by omega); exact rfl; apply wl_byK (T := tyB) (hr := hrx) (hb := hy); exact rfl; exact rfl; exact rfl; exact rfl; exact rfl; intro _; refine wl_bin rfl rfl bin_eql rfl ?_; refine wl_ns ?_
          refine wc_cond rfl (fun h4 => ?_) (fun h4 => ?_)
          · obtain rfl : y = 1 := UInt8.toNat_inj.1 (by simp; omega)
            have e := getOrd_ok hq (heq.trans (by rw [hd, hd2, got_fin]))
            refine wc_sr ?_; refine wl_mv rfl rfl ?_; refine wl_mv rfl rfl ?_; apply wl_val; apply opv_bin; exact rfl; exact rfl; exact bin_add64 (by omega); exact rfl; refine wl_as rfl rfl ?_; refine wl_as rfl rfl ?_; refine wl_as rfl rfl ?_; refine wl_ns ?_; refine wc_ret ?_; refine we_seq_ret ?_; refine we_block_ret ?_; refine we_loop_ret ?_; refine we_block_ret ?_; refine we_seq_ret ?_
            refine we_ret3 rfl rfl rfl rfl ⟨_, rfl, ?_⟩
            rw [e]
            refine ⟨A', c', ?_, ho, hb⟩
            have : (q : Int) + ((n + 2 : Nat) : Int) = ((q + n : Nat) : Int) + 2 := by omega
            rw [this]; rfl
          · have h1' : ¬ y = 1 := fun e => h4 (by rw [e]; rfl)
            refine wc_skip ?_; refine we_seq ?_; refine wc_seq ?_; refine wc_sr ?_; refine wl_mv rfl rfl ?_; refine wl_mv rfl rfl ?_; apply wl_val; apply opv_bin; exact rfl; exact rfl; exact bin_add64 (by omega); exact rfl; apply wl_byK (T := tyB) (hr := hrx) (hb := hy); exact rfl; exact rfl; exact rfl; exact rfl; exact rfl; intro _; refine wl_bin rfl rfl bin_neq rfl ?_; refine wl_ns ?_
            refine wc_cond rfl (fun h5 => ?_) (fun h5 => ?_)
            · have h6 : ¬ y = 255 := fun e => h5 (by rw [e]; rfl)
              refine wc_sr ?_; refine wl_as rfl rfl ?_; refine wl_as rfl rfl ?_; refine wl_as rfl rfl ?_; refine wl_ns ?_; refine wc_ret ?_; refine we_seq_ret ?_; refine we_block_ret ?_; refine we_loop_ret ?_; refine we_block_ret ?_; refine we_seq_ret ?_
              exact we_ret3 rfl rfl rfl rfl ⟨_, rfl, RetG.err (getOrd_bad hq (heq.trans (by rw [hd, hd2, got_bad h1' h6]))) hb⟩
            · obtain rfl : y = 255 := UInt8.toNat_inj.1 (by simp; omega)
              refine wc_skip ?_; refine we_seq ?_; refine wc_sr ?_; refine wl_mv rfl rfl ?_
              refine wl_push (vs := [_]) tyB rfl ho ⟨rfl, rfl, rfl, trivial⟩ rfl (by decide) rfl (by omega) (by simp only [maxLen]; omega) hsz rfl rfl fun p2 A2 c2 w2 ho2 hg2 hat2 => ?_
              refine wl_as rfl rfl ?_; refine wl_ns ?_; refine wc_region ?_; refine wl_mv rfl rfl ?_; apply wl_val; apply opv_bin; exact rfl; exact rfl; exact bin_add64 (by omega); exact rfl; refine wl_as rfl rfl ?_; refine wl_nil ?_; refine we_block_norm ?_
              refine we_loop [(0, .slice A xs.length c), (7, .slice A2 (acc ++ [0]).length c2), (8, .int .i64 ((q + (n + 2) : Nat) : Int))] (xs.length - (q + (n + 2))) ⟨n + 2, acc ++ [0], A2, c2, rfl, by omega, by simp; omega, ?_, OwB.snoc ho2 rfl, hg2.below hb ho (Nat.le_refl _) hsz, rfl⟩ (by omega) ⟨rfl, ?_, ?_, trivial⟩
              · rw [heq, hd, hd2, got_esc]; rfl
              · simp; rfl
              · rw [show ((q + (n + 2) : Nat) : Int) = ((q + n : Nat) : Int) + 2 by omega]; rfl
    · have hlast : xs.drop (q + n) = [] := List.drop_of_length_le (by omega)
      refine wc_exit ?_; refine we_seq_exit ?_; refine we_loop_exit ?_; refine we_block_exit ?_; refine we_seq ?_; refine wc_sr ?_; refine wl_as rfl rfl ?_; refine wl_as rfl rfl ?_; refine wl_as rfl rfl ?_; refine wl_ns ?_; refine wc_ret ?_
      exact we_ret3 rfl rfl rfl rfl ⟨_, rfl, RetG.err (getOrd_bad hq (heq.trans (by rw [hlast, got_nil]))) hb⟩

theorem getOrd_at {A : Option Addr} {n c : Nat} {xs ys : List UInt8} {p x : Int} {e : Nat} {w : World} (h : getOrd xs p = (ys, x, e)) (hr : RdB w A xs) (hn : xs.length = n) (hl : xs.length ≤ 1099511627776) :
    CallsV Try.prog 70 #[.slice A n c, .int .i64 p] w fun v w' => ∃ A' c', v = .tuple #[.slice A' ys.length c', .int .i64 x, .int .i64 (e : Int)] ∧ OwB w' w.heap.size A' c' ys ∧ Below w.heap.size w w' := by
  have := getOrd_any (p := p) (c := c) hr hn hl
  rw [h] at this
  exact this
theorem refGetOrd_at {A : Option Addr} {n c : Nat} {xs ys : List UInt8} {p x : Int} {e : Nat} {w : World} (h : getOrd xs p = (ys, x, e)) (hr : RdB w A xs) (hn : xs.length = n) (hl : xs.length ≤ 1099511627776) :
    CallsV Try.prog 73 #[.slice A n c, .int .i64 p] w fun v w' => ∃ A' c', v = .tuple #[.slice A' ys.length c', .int .i64 x, .int .i64 (e : Int)] ∧ OwB w' w.heap.size A' c' ys ∧ Below w.heap.size w w' := by
  have := refGetOrd_any (p := p) (c := c) hr hn hl
  rw [h] at this
  exact this
end Go.Proofs.Ytcjiecclmepboaa


/-
  Walks over the keys of texts, and the law TextKeys.
-/
namespace Go.Proofs.Ytcjiecclmepboaa
open Go.RowKit

/-- The key of a text. -/
def keyB (l : List UInt8) : List UInt8 := ordText (foldB l) ++ ordText l
theorem ordText_length (l : List UInt8) : (ordText l).length ≤ 2 * l.length + 2 := by
  have := esc_length l
  simp [ordText]; omega
theorem keyB_length (l : List UInt8) : (keyB l).length ≤ 10 * l.length + 4 := by
  have h1 := ordText_length (foldB l)
  have h2 := ordText_length l
  have h3 := foldB_length l
  rw [keyB, List.length_append]; omega
theorem key_any {l : List UInt8} (hl : l.length ≤ 68719476736) (w : World) : CallsV Try.prog 19 #[str l] w (RetB w (keyB l)) := by
  have hf := foldB_length l
  have h1 := ordText_length (foldB l)
  have h2 := ordText_length l
  have hb := Below.refl w.heap.size w
  refine calls_in (N := _) Try.func19 rfl Try.ntmps19 rfl ?_; show WC _ _ _ _ _ _
  refine wc_sr ?_; refine wl_as rfl rfl ?_; refine wl_ns ?_; refine wc_sr ?_; refine wl_mv rfl rfl ?_
  refine wl_call ok_text_Fold (fold_any (l := l) (by omega) w) ⟨rfl, trivial⟩ rfl ?_
  rintro _ w1 ⟨rfl, hbx⟩

  replace hb := hb.trans (hbx.mono hb.size)
  refine wl_toBytes tyStr Try.underlying30 Try.underlying5 rfl rfl fun A2 c2 w2 r2 hc2 hb2 => ?_
  replace hb := hb.trans (hb2.mono hb.size)
  refine wl_call ok_codec_OrdText (ordText_any r2 rfl (by omega)) ⟨rfl, trivial⟩ rfl ?_
  rintro _ w3 ⟨A3, c3, rfl, o3, hb3⟩
  have hs3 : w.heap.size ≤ w2.heap.size := hb.size
  replace hb := hb.trans (hb3.mono hb.size)
  refine wl_mv rfl rfl ?_
  refine wl_toBytes tyStr Try.underlying30 Try.underlying5 rfl rfl fun A4 c4 w4 r4 hc4 hb4 => ?_
  replace o3 := OwB.below o3 hb4
  replace hb := hb.trans (hb4.mono hb.size)
  refine wl_call ok_codec_OrdText (ordText_any r4 rfl (by omega)) ⟨rfl, trivial⟩ rfl ?_
  rintro _ w5 ⟨A5, c5, rfl, o5, hb5⟩
  replace o3 := OwB.below o3 hb5
  replace hb := hb.trans (hb5.mono hb.size)
  have hs5 : w2.heap.size ≤ w5.heap.size := by have := hb3.size; have := hb4.size; have := hb5.size; omega
  refine wl_app tyB rfl o3 rfl o5.rd (bvs_one _) (by omega) (by simp only [maxLen]; omega) hs5 rfl fun A6 c6 w6 o6 g6 _ => ?_
  have hb6 := g6.below hb o3 hs3 hb.size
  refine wl_as rfl rfl ?_; refine wl_ns ?_; refine wc_ret ?_
  refine we_ret1 rfl rfl ⟨_, rfl, A6, c6, ?_, Ow.mono (OwB.app o6) hs3, hb6⟩
  rw [← List.length_append]; rfl
theorem refKey_any {l : List UInt8} (hl : l.length ≤ 68719476736) (w : World) : CallsV Try.prog 22 #[str l] w (RetB w (keyB l)) := by
  have hf := foldB_length l
  have h1 := ordText_length (foldB l)
  have h2 := ordText_length l
  have hb := Below.refl w.heap.size w
  refine calls_in (N := _) Try.func22 rfl Try.ntmps22 rfl ?_; show WC _ _ _ _ _ _
  refine wc_sr ?_; refine wl_as rfl rfl ?_; refine wl_ns ?_; refine wc_sr ?_; refine wl_mv rfl rfl ?_
  refine wl_call ok_caissonref02_Fold (refFold_any (l := l) (by omega) w) ⟨rfl, trivial⟩ rfl ?_
  rintro _ w1 ⟨rfl, hbx⟩
  replace hb := hb.trans (hbx.mono hb.size)
  refine wl_toBytes tyStr Try.underlying30 Try.underlying5 rfl rfl fun A2 c2 w2 r2 hc2 hb2 => ?_
  replace hb := hb.trans (hb2.mono hb.size)
  refine wl_call ok_caissonref01_OrdText (refOrdText_any r2 rfl (by omega)) ⟨rfl, trivial⟩ rfl ?_
  rintro _ w3 ⟨A3, c3, rfl, o3, hb3⟩
  have hs3 : w.heap.size ≤ w2.heap.size := hb.size
  replace hb := hb.trans (hb3.mono hb.size)
  refine wl_mv rfl rfl ?_
  refine wl_toBytes tyStr Try.underlying30 Try.underlying5 rfl rfl fun A4 c4 w4 r4 hc4 hb4 => ?_
  replace o3 := OwB.below o3 hb4
  replace hb := hb.trans (hb4.mono hb.size)
  refine wl_call ok_caissonref01_OrdText (refOrdText_any r4 rfl (by omega)) ⟨rfl, trivial⟩ rfl ?_
  rintro _ w5 ⟨A5, c5, rfl, o5, hb5⟩
  replace o3 := OwB.below o3 hb5
  replace hb := hb.trans (hb5.mono hb.size)
  have hs5 : w2.heap.size ≤ w5.heap.size := by have := hb3.size; have := hb4.size; have := hb5.size; omega
  refine wl_app tyB rfl o3 rfl o5.rd (bvs_one _) (by omega) (by simp only [maxLen]; omega) hs5 rfl fun A6 c6 w6 o6 g6 _ => ?_
  have hb6 := g6.below hb o3 hs3 hb.size
  refine wl_as rfl rfl ?_; refine wl_ns ?_; refine wc_ret ?_
  refine we_ret1 rfl rfl ⟨_, rfl, A6, c6, ?_, Ow.mono (OwB.app o6) hs3, hb6⟩
  rw [← List.length_append]; rfl

/-- The text whose key begins at a place. -/
def fromKey (b : List UInt8) (p : Int) : List UInt8 × Int × Nat :=
  if (getOrd b p).2.2 = 0 then
    if (getOrd b (getOrd b p).2.1).2.2 = 0 then
      if foldB (getOrd b (getOrd b p).2.1).1 = (getOrd b p).1 then ((getOrd b (getOrd b p).2.1).1, (getOrd b (getOrd b p).2.1).2.1, 0) else ([], 0, 3)
    else ([], 0, (getOrd b (getOrd b p).2.1).2.2)
  else ([], 0, (getOrd b p).2.2)
theorem fromKey_1 {b x : List UInt8} {p n : Int} {e : Nat} (h : getOrd b p = (x, n, e)) (he : ¬ e = 0) : fromKey b p = ([], 0, e) := by simp [fromKey, h, he]
theorem fromKey_2 {b x y : List UInt8} {p n n2 : Int} {e : Nat} (h : getOrd b p = (x, n, 0)) (h2 : getOrd b n = (y, n2, e)) (he : ¬ e = 0) : fromKey b p = ([], 0, e) := by simp [fromKey, h, h2, he]
theorem fromKey_3 {b x y : List UInt8} {p n n2 : Int} (h : getOrd b p = (x, n, 0)) (h2 : getOrd b n = (y, n2, 0)) (he : ¬ foldB y = x) : fromKey b p = ([], 0, 3) := by simp [fromKey, h, h2, he]
theorem fromKey_4 {b x y : List UInt8} {p n n2 : Int} (h : getOrd b p = (x, n, 0)) (h2 : getOrd b n = (y, n2, 0)) (he : foldB y = x) : fromKey b p = (y, n2, 0) := by simp [fromKey, h, h2, he]
def RetK (w : World) (x : List UInt8 × Int × Nat) (v : Value) (w' : World) : Prop := v = .tuple #[str x.1, .int .i64 x.2.1, .int .i64 (x.2.2 : Int)] ∧ Below w.heap.size w w'
theorem fromKey_any {A : Option Addr} {n c : Nat} {xs : List UInt8} {p : Int} {w : World} (r1 : RdB w A xs) (hn : xs.length = n) (hl : xs.length ≤ 1099511627776) :
    CallsV Try.prog 20 #[.slice A n c, .int .i64 p] w (RetK w (fromKey xs p)) := by
  subst hn
  have hb := Below.refl w.heap.size w
  obtain ⟨x, n1, e1, h1⟩ : ∃ x n e, getOrd xs p = (x, n, e) := ⟨_, _, _, rfl⟩
  obtain ⟨y, n2, e2, h2⟩ : ∃ x n e, getOrd xs n1 = (x, n, e) := ⟨_, _, _, rfl⟩
  have hxl := getOrd_length h1
  have hyl := getOrd_length h2
  refine calls_in (N := _) Try.func20 rfl Try.ntmps20 rfl ?_; show WC _ _ _ _ _ _
  refine wc_sr ?_; refine wl_as rfl rfl ?_; refine wl_as rfl rfl ?_; refine wl_as rfl rfl ?_; refine wl_ns ?_; refine wc_sr ?_; refine wl_mv rfl rfl ?_; refine wl_mv rfl rfl ?_
  refine wl_call ok_codec_GetOrdText (getOrd_at h1 r1 rfl (by omega)) ⟨rfl, rfl, trivial⟩ rfl ?_
  rintro _ w1 ⟨A1, c1, rfl, o1, hbx⟩
  replace r1 := RdB.below r1 hbx
  replace hb := hb.trans (hbx.mono hb.size)
  refine wl_mv rfl rfl ?_; apply wl_val; apply opv_extract; exact rfl; exact rfl; exact rfl; apply wl_val; apply opv_extract; exact rfl; exact rfl; exact rfl; apply wl_val; apply opv_extract; exact rfl; exact rfl; exact rfl; refine wl_as rfl rfl ?_; refine wl_as rfl rfl ?_; refine wl_as rfl rfl ?_; refine wl_ns ?_; refine wc_seq ?_; refine wc_sr ?_; refine wl_mv rfl rfl ?_; refine wl_bin rfl rfl bin_neq rfl ?_; refine wl_ns ?_
  refine wc_cond rfl (fun he => ?_) (fun he => ?_)
  · refine wc_sr ?_; refine wl_mv rfl rfl ?_; refine wl_as rfl rfl ?_; refine wl_as rfl rfl ?_; refine wl_as rfl rfl ?_; refine wl_ns ?_; refine wc_ret ?_; refine we_seq_ret ?_
    exact we_ret3 rfl rfl rfl rfl ⟨_, rfl, by rw [fromKey_1 h1 (by omega)], hb⟩
  obtain rfl : e1 = 0 := by omega
  refine wc_skip ?_; refine we_seq ?_; refine wc_sr ?_; refine wl_mv rfl rfl ?_; refine wl_mv rfl rfl ?_
  refine wl_call ok_codec_GetOrdText (getOrd_at h2 r1 rfl (by omega)) ⟨rfl, rfl, trivial⟩ rfl ?_
  rintro _ w2 ⟨A2, c2, rfl, o2, hbx2⟩
  replace o1 := OwB.below o1 hbx2
  replace hb := hb.trans (hbx2.mono hb.size)
  refine wl_mv rfl rfl ?_; apply wl_val; apply opv_extract; exact rfl; exact rfl; exact rfl; apply wl_val; apply opv_extract; exact rfl; exact rfl; exact rfl; apply wl_val; apply opv_extract; exact rfl; exact rfl; exact rfl; refine wl_as rfl rfl ?_; refine wl_as rfl rfl ?_; refine wl_as rfl rfl ?_; refine wl_ns ?_; refine wc_seq ?_; refine wc_seq ?_
  by_cases he2 : e2 = 0
  · subst he2
    refine wc_heldB mixed fun w3 hS => ?_
    apply wh_take 0; exact rfl; kernel_rfl; kernel_rfl; kernel_rfl; exact hS; intro _ hw_; apply opv_move; exact rfl; exact rfl; apply wh_take 1; exact rfl; kernel_rfl; kernel_rfl; kernel_rfl; exact hS; intro _ hw_; apply opv_bin; exact rfl; exact rfl; exact bin_eql; exact rfl; apply wh_take 2; exact rfl; kernel_rfl; kernel_rfl; kernel_rfl; exact hS; intro _ hw_; apply opv_move; exact rfl; exact rfl; apply wh_takeG 3; exact rfl; kernel_rfl; kernel_rfl; kernel_rfl; exact hS; exact rfl; exact rfl; exact rfl; refine bT ?_; omega; intro _ hw_; apply opv_move; exact rfl; exact rfl; apply wh_takeG 6; exact rfl; kernel_rfl; kernel_rfl; kernel_rfl; exact hS; exact rfl; exact rfl; exact rfl; refine bT ?_; omega; intro _ hw_; apply opv_move; exact rfl; exact rfl
    refine wh_takeG 4 rfl (by kernel_rfl) (by kernel_rfl) (by kernel_rfl) hS rfl rfl rfl (bT rfl) (fun _ hw => opv_ofBytes Try.underlying30 Try.underlying5 tyStr rfl (o2.rd.below hw)) rfl ?_
    refine wh_takeG 7 rfl (by kernel_rfl) (by kernel_rfl) (by kernel_rfl) hS rfl rfl rfl (bT rfl) (fun _ hw => opv_ofBytes Try.underlying30 Try.underlying5 tyStr rfl (o1.rd.below hw)) rfl ?_
    refine wh_one 5 (o := ⟨_, _, _, _, _, _⟩) (by kernel_rfl) rfl ?_
    apply wl_take; exact rfl; exact rfl; exact rfl; refine bT ?_; omega
    refine wl_call ok_text_Fold (fold_any (l := y) (by omega) _) ⟨rfl, trivial⟩ rfl ?_
    rintro _ w4 ⟨rfl, hb4⟩
    have hS4 := hS.trans (hb4.mono hS.size)
    have o4 := OwB.below o2 hS4
    refine wl_nil ?_
    refine we_held hS4 ?_
    apply wh_takeG 8; exact rfl; kernel_rfl; kernel_rfl; kernel_rfl; exact hS4; exact rfl; exact rfl; exact rfl; refine bT ?_; omega; intro _ hw_; apply opv_bin; exact rfl; exact rfl; exact bin_neqS; exact rfl; apply wh_take 9; exact rfl; kernel_rfl; kernel_rfl; kernel_rfl; exact hS4; intro _ hw_; apply opv_pickT; exact rfl; refine bT ?_; omega; exact rfl; exact rfl
    refine wh_done (by kernel_rfl) ?_
    have hb5 := hb.trans (hS4.mono hb.size)
    by_cases hf : foldB y ≠ x
    · refine we_seq ?_; apply wc_decT; exact rfl; (with_reducible assumption); refine wc_region ?_; refine wl_as rfl rfl ?_; refine wl_ns ?_; refine wc_seq ?_; refine wc_sr ?_; refine wl_mv rfl rfl ?_; refine wl_bin rfl rfl bin_neq rfl ?_; refine wl_ns ?_; apply wc_condTb; exact rfl; exact rfl; refine wc_sr ?_; refine wl_mv rfl rfl ?_; refine wl_as rfl rfl ?_; refine wl_as rfl rfl ?_; refine wl_as rfl rfl ?_; refine wl_ns ?_; refine wc_ret ?_; refine we_seq_ret ?_
      exact we_ret3 rfl rfl rfl rfl ⟨_, rfl, by rw [fromKey_3 h1 h2 hf]; rfl, hb5⟩
    · refine we_seq ?_; apply wc_decF; exact rfl; (with_reducible assumption); refine wc_skip ?_; refine we_seq ?_; refine wc_seq ?_; refine wc_sr ?_; refine wl_mv rfl rfl ?_; refine wl_bin rfl rfl bin_neq rfl ?_; refine wl_ns ?_; apply wc_condFb; exact rfl; exact rfl; refine wc_skip ?_; refine we_seq ?_; refine wc_sr ?_; refine wl_mv rfl rfl ?_
      refine wl_val (opv_ofBytes Try.underlying30 Try.underlying5 tyStr rfl (o4.rd)) rfl ?_
      refine wl_mv rfl rfl ?_; refine wl_mv rfl rfl ?_; refine wl_as rfl rfl ?_; refine wl_as rfl rfl ?_; refine wl_as rfl rfl ?_; refine wl_ns ?_; refine wc_ret ?_
      exact we_ret3 rfl rfl rfl rfl ⟨_, rfl, by rw [fromKey_4 h1 h2 (Decidable.not_not.1 hf)], hb5⟩
  · refine wc_heldB mixed fun w3 hS => ?_
    apply wh_take 0; exact rfl; kernel_rfl; kernel_rfl; kernel_rfl; exact hS; intro _ hw_; apply opv_move; exact rfl; exact rfl; apply wh_take 1; exact rfl; kernel_rfl; kernel_rfl; kernel_rfl; exact hS; intro _ hw_; apply opv_bin; exact rfl; exact rfl; exact bin_eql; exact rfl; apply wh_take 2; exact rfl; kernel_rfl; kernel_rfl; kernel_rfl; exact hS; intro _ hw_; apply opv_move; exact rfl; exact rfl; apply wh_skipG 3; exact rfl; kernel_rfl; kernel_rfl; kernel_rfl; exact hS; exact rfl; exact rfl; exact rfl; refine bFn ?_; omega; exact rfl; apply wh_skipG 4; exact rfl; kernel_rfl; kernel_rfl; kernel_rfl; exact hS; exact rfl; exact rfl; exact rfl; refine bFn ?_; omega; exact rfl; apply wh_skipG 5; exact rfl; kernel_rfl; kernel_rfl; kernel_rfl; exact hS; exact rfl; exact rfl; exact rfl; refine bFn ?_; omega; exact rfl; apply wh_skipG 6; exact rfl; kernel_rfl; kernel_rfl; kernel_rfl; exact hS; exact rfl; exact rfl; exact rfl; refine bFn ?_; omega; exact rfl; apply wh_skipG 7; exact rfl; kernel_rfl; kernel_rfl; kernel_rfl; exact hS; exact rfl; exact rfl; exact rfl; refine bFn ?_; omega; exact rfl; apply wh_skipG 8; exact rfl; kernel_rfl; kernel_rfl; kernel_rfl; exact hS; exact rfl; exact rfl; exact rfl; refine bFn ?_; omega; exact rfl; apply wh_take 9; exact rfl; kernel_rfl; kernel_rfl; kernel_rfl; exact hS; intro _ hw_; apply opv_pickF; exact rfl; refine bF ?_; omega; exact rfl; exact rfl
    refine wh_done (by kernel_rfl) ?_
    refine we_seq ?_; apply wc_condFb; exact rfl; exact rfl; refine wc_skip ?_; refine we_seq ?_; refine wc_seq ?_; refine wc_sr ?_; refine wl_mv rfl rfl ?_; refine wl_bin rfl rfl bin_neq rfl ?_; refine wl_ns ?_; apply wc_decT; exact rfl; omega; refine wc_sr ?_; refine wl_mv rfl rfl ?_; refine wl_as rfl rfl ?_; refine wl_as rfl rfl ?_; refine wl_as rfl rfl ?_; refine wl_ns ?_; refine wc_ret ?_; refine we_seq_ret ?_
    exact we_ret3 rfl rfl rfl rfl ⟨_, rfl, by rw [fromKey_2 h1 h2 he2], hb.trans (hS.mono hb.size)⟩
theorem refFromKey_any {A : Option Addr} {n c : Nat} {xs : List UInt8} {p : Int} {w : World} (r1 : RdB w A xs) (hn : xs.length = n) (hl : xs.length ≤ 1099511627776) :
    CallsV Try.prog 26 #[.slice A n c, .int .i64 p] w (RetK w (fromKey xs p)) := by
  subst hn
  have hb := Below.refl w.heap.size w
  obtain ⟨x, n1, e1, h1⟩ : ∃ x n e, getOrd xs p = (x, n, e) := ⟨_, _, _, rfl⟩
  obtain ⟨y, n2, e2, h2⟩ : ∃ x n e, getOrd xs n1 = (x, n, e) := ⟨_, _, _, rfl⟩
  have hxl := getOrd_length h1
  have hyl := getOrd_length h2
  refine calls_in (N := _) Try.func26 rfl Try.ntmps26 rfl ?_; show WC _ _ _ _ _ _
  refine wc_sr ?_; refine wl_as rfl rfl ?_; refine wl_as rfl rfl ?_; refine wl_as rfl rfl ?_; refine wl_ns ?_; refine wc_sr ?_; refine wl_mv rfl rfl ?_; refine wl_mv rfl rfl ?_
  refine wl_call ok_caissonref01_GetOrdText (refGetOrd_at h1 r1 rfl (by omega)) ⟨rfl, rfl, trivial⟩ rfl ?_
  rintro _ w1 ⟨A1, c1, rfl, o1, hbx⟩
  replace r1 := RdB.below r1 hbx
  replace hb := hb.trans (hbx.mono hb.size)
  refine wl_mv rfl rfl ?_; apply wl_val; apply opv_extract; exact rfl; exact rfl; exact rfl; apply wl_val; apply opv_extract; exact rfl; exact rfl; exact rfl; apply wl_val; apply opv_extract; exact rfl; exact rfl; exact rfl; refine wl_as rfl rfl ?_; refine wl_as rfl rfl ?_; refine wl_as rfl rfl ?_; refine wl_ns ?_; refine wc_seq ?_; refine wc_sr ?_; refine wl_mv rfl rfl ?_; refine wl_bin rfl rfl bin_neq rfl ?_; refine wl_ns ?_
  refine wc_cond rfl (fun he => ?_) (fun he => ?_)
  · refine wc_sr ?_; refine wl_mv rfl rfl ?_; refine wl_as rfl rfl ?_; refine wl_as rfl rfl ?_; refine wl_as rfl rfl ?_; refine wl_ns ?_; refine wc_ret ?_; refine we_seq_ret ?_
    exact we_ret3 rfl rfl rfl rfl ⟨_, rfl, by rw [fromKey_1 h1 (by omega)], hb⟩
  obtain rfl : e1 = 0 := by omega
  refine wc_skip ?_; refine we_seq ?_; refine wc_sr ?_; refine wl_mv rfl rfl ?_; refine wl_mv rfl rfl ?_
  refine wl_call ok_caissonref01_GetOrdText (refGetOrd_at h2 r1 rfl (by omega)) ⟨rfl, rfl, trivial⟩ rfl ?_
  rintro _ w2 ⟨A2, c2, rfl, o2, hbx2⟩
  replace o1 := OwB.below o1 hbx2
  replace hb := hb.trans (hbx2.mono hb.size)
  refine wl_mv rfl rfl ?_; apply wl_val; apply opv_extract; exact rfl; exact rfl; exact rfl; apply wl_val; apply opv_extract; exact rfl; exact rfl; exact rfl; apply wl_val; apply opv_extract; exact rfl; exact rfl; exact rfl; refine wl_as rfl rfl ?_; refine wl_as rfl rfl ?_; refine wl_as rfl rfl ?_; refine wl_ns ?_; refine wc_seq ?_; refine wc_sr ?_; refine wl_mv rfl rfl ?_; refine wl_bin rfl rfl bin_neq rfl ?_; refine wl_ns ?_
  refine wc_cond rfl (fun he2 => ?_) (fun he2 => ?_)
  · refine wc_sr ?_; refine wl_mv rfl rfl ?_; refine wl_as rfl rfl ?_; refine wl_as rfl rfl ?_; refine wl_as rfl rfl ?_; refine wl_ns ?_; refine wc_ret ?_; refine we_seq_ret ?_
    exact we_ret3 rfl rfl rfl rfl ⟨_, rfl, by rw [fromKey_2 h1 h2 (by omega)], hb⟩
  obtain rfl : e2 = 0 := by omega
  refine wc_skip ?_; refine we_seq ?_; refine wc_seq ?_; refine wc_seq ?_
  refine wc_heldB mixed fun w3 hS => ?_
  apply wh_take 0; exact rfl; kernel_rfl; kernel_rfl; kernel_rfl; exact hS; intro _ hw_; apply opv_move; exact rfl; exact rfl; apply wh_take 3; exact rfl; kernel_rfl; kernel_rfl; kernel_rfl; exact hS; intro _ hw_; apply opv_move; exact rfl; exact rfl
  refine wh_take 1 rfl (by kernel_rfl) (by kernel_rfl) (by kernel_rfl) hS (fun _ hw => opv_ofBytes Try.underlying30 Try.underlying5 tyStr rfl (o2.rd.below hw)) rfl ?_
  refine wh_take 4 rfl (by kernel_rfl) (by kernel_rfl) (by kernel_rfl) hS (fun _ hw => opv_ofBytes Try.underlying30 Try.underlying5 tyStr rfl (o1.rd.below hw)) rfl ?_
  refine wh_one 2 (o := ⟨_, _, _, _, _, _⟩) (by kernel_rfl) rfl ?_
  skip
  refine wl_call ok_caissonref02_Fold (refFold_any (l := y) (by omega) _) ⟨rfl, trivial⟩ rfl ?_
  rintro _ w4 ⟨rfl, hb4⟩
  have hS4 := hS.trans (hb4.mono hS.size)
  have o4 := OwB.below o2 hS4
  refine wl_nil ?_
  refine we_held hS4 ?_
  apply wh_take 5; exact rfl; kernel_rfl; kernel_rfl; kernel_rfl; exact hS4; intro _ hw_; apply opv_bin; exact rfl; exact rfl; exact bin_neqS; exact rfl
  refine wh_done (by kernel_rfl) ?_
  have hb5 := hb.trans (hS4.mono hb.size)
  by_cases hf : foldB y ≠ x
  · refine we_seq ?_; apply wc_decT; exact rfl; (with_reducible assumption); refine wc_sr ?_; refine wl_as rfl rfl ?_; refine wl_as rfl rfl ?_; refine wl_as rfl rfl ?_; refine wl_ns ?_; refine wc_ret ?_; refine we_seq_ret ?_
    exact we_ret3 rfl rfl rfl rfl ⟨_, rfl, by rw [fromKey_3 h1 h2 hf]; rfl, hb5⟩
  · refine we_seq ?_; apply wc_decF; exact rfl; (with_reducible assumption); refine wc_skip ?_; refine we_seq ?_; refine wc_sr ?_; refine wl_mv rfl rfl ?_
    refine wl_val (opv_ofBytes Try.underlying30 Try.underlying5 tyStr rfl (o4.rd)) rfl ?_
    refine wl_mv rfl rfl ?_; refine wl_as rfl rfl ?_; refine wl_as rfl rfl ?_; refine wl_as rfl rfl ?_; refine wl_ns ?_; refine wc_ret ?_
    exact we_ret3 rfl rfl rfl rfl ⟨_, rfl, by rw [fromKey_4 h1 h2 (Decidable.not_not.1 hf)]; rfl, hb5⟩

theorem gotOrd_at (pre xs r : List UInt8) : getOrd (pre ++ (ordText xs ++ r)) (pre.length : Int) = (xs, ((pre.length + (ordText xs).length : Nat) : Int), 0) := by
  have h := got_ord r xs [] 0
  have e : (pre ++ (ordText xs ++ r)).drop pre.length = esc xs ++ (0 :: 1 :: r) := by
    rw [List.drop_left]; simp [ordText]
  rw [getOrd_ok (q := pre.length) (by simp) (by rw [e]; exact h)]
  simp [ordText]
theorem fromKey_key (l : List UInt8) : fromKey (keyB l) 0 = (l, ((keyB l).length : Int), 0) := by
  have h1 := gotOrd_at [] (foldB l) (ordText l)
  have h2 := gotOrd_at (ordText (foldB l)) l []
  simp only [List.append_nil, List.nil_append, List.length_nil, Nat.zero_add] at h1 h2
  refine (fromKey_4 (b := keyB l) (p := ((0 : Nat) : Int)) (n := ((ordText (foldB l)).length : Int)) h1 h2 rfl).trans ?_
  simp [keyB]
theorem cmp_key (a b : List UInt8) : cmpB (keyB a) (keyB b) = if cmpB (foldB a) (foldB b) = 0 then cmpB a b else cmpB (foldB a) (foldB b) := by
  have h := cmp_ords [foldB a, a] [foldB b, b]
  have e : ∀ l : List UInt8, ords [foldB l, l] = keyB l := fun l => by simp [ords, keyB]
  rw [e, e] at h
  rw [h]
  by_cases h1 : cmpB (foldB a) (foldB b) = 0 <;> by_cases h2 : cmpB a b = 0 <;> simp [cmpT, h1, h2]
theorem fromKey_len {b y : List UInt8} {p n : Int} {e : Nat} (h : fromKey b p = (y, n, e)) : True := trivial
theorem textKeys_walk {A : Option Addr} {n c : Nat} {s t xs : List UInt8} {w : World} (hs : s.length ≤ 1048576) (ht : t.length ≤ 1048576) (r1 : RdB w A xs) (hn : xs.length = n) (_hc : xs.length ≤ c) (hl : xs.length ≤ 1048576) :
    CallsV Try.prog 5 #[str s, str t, .slice A n c] w (RetTr w) := by
  subst hn
  have hb := Below.refl w.heap.size w
  have hks := keyB_length s
  have hkt := keyB_length t
  have hfs := foldB_length s
  have hft := foldB_length t
  refine calls_in (N := _) Try.func5 rfl Try.ntmps5 rfl ?_; show WC _ _ _ _ _ _
  refine wc_sr ?_; refine wl_as rfl rfl ?_; refine wl_ns ?_; refine wc_sr ?_; refine wl_as rfl rfl ?_; refine wl_ns ?_; refine wc_seq ?_; refine wc_sr ?_; refine wl_mv rfl rfl ?_; apply wl_val; apply opv_len; exact rfl; exact tyB.sl; exact rfl; refine wl_bin rfl rfl bin_gtr rfl ?_; refine wl_ns ?_
  refine wc_cutE (fun L' w' => ∃ p : Int, -1 ≤ p ∧ p ≤ 3 ∧ L' = [(0, str s), (1, str t), (2, .slice A xs.length c), (7, .int .i64 p)] ∧ w = w') ?_ ?_
  · refine wc_cond rfl (fun h => ?_) (fun h => ?_)
    · obtain ⟨x, hx⟩ : ∃ x, xs[0]? = some x := ⟨_, List.getElem?_eq_getElem (by omega)⟩
      have hx256 := x.toNat_lt
      refine wc_region ?_; refine wl_mv rfl rfl ?_; apply wl_byK (T := tyB) (hr := r1) (hb := hx); exact rfl; exact rfl; exact rfl; exact rfl; exact rfl; intro _; apply wl_val; apply opv_convR; exact rfl; exact Try.underlying5; exact Try.underlying3; exact IntWalk.i64_in _ (by omega); exact rfl; apply wl_val; apply opv_bin; exact rfl; exact rfl; exact bin_rem (b := 5) (by decide); exact rfl; apply wl_val; apply opv_bin; exact rfl; exact rfl; exact bin_sub64 (by omega); exact rfl; refine wl_as rfl rfl ?_; refine wl_nil ?_
      exact we_cut _ ⟨((x.toNat % 5 : Nat) : Int) - 1, by omega, by omega, rfl, rfl⟩ ⟨rfl, rfl, rfl, rfl, trivial⟩
    · refine wc_skip ?_
      exact we_cut _ ⟨0, by omega, by omega, rfl, rfl⟩ ⟨rfl, rfl, rfl, rfl, trivial⟩
  rintro _ _ ⟨p, hp1, hp2, rfl, rfl⟩
  refine we_seq ?_; refine wc_seq ?_; refine wc_sr ?_
  refine wl_call ok_caissonlaw02_awake (awake2_any _) trivial rfl ?_; rintro _ _ ⟨rfl, hbx⟩; (try replace r1 := RdB.below r1 hbx); (try replace i64 := Wi.below i64 hbx); replace hb := hb.trans (hbx.mono hb.size); clear hbx
  apply wl_val; apply opv_not; exact rfl; exact rfl; refine wl_ns ?_; apply wc_condFb; exact rfl; exact Bool.not_true; refine wc_skip ?_; refine we_seq ?_; refine wc_sr ?_; refine wl_mv rfl rfl ?_
  refine wl_call ok_text_Key (key_any (l := s) (by omega) _) ⟨rfl, trivial⟩ rfl ?_; rintro _ _ ⟨A2, c2, rfl, o2, hbx⟩; (try replace r1 := RdB.below r1 hbx); (try replace i64 := Wi.below i64 hbx); replace hb := hb.trans (hbx.mono hb.size); clear hbx
  refine wl_mv rfl rfl ?_
  refine wl_call ok_text_Key (key_any (l := t) (by omega) _) ⟨rfl, trivial⟩ rfl ?_; rintro _ _ ⟨A3, c3, rfl, o3, hbx⟩; (try replace r1 := RdB.below r1 hbx); (try replace i64 := Wi.below i64 hbx); (try replace o2 := OwB.below o2 hbx); replace hb := hb.trans (hbx.mono hb.size); clear hbx
  refine wl_as rfl rfl ?_; refine wl_as rfl rfl ?_; refine wl_ns ?_; refine wc_sr ?_; refine wl_mv rfl rfl ?_
  refine wl_call ok_text_FromKey (fromKey_any (p := 0) o2.rd rfl (by omega)) ⟨rfl, rfl, trivial⟩ rfl ?_; rintro _ _ ⟨rfl, hbx⟩; (try replace r1 := RdB.below r1 hbx); (try replace i64 := Wi.below i64 hbx); (try replace o2 := OwB.below o2 hbx); (try replace o3 := OwB.below o3 hbx); replace hb := hb.trans (hbx.mono hb.size); clear hbx
  rw [fromKey_key]
  dsimp only
  refine wl_mv rfl rfl ?_; apply wl_val; apply opv_extract; exact rfl; exact rfl; exact rfl; apply wl_val; apply opv_extract; exact rfl; exact rfl; exact rfl; apply wl_val; apply opv_extract; exact rfl; exact rfl; exact rfl; refine wl_as rfl rfl ?_; refine wl_as rfl rfl ?_; refine wl_as rfl rfl ?_; refine wl_ns ?_; refine wc_seq ?_; refine wc_sr ?_; refine wl_mv rfl rfl ?_; refine wl_mv rfl rfl ?_
  refine wl_call ok_caissonref02_Key (refKey_any (l := s) (by omega) _) ⟨rfl, trivial⟩ rfl ?_; rintro _ _ ⟨A4, c4, rfl, o4, hbx⟩; (try replace r1 := RdB.below r1 hbx); (try replace i64 := Wi.below i64 hbx); (try replace o2 := OwB.below o2 hbx); (try replace o3 := OwB.below o3 hbx); replace hb := hb.trans (hbx.mono hb.size); clear hbx
  skip
  refine wl_call ok_caissonref01_Equal (equal_yes rfl o2.rd o4.rd rfl rfl (by simp only [maxLen]; omega)) ⟨rfl, rfl, trivial⟩ rfl ?_; rintro _ _ ⟨rfl, hbx⟩; (try replace r1 := RdB.below r1 hbx); (try replace i64 := Wi.below i64 hbx); (try replace o2 := OwB.below o2 hbx); (try replace o3 := OwB.below o3 hbx); (try replace o4 := OwB.below o4 hbx); replace hb := hb.trans (hbx.mono hb.size); clear hbx
  apply wl_val; apply opv_not; exact rfl; exact rfl; refine wl_mv rfl rfl ?_; apply wl_take; exact rfl; exact rfl; exact rfl; exact Bool.not_true; refine wl_mv rfl rfl ?_; apply wl_take; exact rfl; exact rfl; exact rfl; exact Bool.not_true; refine wl_mv rfl rfl ?_; apply wl_take; exact rfl; exact rfl; exact rfl; exact Bool.not_true; refine wl_bin rfl rfl bin_neqS rfl ?_; apply wl_val; apply opv_pickF; exact rfl; exact Bool.not_true; exact rfl; exact rfl; refine wl_mv rfl rfl ?_; apply wl_take; exact rfl; exact rfl; exact rfl; refine bF ?_; (with_reducible exact nne); refine wl_mv rfl rfl ?_; apply wl_take; exact rfl; exact rfl; exact rfl; refine bF ?_; (with_reducible exact nne); refine wl_mv rfl rfl ?_; apply wl_take; exact rfl; exact rfl; exact rfl; refine bF ?_; (with_reducible exact nne); apply wl_val; apply opv_len; exact rfl; exact tyB.sl; exact rfl; apply wl_take; exact rfl; exact rfl; exact rfl; refine bF ?_; (with_reducible exact nne); refine wl_bin rfl rfl bin_neq rfl ?_; apply wl_val; apply opv_pickF; exact rfl; refine bF ?_; (with_reducible exact nne); exact rfl; exact rfl; refine wl_mv rfl rfl ?_; apply wl_take; exact rfl; exact rfl; exact rfl; refine bF ?_; (with_reducible exact nne); refine wl_mv rfl rfl ?_; apply wl_take; exact rfl; exact rfl; exact rfl; refine bF ?_; (with_reducible exact nne); refine wl_bin rfl rfl bin_neq rfl ?_; apply wl_val; apply opv_pickF; exact rfl; refine bF ?_; (with_reducible exact nne); exact rfl; exact rfl; refine wl_ns ?_; apply wc_condFb; exact rfl; exact rfl; refine wc_skip ?_; refine we_seq ?_; refine wc_sr ?_; refine wl_mv rfl rfl ?_
  refine wl_call ok_caissonref02_Fold (refFold_any (l := s) (by omega) _) ⟨rfl, trivial⟩ rfl ?_; rintro _ _ ⟨rfl, hbx⟩; (try replace r1 := RdB.below r1 hbx); (try replace i64 := Wi.below i64 hbx); (try replace o2 := OwB.below o2 hbx); (try replace o3 := OwB.below o3 hbx); (try replace o4 := OwB.below o4 hbx); replace hb := hb.trans (hbx.mono hb.size); clear hbx
  refine wl_toBytes tyStr Try.underlying30 Try.underlying5 rfl rfl fun A5 c5 w5 r5 hc5 hbx => ?_
  (try replace r1 := RdB.below r1 hbx); (try replace i64 := Wi.below i64 hbx); (try replace o2 := OwB.below o2 hbx); (try replace o3 := OwB.below o3 hbx); (try replace o4 := OwB.below o4 hbx); (try replace r5 := RdB.below r5 hbx)
  replace hb := hb.trans (hbx.mono hb.size)
  refine wl_mv rfl rfl ?_
  refine wl_call ok_caissonref02_Fold (refFold_any (l := t) (by omega) _) ⟨rfl, trivial⟩ rfl ?_; rintro _ _ ⟨rfl, hbx⟩; (try replace r1 := RdB.below r1 hbx); (try replace i64 := Wi.below i64 hbx); (try replace o2 := OwB.below o2 hbx); (try replace o3 := OwB.below o3 hbx); (try replace o4 := OwB.below o4 hbx); (try replace r5 := RdB.below r5 hbx); replace hb := hb.trans (hbx.mono hb.size); clear hbx
  refine wl_toBytes tyStr Try.underlying30 Try.underlying5 rfl rfl fun A6 c6 w6 r6 hc6 hbx => ?_
  (try replace r1 := RdB.below r1 hbx); (try replace i64 := Wi.below i64 hbx); (try replace o2 := OwB.below o2 hbx); (try replace o3 := OwB.below o3 hbx); (try replace o4 := OwB.below o4 hbx); (try replace r5 := RdB.below r5 hbx); (try replace r6 := RdB.below r6 hbx)
  replace hb := hb.trans (hbx.mono hb.size)
  refine wl_call ok_caissonref01_Cmp (refCmp_any r5 r6 rfl rfl (by simp only [maxLen]; omega) (by simp only [maxLen]; omega)) ⟨rfl, rfl, trivial⟩ rfl ?_; rintro _ _ ⟨rfl, hbx⟩; (try replace r1 := RdB.below r1 hbx); (try replace i64 := Wi.below i64 hbx); (try replace o2 := OwB.below o2 hbx); (try replace o3 := OwB.below o3 hbx); (try replace o4 := OwB.below o4 hbx); (try replace r5 := RdB.below r5 hbx); (try replace r6 := RdB.below r6 hbx); replace hb := hb.trans (hbx.mono hb.size); clear hbx
  refine wl_as rfl rfl ?_; refine wl_ns ?_; refine wc_seq ?_; refine wc_sr ?_; refine wl_mv rfl rfl ?_; refine wl_bin rfl rfl bin_eql rfl ?_; refine wl_ns ?_
  refine wc_cutE (fun L' w' => L' = [(0, str s), (1, str t), (2, .slice A xs.length c), (7, .int .i64 p), (8, .slice A2 (keyB s).length c2), (9, .slice A3 (keyB t).length c3), (13, .int .i64 (cmpB (keyB s) (keyB t)))] ∧ Below w.heap.size w w' ∧ RdB w' A xs ∧ RdB w' A2 (keyB s) ∧ RdB w' A3 (keyB t)) ?_ ?_
  · refine wc_cond rfl (fun h => ?_) (fun h => ?_)
    · refine wc_region ?_; refine wl_mv rfl rfl ?_
      refine wl_toBytes tyStr Try.underlying30 Try.underlying5 rfl rfl fun A7 c7 w7 r7 hc7 hbx => ?_
      (try replace r1 := RdB.below r1 hbx); (try replace i64 := Wi.below i64 hbx); (try replace o2 := OwB.below o2 hbx); (try replace o3 := OwB.below o3 hbx); (try replace o4 := OwB.below o4 hbx); (try replace r5 := RdB.below r5 hbx); (try replace r6 := RdB.below r6 hbx); (try replace r7 := RdB.below r7 hbx)
      replace hb := hb.trans (hbx.mono hb.size)
      refine wl_mv rfl rfl ?_
      refine wl_toBytes tyStr Try.underlying30 Try.underlying5 rfl rfl fun A8 c8 w8 r8 hc8 hbx => ?_
      (try replace r1 := RdB.below r1 hbx); (try replace i64 := Wi.below i64 hbx); (try replace o2 := OwB.below o2 hbx); (try replace o3 := OwB.below o3 hbx); (try replace o4 := OwB.below o4 hbx); (try replace r5 := RdB.below r5 hbx); (try replace r6 := RdB.below r6 hbx); (try replace r7 := RdB.below r7 hbx); (try replace r8 := RdB.below r8 hbx)
      replace hb := hb.trans (hbx.mono hb.size)
      refine wl_call ok_caissonref01_Cmp (refCmp_any r7 r8 rfl rfl (by simp only [maxLen]; omega) (by simp only [maxLen]; omega)) ⟨rfl, rfl, trivial⟩ rfl ?_; rintro _ _ ⟨rfl, hbx⟩; (try replace r1 := RdB.below r1 hbx); (try replace i64 := Wi.below i64 hbx); (try replace o2 := OwB.below o2 hbx); (try replace o3 := OwB.below o3 hbx); (try replace o4 := OwB.below o4 hbx); (try replace r5 := RdB.below r5 hbx); (try replace r6 := RdB.below r6 hbx); (try replace r7 := RdB.below r7 hbx); (try replace r8 := RdB.below r8 hbx); replace hb := hb.trans (hbx.mono hb.size); clear hbx
      refine wl_as rfl rfl ?_; refine wl_nil ?_
      exact we_cut _ ⟨rfl, hb, r1, o2.rd, o3.rd⟩ ⟨rfl, rfl, rfl, rfl, rfl, rfl, by rw [cmp_key, if_pos h]; rfl, trivial⟩
    · refine wc_skip ?_
      exact we_cut _ ⟨rfl, hb, r1, o2.rd, o3.rd⟩ ⟨rfl, rfl, rfl, rfl, rfl, rfl, by rw [cmp_key, if_neg h]; rfl, trivial⟩
  clear r1 o2 o3 o4 r5 r6 hb
  rintro _ w9 ⟨rfl, hb, r1, r2, r3⟩
  refine we_seq ?_; refine wc_sr ?_; refine wl_mv rfl rfl ?_
  refine wl_call ok_caissonref01_Copy (copy_any r1 rfl (by omega)) ⟨rfl, trivial⟩ rfl ?_; rintro _ _ ⟨A10, c10, rfl, o10, hbx⟩; (try replace r1 := RdB.below r1 hbx); (try replace i64 := Wi.below i64 hbx); (try replace o2 := OwB.below o2 hbx); (try replace o3 := OwB.below o3 hbx); (try replace o4 := OwB.below o4 hbx); (try replace r5 := RdB.below r5 hbx); (try replace r6 := RdB.below r6 hbx); (try replace r7 := RdB.below r7 hbx); (try replace r8 := RdB.below r8 hbx); (try replace r2 := RdB.below r2 hbx); (try replace r3 := RdB.below r3 hbx); replace hb := hb.trans (hbx.mono hb.size); clear hbx
  refine wl_mv rfl rfl ?_
  obtain ⟨z, q, e, hz⟩ : ∃ z q e, fromKey xs p = (z, q, e) := ⟨_, _, _, rfl⟩
  refine wl_call ok_text_FromKey (fromKey_any (p := p) o10.rd rfl (by omega)) ⟨rfl, rfl, trivial⟩ rfl ?_; rintro _ _ ⟨rfl, hbx⟩; (try replace r1 := RdB.below r1 hbx); (try replace i64 := Wi.below i64 hbx); (try replace o2 := OwB.below o2 hbx); (try replace o3 := OwB.below o3 hbx); (try replace o4 := OwB.below o4 hbx); (try replace r5 := RdB.below r5 hbx); (try replace r6 := RdB.below r6 hbx); (try replace r7 := RdB.below r7 hbx); (try replace r8 := RdB.below r8 hbx); (try replace r2 := RdB.below r2 hbx); (try replace r3 := RdB.below r3 hbx); (try replace o10 := OwB.below o10 hbx); replace hb := hb.trans (hbx.mono hb.size); clear hbx
  rw [hz]
  dsimp only
  refine wl_mv rfl rfl ?_; apply wl_val; apply opv_extract; exact rfl; exact rfl; exact rfl; apply wl_val; apply opv_extract; exact rfl; exact rfl; exact rfl; apply wl_val; apply opv_extract; exact rfl; exact rfl; exact rfl; refine wl_as rfl rfl ?_; refine wl_as rfl rfl ?_; refine wl_as rfl rfl ?_; refine wl_ns ?_; refine wc_sr ?_; refine wl_mv rfl rfl ?_; refine wl_mv rfl rfl ?_
  refine wl_call ok_caissonref02_FromKey (refFromKey_any (p := p) r1 rfl (by omega)) ⟨rfl, rfl, trivial⟩ rfl ?_; rintro _ _ ⟨rfl, hbx⟩; (try replace r1 := RdB.below r1 hbx); (try replace i64 := Wi.below i64 hbx); (try replace o2 := OwB.below o2 hbx); (try replace o3 := OwB.below o3 hbx); (try replace o4 := OwB.below o4 hbx); (try replace r5 := RdB.below r5 hbx); (try replace r6 := RdB.below r6 hbx); (try replace r7 := RdB.below r7 hbx); (try replace r8 := RdB.below r8 hbx); (try replace r2 := RdB.below r2 hbx); (try replace r3 := RdB.below r3 hbx); (try replace o10 := OwB.below o10 hbx); replace hb := hb.trans (hbx.mono hb.size); clear hbx
  rw [hz]
  dsimp only
  refine wl_mv rfl rfl ?_; apply wl_val; apply opv_extract; exact rfl; exact rfl; exact rfl; apply wl_val; apply opv_extract; exact rfl; exact rfl; exact rfl; apply wl_val; apply opv_extract; exact rfl; exact rfl; exact rfl; refine wl_as rfl rfl ?_; refine wl_as rfl rfl ?_; refine wl_as rfl rfl ?_; refine wl_ns ?_; refine wc_sr ?_; refine wl_mv rfl rfl ?_; refine wl_mv rfl rfl ?_
  refine wl_call ok_codec_Cmp (cmp_any r2 r3 rfl rfl) ⟨rfl, rfl, trivial⟩ rfl ?_
  rintro _ _ ⟨rfl, rfl⟩
  refine wl_mv rfl rfl ?_; refine wl_bin rfl rfl bin_eql rfl ?_; refine wl_mv rfl rfl ?_; apply wl_take; exact rfl; exact rfl; exact rfl; refine bT ?_; (with_reducible rfl); refine wl_mv rfl rfl ?_; apply wl_take; exact rfl; exact rfl; exact rfl; refine bT ?_; (with_reducible rfl); refine wl_mv rfl rfl ?_; apply wl_take; exact rfl; exact rfl; exact rfl; refine bT ?_; (with_reducible rfl); refine wl_bin rfl rfl bin_eqlS rfl ?_; apply wl_val; apply opv_pickT; exact rfl; refine bT ?_; (with_reducible rfl); exact rfl; exact rfl; refine wl_mv rfl rfl ?_; apply wl_take; exact rfl; exact rfl; exact rfl; refine bT ?_; (with_reducible rfl); refine wl_mv rfl rfl ?_; apply wl_take; exact rfl; exact rfl; exact rfl; refine bT ?_; (with_reducible rfl); refine wl_mv rfl rfl ?_; apply wl_take; exact rfl; exact rfl; exact rfl; refine bT ?_; (with_reducible rfl); refine wl_bin rfl rfl bin_eql rfl ?_; apply wl_val; apply opv_pickT; exact rfl; refine bT ?_; (with_reducible rfl); exact rfl; exact rfl; refine wl_mv rfl rfl ?_; apply wl_take; exact rfl; exact rfl; exact rfl; refine bT ?_; (with_reducible rfl); refine wl_mv rfl rfl ?_; apply wl_take; exact rfl; exact rfl; exact rfl; refine bT ?_; (with_reducible rfl); refine wl_mv rfl rfl ?_; apply wl_take; exact rfl; exact rfl; exact rfl; refine bT ?_; (with_reducible rfl); refine wl_bin rfl rfl bin_eql rfl ?_; apply wl_val; apply opv_pickT; exact rfl; refine bT ?_; (with_reducible rfl); exact rfl; exact rfl; refine wl_as rfl rfl ?_; refine wl_ns ?_; refine wc_ret ?_
  exact we_ret1 rfl rfl ⟨_, rfl, by simp, hb⟩
end Go.Proofs.Ytcjiecclmepboaa


/-
  Rows of values of any type, and of cells.
-/
namespace Go.Proofs.Ytcjiecclmepboaa
open Go.RowKit

theorem tyA : Row1 Try.prog 47 20 .nilIface 16 := ⟨Try.underlying47, by kernel_rfl, rfl, by rw [Try.underlying20]⟩
theorem tkA : RowK Try.prog 47 20 1 .nilIface 16 := ⟨Try.underlying47, by kernel_rfl, rfl, by decide⟩
theorem tkC : RowK Try.prog 46 53 5 (.agg zC.toArray) 64 := ⟨Try.underlying46, by kernel_rfl, by simp [zC, Value.cells], by decide⟩
/-- A cell that holds a value, one that holds a cell of values. -/
def vaEl (u : Va) : El where
  P w S cs := ∃ (A : Option Addr) (c : Nat), cs = [vaV u A c] ∧ (byEl (vaC u).data).P w S [.slice A (vaC u).data.length c]
  move := by rintro w w' S S' cs ⟨A, c, h, hb⟩ hz hm; exact ⟨A, c, h, El.move _ hb hz hm⟩
def ceEl (x : Ce) : El where
  P w S cs := ∃ (A : Option Addr) (c : Nat), cs = ceV x A c ∧ (byEl x.data).P w S [.slice A x.data.length c]
  move := by rintro w w' S S' cs ⟨A, c, h, hb⟩ hz hm; exact ⟨A, c, h, El.move _ hb hz hm⟩
theorem byEl.rd {w : World} {S : Nat → Prop} {xs : List UInt8} {A : Option Addr} {c : Nat} (h : (byEl xs).P w S [.slice A xs.length c]) : RdB w A xs ∧ xs.length ≤ c := by
  obtain ⟨A', c', h1, h2, h3, _⟩ := h
  simp only [List.cons.injEq, Value.slice.injEq, and_true] at h1
  obtain ⟨rfl, _, rfl⟩ := h1
  exact ⟨h3, h2⟩
theorem byEl.own {w : World} {base : Nat} {S : Nat → Prop} {xs : List UInt8} {A : Option Addr} {c : Nat} (h : OwB w base A c xs) (hs : ∀ a, A = some a → base ≤ a.block → a.block < w.heap.size → S a.block) : (byEl xs).P w S [.slice A xs.length c] :=
  byEl.mk h.rd h.cap fun a ha _ => by have := Ow.lt h a ha; exact hs a ha this.1 this.2
theorem vaV_one (u : Va) (A : Option Addr) (c : Nat) : (vaV u A c).oneCell' = true := by cases u <;> rfl
theorem ceV_one (x : Ce) (A : Option Addr) (c : Nat) : ∀ v ∈ ceV x A c, v.oneCell' = true := by simp [ceV, Value.oneCell']
/-- What a value must be to be written. -/
structure VaOk (u : Va) : Prop where
  num : -9223372036854775808 ≤ (vaC u).num ∧ (vaC u).num ≤ 9223372036854775807
  text : (vaC u).text.length ≤ 68719476736
  data : (vaC u).data.length ≤ 68719476736
/-- A value's key. -/
def key1 : Va → List UInt8
  | .nil => [0]
  | .bool b => [1, if b then 1 else 0]
  | .int n => 2 :: ordU (lift n)
  | .text s => 3 :: keyB s
  | .bytes d => 4 :: ordText d
def keysB (us : List Va) : List UInt8 := us.flatMap key1
theorem keysB_take {us : List Va} {k : Nat} {u : Va} (h : us[k]? = some u) : keysB (us.take (k + 1)) = keysB (us.take k) ++ key1 u := by
  rw [take_getR h]; simp [keysB]
theorem keysB_le (us : List Va) (k : Nat) : (keysB (us.take k)).length ≤ (keysB us).length := by
  have := congrArg List.length (show keysB (us.take k) ++ keysB (us.drop k) = keysB us by rw [keysB, keysB, ← List.flatMap_append, List.take_append_drop]; rfl)
  simp at this; omega
end Go.Proofs.Ytcjiecclmepboaa


/-
  The walk over Key.
-/
namespace Go.Proofs.Ytcjiecclmepboaa
open Go.RowKit

theorem c1_any : Cell1 Try.prog 20 := ⟨by kernel_rfl, by rw [Try.underlying20]⟩
theorem truth_any {b : Bool} {w : World} : CallsV Try.prog 81 #[.bool b] w fun v w' => v = .int .i64 (if b then 1 else 0 : Nat) ∧ w = w' := by
  refine calls_in (N := _) Try.func81 rfl Try.ntmps81 rfl ?_; show WC _ _ _ _ _ _
  cases b with
  | true => (refine wc_sr ?_; refine wl_as rfl rfl ?_; refine wl_ns ?_; refine wc_seq ?_; refine wc_sr ?_; refine wl_mv rfl rfl ?_; refine wl_ns ?_; apply wc_condTb; exact rfl; exact rfl; refine wc_sr ?_; refine wl_as rfl rfl ?_; refine wl_ns ?_; refine wc_ret ?_; refine we_seq_ret ?_; exact we_ret1 rfl rfl ⟨_, rfl, rfl, rfl⟩)
  | false => (refine wc_sr ?_; refine wl_as rfl rfl ?_; refine wl_ns ?_; refine wc_seq ?_; refine wc_sr ?_; refine wl_mv rfl rfl ?_; refine wl_ns ?_; apply wc_condFb; exact rfl; exact rfl; refine wc_skip ?_; refine we_seq ?_; refine wc_sr ?_; refine wl_as rfl rfl ?_; refine wl_ns ?_; refine wc_ret ?_; exact we_ret1 rfl rfl ⟨_, rfl, rfl, rfl⟩)
def KeyI (w : World) (us : List Va) (A : Option Addr) (c : Nat) : FL → World → Nat → Prop := fun L wr m =>
  ∃ (k : Nat) (P : Option Addr) (cp : Nat), L = [(4, .slice P (keysB (us.take k)).length cp), (9, .slice A us.length c), (10, .int .i64 (us.length : Int)), (11, .int .i64 (k : Int))] ∧ k ≤ us.length ∧ OwB wr w.heap.size P cp (keysB (us.take k)) ∧ Below w.heap.size w wr ∧ m = us.length - k
theorem key_next {w w' : World} {us : List Va} {A : Option Addr} {c k : Nat} {P : Option Addr} {cp n : Nat} {vs : List Value} {u : Va} (hu : us[k]? = some u) (ho : Ow w' w.heap.size 5 P n cp vs) (hn : (keysB (us.take k)).length + (key1 u).length = n) (hv : bvs (keysB (us.take k)) ++ bvs (key1 u) = vs) (hb : Below w.heap.size w w') {m : Nat} (hm : m = us.length - k) :
    ∃ m', KeyI w us A c [(4, .slice P n cp), (9, .slice A us.length c), (10, .int .i64 (us.length : Int)), (11, .int .i64 ((k + 1 : Nat) : Int))] w' m' ∧ m' < m := by
  have hlt := (List.getElem?_eq_some_iff.1 hu).1
  have e := keysB_take hu
  have el : n = (keysB (us.take (k + 1))).length := by rw [e, List.length_append, hn]
  refine ⟨us.length - (k + 1), ⟨k + 1, P, cp, by rw [el], by omega, ?_, hb, rfl⟩, by omega⟩
  unfold OwB
  rw [← el, e, bvs_append, hv]
  exact ho
set_option maxHeartbeats 2000000 in
theorem cellKey_any {A : Option Addr} {n c : Nat} {us : List Va} {w : World} (hr : RdR 1 w All A (us.map vaEl)) (hn : us.length = n) (hok : ∀ u ∈ us, VaOk u) (hl : (keysB us).length ≤ 137438953472) (hl2 : us.length ≤ maxLen) :
    CallsV Try.prog 49 #[.slice A n c] w fun v w' => ∃ (B : Option Addr) (cB : Nat), v = .tuple #[.slice B (keysB us).length cB, .int .i64 0] ∧ OwB w' w.heap.size B cB (keysB us) ∧ Below w.heap.size w w' := by
  subst hn
  have hmax : maxLen = 9223372036854775807 := rfl
  refine calls_in (N := _) Try.func49 rfl Try.ntmps49 rfl ?_; show WC _ _ _ _ _ _
  refine wc_sr ?_; refine wl_as rfl rfl ?_; refine wl_as rfl rfl ?_; refine wl_ns ?_; refine wc_sr ?_; refine wl_as rfl rfl ?_; refine wl_ns ?_; refine wc_seq ?_; refine wc_sr ?_; refine wl_mv rfl rfl ?_; apply wl_val; apply opv_len; exact rfl; exact tkA.sl; exact rfl; refine wl_mv rfl rfl ?_; refine wl_ns ?_; refine wc_block ?_
  refine wc_loop (KeyI w us A c) [(4, .slice none 0 0), (9, .slice A us.length c), (10, .int .i64 (us.length : Int)), (11, .int .i64 (0 : Nat))] us.length ⟨0, none, 0, rfl, by omega, Ow.nil _ _ _, Below.refl _ _, rfl⟩ ⟨rfl, rfl, rfl, rfl, trivial⟩ ?_
  rintro _ w1 m ⟨k, P, cp, rfl, hk, o1, hb, hm⟩
  have hle := keysB_le us k
  refine wc_sr ?_; refine wl_bin rfl rfl bin_lss rfl ?_; refine wl_ns ?_; refine wc_seq ?_
  refine wc_cond rfl (fun h1 => ?_) (fun h1 => ?_)
  · obtain ⟨u, hu⟩ : ∃ u, us[k]? = some u := ⟨_, List.getElem?_eq_getElem (by omega)⟩
    have hle2 := keysB_le us (k + 1)
    rw [keysB_take hu, List.length_append] at hle2
    have hou := hok u (List.mem_of_getElem? hu)
    obtain ⟨b, o, cs, rfl, _, _, ⟨X, cx, rfl, hx⟩, hw⟩ := RdR.at (k := 1) (by decide) hr (E := vaEl u) (i := k) (by rw [List.getElem?_map, hu]; rfl)
    have i1 := hw.below hb
    have hP : ∀ a, P = some a → a.block < w1.heap.size := fun a ha => (Ow.lt o1 a ha).2
    have rx := (byEl.rd hx).1.below hb
    refine wc_skip ?_; refine we_seq ?_; refine wc_seq ?_; refine wc_block ?_; refine wc_sr ?_; apply wl_val; apply opv_idxG tkA; exact rfl; exact rfl; exact rfl; omega; exact rfl; apply wl_val; apply opv_ldW0; exact rfl; assumption; exact c1_any; exact rfl; exact rfl; refine wl_as rfl rfl ?_; refine wl_ns ?_; refine wc_sr ?_; refine wl_mv rfl rfl ?_
    refine wl_call ok_cell_Cell (cell_any rx (by have := hou.data; omega)) ⟨rfl, trivial⟩ rfl ?_; rintro _ _ ⟨B, cB, rfl, o2, hbx⟩; replace o1 := OwB.below o1 hbx; replace hb := hb.trans (hbx.mono hb.size); clear hbx
    refine wl_mv rfl rfl ?_; apply wl_val; apply opv_extract; exact rfl; exact rfl; exact rfl; apply wl_val; apply opv_extract; exact rfl; exact rfl; exact rfl
    refine wl_var (cs := ceV (vaC u) B cB) zeroC sC rfl (fun _ => rfl) (by first | rfl | simp [Value.oneCell'] | simp [ceV, Value.oneCell']) rfl fun g3 _ hg3 a3 hbx => ?_; replace o1 := OwB.below o1 hbx; replace o2 := OwB.below o2 hbx; replace hb := hb.trans (hbx.mono hb.size); clear hbx
    unfold ceV at a3
    obtain ⟨K, hK⟩ : ∃ K, (keysB (us.take k)).length = K := ⟨_, rfl⟩
    have q1 := Ow.re o1 hK
    rw [hK] at hle hle2 ⊢
    clear o1 i1 rx
    cases u with
    | nil =>
      simp only [vaC] at a3
      simp only [key1, List.length_cons, List.length_nil] at hle2
      refine wl_as rfl rfl ?_; refine wl_ns ?_; refine wc_seq ?_; refine wc_sr ?_; refine wl_mv rfl rfl ?_; refine wl_bin rfl rfl bin_neq rfl ?_; refine wl_ns ?_; apply wc_condFb; exact rfl; exact rfl; refine wc_skip ?_; refine we_seq ?_; refine wc_sr ?_; refine wl_mv rfl rfl ?_; apply wl_val; apply opv_fa; exact fa_sC (by decide); exact rfl; exact rfl; apply wl_val; apply opv_ldX; exact rfl; assumption; exact c1_int; exact rfl; exact rfl; apply wl_val; apply opv_convR; exact rfl; exact Try.underlying3; exact Try.underlying5; exact IntWalk.u8_in _ (by omega); exact rfl
      refine wl_push (vs := [_]) tyB rfl q1 ⟨rfl, rfl, rfl, trivial⟩ rfl (by decide) rfl (by omega) (by simp only [maxLen]; omega) hb.size rfl rfl fun _ _ _ _ hO hG _ => ?_; (try replace a3 := Ar.grA a3 hG (Ar.ne_ow a3 q1 rfl)); replace hb := hG.below hb q1 (Nat.le_refl _) hb.size; replace q1 := hO; clear hO hG
      refine wl_as rfl rfl ?_; refine wl_ns ?_; refine wc_sr ?_; apply wl_val; apply opv_fa; exact fa_sC (by decide); exact rfl; exact rfl; apply wl_val; apply opv_ldX; exact rfl; assumption; exact c1_int; exact rfl; exact rfl; refine wl_ns ?_; refine wc_block ?_; refine wc_sr ?_; refine wl_bin rfl rfl bin_eql rfl ?_; refine wl_as rfl rfl ?_; refine wl_ns ?_; apply wc_condFb; exact rfl; exact rfl; refine wc_sr ?_; refine wl_bin rfl rfl bin_eql rfl ?_; refine wl_as rfl rfl ?_; refine wl_ns ?_; apply wc_condFb; exact rfl; exact rfl; refine wc_sr ?_; refine wl_bin rfl rfl bin_eql rfl ?_; refine wl_as rfl rfl ?_; refine wl_ns ?_; apply wc_condFb; exact rfl; exact rfl; refine wc_sr ?_; refine wl_bin rfl rfl bin_eql rfl ?_; refine wl_as rfl rfl ?_; refine wl_ns ?_; apply wc_condFb; exact rfl; exact rfl; refine wc_skip ?_; refine we_block_norm ?_; refine we_block_norm ?_; refine we_seq ?_; refine wc_region ?_; apply wl_val; apply opv_bin; exact rfl; exact rfl; exact bin_add64 (by omega); exact rfl; refine wl_mv rfl rfl ?_; refine wl_nil ?_
      obtain ⟨m', hI, hlt⟩ := key_next (A := some ⟨b, o, none⟩) (c := c) hu q1 (by simp [key1, hK]) rfl hb hm
      exact we_loop _ m' hI hlt ⟨rfl, rfl, rfl, by simp [lookT], trivial⟩
    | bool t =>
      simp only [vaC] at a3
      simp only [key1, List.length_cons, List.length_nil] at hle2
      refine wl_as rfl rfl ?_; refine wl_ns ?_; refine wc_seq ?_; refine wc_sr ?_; refine wl_mv rfl rfl ?_; refine wl_bin rfl rfl bin_neq rfl ?_; refine wl_ns ?_; apply wc_condFb; exact rfl; exact rfl; refine wc_skip ?_; refine we_seq ?_; refine wc_sr ?_; refine wl_mv rfl rfl ?_; apply wl_val; apply opv_fa; exact fa_sC (by decide); exact rfl; exact rfl; apply wl_val; apply opv_ldX; exact rfl; assumption; exact c1_int; exact rfl; exact rfl; apply wl_val; apply opv_convR; exact rfl; exact Try.underlying3; exact Try.underlying5; exact IntWalk.u8_in _ (by omega); exact rfl
      refine wl_push (vs := [_]) tyB rfl q1 ⟨rfl, rfl, rfl, trivial⟩ rfl (by decide) rfl (by omega) (by simp only [maxLen]; omega) hb.size rfl rfl fun _ _ _ _ hO hG _ => ?_; replace a3 := Ar.grA a3 hG (Ar.ne_ow a3 q1 rfl); replace hb := hG.below hb q1 (Nat.le_refl _) hb.size; replace q1 := hO; clear hO hG
      refine wl_as rfl rfl ?_; refine wl_ns ?_; refine wc_sr ?_; apply wl_val; apply opv_fa; exact fa_sC (by decide); exact rfl; exact rfl; apply wl_val; apply opv_ldX; exact rfl; assumption; exact c1_int; exact rfl; exact rfl; refine wl_ns ?_; refine wc_block ?_; refine wc_sr ?_; refine wl_bin rfl rfl bin_eql rfl ?_; refine wl_as rfl rfl ?_; refine wl_ns ?_; apply wc_condTb; exact rfl; exact rfl; refine wc_region ?_; refine wl_mv rfl rfl ?_; apply wl_val; apply opv_fa; exact fa_sC (by decide); exact rfl; exact rfl; apply wl_val; apply opv_ldX; exact rfl; assumption; exact c1_bool; exact rfl; exact rfl
      refine wl_call ok_cell_truth truth_any ⟨rfl, trivial⟩ rfl ?_
      rintro _ _ ⟨rfl, rfl⟩
      have hlt : (if t then 1 else 0 : Nat) < 256 := by cases t <;> decide
      apply wl_val; apply opv_convR; exact rfl; exact Try.underlying3; exact Try.underlying5; exact IntWalk.u8_in _ (by omega); exact rfl
      refine wl_push (vs := [_]) tyB rfl q1 ⟨rfl, rfl, rfl, trivial⟩ rfl (by decide) rfl (by omega) (by simp only [maxLen]; omega) hb.size rfl rfl fun _ _ _ _ hO hG _ => ?_; (try replace a3 := Ar.grA a3 hG (Ar.ne_ow a3 q1 rfl)); replace hb := hG.below hb q1 (Nat.le_refl _) hb.size; replace q1 := hO; clear hO hG
      refine wl_as rfl rfl ?_; refine wl_nil ?_; refine we_block_norm ?_; refine we_block_norm ?_; refine we_seq ?_; refine wc_region ?_; apply wl_val; apply opv_bin; exact rfl; exact rfl; exact bin_add64 (by omega); exact rfl; refine wl_mv rfl rfl ?_; refine wl_nil ?_
      obtain ⟨m', hI, hlt⟩ := key_next (A := some ⟨b, o, none⟩) (c := c) hu q1 (by simp [key1, hK]) (by cases t <;> simp [key1, bvs, bv]) hb hm
      exact we_loop _ m' hI hlt ⟨rfl, rfl, rfl, by simp [lookT], trivial⟩
    | int n =>
      simp only [vaC] at a3
      simp only [key1, List.length_cons, ordU_length] at hle2
      refine wl_as rfl rfl ?_; refine wl_ns ?_; refine wc_seq ?_; refine wc_sr ?_; refine wl_mv rfl rfl ?_; refine wl_bin rfl rfl bin_neq rfl ?_; refine wl_ns ?_; apply wc_condFb; exact rfl; exact rfl; refine wc_skip ?_; refine we_seq ?_; refine wc_sr ?_; refine wl_mv rfl rfl ?_; apply wl_val; apply opv_fa; exact fa_sC (by decide); exact rfl; exact rfl; apply wl_val; apply opv_ldX; exact rfl; assumption; exact c1_int; exact rfl; exact rfl; apply wl_val; apply opv_convR; exact rfl; exact Try.underlying3; exact Try.underlying5; exact IntWalk.u8_in _ (by omega); exact rfl
      refine wl_push (vs := [_]) tyB rfl q1 ⟨rfl, rfl, rfl, trivial⟩ rfl (by decide) rfl (by omega) (by simp only [maxLen]; omega) hb.size rfl rfl fun _ _ _ _ hO hG _ => ?_; replace a3 := Ar.grA a3 hG (Ar.ne_ow a3 q1 rfl); replace hb := hG.below hb q1 (Nat.le_refl _) hb.size; replace q1 := hO; clear hO hG
      refine wl_as rfl rfl ?_; refine wl_ns ?_; refine wc_sr ?_; apply wl_val; apply opv_fa; exact fa_sC (by decide); exact rfl; exact rfl; apply wl_val; apply opv_ldX; exact rfl; assumption; exact c1_int; exact rfl; exact rfl; refine wl_ns ?_; refine wc_block ?_; refine wc_sr ?_; refine wl_bin rfl rfl bin_eql rfl ?_; refine wl_as rfl rfl ?_; refine wl_ns ?_; apply wc_condFb; exact rfl; exact rfl; refine wc_sr ?_; refine wl_bin rfl rfl bin_eql rfl ?_; refine wl_as rfl rfl ?_; refine wl_ns ?_; apply wc_condTb; exact rfl; exact rfl; refine wc_region ?_; refine wl_mv rfl rfl ?_; apply wl_val; apply opv_fa; exact fa_sC (by decide); exact rfl; exact rfl; apply wl_val; apply opv_ldX; exact rfl; assumption; exact c1_i64; exact rfl; exact rfl
      refine wl_call ok_codec_OrdI (ordI_any n hou.num _) ⟨rfl, trivial⟩ rfl ?_; rintro _ _ ⟨Y, cy, rfl, o3, hbx⟩; replace q1 := Ow.bel q1 hbx; replace hb := hb.trans (hbx.mono hb.size); clear hbx
      rw [ordU_length]
      refine wl_app tyB rfl q1 rfl (Ow.re o3 (ordU_length _)).rd (bvs_one _) (by omega) (by simp only [maxLen]; omega) hb.size rfl fun _ _ _ hO hG _ => ?_; (try replace a3 := Ar.grA a3 hG (Ar.ne_ow a3 q1 rfl)); replace hb := hG.below hb q1 (Nat.le_refl _) hb.size; replace q1 := hO; clear hO hG
      refine wl_as rfl rfl ?_; refine wl_nil ?_; refine we_block_norm ?_; refine we_block_norm ?_; refine we_seq ?_; refine wc_region ?_; apply wl_val; apply opv_bin; exact rfl; exact rfl; exact bin_add64 (by omega); exact rfl; refine wl_mv rfl rfl ?_; refine wl_nil ?_
      obtain ⟨m', hI, hlt⟩ := key_next (A := some ⟨b, o, none⟩) (c := c) hu q1 (by simp [key1, hK, ordU_length]) (by simp [key1, bvs, bv]) hb hm
      exact we_loop _ m' hI hlt ⟨rfl, rfl, rfl, by simp [lookT], trivial⟩
    | text s =>
      simp only [vaC] at a3
      simp only [key1, List.length_cons] at hle2
      refine wl_as rfl rfl ?_; refine wl_ns ?_; refine wc_seq ?_; refine wc_sr ?_; refine wl_mv rfl rfl ?_; refine wl_bin rfl rfl bin_neq rfl ?_; refine wl_ns ?_; apply wc_condFb; exact rfl; exact rfl; refine wc_skip ?_; refine we_seq ?_; refine wc_sr ?_; refine wl_mv rfl rfl ?_; apply wl_val; apply opv_fa; exact fa_sC (by decide); exact rfl; exact rfl; apply wl_val; apply opv_ldX; exact rfl; assumption; exact c1_int; exact rfl; exact rfl; apply wl_val; apply opv_convR; exact rfl; exact Try.underlying3; exact Try.underlying5; exact IntWalk.u8_in _ (by omega); exact rfl
      refine wl_push (vs := [_]) tyB rfl q1 ⟨rfl, rfl, rfl, trivial⟩ rfl (by decide) rfl (by omega) (by simp only [maxLen]; omega) hb.size rfl rfl fun _ _ _ _ hO hG _ => ?_; replace a3 := Ar.grA a3 hG (Ar.ne_ow a3 q1 rfl); replace hb := hG.below hb q1 (Nat.le_refl _) hb.size; replace q1 := hO; clear hO hG
      refine wl_as rfl rfl ?_; refine wl_ns ?_; refine wc_sr ?_; apply wl_val; apply opv_fa; exact fa_sC (by decide); exact rfl; exact rfl; apply wl_val; apply opv_ldX; exact rfl; assumption; exact c1_int; exact rfl; exact rfl; refine wl_ns ?_; refine wc_block ?_; refine wc_sr ?_; refine wl_bin rfl rfl bin_eql rfl ?_; refine wl_as rfl rfl ?_; refine wl_ns ?_; apply wc_condFb; exact rfl; exact rfl; refine wc_sr ?_; refine wl_bin rfl rfl bin_eql rfl ?_; refine wl_as rfl rfl ?_; refine wl_ns ?_; apply wc_condFb; exact rfl; exact rfl; refine wc_sr ?_; refine wl_bin rfl rfl bin_eql rfl ?_; refine wl_as rfl rfl ?_; refine wl_ns ?_; apply wc_condTb; exact rfl; exact rfl; refine wc_region ?_; refine wl_mv rfl rfl ?_; apply wl_val; apply opv_fa; exact fa_sC (by decide); exact rfl; exact rfl; apply wl_val; apply opv_ldX; exact rfl; assumption; exact c1_str; exact rfl; exact rfl
      refine wl_call ok_text_Key (key_any (l := s) hou.text _) ⟨rfl, trivial⟩ rfl ?_; rintro _ _ ⟨Y, cy, rfl, o3, hbx⟩; replace q1 := Ow.bel q1 hbx; replace hb := hb.trans (hbx.mono hb.size); clear hbx
      refine wl_app tyB rfl q1 rfl o3.rd (bvs_one _) (by omega) (by simp only [maxLen]; omega) hb.size rfl fun _ _ _ hO hG _ => ?_; (try replace a3 := Ar.grA a3 hG (Ar.ne_ow a3 q1 rfl)); replace hb := hG.below hb q1 (Nat.le_refl _) hb.size; replace q1 := hO; clear hO hG
      refine wl_as rfl rfl ?_; refine wl_nil ?_; refine we_block_norm ?_; refine we_block_norm ?_; refine we_seq ?_; refine wc_region ?_; apply wl_val; apply opv_bin; exact rfl; exact rfl; exact bin_add64 (by omega); exact rfl; refine wl_mv rfl rfl ?_; refine wl_nil ?_
      obtain ⟨m', hI, hlt⟩ := key_next (A := some ⟨b, o, none⟩) (c := c) hu q1 (by simp [key1, hK]; omega) (by simp [key1, bvs, bv]) hb hm
      exact we_loop _ m' hI hlt ⟨rfl, rfl, rfl, by simp [lookT], trivial⟩
    | bytes d =>
      simp only [vaC] at a3 o2
      simp only [key1, List.length_cons] at hle2
      refine wl_as rfl rfl ?_; refine wl_ns ?_; refine wc_seq ?_; refine wc_sr ?_; refine wl_mv rfl rfl ?_; refine wl_bin rfl rfl bin_neq rfl ?_; refine wl_ns ?_; apply wc_condFb; exact rfl; exact rfl; refine wc_skip ?_; refine we_seq ?_; refine wc_sr ?_; refine wl_mv rfl rfl ?_; apply wl_val; apply opv_fa; exact fa_sC (by decide); exact rfl; exact rfl; apply wl_val; apply opv_ldX; exact rfl; assumption; exact c1_int; exact rfl; exact rfl; apply wl_val; apply opv_convR; exact rfl; exact Try.underlying3; exact Try.underlying5; exact IntWalk.u8_in _ (by omega); exact rfl
      refine wl_push (vs := [_]) tyB rfl q1 ⟨rfl, rfl, rfl, trivial⟩ rfl (by decide) rfl (by omega) (by simp only [maxLen]; omega) hb.size rfl rfl fun _ _ _ _ hO hG _ => ?_; replace a3 := Ar.grA a3 hG (Ar.ne_ow a3 q1 rfl); replace o2 := Ow.gr2 o2 hG hP; replace hb := hG.below hb q1 (Nat.le_refl _) hb.size; replace q1 := hO; clear hO hG
      refine wl_as rfl rfl ?_; refine wl_ns ?_; refine wc_sr ?_; apply wl_val; apply opv_fa; exact fa_sC (by decide); exact rfl; exact rfl; apply wl_val; apply opv_ldX; exact rfl; assumption; exact c1_int; exact rfl; exact rfl; refine wl_ns ?_; refine wc_block ?_; refine wc_sr ?_; refine wl_bin rfl rfl bin_eql rfl ?_; refine wl_as rfl rfl ?_; refine wl_ns ?_; apply wc_condFb; exact rfl; exact rfl; refine wc_sr ?_; refine wl_bin rfl rfl bin_eql rfl ?_; refine wl_as rfl rfl ?_; refine wl_ns ?_; apply wc_condFb; exact rfl; exact rfl; refine wc_sr ?_; refine wl_bin rfl rfl bin_eql rfl ?_; refine wl_as rfl rfl ?_; refine wl_ns ?_; apply wc_condFb; exact rfl; exact rfl; refine wc_sr ?_; refine wl_bin rfl rfl bin_eql rfl ?_; refine wl_as rfl rfl ?_; refine wl_ns ?_; apply wc_condTb; exact rfl; exact rfl; refine wc_region ?_; refine wl_mv rfl rfl ?_; apply wl_val; apply opv_fa; exact fa_sC (by decide); exact rfl; exact rfl; apply wl_val; apply opv_ldX; exact rfl; assumption; exact c1_by; exact rfl; exact rfl
      refine wl_call ok_codec_OrdText (ordText_any (OwB.rd o2) rfl (by have : d.length ≤ 68719476736 := hou.data; omega)) ⟨rfl, trivial⟩ rfl ?_; rintro _ _ ⟨Y, cy, rfl, o3, hbx⟩; replace q1 := Ow.bel q1 hbx; replace hb := hb.trans (hbx.mono hb.size); clear hbx
      refine wl_app tyB rfl q1 rfl o3.rd (bvs_one _) (by omega) (by simp only [maxLen]; omega) hb.size rfl fun _ _ _ hO hG _ => ?_; (try replace a3 := Ar.grA a3 hG (Ar.ne_ow a3 q1 rfl)); replace hb := hG.below hb q1 (Nat.le_refl _) hb.size; replace q1 := hO; clear hO hG
      refine wl_as rfl rfl ?_; refine wl_nil ?_; refine we_block_norm ?_; refine we_block_norm ?_; refine we_seq ?_; refine wc_region ?_; apply wl_val; apply opv_bin; exact rfl; exact rfl; exact bin_add64 (by omega); exact rfl; refine wl_mv rfl rfl ?_; refine wl_nil ?_
      obtain ⟨m', hI, hlt⟩ := key_next (A := some ⟨b, o, none⟩) (c := c) hu q1 (by simp [key1, hK]; omega) (by simp [key1, bvs, bv]) hb hm
      exact we_loop _ m' hI hlt ⟨rfl, rfl, rfl, by simp [lookT], trivial⟩
  · obtain rfl : k = us.length := by omega
    rw [List.take_length] at o1 ⊢
    refine wc_exit ?_; refine we_seq_exit ?_; refine we_loop_exit ?_; refine we_block_exit ?_; refine we_seq ?_; refine wc_sr ?_; refine wl_mv rfl rfl ?_; refine wl_as rfl rfl ?_; refine wl_as rfl rfl ?_; refine wl_ns ?_; refine wc_ret ?_
    exact we_ret2 rfl rfl rfl ⟨_, rfl, P, cp, rfl, o1, hb⟩
end Go.Proofs.Ytcjiecclmepboaa


/-
  Walks over the fixed fact of the laws of cells, and over CellValues.
-/
namespace Go.Proofs.Ytcjiecclmepboaa
open Go.RowKit

theorem keys_seven : keysB [.int 7] = [2, 128, 0, 0, 0, 0, 0, 0, 7] := by decide +kernel
theorem vaOk_int {n : Int} (h : -9223372036854775808 ≤ n ∧ n ≤ 9223372036854775807) : VaOk (.int n) := ⟨h, by simp [vaC], by simp [vaC]⟩
set_option maxHeartbeats 1000000 in
theorem awake6_any (w : World) : CallsV Try.prog 32 #[] w (RetTr w) := by
  have hb := Below.refl w.heap.size w
  refine calls_in (N := _) Try.func32 rfl Try.ntmps32 rfl ?_; show WC _ _ _ _ _ _
  refine wc_sr ?_; refine wl_as rfl rfl ?_; refine wl_ns ?_; refine wc_sr ?_
  refine wl_val (opv_build (vs := [(0, .int .i64 2), (2, .int .i64 7)]) (cs := ceV ⟨2, false, 7, [], []⟩ none 0) ⟨rfl, rfl, rfl, rfl, trivial⟩ (by kernel_rfl)) rfl ?_
  refine wl_call ok_cell_Of (ofC_any (x := ⟨2, false, 7, [], []⟩) (A := none) (c := 0) (Rd.nil _ _) (by decide)) ⟨rfl, trivial⟩ rfl ?_; rintro _ _ (⟨_, B, d, rfl, o1, hbx⟩ | ⟨hgood, _⟩); replace hb := hb.trans (hbx.mono hb.size); clear hbx
  case inr => exact absurd hgood (by decide)
  have e1 : vaV (ceVa ⟨2, false, 7, [], []⟩) B d = vaV (.int 7) B d := rfl
  rw [e1]
  refine wl_mv rfl rfl ?_; apply wl_val; apply opv_extract; exact rfl; exact rfl; exact rfl; apply wl_val; apply opv_extract; exact rfl; exact rfl; exact rfl; refine wl_as rfl rfl ?_; refine wl_as rfl rfl ?_; refine wl_ns ?_; refine wc_sr ?_; refine wl_mv rfl rfl ?_
  refine wl_call ok_cell_IntOf (CallsV.mono (R' := fun v w' => v = .tuple #[.int .i64 7, .bool true] ∧ _ = w') (intOf_any (u := .int 7)) fun _ _ h => h) ⟨rfl, trivial⟩ rfl ?_
  rintro _ _ ⟨rfl, rfl⟩
  refine wl_mv rfl rfl ?_; apply wl_val; apply opv_extract; exact rfl; exact rfl; exact rfl; apply wl_val; apply opv_extract; exact rfl; exact rfl; exact rfl; refine wl_as rfl rfl ?_; refine wl_as rfl rfl ?_; refine wl_ns ?_; refine wc_sr ?_; refine wl_mv rfl rfl ?_
  refine wl_bsG (css := [[vaV (.int 7) B d]]) (S := All) (els := [vaEl (.int 7)]) tkA ⟨rfl, ⟨_, rfl, rfl⟩, rfl, trivial⟩ rfl (by decide) (by decide) (Grp.one ⟨B, d, rfl, byEl.own o1 fun _ _ _ _ => trivial⟩ rfl) rfl fun A w2 g1 hbx _ => ?_
  replace hb := hb.trans (hbx.mono hb.size)
  clear hbx
  refine wl_call ok_cell_Key (cellKey_any (us := [.int 7]) (OwR.rd g1) rfl (fun u hu => by simp at hu; subst hu; exact vaOk_int (by decide)) (by rw [keys_seven]; decide) (by decide)) ⟨rfl, trivial⟩ rfl ?_; rintro _ _ ⟨E, e, rfl, o2, hbx⟩; replace hb := hb.trans (hbx.mono hb.size); clear hbx
  rw [keys_seven] at o2 ⊢
  have r2 := OwB.rd o2
  have hx : ([2, 128, 0, 0, 0, 0, 0, 0, 7] : List UInt8)[0]? = some 2 := rfl
  refine wl_mv rfl rfl ?_; apply wl_val; apply opv_extract; exact rfl; exact rfl; exact rfl; apply wl_val; apply opv_extract; exact rfl; exact rfl; exact rfl; refine wl_as rfl rfl ?_; refine wl_as rfl rfl ?_; refine wl_ns ?_; refine wc_sr ?_; refine wl_mv rfl rfl ?_; refine wl_bin rfl rfl bin_eql rfl ?_; refine wl_mv rfl rfl ?_; apply wl_take; exact rfl; exact rfl; exact rfl; refine bT ?_; (with_reducible rfl); refine wl_mv rfl rfl ?_; apply wl_val; apply opv_pickT; exact rfl; refine bT ?_; (with_reducible rfl); exact rfl; exact rfl; refine wl_mv rfl rfl ?_; apply wl_take; exact rfl; exact rfl; exact rfl; exact rfl; refine wl_mv rfl rfl ?_; apply wl_take; exact rfl; exact rfl; exact rfl; exact rfl; refine wl_bin rfl rfl bin_eql rfl ?_; apply wl_val; apply opv_pickT; exact rfl; exact rfl; exact rfl; exact rfl; refine wl_mv rfl rfl ?_; apply wl_take; exact rfl; exact rfl; exact rfl; refine bT ?_; (with_reducible rfl); refine wl_mv rfl rfl ?_; apply wl_take; exact rfl; exact rfl; exact rfl; refine bT ?_; (with_reducible rfl); refine wl_bin rfl rfl bin_eql rfl ?_; apply wl_val; apply opv_pickT; exact rfl; refine bT ?_; (with_reducible rfl); exact rfl; exact rfl; refine wl_mv rfl rfl ?_; apply wl_take; exact rfl; exact rfl; exact rfl; refine bT ?_; (with_reducible rfl); refine wl_mv rfl rfl ?_; apply wl_take; exact rfl; exact rfl; exact rfl; refine bT ?_; (with_reducible rfl); apply wl_val; apply opv_len; exact rfl; exact tyB.sl; exact rfl; apply wl_take; exact rfl; exact rfl; exact rfl; refine bT ?_; (with_reducible rfl); refine wl_bin rfl rfl bin_eql rfl ?_; apply wl_val; apply opv_pickT; exact rfl; refine bT ?_; (with_reducible rfl); exact rfl; exact rfl; refine wl_mv rfl rfl ?_; apply wl_take; exact rfl; exact rfl; exact rfl; refine bT ?_; exact rfl; refine wl_mv rfl rfl ?_; apply wl_byTK (T := tyB) (hr := r2) (hb := hx); exact rfl; exact rfl; exact rfl; refine bT ?_; exact rfl; exact rfl; exact rfl; exact rfl; exact rfl; refine bT ?_; exact rfl; exact rfl; exact rfl; exact rfl; exact rfl; exact rfl; intro _; apply wl_take; exact rfl; exact rfl; exact rfl; refine bT ?_; exact rfl; refine wl_bin rfl rfl bin_eql rfl ?_; apply wl_val; apply opv_pickT; exact rfl; refine bT ?_; exact rfl; exact rfl; exact rfl; refine wl_as rfl rfl ?_; refine wl_ns ?_; refine wc_ret ?_
  exact we_ret1 rfl rfl ⟨_, rfl, rfl, hb⟩

theorem ceVa_vaC (u : Va) : ceVa (vaC u) = u := by cases u <;> rfl
theorem sameC_self (x : Ce) : sameC x x = true := by simp [sameC]
theorem kind_other {t : TypeId} {x : Value} {w : World} (h1 : (t == 4) = false) (h2 : (t == 2) = false) (h3 : (t == 9) = false) (h4 : (t == 30) = false) :
    CallsV Try.prog 39 #[.iface t x] w fun v w' => v = .tuple #[.int .i64 0, .int .i64 10] ∧ Below w.heap.size w w' := by
  have hb := Below.refl w.heap.size w
  refine calls_in (N := _) Try.func39 rfl Try.ntmps39 rfl ?_; show WC _ _ _ _ _ _
  refine wc_sr ?_; refine wl_as rfl rfl ?_; refine wl_as rfl rfl ?_; refine wl_ns ?_; refine wc_sr ?_; refine wl_mv rfl rfl ?_
  refine wl_call ok_cell_Cell (cell_other h1 h2 h3 h4) ⟨rfl, trivial⟩ rfl ?_; rintro _ _ ⟨rfl, hbx⟩; replace hb := hb.trans (hbx.mono hb.size); clear hbx
  refine wl_mv rfl rfl ?_; apply wl_val; apply opv_extract; exact rfl; exact rfl; exact rfl; apply wl_val; apply opv_extract; exact rfl; exact rfl; exact rfl
  refine wl_var (cs := zC) zeroC sC rfl (fun _ => rfl) (by first | rfl | simp [Value.oneCell'] | simp [ceV, Value.oneCell']) rfl fun g2 _ hg2 a2 hbx => ?_; replace hb := hb.trans (hbx.mono hb.size); clear hbx
  unfold zC at a2
  refine wl_as rfl rfl ?_; refine wl_ns ?_; refine wc_sr ?_; apply wl_val; apply opv_fa; exact fa_sC (by decide); exact rfl; exact rfl; apply wl_val; apply opv_ldX; exact rfl; assumption; exact c1_int; exact rfl; exact rfl; refine wl_mv rfl rfl ?_; refine wl_as rfl rfl ?_; refine wl_as rfl rfl ?_; refine wl_ns ?_; refine wc_ret ?_
  exact we_ret2 rfl rfl rfl ⟨_, rfl, rfl, hb⟩
theorem cellValues_walk {x : Ce} {A : Option Addr} {c : Nat} {w : World} (hr : RdB w A x.data) (hn : -9223372036854775808 ≤ x.num ∧ x.num ≤ 9223372036854775807) (hl : x.data.length ≤ 1099511627776) :
    CallsV Try.prog 8 #[.agg (ceV x A c).toArray] w (RetTr w) := by
  have hb := Below.refl w.heap.size w
  refine calls_in (N := _) Try.func8 rfl Try.ntmps8 rfl ?_; show WC _ _ _ _ _ _
  refine wc_sr ?_
  refine wl_box (cs := ceV x A c) rfl rfl fun g w1 hg a1 hbx => ?_
  replace hb := hb.trans (hbx.mono hb.size)
  clear hbx
  refine wl_as rfl rfl ?_; refine wl_ns ?_; refine wc_seq ?_; refine wc_sr ?_
  refine wl_call ok_caissonlaw06_awake (awake6_any _) trivial rfl ?_; rintro _ _ ⟨rfl, hbx⟩; replace a1 := Ar.bel a1 hbx; replace hb := hb.trans (hbx.mono hb.size); clear hbx
  apply wl_val; apply opv_not; exact rfl; exact rfl; refine wl_ns ?_; apply wc_condFb; exact rfl; exact Bool.not_true; refine wc_skip ?_; refine we_seq ?_; refine wc_sr ?_; apply wl_val; apply opv_loadX; exact rfl; assumption; exact sC; exact rfl
  have hs1 := hb.size
  refine wl_call ok_caissonlaw06_twin (twin_any (x := x) (A := A) (c := c) (hr.below hb) (by omega)) ⟨rfl, trivial⟩ rfl ?_; rintro _ _ ⟨B, d, rfl, o2, hbx⟩; replace a1 := Ar.bel a1 hbx; replace hb := hb.trans (hbx.mono hb.size); clear hbx
  refine wl_var (cs := ceV x B d) zeroC sC rfl (fun _ => rfl) (by first | rfl | simp [Value.oneCell'] | simp [ceV, Value.oneCell']) rfl fun g3 _ hg3 a3 hbx => ?_; replace a1 := Ar.bel a1 hbx; replace o2 := OwB.below o2 hbx; replace hb := hb.trans (hbx.mono hb.size); clear hbx
  refine wl_ns ?_; refine wc_sr ?_; apply wl_val; apply opv_loadX; exact rfl; assumption; exact sC; exact rfl
  have hB := fun a ha => (Ow.lt o2 a ha).2
  refine wl_call ok_cell_Of (ofC_any (x := x) (A := B) (c := d) o2.rd (by omega)) ⟨rfl, trivial⟩ rfl ?_
  rintro _ w5 hof
  obtain ⟨hg, B2, d2, rfl, o4, hbx⟩ | ⟨hg, rfl, hbx⟩ := hof
  case inr =>
    replace a1 := Ar.bel a1 hbx
    replace hb := hb.trans (hbx.mono hb.size)
    clear hbx
    refine wl_mv rfl rfl ?_; apply wl_val; apply opv_extract; exact rfl; exact rfl; exact rfl; apply wl_val; apply opv_extract; exact rfl; exact rfl; exact rfl; refine wl_as rfl rfl ?_; refine wl_as rfl rfl ?_; refine wl_ns ?_; refine wc_seq ?_; refine wc_sr ?_; apply wl_val; apply opv_loadX; exact rfl; assumption; exact sC; exact rfl
    refine wl_call ok_caissonref06_Good (good_any (x := x)) ⟨rfl, trivial⟩ rfl ?_; rintro _ _ ⟨rfl, hbx⟩; replace hb := hb.trans (hbx.mono hb.size); clear hbx
    rw [hg]
    apply wl_val; apply opv_not; exact rfl; exact rfl; refine wl_ns ?_; apply wc_condTb; exact rfl; exact Bool.not_false; refine wc_sr ?_; refine wl_mv rfl rfl ?_; refine wl_bin rfl rfl bin_eql rfl ?_; refine wl_mv rfl rfl ?_; apply wl_take; exact rfl; exact rfl; exact rfl; refine bT ?_; (with_reducible rfl); refine wl_mv rfl rfl ?_; apply wl_take; exact rfl; exact rfl; exact rfl; refine bT ?_; (with_reducible rfl); apply wl_val; apply opv_bin; exact rfl; exact rfl; exact bin_eqlNN iAny.2; exact rfl; apply wl_val; apply opv_pickT; exact rfl; refine bT ?_; (with_reducible rfl); exact rfl; exact rfl; refine wl_as rfl rfl ?_; refine wl_ns ?_; refine wc_ret ?_; refine we_seq_ret ?_
    exact we_ret1 rfl rfl ⟨_, rfl, rfl, hb⟩
  obtain ⟨u, rfl⟩ : ∃ u, x = vaC u := ⟨ceVa x, (vaC_ceVa hg).symm⟩
  rw [ceVa_vaC]
  replace a1 := Ar.bel a1 hbx
  replace a3 := Ar.bel a3 hbx
  replace o2 := OwB.below o2 hbx
  replace hb := hb.trans (hbx.mono hb.size)
  clear hbx
  refine wl_mv rfl rfl ?_; apply wl_val; apply opv_extract; exact rfl; exact rfl; exact rfl; apply wl_val; apply opv_extract; exact rfl; exact rfl; exact rfl; refine wl_as rfl rfl ?_; refine wl_as rfl rfl ?_; refine wl_ns ?_; refine wc_seq ?_; refine wc_sr ?_; apply wl_val; apply opv_loadX; exact rfl; assumption; exact sC; exact rfl
  refine wl_call ok_caissonref06_Good (good_any (x := vaC u)) ⟨rfl, trivial⟩ rfl ?_; rintro _ _ ⟨rfl, hbx⟩; replace a1 := Ar.bel a1 hbx; replace a3 := Ar.bel a3 hbx; replace o2 := OwB.below o2 hbx; replace o4 := OwB.below o4 hbx; replace hb := hb.trans (hbx.mono hb.size); clear hbx
  rw [hg]
  unfold ceV at a3
  apply wl_val; apply opv_not; exact rfl; exact rfl; refine wl_ns ?_; apply wc_condFb; exact rfl; exact Bool.not_true; refine wc_skip ?_; refine we_seq ?_; refine wc_sr ?_; apply wl_val; apply opv_fa; exact fa_sC (by decide); exact rfl; exact rfl; apply wl_val; apply opv_ldX; exact rfl; assumption; exact c1_by; exact rfl; exact rfl
  refine wl_call ok_caissonref01_Over (overO_any o2 rfl (by omega)) ⟨rfl, trivial⟩ rfl ?_
  rintro _ w6 ⟨l', hl', o2', hG⟩
  replace a1 := Ar.grA a1 hG (Ar.ne_ow a1 o2 rfl)
  replace o4 := Ow.gr2 o4 hG hB
  replace hb := hG.below hb o2 hs1 hb.size
  clear hG o2 o2' a3
  refine wl_ns ?_; refine wc_sr ?_; refine wl_mv rfl rfl ?_
  refine wl_call ok_cell_Cell (cell_any (u := u) o4.rd (by omega)) ⟨rfl, trivial⟩ rfl ?_; rintro _ _ ⟨E, e, rfl, o5, hbx⟩; replace a1 := Ar.bel a1 hbx; replace o4 := OwB.below o4 hbx; replace hb := hb.trans (hbx.mono hb.size); clear hbx
  refine wl_mv rfl rfl ?_; apply wl_val; apply opv_extract; exact rfl; exact rfl; exact rfl; apply wl_val; apply opv_extract; exact rfl; exact rfl; exact rfl
  refine wl_var (cs := ceV (vaC u) E e) zeroC sC rfl (fun _ => rfl) (by first | rfl | simp [Value.oneCell'] | simp [ceV, Value.oneCell']) rfl fun g6 _ hg6 a6 hbx => ?_; replace a1 := Ar.bel a1 hbx; replace o4 := OwB.below o4 hbx; replace o5 := OwB.below o5 hbx; replace hb := hb.trans (hbx.mono hb.size); clear hbx
  refine wl_as rfl rfl ?_; refine wl_ns ?_; refine wc_sr ?_; refine wl_mv rfl rfl ?_
  refine wl_call ok_cell_Kind (kind_any (u := u) o4.rd (by omega)) ⟨rfl, trivial⟩ rfl ?_; rintro _ _ ⟨rfl, hbx⟩; replace a1 := Ar.bel a1 hbx; replace o4 := OwB.below o4 hbx; replace o5 := OwB.below o5 hbx; replace a6 := Ar.bel a6 hbx; replace hb := hb.trans (hbx.mono hb.size); clear hbx
  refine wl_mv rfl rfl ?_; apply wl_val; apply opv_extract; exact rfl; exact rfl; exact rfl; apply wl_val; apply opv_extract; exact rfl; exact rfl; exact rfl; refine wl_as rfl rfl ?_; refine wl_as rfl rfl ?_; refine wl_ns ?_; refine wc_sr ?_; refine wl_mv rfl rfl ?_
  refine wl_call ok_cell_IntOf (intOf_any (u := u)) ⟨rfl, trivial⟩ rfl ?_
  rintro _ _ ⟨rfl, rfl⟩
  refine wl_mv rfl rfl ?_; apply wl_val; apply opv_extract; exact rfl; exact rfl; exact rfl; apply wl_val; apply opv_extract; exact rfl; exact rfl; exact rfl; refine wl_as rfl rfl ?_; refine wl_as rfl rfl ?_; refine wl_ns ?_; refine wc_sr ?_; refine wl_mv rfl rfl ?_
  refine wl_call ok_cell_TextOf (textOf_any (u := u)) ⟨rfl, trivial⟩ rfl ?_
  rintro _ _ ⟨rfl, rfl⟩
  refine wl_mv rfl rfl ?_; apply wl_val; apply opv_extract; exact rfl; exact rfl; exact rfl; apply wl_val; apply opv_extract; exact rfl; exact rfl; exact rfl; refine wl_as rfl rfl ?_; refine wl_as rfl rfl ?_; refine wl_ns ?_; refine wc_sr ?_; refine wl_mv rfl rfl ?_
  refine wl_call ok_cell_BoolOf (boolOf_any (u := u)) ⟨rfl, trivial⟩ rfl ?_
  rintro _ _ ⟨rfl, rfl⟩
  refine wl_mv rfl rfl ?_; apply wl_val; apply opv_extract; exact rfl; exact rfl; exact rfl; apply wl_val; apply opv_extract; exact rfl; exact rfl; exact rfl; refine wl_as rfl rfl ?_; refine wl_as rfl rfl ?_; refine wl_ns ?_; refine wc_sr ?_; refine wl_mv rfl rfl ?_
  refine wl_call ok_cell_BytesOf (bytesOf_any (u := u) o4.rd (by omega)) ⟨rfl, trivial⟩ rfl ?_; rintro _ _ ⟨F, f, rfl, o7, hbx⟩; replace a1 := Ar.bel a1 hbx; replace o4 := OwB.below o4 hbx; replace o5 := OwB.below o5 hbx; replace a6 := Ar.bel a6 hbx; replace hb := hb.trans (hbx.mono hb.size); clear hbx
  refine wl_mv rfl rfl ?_; apply wl_val; apply opv_extract; exact rfl; exact rfl; exact rfl; apply wl_val; apply opv_extract; exact rfl; exact rfl; exact rfl; refine wl_as rfl rfl ?_; refine wl_as rfl rfl ?_; refine wl_ns ?_; refine wc_seq ?_; refine wc_sr ?_; refine wl_mv rfl rfl ?_; refine wl_bin rfl rfl bin_neq rfl ?_; refine wl_mv rfl rfl ?_; apply wl_take; exact rfl; exact rfl; exact rfl; refine bF ?_; (with_reducible exact nne); refine wl_mv rfl rfl ?_; apply wl_take; exact rfl; exact rfl; exact rfl; refine bF ?_; (with_reducible exact nne); refine wl_bin rfl rfl bin_neq rfl ?_; apply wl_val; apply opv_pickF; exact rfl; refine bF ?_; (with_reducible exact nne); exact rfl; exact rfl; refine wl_mv rfl rfl ?_; apply wl_take; exact rfl; exact rfl; exact rfl; refine bF ?_; (with_reducible exact nne); refine wl_mv rfl rfl ?_; apply wl_take; exact rfl; exact rfl; exact rfl; refine bF ?_; (with_reducible exact nne); refine wl_bin rfl rfl bin_neq rfl ?_; apply wl_val; apply opv_pickF; exact rfl; refine bF ?_; (with_reducible exact nne); exact rfl; exact rfl; refine wl_mv rfl rfl ?_; apply wl_take; exact rfl; exact rfl; exact rfl; refine bF ?_; (with_reducible exact nne); apply wl_val; apply opv_loadX; exact rfl; assumption; exact sC; exact rfl; apply wl_take; exact rfl; exact rfl; exact rfl; refine bF ?_; (with_reducible exact nne); apply wl_val; apply opv_loadX; exact rfl; assumption; exact sC; exact rfl; apply wl_take; exact rfl; exact rfl; exact rfl; refine bF ?_; (with_reducible exact nne)
  refine wl_call ok_caissonref06_Same (same_any (x := vaC u) (y := vaC u) o5.rd (hr.below hb) (by omega)) ⟨rfl, rfl, trivial⟩ rfl ?_; rintro _ _ ⟨rfl, hbx⟩; replace a1 := Ar.bel a1 hbx; replace o4 := OwB.below o4 hbx; replace o7 := OwB.below o7 hbx; replace hb := hb.trans (hbx.mono hb.size); clear hbx
  rw [sameC_self]
  unfold ceV at a1
  apply wl_take; exact rfl; exact rfl; exact rfl; refine bF ?_; (with_reducible exact nne); apply wl_val; apply opv_not; exact rfl; exact rfl; apply wl_val; apply opv_pickF; exact rfl; refine bF ?_; (with_reducible exact nne); exact rfl; exact rfl; refine wl_mv rfl rfl ?_; apply wl_take; exact rfl; exact rfl; exact rfl; exact Bool.not_true; refine wl_mv rfl rfl ?_; apply wl_take; exact rfl; exact rfl; exact rfl; exact Bool.not_true; apply wl_val; apply opv_fa; exact fa_sC (by decide); exact rfl; exact rfl; apply wl_take; exact rfl; exact rfl; exact rfl; exact Bool.not_true; apply wl_val; apply opv_ldX; exact rfl; assumption; exact c1_int; exact rfl; exact rfl; apply wl_take; exact rfl; exact rfl; exact rfl; exact Bool.not_true; refine wl_bin rfl rfl bin_neq rfl ?_; apply wl_val; apply opv_pickF; exact rfl; exact Bool.not_true; exact rfl; exact rfl; refine wl_ns ?_; apply wc_decF; exact rfl; (with_reducible exact nne); refine wc_skip ?_; refine we_seq ?_; refine wc_seq ?_; refine wc_sr ?_; refine wl_mv rfl rfl ?_; apply wl_val; apply opv_fa; exact fa_sC (by decide); exact rfl; exact rfl; apply wl_val; apply opv_ldX; exact rfl; assumption; exact c1_int; exact rfl; exact rfl; refine wl_bin rfl rfl bin_eql rfl ?_; apply wl_val; apply opv_bin; exact rfl; exact rfl; exact bin_neqB tyBool; exact rfl; refine wl_mv rfl rfl ?_; apply wl_take; exact rfl; exact rfl; exact rfl; refine bF ?_; (with_reducible exact nne); refine wl_mv rfl rfl ?_; apply wl_take; exact rfl; exact rfl; exact rfl; refine bF ?_; (with_reducible exact nne); apply wl_val; apply opv_fa; exact fa_sC (by decide); exact rfl; exact rfl; apply wl_take; exact rfl; exact rfl; exact rfl; refine bF ?_; (with_reducible exact nne); apply wl_val; apply opv_ldX; exact rfl; assumption; exact c1_int; exact rfl; exact rfl; apply wl_take; exact rfl; exact rfl; exact rfl; refine bF ?_; (with_reducible exact nne); refine wl_bin rfl rfl bin_eql rfl ?_; apply wl_take; exact rfl; exact rfl; exact rfl; refine bF ?_; (with_reducible exact nne); apply wl_val; apply opv_bin; exact rfl; exact rfl; exact bin_neqB tyBool; exact rfl; apply wl_val; apply opv_pickF; exact rfl; refine bF ?_; (with_reducible exact nne); exact rfl; exact rfl; refine wl_mv rfl rfl ?_; apply wl_take; exact rfl; exact rfl; exact rfl; refine bF ?_; (with_reducible exact nne); refine wl_mv rfl rfl ?_; apply wl_take; exact rfl; exact rfl; exact rfl; refine bF ?_; (with_reducible exact nne); apply wl_val; apply opv_fa; exact fa_sC (by decide); exact rfl; exact rfl; apply wl_take; exact rfl; exact rfl; exact rfl; refine bF ?_; (with_reducible exact nne); apply wl_val; apply opv_ldX; exact rfl; assumption; exact c1_int; exact rfl; exact rfl; apply wl_take; exact rfl; exact rfl; exact rfl; refine bF ?_; (with_reducible exact nne); refine wl_bin rfl rfl bin_eql rfl ?_; apply wl_take; exact rfl; exact rfl; exact rfl; refine bF ?_; (with_reducible exact nne); apply wl_val; apply opv_bin; exact rfl; exact rfl; exact bin_neqB tyBool; exact rfl; apply wl_val; apply opv_pickF; exact rfl; refine bF ?_; (with_reducible exact nne); exact rfl; exact rfl; refine wl_mv rfl rfl ?_; apply wl_take; exact rfl; exact rfl; exact rfl; refine bF ?_; (with_reducible exact nne); refine wl_mv rfl rfl ?_; apply wl_take; exact rfl; exact rfl; exact rfl; refine bF ?_; (with_reducible exact nne); apply wl_val; apply opv_fa; exact fa_sC (by decide); exact rfl; exact rfl; apply wl_take; exact rfl; exact rfl; exact rfl; refine bF ?_; (with_reducible exact nne); apply wl_val; apply opv_ldX; exact rfl; assumption; exact c1_int; exact rfl; exact rfl; apply wl_take; exact rfl; exact rfl; exact rfl; refine bF ?_; (with_reducible exact nne); refine wl_bin rfl rfl bin_eql rfl ?_; apply wl_take; exact rfl; exact rfl; exact rfl; refine bF ?_; (with_reducible exact nne); apply wl_val; apply opv_bin; exact rfl; exact rfl; exact bin_neqB tyBool; exact rfl; apply wl_val; apply opv_pickF; exact rfl; refine bF ?_; (with_reducible exact nne); exact rfl; exact rfl; refine wl_mv rfl rfl ?_; apply wl_take; exact rfl; exact rfl; exact rfl; refine bF ?_; (with_reducible exact nne); refine wl_mv rfl rfl ?_; apply wl_take; exact rfl; exact rfl; exact rfl; refine bF ?_; (with_reducible exact nne); apply wl_val; apply opv_fa; exact fa_sC (by decide); exact rfl; exact rfl; apply wl_take; exact rfl; exact rfl; exact rfl; refine bF ?_; (with_reducible exact nne); apply wl_val; apply opv_ldX; exact rfl; assumption; exact c1_i64; exact rfl; exact rfl; apply wl_take; exact rfl; exact rfl; exact rfl; refine bF ?_; (with_reducible exact nne); refine wl_bin rfl rfl bin_neq rfl ?_; apply wl_val; apply opv_pickF; exact rfl; refine bF ?_; (with_reducible exact nne); exact rfl; exact rfl; refine wl_mv rfl rfl ?_; apply wl_take; exact rfl; exact rfl; exact rfl; refine bF ?_; (with_reducible exact nne); refine wl_mv rfl rfl ?_; apply wl_take; exact rfl; exact rfl; exact rfl; refine bF ?_; (with_reducible exact nne); apply wl_val; apply opv_fa; exact fa_sC (by decide); exact rfl; exact rfl; apply wl_take; exact rfl; exact rfl; exact rfl; refine bF ?_; (with_reducible exact nne); apply wl_val; apply opv_ldX; exact rfl; assumption; exact c1_str; exact rfl; exact rfl; apply wl_take; exact rfl; exact rfl; exact rfl; refine bF ?_; (with_reducible exact nne); refine wl_bin rfl rfl bin_neqS rfl ?_; apply wl_val; apply opv_pickF; exact rfl; refine bF ?_; (with_reducible exact nne); exact rfl; exact rfl; refine wl_mv rfl rfl ?_; apply wl_take; exact rfl; exact rfl; exact rfl; refine bF ?_; (with_reducible exact nne); refine wl_mv rfl rfl ?_; apply wl_take; exact rfl; exact rfl; exact rfl; refine bF ?_; (with_reducible exact nne); apply wl_val; apply opv_fa; exact fa_sC (by decide); exact rfl; exact rfl; apply wl_take; exact rfl; exact rfl; exact rfl; refine bF ?_; (with_reducible exact nne); apply wl_val; apply opv_ldX; exact rfl; assumption; exact c1_bool; exact rfl; exact rfl; apply wl_take; exact rfl; exact rfl; exact rfl; refine bF ?_; (with_reducible exact nne); apply wl_val; apply opv_bin; exact rfl; exact rfl; exact bin_neqB tyBool; exact rfl; apply wl_val; apply opv_pickF; exact rfl; refine bF ?_; (with_reducible exact nne); exact rfl; exact rfl; refine wl_mv rfl rfl ?_; apply wl_take; exact rfl; exact rfl; exact rfl; refine bF ?_; (with_reducible exact nne); refine wl_mv rfl rfl ?_; apply wl_take; exact rfl; exact rfl; exact rfl; refine bF ?_; (with_reducible exact nne); apply wl_val; apply opv_fa; exact fa_sC (by decide); exact rfl; exact rfl; apply wl_take; exact rfl; exact rfl; exact rfl; refine bF ?_; (with_reducible exact nne); apply wl_val; apply opv_ldX; exact rfl; assumption; exact c1_by; exact rfl; exact rfl; apply wl_take; exact rfl; exact rfl; exact rfl; refine bF ?_; (with_reducible exact nne)
  refine wl_call ok_caissonref01_Equal (equal_yes (ys := (vaC u).data) rfl o7.rd (hr.below hb) rfl rfl (by simp only [maxLen]; omega)) ⟨rfl, rfl, trivial⟩ rfl ?_; rintro _ _ ⟨rfl, hbx⟩; replace a1 := Ar.bel a1 hbx; replace o4 := OwB.below o4 hbx; replace hb := hb.trans (hbx.mono hb.size); clear hbx
  apply wl_take; exact rfl; exact rfl; exact rfl; refine bF ?_; (with_reducible exact nne); apply wl_val; apply opv_not; exact rfl; exact rfl; apply wl_val; apply opv_pickF; exact rfl; refine bF ?_; (with_reducible exact nne); exact rfl; exact rfl; refine wl_ns ?_; apply wc_condFb; exact rfl; exact Bool.not_true; refine wc_skip ?_; refine we_seq ?_; refine wc_seq ?_; refine wc_seq ?_
  refine wc_cutE (fun L w' => L = [(1, .pointer (some ⟨g, 0, none⟩)), (159, .bool false)] ∧ Ar w' g 53 (ceV (vaC u) A c) ∧ Below w.heap.size w w') ?_ ?_
  · cases u with
    | nil => (refine wc_drawB mixed (by kernel_rfl) ?_; apply wq_val; intro _ hw_; apply opv_move; exact rfl; exact rfl; apply wq_val; intro _ hw_; apply opv_move; exact rfl; exact rfl; apply wq_skip; exact rfl; exact rfl; exact rfl; exact rfl; exact rfl; apply wq_skip; exact rfl; exact rfl; exact rfl; exact rfl; exact rfl; apply wq_skip; exact rfl; exact rfl; exact rfl; exact rfl; exact rfl; apply wq_skip; exact rfl; exact rfl; exact rfl; exact rfl; exact rfl; apply wq_skip; exact rfl; exact rfl; exact rfl; exact rfl; exact rfl; apply wq_val; intro _ hw_; apply opv_pickF; exact rfl; exact rfl; exact rfl; exact rfl; apply wq_val; intro _ hw_; apply opv_move; exact rfl; exact rfl; apply wq_take; exact rfl; exact rfl; exact rfl; exact rfl; apply wq_val; intro _ hw_; apply opv_move; exact rfl; exact rfl; apply wq_take; exact rfl; exact rfl; exact rfl; exact rfl; apply wq_val; intro _ hw_; apply opv_move; exact rfl; exact rfl; apply wq_skip; exact rfl; exact rfl; exact rfl; exact rfl; exact rfl; apply wq_skip; exact rfl; exact rfl; exact rfl; exact rfl; exact rfl; apply wq_skip; exact rfl; exact rfl; exact rfl; exact rfl; exact rfl; apply wq_skip; exact rfl; exact rfl; exact rfl; exact rfl; exact rfl; apply wq_skip; exact rfl; exact rfl; exact rfl; exact rfl; exact rfl; apply wq_take; exact rfl; exact rfl; exact rfl; exact rfl; apply wq_val; intro _ hw_; apply opv_pickF; exact rfl; exact rfl; exact rfl; exact rfl; apply wq_val; intro _ hw_; apply opv_pickF; exact rfl; exact rfl; exact rfl; exact rfl; refine wq_nil fun w1 hw1 => ?_; exact we_cut _ ⟨rfl, a1.bel hw1, hb.trans (hw1.mono hb.size)⟩ ⟨rfl, rfl, trivial⟩)
    | bool t => (refine wc_drawB mixed (by kernel_rfl) ?_; apply wq_val; intro _ hw_; apply opv_move; exact rfl; exact rfl; apply wq_val; intro _ hw_; apply opv_move; exact rfl; exact rfl; apply wq_skip; exact rfl; exact rfl; exact rfl; exact rfl; exact rfl; apply wq_skip; exact rfl; exact rfl; exact rfl; exact rfl; exact rfl; apply wq_skip; exact rfl; exact rfl; exact rfl; exact rfl; exact rfl; apply wq_skip; exact rfl; exact rfl; exact rfl; exact rfl; exact rfl; apply wq_skip; exact rfl; exact rfl; exact rfl; exact rfl; exact rfl; apply wq_val; intro _ hw_; apply opv_pickF; exact rfl; exact rfl; exact rfl; exact rfl; apply wq_val; intro _ hw_; apply opv_move; exact rfl; exact rfl; apply wq_take; exact rfl; exact rfl; exact rfl; exact rfl; apply wq_val; intro _ hw_; apply opv_move; exact rfl; exact rfl; apply wq_take; exact rfl; exact rfl; exact rfl; exact rfl; apply wq_val; intro _ hw_; apply opv_move; exact rfl; exact rfl; apply wq_skip; exact rfl; exact rfl; exact rfl; exact rfl; exact rfl; apply wq_skip; exact rfl; exact rfl; exact rfl; exact rfl; exact rfl; apply wq_skip; exact rfl; exact rfl; exact rfl; exact rfl; exact rfl; apply wq_skip; exact rfl; exact rfl; exact rfl; exact rfl; exact rfl; apply wq_skip; exact rfl; exact rfl; exact rfl; exact rfl; exact rfl; apply wq_take; exact rfl; exact rfl; exact rfl; exact rfl; apply wq_val; intro _ hw_; apply opv_pickF; exact rfl; exact rfl; exact rfl; exact rfl; apply wq_val; intro _ hw_; apply opv_pickF; exact rfl; exact rfl; exact rfl; exact rfl; refine wq_nil fun w1 hw1 => ?_; exact we_cut _ ⟨rfl, a1.bel hw1, hb.trans (hw1.mono hb.size)⟩ ⟨rfl, rfl, trivial⟩)
    | int n =>
      refine wc_drawB mixed (by kernel_rfl) ?_
      apply wq_val; intro _ hw_; apply opv_move; exact rfl; exact rfl; apply wq_val; intro _ hw_; apply opv_move; exact rfl; exact rfl; apply wq_take; exact rfl; exact rfl; exact rfl; refine bT ?_; exact rfl; apply wq_val; intro _ hw_; apply opv_move; exact rfl; exact rfl; apply wq_take; exact rfl; exact rfl; exact rfl; refine bT ?_; exact rfl
      refine wq_call ok_cell_MustInt (fun w' hw => (mustInt_any (n := n)).mono (fun v w2 h => ⟨h.1, h.2 ▸ hw⟩)) ⟨rfl, trivial⟩ rfl ?_
      apply wq_take; exact rfl; exact rfl; exact rfl; refine bT ?_; exact rfl; apply wq_val; intro _ hw_; apply opv_fa; exact fa_sC (by decide); exact rfl; exact rfl; apply wq_take; exact rfl; exact rfl; exact rfl; refine bT ?_; exact rfl; apply wq_val; intro _ hw_; apply opv_ldX; exact rfl; exact Ar.bel (by assumption) hw_; exact c1_i64; exact rfl; exact rfl; apply wq_take; exact rfl; exact rfl; exact rfl; refine bT ?_; exact rfl; apply wq_val; intro _ hw_; apply opv_bin; exact rfl; exact rfl; exact bin_neq; exact rfl; apply wq_val; intro _ hw_; apply opv_pickT; exact rfl; refine bT ?_; exact rfl; exact rfl; exact rfl; apply wq_val; intro _ hw_; apply opv_move; exact rfl; exact rfl; apply wq_take; exact rfl; exact rfl; exact rfl; exact bF nne; apply wq_val; intro _ hw_; apply opv_move; exact rfl; exact rfl; apply wq_take; exact rfl; exact rfl; exact rfl; exact bF nne; apply wq_val; intro _ hw_; apply opv_move; exact rfl; exact rfl; apply wq_skip; exact rfl; exact rfl; exact rfl; exact rfl; exact rfl; apply wq_skip; exact rfl; exact rfl; exact rfl; exact rfl; exact rfl; apply wq_skip; exact rfl; exact rfl; exact rfl; exact rfl; exact rfl; apply wq_skip; exact rfl; exact rfl; exact rfl; exact rfl; exact rfl; apply wq_skip; exact rfl; exact rfl; exact rfl; exact rfl; exact rfl; apply wq_take; exact rfl; exact rfl; exact rfl; exact bF nne; apply wq_val; intro _ hw_; apply opv_pickF; exact rfl; exact rfl; exact rfl; exact rfl; apply wq_val; intro _ hw_; apply opv_pickF; exact rfl; exact bF nne; exact rfl; exact rfl; refine wq_nil fun w1 hw1 => ?_
      exact we_cut _ ⟨rfl, a1.bel hw1, hb.trans (hw1.mono hb.size)⟩ ⟨rfl, rfl, trivial⟩
    | text s =>
      refine wc_drawB mixed (by kernel_rfl) ?_
      apply wq_val; intro _ hw_; apply opv_move; exact rfl; exact rfl; apply wq_val; intro _ hw_; apply opv_move; exact rfl; exact rfl; apply wq_skip; exact rfl; exact rfl; exact rfl; exact rfl; exact rfl; apply wq_skip; exact rfl; exact rfl; exact rfl; exact rfl; exact rfl; apply wq_skip; exact rfl; exact rfl; exact rfl; exact rfl; exact rfl; apply wq_skip; exact rfl; exact rfl; exact rfl; exact rfl; exact rfl; apply wq_skip; exact rfl; exact rfl; exact rfl; exact rfl; exact rfl; apply wq_val; intro _ hw_; apply opv_pickF; exact rfl; exact rfl; exact rfl; exact rfl; apply wq_val; intro _ hw_; apply opv_move; exact rfl; exact rfl; apply wq_take; exact rfl; exact rfl; exact rfl; exact rfl; apply wq_val; intro _ hw_; apply opv_move; exact rfl; exact rfl; apply wq_take; exact rfl; exact rfl; exact rfl; exact rfl; apply wq_val; intro _ hw_; apply opv_move; exact rfl; exact rfl; apply wq_take; exact rfl; exact rfl; exact rfl; refine bT ?_; exact rfl; apply wq_val; intro _ hw_; apply opv_move; exact rfl; exact rfl; apply wq_take; exact rfl; exact rfl; exact rfl; refine bT ?_; exact rfl
      refine wq_call ok_cell_MustText (fun w' hw => (mustText_any (s := s)).mono (fun v w2 h => ⟨h.1, h.2 ▸ hw⟩)) ⟨rfl, trivial⟩ rfl ?_
      apply wq_take; exact rfl; exact rfl; exact rfl; refine bT ?_; exact rfl; apply wq_val; intro _ hw_; apply opv_fa; exact fa_sC (by decide); exact rfl; exact rfl; apply wq_take; exact rfl; exact rfl; exact rfl; refine bT ?_; exact rfl; apply wq_val; intro _ hw_; apply opv_ldX; exact rfl; exact Ar.bel (by assumption) hw_; exact c1_str; exact rfl; exact rfl; apply wq_take; exact rfl; exact rfl; exact rfl; refine bT ?_; exact rfl; apply wq_val; intro _ hw_; apply opv_bin; exact rfl; exact rfl; exact bin_neqS; exact rfl; apply wq_take; exact rfl; exact rfl; exact rfl; exact rfl; apply wq_val; intro _ hw_; apply opv_pickT; exact rfl; refine bT ?_; exact rfl; exact rfl; exact rfl; apply wq_val; intro _ hw_; apply opv_pickF; exact rfl; exact rfl; exact rfl; exact rfl; refine wq_nil fun w1 hw1 => ?_
      exact we_cut _ ⟨rfl, a1.bel hw1, hb.trans (hw1.mono hb.size)⟩ ⟨rfl, by simp [lookT, vaC], trivial⟩
    | bytes t => (refine wc_drawB mixed (by kernel_rfl) ?_; apply wq_val; intro _ hw_; apply opv_move; exact rfl; exact rfl; apply wq_val; intro _ hw_; apply opv_move; exact rfl; exact rfl; apply wq_skip; exact rfl; exact rfl; exact rfl; exact rfl; exact rfl; apply wq_skip; exact rfl; exact rfl; exact rfl; exact rfl; exact rfl; apply wq_skip; exact rfl; exact rfl; exact rfl; exact rfl; exact rfl; apply wq_skip; exact rfl; exact rfl; exact rfl; exact rfl; exact rfl; apply wq_skip; exact rfl; exact rfl; exact rfl; exact rfl; exact rfl; apply wq_val; intro _ hw_; apply opv_pickF; exact rfl; exact rfl; exact rfl; exact rfl; apply wq_val; intro _ hw_; apply opv_move; exact rfl; exact rfl; apply wq_take; exact rfl; exact rfl; exact rfl; exact rfl; apply wq_val; intro _ hw_; apply opv_move; exact rfl; exact rfl; apply wq_take; exact rfl; exact rfl; exact rfl; exact rfl; apply wq_val; intro _ hw_; apply opv_move; exact rfl; exact rfl; apply wq_skip; exact rfl; exact rfl; exact rfl; exact rfl; exact rfl; apply wq_skip; exact rfl; exact rfl; exact rfl; exact rfl; exact rfl; apply wq_skip; exact rfl; exact rfl; exact rfl; exact rfl; exact rfl; apply wq_skip; exact rfl; exact rfl; exact rfl; exact rfl; exact rfl; apply wq_skip; exact rfl; exact rfl; exact rfl; exact rfl; exact rfl; apply wq_take; exact rfl; exact rfl; exact rfl; exact rfl; apply wq_val; intro _ hw_; apply opv_pickF; exact rfl; exact rfl; exact rfl; exact rfl; apply wq_val; intro _ hw_; apply opv_pickF; exact rfl; exact rfl; exact rfl; exact rfl; refine wq_nil fun w1 hw1 => ?_; exact we_cut _ ⟨rfl, a1.bel hw1, hb.trans (hw1.mono hb.size)⟩ ⟨rfl, rfl, trivial⟩)
  · clear hb a1 o4 o5 o7 a6
    rintro _ w9 ⟨rfl, a1, hb⟩
    unfold ceV at a1
    refine we_seq ?_; apply wc_condFb; exact rfl; exact rfl; refine wc_skip ?_; refine we_seq ?_; refine wc_sr ?_; apply wl_val; apply opv_fa; exact fa_sC (by decide); exact rfl; exact rfl; apply wl_val; apply opv_ldX; exact rfl; assumption; exact c1_int; exact rfl; exact rfl; apply wl_val; apply opv_mkI; kernel_rfl; exact rfl; exact rfl
    refine wl_call ok_cell_Cell (cell_other (by decide) (by decide) (by decide) (by decide)) ⟨rfl, trivial⟩ rfl ?_; rintro _ _ ⟨rfl, hbx⟩; replace a1 := Ar.bel a1 hbx; replace hb := hb.trans (hbx.mono hb.size); clear hbx
    refine wl_mv rfl rfl ?_; apply wl_val; apply opv_extract; exact rfl; exact rfl; exact rfl; apply wl_val; apply opv_extract; exact rfl; exact rfl; exact rfl; refine wl_as rfl rfl ?_; refine wl_ns ?_; refine wc_sr ?_; apply wl_val; apply opv_fa; exact fa_sC (by decide); exact rfl; exact rfl; apply wl_val; apply opv_ldX; exact rfl; assumption; exact c1_str; exact rfl; exact rfl
    refine wl_bs (vs := [str (vaC u).text]) tyS ⟨rfl, rfl, rfl, trivial⟩ rfl (by decide) rfl fun _ _ _ hbx _ => ?_
    replace a1 := Ar.bel a1 hbx
    replace hb := hb.trans (hbx.mono hb.size)
    clear hbx
    apply wl_val; apply opv_mkI; kernel_rfl; exact rfl; exact rfl
    refine wl_call ok_cell_Kind (kind_other (by decide) (by decide) (by decide) (by decide)) ⟨rfl, trivial⟩ rfl ?_; rintro _ _ ⟨rfl, hbx⟩; replace a1 := Ar.bel a1 hbx; replace hb := hb.trans (hbx.mono hb.size); clear hbx
    refine wl_mv rfl rfl ?_; apply wl_val; apply opv_extract; exact rfl; exact rfl; exact rfl; apply wl_val; apply opv_extract; exact rfl; exact rfl; exact rfl; refine wl_as rfl rfl ?_; refine wl_ns ?_; refine wc_sr ?_; refine wl_mv rfl rfl ?_; refine wl_bin rfl rfl bin_eql rfl ?_; refine wl_mv rfl rfl ?_; apply wl_take; exact rfl; exact rfl; exact rfl; refine bT ?_; (with_reducible rfl); refine wl_mv rfl rfl ?_; apply wl_take; exact rfl; exact rfl; exact rfl; refine bT ?_; (with_reducible rfl); refine wl_bin rfl rfl bin_eql rfl ?_; apply wl_val; apply opv_pickT; exact rfl; refine bT ?_; (with_reducible rfl); exact rfl; exact rfl; refine wl_as rfl rfl ?_; refine wl_ns ?_; refine wc_ret ?_
    exact we_ret1 rfl rfl ⟨_, rfl, rfl, hb⟩
end Go.Proofs.Ytcjiecclmepboaa


/-
  How the arguments of a law are read: bytes, and lists of bytes; what a bound on all that is read gives.
-/
namespace Go.Proofs.Ytcjiecclmepboaa
open Go.RowKit Go.ChangeShapes Go.WideShapes Go.ChangeAt

theorem own : ownKnob Try.prog.godebug = none := by kernel_rfl
theorem laidOut : laidOutB Try.prog = true := by kernel_rfl

theorem bulk_one {H : Type} (d : DataW H) : 1 ≤ Rows.uptoBulk d := by
  cases d with
  | lit l => cases l <;> simp [Rows.uptoBulk]
  | nil => simp [Rows.uptoBulk]
  | ptr d => simp [Rows.uptoBulk]
  | slice elems spare => simp [Rows.uptoBulk]
  | agg parts => simp [Rows.uptoBulk]
  | iface t d => simp [Rows.uptoBulk]
  | map entries => simp [Rows.uptoBulk]
  | held h => simp [Rows.uptoBulk]
theorem bulk_len {H : Type} (l : List (DataW H)) : l.length ≤ Rows.uptoBulkAll l := by
  induction l with
  | nil => simp [Rows.uptoBulkAll]
  | cons x r ih => have := bulk_one x; simp only [Rows.uptoBulkAll, List.length_cons]; omega

section
variable {H : Type} {enc : TypeId × Value → H} {W : World} {a0 : Option Addr} {len0 cap0 : Nat} {d0 : DataW H} {p0 : List MemPlace}

theorem bytes_of {w : World} {x : Addr} {zs : List Int} {n : Nat} (hn : n ≤ zs.length) (hcell : ∀ i, i < zs.length → w.cell? (x.add i) = some (.int .u8 (zs.getD i 0))) (hw : ∀ z ∈ zs, (Lit.int .u8 z).wf = true) :
    ∃ xs : List UInt8, xs.length = n ∧ RdB w (some x) xs := by
  refine ⟨(zs.take n).map fun z => UInt8.ofNat z.toNat, by simp; omega, by simp [bvs], fun h0 => ?_⟩
  have hpos : 0 < zs.length := by simp at h0; omega
  obtain ⟨b, o, spot⟩ := x
  have hc := hcell 0 hpos
  have hspot : spot = none := by simpa [Addr.add] using World.cell?_spot hc
  subst hspot
  refine ⟨b, o, rfl, World.block_lt_of_cell? w _ (by simpa [Addr.add] using hc), fun j u hu => ?_⟩
  simp only [bvs, List.map_map, List.getElem?_map, List.getElem?_take] at hu
  by_cases hj : j < n
  · rw [if_pos hj] at hu
    have hjz : j < zs.length := by omega
    rw [List.getElem?_eq_getElem hjz] at hu
    simp only [Option.map_some, Option.some.injEq, Function.comp_apply] at hu
    have h1 := hcell j hjz
    rw [Addr.add_lit] at h1
    rw [h1, ← hu]
    have hz := hw zs[j] (List.getElem_mem hjz)
    have hb : 0 ≤ zs[j] ∧ zs[j] ≤ 255 := by simpa [Lit.wf, IntKind.min, IntKind.max, IntKind.signed, IntKind.bits] using hz
    have e : zs.getD j 0 = zs[j] := by simp [List.getD, List.getElem?_eq_getElem hjz]
    have e2 : zs[j].toNat % 256 = zs[j].toNat := Nat.mod_eq_of_lt (by omega)
    rw [e]
    simp [bv, e2]
    omega
  · rw [if_neg hj] at hu; cases hu

theorem arg_bytes (h0 : DataW.Trod enc Try.prog W 0 (fun _ => true) true 30 (.slice a0 len0 cap0) d0 p0) :
    ∃ xs : List UInt8, xs.length = len0 ∧ RdB W a0 xs ∧ len0 ≤ cap0 ∧ cap0 ≤ maxLen ∧ len0 + 1 ≤ Rows.uptoBulk d0 ∧ ((d0 = .nil ∧ cap0 = 0) ∨ ∃ e s, d0 = .slice e s ∧ e.length + s.length = cap0) := by
  obtain ⟨fuel, hf⟩ := h0
  rcases open_ints Try.underlying30 Try.underlying5 (by kernel_rfl) hf with ⟨hcs, hx⟩ | ⟨x, l, c, zs, hcs, _, hl, hm, hz, hx, hcell, hwz⟩
  · simp [Value.cells] at hcs
    obtain ⟨rfl, rfl, rfl⟩ := hcs
    injection hx with hd _
    subst hd
    exact ⟨[], rfl, Rd.nil _ _, by omega, by simp [maxLen], by simp [Rows.uptoBulk], .inl ⟨rfl, rfl⟩⟩
  · simp [Value.cells] at hcs
    obtain ⟨rfl, rfl, rfl⟩ := hcs
    injection hx with hd _
    have hz' : zs.length = cap0 := by simpa using hz
    obtain ⟨xs, h1, h2⟩ := bytes_of (n := len0) (by omega) hcell hwz
    have h3 := bulk_len (H := H) (lits .u8 (zs.take len0))
    refine ⟨xs, h1, h2, hl, hm, ?_, .inr ⟨_, _, hd, by simp [lits]; omega⟩⟩
    rw [hd]
    simp only [Rows.uptoBulk]
    simp [lits] at h3 ⊢
    omega
end
end Go.Proofs.Ytcjiecclmepboaa


/-
  How arguments of any type are read: a reading of a type as data, for numbers, texts, bytes, slices of what can be read; structs are opened field by field.
-/
namespace Go.Proofs.Ytcjiecclmepboaa
open Go.RowKit Go.ChangeShapes Go.WideShapes Go.ChangeAt Go.Deep

/-- A cell that holds a row of elements. -/
def rowEl (k : Nat) (els : List El) : El where
  P w S cs := ∃ (A : Option Addr) (c : Nat), cs = [.slice A els.length c] ∧ els.length ≤ c ∧ RdR k w S A els ∧ 0 < k
  move := by rintro w w' S S' cs ⟨A, c, h, hc, hb, hk⟩ hz hm; exact ⟨A, c, h, hc, RdR.move hk hb hz hm, hk⟩
theorem rowEl.rd {k : Nat} {els : List El} {w : World} {S : Nat → Prop} {A : Option Addr} {n c : Nat} (h : (rowEl k els).P w S [.slice A n c]) : els.length = n ∧ n ≤ c ∧ RdR k w S A els := by
  obtain ⟨A', c', h1, h2, h3, _⟩ := h
  simp only [List.cons.injEq, Value.slice.injEq, and_true] at h1
  obtain ⟨rfl, rfl, rfl⟩ := h1
  exact ⟨rfl, h2, h3⟩
theorem rowEl.mk {k : Nat} {els : List El} {w : World} {S : Nat → Prop} {A : Option Addr} {c : Nat} (h : RdR k w S A els) (hc : els.length ≤ c) (hk : 0 < k) : (rowEl k els).P w S [.slice A els.length c] := ⟨A, c, rfl, hc, h, hk⟩

/-- What stands at type t is read as some a, in k cells; its bulk; what is known of a. -/
def Opens (P : Program) (t : TypeId) {α : Type} (R : α → El) (k : Nat) (bulk : α → Nat) (ok : α → Prop) : Prop :=
  ∀ {H : Type} (enc : TypeId × Value → H) (W : World) (fuel : Nat) (cs : List Value) (x : DataW H × List MemPlace), DataW.trod enc P W 0 (fun _ => true) true fuel t cs = some x →
    ∃ a, (R a).P W All cs ∧ cs.length = k ∧ ok a ∧ bulk a + 1 ≤ Rows.uptoBulk x.1
section
variable {P : Program} {t e : TypeId} {α : Type} {R : α → El} {k : Nat} {bulk : α → Nat} {ok : α → Prop}
theorem opens_int {ik : IntKind} (ht : P.underlying t = some (.int ik)) : Opens P t (fun n : Int => vEl (.int ik n)) 1 (fun _ => 0) (fun n => (Lit.int ik n).wf = true) := fun enc W fuel cs x h => by
  obtain ⟨n, rfl, rfl, hw⟩ := DataW.trod_int ht h
  exact ⟨n, rfl, rfl, hw, by simp [Rows.uptoBulk]⟩
theorem opens_bool (ht : P.underlying t = some .bool) : Opens P t (fun b : Bool => vEl (.bool b)) 1 (fun _ => 0) (fun _ => True) := fun enc W fuel cs x h => by
  obtain ⟨n, rfl, rfl⟩ := DataW.trod_bool ht h
  exact ⟨n, rfl, rfl, trivial, by simp [Rows.uptoBulk]⟩
theorem opens_str (ht : P.underlying t = some .string) : Opens P t (fun s : List UInt8 => vEl (str s)) 1 (fun s => s.length) (fun _ => True) := fun enc W fuel cs x h => by
  obtain ⟨s, rfl, rfl, _⟩ := DataW.trod_string ht h
  obtain ⟨l, rfl⟩ := str_of s
  exact ⟨l, rfl, rfl, trivial, by simp [Rows.uptoBulk]⟩
def sumB (bulk : α → Nat) (l : List α) : Nat := (l.map fun a => bulk a + 1).sum
theorem sumB_cons (a : α) (l : List α) : sumB bulk (a :: l) = bulk a + 1 + sumB bulk l := by simp [sumB]
theorem sumB_mem {l : List α} {a : α} (h : a ∈ l) : bulk a + 1 ≤ sumB bulk l := by
  induction l with
  | nil => cases h
  | cons x l ih =>
    rw [sumB_cons]
    rcases List.mem_cons.1 h with rfl | h
    · omega
    · have := ih h; omega
theorem sumB_len (l : List α) : l.length ≤ sumB bulk l := by
  induction l with
  | nil => simp
  | cons x l ih => rw [sumB_cons]; simp only [List.length_cons]; omega
theorem opens_slice {z : Value} {bytes : Nat} (T : RowK P t e k z bytes) (hC : P.cellsOf e = k) (he : Opens P e R k bulk ok) :
    Opens P t (fun l : List α => rowEl k (l.map R)) 1 (sumB bulk) (fun l => (∀ a ∈ l, ok a)) := fun {H} enc W fuel cs x h => by
  rcases open_slice T.sl h with ⟨rfl, rfl⟩ | ⟨a, len, cap, m, n, D, Pl, rfl, hb, hl, hm, hmm, rfl, hi⟩
  · exact ⟨[], ⟨none, 0, rfl, by simp, RdR.nil _, T.pos⟩, rfl, by simp, by simp [sumB, Rows.uptoBulk]⟩
  · have hmc : m = cap := by simpa using hmm
    subst hmc
    rw [hC] at hi
    have each : ∀ i, i < m → ∃ (v : α) (cs' : List Value), (R v).P W All cs' ∧ cs'.length = k ∧ ok v ∧ bulk v + 1 ≤ Rows.uptoBulk (D i) ∧ ∀ j u, cs'[j]? = some u → W.cell? (a.add (i * k + j)) = some u := by
      intro i him
      obtain ⟨cs', hc, ht'⟩ := hi i him
      obtain ⟨v, h1, h2, h3, h4⟩ := he enc W n cs' _ ht'
      obtain ⟨_, hcl, hat⟩ := World.cells?_some hc
      refine ⟨v, cs', h1, h2, h3, h4, fun j u hu => ?_⟩
      have hj : j < k := by have := (List.getElem?_eq_some_iff.1 hu).1; omega
      rw [← Go.Deep.add_add, hat j hj, hu]
    have hch : ∃ (V : Nat → Option α) (C : Nat → List Value), ∀ i, i < m → ∃ v, V i = some v ∧ (R v).P W All (C i) ∧ (C i).length = k ∧ ok v ∧ bulk v + 1 ≤ Rows.uptoBulk (D i) ∧ ∀ j u, (C i)[j]? = some u → W.cell? (a.add (i * k + j)) = some u :=
      ⟨fun i => if h : i < m then some (Classical.choose (each i h)) else none, fun i => if h : i < m then Classical.choose (Classical.choose_spec (each i h)) else [], fun i him => ⟨Classical.choose (each i him), by simp only [dif_pos him], by simp only [dif_pos him]; exact Classical.choose_spec (Classical.choose_spec (each i him))⟩⟩
    obtain ⟨V, C, hV⟩ := hch
    have build : ∀ q, q ≤ m → ∃ l : List α, l.length = q ∧ (∀ i, i < q → l[i]? = V i) ∧ (∀ v ∈ l, ok v) ∧ sumB bulk l ≤ Rows.uptoBulkAll ((List.range q).map D) := by
      intro q
      induction q with
      | zero => intro _; exact ⟨[], rfl, by simp, by simp, by simp [sumB]⟩
      | succ q ih =>
        intro hq
        obtain ⟨l, h1, h2, h3, h4⟩ := ih (by omega)
        obtain ⟨v, hv, _, _, hok, hbk, _⟩ := hV q (by omega)
        refine ⟨l ++ [v], by simp [h1], fun i hi => ?_, fun u hu => ?_, ?_⟩
        · by_cases hiq : i < q
          · rw [List.getElem?_append_left (by omega)]; exact h2 i hiq
          · obtain rfl : i = q := by omega
            rw [← h1, List.getElem?_concat_length, h1, hv]
        · rcases List.mem_append.1 hu with hu | hu
          · exact h3 u hu
          · simp at hu; subst hu; exact hok
        · have e1 : ∀ (l : List α) (v : α), sumB bulk (l ++ [v]) = sumB bulk l + (bulk v + 1) := fun l v => by simp [sumB]
          have e2 : ∀ (l : List (DataW H)) (d : DataW H), Rows.uptoBulkAll (l ++ [d]) = Rows.uptoBulkAll l + Rows.uptoBulk d := by
            intro l d
            induction l with
            | nil => simp [Rows.uptoBulkAll]
            | cons x l ih => simp only [List.cons_append, Rows.uptoBulkAll, ih]; omega
          rw [e1, List.range_succ, List.map_append, List.map_cons, List.map_nil, e2]; omega
    obtain ⟨l, hlen, hget, hok, hsum⟩ := build len hl
    subst hlen
    refine ⟨l, ⟨some a, m, by simp, by simpa using hl, ⟨(List.range l.length).map C, ⟨by simp, fun i cs hi' => ?_⟩, ?_, fun _ _ _ => trivial⟩, T.pos⟩, rfl, hok, ?_⟩
    · rw [List.getElem?_map] at hi'
      by_cases hil : i < l.length
      · rw [List.getElem?_range hil] at hi'
        simp only [Option.map_some, Option.some.injEq] at hi'
        subst hi'
        obtain ⟨v, hv, hp, hk, _⟩ := hV i (by omega)
        refine ⟨hk, R v, ?_, hp⟩
        rw [List.getElem?_map, hget i hil, hv]; rfl
      · rw [List.getElem?_eq_none (by simp; omega)] at hi'; simp at hi'
    · have hks : ∀ cs ∈ (List.range l.length).map C, cs.length = k := by
        intro cs hcs
        obtain ⟨i, hi', rfl⟩ := List.mem_map.1 hcs
        obtain ⟨v, _, _, hk, _⟩ := hV i (by have := List.mem_range.1 hi'; omega)
        exact hk
      have hfl : ((List.range l.length).map C).flatten.length = l.length * k := by
        rw [List.length_flatten]
        have : ((List.range l.length).map C).map List.length = List.replicate l.length k := by
          apply List.ext_getElem?
          intro i
          rw [List.getElem?_map, List.getElem?_map, List.getElem?_replicate]
          by_cases hil : i < l.length
          · rw [List.getElem?_range hil, if_pos hil]
            simp only [Option.map_some]
            rw [hks _ (List.mem_map.2 ⟨i, List.mem_range.2 hil, rfl⟩)]
          · rw [if_neg hil, List.getElem?_eq_none (by simp; omega)]; rfl
        rw [this]; simp
      refine ⟨by simpa using hfl, fun hpos => ?_⟩
      simp only [List.length_map] at hpos
      have hk0 := T.pos
      have hl0 : 0 < l.length := by
        rcases Nat.eq_zero_or_pos l.length with h0 | h0
        · rw [h0] at hpos; simp at hpos
        · exact h0
      obtain ⟨b, o, spot⟩ := a
      obtain ⟨v0, _, _, hk0', _, _, hc0⟩ := hV 0 (by omega)
      obtain ⟨u0, hu0⟩ : ∃ u, (C 0)[0]? = some u := ⟨_, List.getElem?_eq_getElem (by omega)⟩
      have hc00 := hc0 0 u0 hu0
      have hspot : spot = none := by simpa [Addr.add] using World.cell?_spot hc00
      subst hspot
      refine ⟨b, o, rfl, World.block_lt_of_cell? W _ (by simpa [Addr.add] using hc00), fun j u hu => ?_⟩
      have hjl : j < l.length * k := by rw [← hfl]; exact (List.getElem?_eq_some_iff.1 hu).1
      have hi0 : j / k < l.length := (Nat.div_lt_iff_lt_mul hk0).2 hjl
      have hjk : j % k < k := Nat.mod_lt _ hk0
      obtain ⟨v, hv, _, hk', _, _, hc⟩ := hV (j / k) (by omega)
      obtain ⟨u', hu'⟩ : ∃ u', (C (j / k))[j % k]? = some u' := ⟨_, List.getElem?_eq_getElem (by omega)⟩
      have hf := flat_get hks (i := j / k) (j := j % k) (by rw [List.getElem?_map, List.getElem?_range hi0]; rfl) hu'
      rw [Nat.div_add_mod'] at hf
      rw [hu] at hf
      cases hf
      have := hc _ u hu'
      rw [Nat.div_add_mod', Addr.add_lit] at this
      exact this
    · simp only [Rows.uptoBulk]; omega
theorem len1 {α : Type _} {l : List α} (h : l.length = 1) : ∃ a0, l = [a0] := match l, h with | [a0], _ => ⟨a0, rfl⟩
theorem len2 {α : Type _} {l : List α} (h : l.length = 2) : ∃ a0 a1, l = [a0, a1] := match l, h with | [a0, a1], _ => ⟨a0, a1, rfl⟩
theorem len3 {α : Type _} {l : List α} (h : l.length = 3) : ∃ a0 a1 a2, l = [a0, a1, a2] := match l, h with | [a0, a1, a2], _ => ⟨a0, a1, a2, rfl⟩
theorem len4 {α : Type _} {l : List α} (h : l.length = 4) : ∃ a0 a1 a2 a3, l = [a0, a1, a2, a3] := match l, h with | [a0, a1, a2, a3], _ => ⟨a0, a1, a2, a3, rfl⟩
theorem len5 {α : Type _} {l : List α} (h : l.length = 5) : ∃ a0 a1 a2 a3 a4, l = [a0, a1, a2, a3, a4] := match l, h with | [a0, a1, a2, a3, a4], _ => ⟨a0, a1, a2, a3, a4, rfl⟩
theorem len6 {α : Type _} {l : List α} (h : l.length = 6) : ∃ a0 a1 a2 a3 a4 a5, l = [a0, a1, a2, a3, a4, a5] := match l, h with | [a0, a1, a2, a3, a4, a5], _ => ⟨a0, a1, a2, a3, a4, a5, rfl⟩
theorem len7 {α : Type _} {l : List α} (h : l.length = 7) : ∃ a0 a1 a2 a3 a4 a5 a6, l = [a0, a1, a2, a3, a4, a5, a6] := match l, h with | [a0, a1, a2, a3, a4, a5, a6], _ => ⟨a0, a1, a2, a3, a4, a5, a6, rfl⟩
theorem len8 {α : Type _} {l : List α} (h : l.length = 8) : ∃ a0 a1 a2 a3 a4 a5 a6 a7, l = [a0, a1, a2, a3, a4, a5, a6, a7] := match l, h with | [a0, a1, a2, a3, a4, a5, a6, a7], _ => ⟨a0, a1, a2, a3, a4, a5, a6, a7, rfl⟩
theorem field_at {H : Type} {enc : TypeId × Value → H} {w : World} {base : Nat} {spare : Nat → Bool} {held : Bool} {n : Nat} {fs : Array Field} {cs : List Value} {xs : List (DataW H × List MemPlace)}
    (hf : ∀ (i : Nat) (f : Field), fs[i]? = some f → DataW.trod enc P w base spare held n f.type ((cs.drop f.offset).take (P.cellsOf f.type)) = xs[i]?) {i off k : Nat} {f : Field} {t : TypeId}
    (hi : fs[i]? = some f) (ht : f.type = t) (ho : f.offset = off) (hk : P.cellsOf t = k) : DataW.trod enc P w base spare held n t ((cs.drop off).take k) = xs[i]? := by
  subst ht ho hk; exact hf i f hi
theorem El.P_congr {E E' : El} (h : E = E') {w : World} {S : Nat → Prop} {cs : List Value} (hp : E.P w S cs) : E'.P w S cs := h ▸ hp
end
theorem opens_bytes : Opens Try.prog 30 byEl 1 (fun l => l.length) (fun _ => True) := fun enc W fuel cs x h => by
  have hs : (∃ a len cap, cs = [.slice a len cap]) := by
    rcases open_slice Try.underlying30 h with ⟨rfl, _⟩ | ⟨a, len, cap, m, n, D, Pl, rfl, _⟩
    · exact ⟨_, _, _, rfl⟩
    · exact ⟨_, _, _, rfl⟩
  obtain ⟨a, len, cap, rfl⟩ := hs
  obtain ⟨xs, hl, hr, hc, hm, hb, _⟩ := arg_bytes (enc := enc) (W := W) (a0 := a) (len0 := len) (cap0 := cap) (d0 := x.1) (p0 := x.2) ⟨fuel, by simpa [Value.cells] using h⟩
  subst hl
  exact ⟨xs, byEl.mk hr hc fun _ _ _ => trivial, rfl, trivial, hb⟩
end Go.Proofs.Ytcjiecclmepboaa


/-
  How an argument that is a cell, or a list of cells, is read; CellValues at what is read.
-/
namespace Go.Proofs.Ytcjiecclmepboaa
open Go.RowKit Go.ChangeShapes Go.WideShapes Go.ChangeAt Go.Deep

/-- The texts and bytes of a cell, counted. -/
def ceB (x : Ce) : Nat := x.text.length + x.data.length
structure CeOk (x : Ce) : Prop where
  kind : -9223372036854775808 ≤ x.kind ∧ x.kind ≤ 9223372036854775807
  num : -9223372036854775808 ≤ x.num ∧ x.num ≤ 9223372036854775807
theorem opens_cell : Opens Try.prog 53 ceEl 5 ceB CeOk := fun {H} enc W fuel cs x h => by
  obtain ⟨xs, n, rfl, rfl, hl, hx, hf⟩ := DataW.trod_struct Try.underlying53 h
  replace hl : cs.length = 5 := hl.trans (by kernel_rfl)
  obtain ⟨c0, c1, c2, c3, c4, rfl⟩ := len5 hl
  obtain ⟨y0, y1, y2, y3, y4, rfl⟩ := len5 hx
  obtain ⟨a0, h0, _, k0, b0⟩ := opens_int Try.underlying3 enc W n [c0] y0 (field_at hf (i := 0) (off := 0) (k := 1) (t := 3) rfl rfl rfl (by kernel_rfl))
  obtain ⟨a1, h1, _, k1, b1⟩ := opens_bool Try.underlying4 enc W n [c1] y1 (field_at hf (i := 1) (off := 1) (k := 1) (t := 4) rfl rfl rfl (by kernel_rfl))
  obtain ⟨a2, h2, _, k2, b2⟩ := opens_int Try.underlying2 enc W n [c2] y2 (field_at hf (i := 2) (off := 2) (k := 1) (t := 2) rfl rfl rfl (by kernel_rfl))
  obtain ⟨a3, h3, _, k3, b3⟩ := opens_str Try.underlying9 enc W n [c3] y3 (field_at hf (i := 3) (off := 3) (k := 1) (t := 9) rfl rfl rfl (by kernel_rfl))
  obtain ⟨a4, h4, _, k4, b4⟩ := opens_bytes enc W n [c4] y4 (field_at hf (i := 4) (off := 4) (k := 1) (t := 30) rfl rfl rfl (by kernel_rfl))
  obtain rfl : c0 = .int .i64 a0 := by simpa [vEl] using h0
  obtain rfl : c1 = .bool a1 := by simpa [vEl] using h1
  obtain rfl : c2 = .int .i64 a2 := by simpa [vEl] using h2
  obtain rfl : c3 = str a3 := by simpa [vEl] using h3
  have h4' := h4
  obtain ⟨A, c, e4, _⟩ := h4
  obtain rfl : c4 = .slice A a4.length c := by simpa using e4
  refine ⟨⟨a0, a1, a2, a3, a4⟩, ⟨A, c, rfl, h4'⟩, rfl, ⟨by simpa [Lit.wf, IntKind.min, IntKind.max, IntKind.signed, IntKind.bits] using k0, by simpa [Lit.wf, IntKind.min, IntKind.max, IntKind.signed, IntKind.bits] using k2⟩, ?_⟩
  replace b3 : a3.length + 1 ≤ _ := b3
  replace b4 : a4.length + 1 ≤ _ := b4
  simp only [ceB, Rows.uptoBulk, Rows.uptoBulkAll, List.map_cons, List.map_nil]
  omega
theorem opens_cells : Opens Try.prog 46 (fun l : List Ce => rowEl 5 (l.map ceEl)) 1 (sumB ceB) (fun l => ∀ x ∈ l, CeOk x) := opens_slice tkC (by kernel_rfl) opens_cell
theorem cellValues_op {x : Ce} {cs : Array Value} {w : World} (hr : (ceEl x).P w All cs.toList) (hok : CeOk x) (hl : ceB x ≤ 1048576) :
    CallsV Try.prog 8 #[.agg cs] w (RetTr w) := by
  obtain ⟨A, c, hcs, hx⟩ := hr
  obtain rfl : cs = (ceV x A c).toArray := by rw [← hcs]
  unfold ceB at hl
  exact cellValues_walk (byEl.rd hx).1 hok.num (by omega)
end Go.Proofs.Ytcjiecclmepboaa


/-
  Walks over the lists of cells in form, of the cells of values, and over the comparison of two lists of cells.
-/
namespace Go.Proofs.Ytcjiecclmepboaa
open Go.RowKit

theorem ceEl.rd {w : World} {S : Nat → Prop} {x : Ce} {cs : List Value} (h : (ceEl x).P w S cs) : ∃ A c, cs = ceV x A c ∧ RdB w A x.data ∧ x.data.length ≤ c := by
  obtain ⟨A, c, h1, h2⟩ := h
  exact ⟨A, c, h1, byEl.rd h2⟩
theorem vaEl.rd {w : World} {S : Nat → Prop} {u : Va} {cs : List Value} (h : (vaEl u).P w S cs) : ∃ A c, cs = [vaV u A c] ∧ RdB w A (vaC u).data ∧ (vaC u).data.length ≤ c := by
  obtain ⟨A, c, h1, h2⟩ := h
  exact ⟨A, c, h1, byEl.rd h2⟩
theorem take_map {α β : Type} {l : List α} {k : Nat} {x : α} (f : α → β) (h : l[k]? = some x) : (l.take (k + 1)).map f = (l.take k).map f ++ [f x] := by rw [take_getR h]; simp
theorem ceV_all (x : Ce) (A : Option Addr) (c : Nat) : ∀ u ∈ [ceV x A c].flatten, u.oneCell' = true := by simp [ceV, Value.oneCell']
theorem vaV_all (u : Va) (A : Option Addr) (c : Nat) : ∀ v ∈ [[vaV u A c]].flatten, v.oneCell' = true := by simp [vaV_one]
def ToldI (w : World) (us : List Va) (A : Option Addr) (c : Nat) : FL → World → Nat → Prop := fun L wr m =>
  ∃ (k : Nat) (P : Option Addr) (cp : Nat), L = [(3, .slice P k cp), (8, .slice A us.length c), (9, .int .i64 (us.length : Int)), (10, .int .i64 (k : Int))] ∧ k ≤ us.length ∧ OwR 5 53 wr w.heap.size All P cp ((us.take k).map fun u => ceEl (vaC u)) ∧ Below w.heap.size w wr ∧ m = us.length - k
theorem told_any {A : Option Addr} {n c : Nat} {us : List Va} {w : World} (hr : RdR 1 w All A (us.map vaEl)) (hn : us.length = n) (hok : ∀ u ∈ us, (vaC u).data.length ≤ 68719476736) (hl2 : us.length ≤ 4294967296) :
    CallsV Try.prog 53 #[.slice A n c] w fun v w' => ∃ (B : Option Addr) (cB : Nat), v = .slice B us.length cB ∧ OwR 5 53 w' w.heap.size All B cB (us.map fun u => ceEl (vaC u)) ∧ Below w.heap.size w w' := by
  subst hn
  refine calls_in (N := _) Try.func53 rfl Try.ntmps53 rfl ?_; show WC _ _ _ _ _ _
  refine wc_sr ?_; refine wl_as rfl rfl ?_; refine wl_ns ?_; refine wc_sr ?_; refine wl_as rfl rfl ?_; refine wl_ns ?_; refine wc_seq ?_; refine wc_sr ?_; refine wl_mv rfl rfl ?_; apply wl_val; apply opv_len; exact rfl; exact tkA.sl; exact rfl; refine wl_mv rfl rfl ?_; refine wl_ns ?_; refine wc_block ?_
  refine wc_loop (ToldI w us A c) [(3, .slice none 0 0), (8, .slice A us.length c), (9, .int .i64 (us.length : Int)), (10, .int .i64 (0 : Nat))] us.length ⟨0, none, 0, rfl, by omega, OwR.nil _ _ _, Below.refl _ _, rfl⟩ ⟨rfl, rfl, rfl, rfl, trivial⟩ ?_
  rintro _ w1 m ⟨k, P, cp, rfl, hk, g1, hb, rfl⟩
  refine wc_sr ?_; refine wl_bin rfl rfl bin_lss rfl ?_; refine wl_ns ?_; refine wc_seq ?_
  refine wc_cond rfl (fun h1 => ?_) (fun h1 => ?_)
  · obtain ⟨u, hu⟩ : ∃ u, us[k]? = some u := ⟨_, List.getElem?_eq_getElem (by omega)⟩
    have hou := hok u (List.mem_of_getElem? hu)
    obtain ⟨b, o, cs, rfl, _, _, hx, hw⟩ := RdR.at (k := 1) (by decide) hr (E := vaEl u) (i := k) (by rw [List.getElem?_map, hu]; rfl)
    obtain ⟨X, cx, rfl, rx, _⟩ := vaEl.rd hx
    have i1 := hw.below hb
    replace rx := rx.below hb
    have hP := fun a ha => (OwR.lt g1 a ha).2
    refine wc_skip ?_; refine we_seq ?_; refine wc_seq ?_; refine wc_block ?_; refine wc_sr ?_; apply wl_val; apply opv_idxG tkA; exact rfl; exact rfl; exact rfl; omega; exact rfl; apply wl_val; apply opv_ldW0; exact rfl; assumption; exact c1_any; exact rfl; exact rfl; refine wl_as rfl rfl ?_; refine wl_ns ?_; refine wc_sr ?_; refine wl_mv rfl rfl ?_
    refine wl_call ok_cell_Cell (cell_any rx (by omega)) ⟨rfl, trivial⟩ rfl ?_; rintro _ _ ⟨B, cB, rfl, o2, hbx⟩; replace g1 := OwR.below g1 hbx; replace hb := hb.trans (hbx.mono hb.size); clear hbx
    refine wl_mv rfl rfl ?_; apply wl_val; apply opv_extract; exact rfl; exact rfl; exact rfl; apply wl_val; apply opv_extract; exact rfl; exact rfl; exact rfl
    refine wl_var (cs := ceV (vaC u) B cB) zeroC sC rfl (fun _ => rfl) (by first | rfl | simp [Value.oneCell'] | simp [ceV, Value.oneCell']) rfl fun g3 _ hg3 a3 hbx => ?_; replace g1 := OwR.below g1 hbx; replace o2 := OwB.below o2 hbx; replace hb := hb.trans (hbx.mono hb.size); clear hbx
    refine wl_as rfl rfl ?_; refine wl_ns ?_; refine wc_region ?_; refine wl_mv rfl rfl ?_; apply wl_val; apply opv_loadX; exact rfl; assumption; exact sC; exact rfl
    refine wl_pushG (css' := [ceV (vaC u) B cB]) (els' := [ceEl (vaC u)]) tkC (fun _ => rfl) g1 ((by simp; omega)) ⟨rfl, ⟨_, rfl, (by first | rfl | exact cells_one (vaV_one _ _ _))⟩, rfl, trivial⟩ (Grp.one (⟨B, cB, rfl, byEl.own o2 fun a ha h1 h2 => ⟨trivial, fun p hp => by have := hP p hp; omega⟩⟩) rfl) rfl (by first | exact ceV_all _ _ _ | exact vaV_all _ _ _ | (simp [Value.oneCell'])) (by decide) (by decide) (by omega) (by simp only [maxLen]; omega) hb.size rfl rfl fun _ _ _ _ hO hG hA => ?_; replace hb := hG.belowR hb g1 (Nat.le_refl _) hb.size; replace g1 := hO; clear hO hG
    refine wl_as rfl rfl ?_; refine wl_nil ?_; refine we_block_norm ?_; refine we_seq ?_; refine wc_region ?_; apply wl_val; apply opv_bin; exact rfl; exact rfl; exact bin_add64 (by omega); exact rfl; refine wl_mv rfl rfl ?_; refine wl_nil ?_
    refine we_loop _ (us.length - (k + 1)) ⟨k + 1, _, _, rfl, by omega, by rw [take_map _ hu]; exact g1, hb, rfl⟩ (by omega) ⟨rfl, rfl, rfl, by simp [lookT], trivial⟩
  · obtain rfl : k = us.length := by omega
    rw [List.take_length] at g1
    refine wc_exit ?_; refine we_seq_exit ?_; refine we_loop_exit ?_; refine we_block_exit ?_; refine we_seq ?_; refine wc_sr ?_; refine wl_mv rfl rfl ?_; refine wl_as rfl rfl ?_; refine wl_ns ?_; refine wc_ret ?_
    exact we_ret1 rfl rfl ⟨_, rfl, P, cp, rfl, g1, hb⟩

/-- The cells in form. -/
def goodL (l : List Ce) : List Ce := l.filter goodC
theorem goodL_take {l : List Ce} {k : Nat} {x : Ce} (h : l[k]? = some x) : goodL (l.take (k + 1)) = goodL (l.take k) ++ if goodC x then [x] else [] := by
  rw [take_getR h, goodL, goodL, List.filter_append]
  cases hg : goodC x <;> simp [hg]
theorem goodL_le (l : List Ce) : (goodL l).length ≤ l.length := List.length_filter_le _ _
def GoodI (w : World) (l : List Ce) (A : Option Addr) (c : Nat) : FL → World → Nat → Prop := fun L wr m =>
  ∃ (k : Nat) (P : Option Addr) (cp : Nat) (D : Option Addr) (cd : Nat), L = [(5, .slice P (goodL (l.take k)).length cp), (6, .slice D (goodL (l.take k)).length cd), (11, .slice A l.length c), (12, .int .i64 (l.length : Int)), (13, .int .i64 (k : Int))] ∧ k ≤ l.length ∧
    OwR 5 53 wr w.heap.size (fun b => b < w.heap.size) P cp ((goodL (l.take k)).map ceEl) ∧ OwR 1 20 wr w.heap.size (But P) D cd ((goodL (l.take k)).map fun x => vaEl (ceVa x)) ∧ Below w.heap.size w wr ∧ m = l.length - k
set_option maxHeartbeats 1000000 in
theorem good_list {A : Option Addr} {n c : Nat} {l : List Ce} {w : World} (hr : RdR 5 w All A (l.map ceEl)) (hn : l.length = n) (hok : ∀ x ∈ l, x.data.length ≤ 68719476736) (hl2 : l.length ≤ 4294967296) :
    CallsV Try.prog 31 #[.slice A n c] w fun v w' => ∃ (P : Option Addr) (cp : Nat) (D : Option Addr) (cd : Nat), v = .tuple #[.slice P (goodL l).length cp, .slice D (goodL l).length cd, .bool true] ∧
      OwR 5 53 w' w.heap.size (fun b => b < w.heap.size) P cp ((goodL l).map ceEl) ∧ OwR 1 20 w' w.heap.size (But P) D cd ((goodL l).map fun x => vaEl (ceVa x)) ∧ Below w.heap.size w w' := by
  subst hn
  refine calls_in (N := _) Try.func31 rfl Try.ntmps31 rfl ?_; show WC _ _ _ _ _ _
  refine wc_sr ?_; refine wl_as rfl rfl ?_; refine wl_as rfl rfl ?_; refine wl_as rfl rfl ?_; refine wl_ns ?_; refine wc_sr ?_; refine wl_as rfl rfl ?_; refine wl_ns ?_; refine wc_sr ?_; refine wl_as rfl rfl ?_; refine wl_ns ?_; refine wc_seq ?_; refine wc_sr ?_; refine wl_mv rfl rfl ?_; apply wl_val; apply opv_len; exact rfl; exact tkC.sl; exact rfl; refine wl_mv rfl rfl ?_; refine wl_ns ?_; refine wc_block ?_
  refine wc_loop (GoodI w l A c) [(5, .slice none 0 0), (6, .slice none 0 0), (11, .slice A l.length c), (12, .int .i64 (l.length : Int)), (13, .int .i64 (0 : Nat))] l.length ⟨0, none, 0, none, 0, rfl, by omega, OwR.nil _ _ _, OwR.nil _ _ _, Below.refl _ _, rfl⟩ ⟨rfl, rfl, rfl, rfl, rfl, trivial⟩ ?_
  rintro _ w1 m ⟨k, P, cp, D, cd, rfl, hk, g1, g2, hb, rfl⟩
  have hle := goodL_le (l.take k)
  rw [List.length_take] at hle
  refine wc_sr ?_; refine wl_bin rfl rfl bin_lss rfl ?_; refine wl_ns ?_; refine wc_seq ?_
  refine wc_cond rfl (fun h1 => ?_) (fun h1 => ?_)
  · obtain ⟨x, hx⟩ : ∃ x, l[k]? = some x := ⟨_, List.getElem?_eq_getElem (by omega)⟩
    have hox := hok x (List.mem_of_getElem? hx)
    have ht := goodL_take hx
    obtain ⟨b, o, cs, rfl, _, _, hp, hw⟩ := RdR.at (k := 5) (by decide) hr (E := ceEl x) (i := k) (by rw [List.getElem?_map, hx]; rfl)
    have hp' := hp
    obtain ⟨X, cx, rfl, rx, _⟩ := ceEl.rd hp
    have i1 := hw.below hb
    have hP := fun a ha => (OwR.lt g1 a ha)
    have hD := fun a ha => (OwR.lt g2 a ha)
    refine wc_skip ?_; refine we_seq ?_; refine wc_seq ?_; refine wc_block ?_; refine wc_sr ?_; apply wl_val; apply opv_idxG tkC; exact rfl; exact rfl; exact rfl; omega; exact rfl; apply wl_val; apply opv_ldG; exact rfl; assumption; exact sC; exact rfl
    refine wl_var (cs := ceV x X cx) zeroC sC rfl (fun _ => rfl) (by first | rfl | simp [Value.oneCell'] | simp [ceV, Value.oneCell']) rfl fun g8 _ hg8 a8 hbx => ?_; replace g1 := OwR.below g1 hbx; replace g2 := OwR.below g2 hbx; replace hb := hb.trans (hbx.mono hb.size); clear hbx
    refine wl_ns ?_; refine wc_seq ?_; refine wc_sr ?_; apply wl_val; apply opv_loadX; exact rfl; assumption; exact sC; exact rfl
    refine wl_call ok_caissonref06_Good (good_any (x := x)) ⟨rfl, trivial⟩ rfl ?_; rintro _ _ ⟨rfl, hbx⟩; replace g1 := OwR.below g1 hbx; replace g2 := OwR.below g2 hbx; replace a8 := Ar.bel a8 hbx; replace hb := hb.trans (hbx.mono hb.size); clear hbx
    cases hg : goodC x with
    | false =>
      apply wl_val; apply opv_not; exact rfl; exact rfl; refine wl_ns ?_; apply wc_condTb; exact rfl; exact Bool.not_false; refine wc_exit ?_; refine we_seq_exit ?_; refine we_block_exit ?_; refine we_seq ?_; refine wc_region ?_; apply wl_val; apply opv_bin; exact rfl; exact rfl; exact bin_add64 (by omega); exact rfl; refine wl_mv rfl rfl ?_; refine wl_nil ?_
      rw [hg] at ht
      simp only [Bool.false_eq_true, if_false, List.append_nil] at ht
      refine we_loop _ (l.length - (k + 1)) ⟨k + 1, P, cp, D, cd, rfl, by omega, by rw [ht]; exact g1, by rw [ht]; exact g2, hb, rfl⟩ (by omega) ⟨by rw [ht]; rfl, by rw [ht]; rfl, rfl, rfl, by simp [lookT], trivial⟩
    | true =>
      rw [hg] at ht
      simp only [if_true] at ht
      apply wl_val; apply opv_not; exact rfl; exact rfl; refine wl_ns ?_; apply wc_condFb; exact rfl; exact Bool.not_true; refine wc_skip ?_; refine we_seq ?_; refine wc_sr ?_; apply wl_val; apply opv_loadX; exact rfl; assumption; exact sC; exact rfl
      refine wl_call ok_caissonlaw06_twin (twin_any (x := x) (A := X) (c := cx) (rx.below hb) (by omega)) ⟨rfl, trivial⟩ rfl ?_; rintro _ _ ⟨B, d, rfl, o2, hbx⟩; replace g1 := OwR.below g1 hbx; replace g2 := OwR.below g2 hbx; replace a8 := Ar.bel a8 hbx; replace hb := hb.trans (hbx.mono hb.size); clear hbx
      have hP2 := fun a ha => (OwR.lt g1 a ha).2
      have hD2 := fun a ha => (OwR.lt g2 a ha).2
      refine wl_call ok_cell_Of (ofC_any (x := x) (A := B) (c := d) o2.rd (by omega)) ⟨rfl, trivial⟩ rfl ?_
      rintro _ w5 hof
      obtain ⟨_, B2, d2, rfl, o4, hbx⟩ | ⟨hbad, _⟩ := hof
      case inr => exact absurd (hg.symm.trans hbad) (by decide)
      replace a8 := Ar.bel a8 hbx
      replace g1 := OwR.below g1 hbx
      replace g2 := OwR.below g2 hbx
      replace hb := hb.trans (hbx.mono hb.size)
      clear hbx o2
      have hB2 := fun a ha => (Ow.lt o4 a ha)
      refine wl_mv rfl rfl ?_; apply wl_val; apply opv_extract; exact rfl; exact rfl; exact rfl; apply wl_val; apply opv_extract; exact rfl; exact rfl; exact rfl; refine wl_as rfl rfl ?_; refine wl_as rfl rfl ?_; refine wl_ns ?_; refine wc_seq ?_; refine wc_sr ?_; refine wl_mv rfl rfl ?_; refine wl_bin rfl rfl bin_neq rfl ?_; refine wl_ns ?_; apply wc_condFb; exact rfl; exact rfl; refine wc_skip ?_; refine we_seq ?_; refine wc_sr ?_; refine wl_mv rfl rfl ?_; apply wl_val; apply opv_loadX; exact rfl; assumption; exact sC; exact rfl
      refine wl_pushG (css' := [ceV x X cx]) (els' := [ceEl x]) tkC (fun _ => rfl) g1 ((by simp)) ⟨rfl, ⟨_, rfl, (by first | rfl | exact cells_one (vaV_one _ _ _))⟩, rfl, trivial⟩ (Grp.one (El.move _ hp' hb.size fun b hlt _ => ⟨⟨hlt, fun a ha => by have := (hP a ha).1; omega⟩, hb.block b hlt⟩) rfl) rfl (by first | exact ceV_all _ _ _ | exact vaV_all _ _ _ | (simp [Value.oneCell'])) (by decide) (by decide) (by omega) (by simp only [maxLen]; omega) hb.size rfl rfl fun _ _ _ _ hO hG hA => ?_; replace g2 := OwR.move g2 hG (fun b hlt h1 h2 => ⟨But.upd hA b hlt h1, h1⟩) (OwR.ne g2 g1 rfl); replace o4 := Ow.gr2 o4 hG hP2; replace hb := hG.belowR hb g1 (Nat.le_refl _) hb.size; replace g1 := hO; clear hO hG
      have hA1 := hA
      clear hA
      refine wl_as rfl rfl ?_; refine wl_ns ?_; refine wc_region ?_; refine wl_mv rfl rfl ?_; refine wl_mv rfl rfl ?_
      refine wl_pushG (css' := [[vaV (ceVa x) B2 d2]]) (els' := [vaEl (ceVa x)]) tkA (fun _ => rfl) g2 ((by simp)) ⟨rfl, ⟨_, rfl, (by first | rfl | exact cells_one (vaV_one _ _ _))⟩, rfl, trivial⟩ (Grp.one (⟨B2, d2, rfl, by rw [vaC_ceVa hg]; exact byEl.own o4 fun a ha h1 h2 => ⟨But.upd hA1 _ (hB2 a ha).2 (fun p hp => by have := hP2 p hp; omega), fun p hp => by have := hD2 p hp; omega⟩⟩) rfl) rfl (by first | exact ceV_all _ _ _ | exact vaV_all _ _ _ | (simp [Value.oneCell'])) (by decide) (by decide) (by omega) (by simp only [maxLen]; omega) hb.size rfl rfl fun _ _ _ _ hO hG hA => ?_; replace g1 := OwR.move g1 hG (fun b hlt h1 h2 => ⟨h1, fun a ha => by have := (hD a ha).1; omega⟩) (OwR.ne g1 g2 rfl); replace hb := hG.belowR hb g2 (Nat.le_refl _) hb.size; replace g2 := hO; clear hO hG
      clear hA
      refine wl_as rfl rfl ?_; refine wl_nil ?_; refine we_block_norm ?_; refine we_seq ?_; refine wc_region ?_; apply wl_val; apply opv_bin; exact rfl; exact rfl; exact bin_add64 (by omega); exact rfl; refine wl_mv rfl rfl ?_; refine wl_nil ?_
      refine we_loop _ (l.length - (k + 1)) ⟨k + 1, _, _, _, _, rfl, by omega, by rw [ht, List.map_append]; exact g1, by rw [ht, List.map_append]; exact g2, hb, rfl⟩ (by omega) ⟨by rw [ht, List.length_append]; rfl, by rw [ht, List.length_append]; rfl, rfl, rfl, by simp [lookT], trivial⟩
  · obtain rfl : k = l.length := by omega
    rw [List.take_length] at g1 g2 ⊢
    refine wc_exit ?_; refine we_seq_exit ?_; refine we_loop_exit ?_; refine we_block_exit ?_; refine we_seq ?_; refine wc_sr ?_; refine wl_mv rfl rfl ?_; refine wl_mv rfl rfl ?_; refine wl_as rfl rfl ?_; refine wl_as rfl rfl ?_; refine wl_as rfl rfl ?_; refine wl_ns ?_; refine wc_ret ?_
    exact we_ret3 rfl rfl rfl rfl ⟨_, rfl, P, cp, D, cd, rfl, g1, g2, hb⟩
end Go.Proofs.Ytcjiecclmepboaa
