/-
  The texts of this proof, joined: Bf, Bg, Bh, Bi, Bj, Bk, Bl, Bn, Bo, Bp, Bq.
-/
import Derived.Test.YtojncfdlddepdaaBstM4
import Derived.Test.YtojncfdlddepdaaBstM3
import Derived.Test.YtojncfdlddepdaaBstM2

/-
  Walks over number and take of the reader of blocks.
-/
namespace Go.Proofs.Ytojncfdlddepdaa
open Go.RowKit

theorem fa_R {k : Nat} (h : k < 4) : FieldAt Try.prog 67 k k := by
  match k, h with
  | 0, _ => exact fieldAt_mk Try.underlying67 rfl rfl (by kernel_rfl)
  | 1, _ => exact fieldAt_mk Try.underlying67 rfl rfl (by kernel_rfl)
  | 2, _ => exact fieldAt_mk Try.underlying67 rfl rfl (by kernel_rfl)
  | 3, _ => exact fieldAt_mk Try.underlying67 rfl rfl (by kernel_rfl)
theorem e1_iB : Cell1 Try.prog 3 := ⟨by kernel_rfl, by rw [Try.underlying3]⟩
theorem e1_bB : Cell1 Try.prog 4 := ⟨by kernel_rfl, by rw [Try.underlying4]⟩
/-- A reader's cells. -/
def rdV (A : Option Addr) (n c : Nat) (p : Int) (K : Option Addr) (kn kc : Nat) (f : Bool) : List Value := [.slice A n c, .int .i64 p, .slice K kn kc, .bool f]
/-- What number answers, and the place and the flag behind it. -/
def numF (xs : List UInt8) (p : Int) (f : Bool) : Nat × Int × Bool := if f then (0, p, true) else ((getU xs p).1, (getU xs p).2.1, decide (¬ (getU xs p).2.2 = 0))
/-- What take answers, and the place and the flag behind it. -/
def takF (xs : List UInt8) (p : Int) (f : Bool) (n : Nat) : List UInt8 × Int × Bool := if f = true ∨ xs.length - p.toNat < n then ([], p, true) else ((xs.drop p.toNat).take n, p + n, false)
theorem getU_rng {b : List UInt8} {p p1 : Int} {v e : Nat} (h : getU b p = (v, p1, e)) : v < 2 ^ 64 ∧ 0 ≤ p1 ∧ p1 ≤ b.length ∧ (¬ e = 0 → v = 0) := by
  cases e with
  | zero =>
    have h1 := getU_adv h
    obtain ⟨q, k, hq, hk, hqk, hkl, _, hv⟩ := getU_inv h
    exact ⟨by omega, by omega, by omega, fun h => absurd rfl h⟩
  | succ e =>
    rw [getU] at h
    split at h
    · simp only [Prod.mk.injEq] at h
      obtain ⟨rfl, rfl, _⟩ := h
      exact ⟨by decide, Int.le_refl _, by omega, fun _ => rfl⟩
    · split at h
      · simp at h
      · simp only [Prod.mk.injEq] at h
        obtain ⟨rfl, rfl, _⟩ := h
        exact ⟨by decide, Int.le_refl _, by omega, fun _ => rfl⟩
theorem numF_rng {xs : List UInt8} {p : Int} {f : Bool} (hp : 0 ≤ p ∧ p ≤ xs.length) : (numF xs p f).1 < 2 ^ 64 ∧ 0 ≤ (numF xs p f).2.1 ∧ (numF xs p f).2.1 ≤ xs.length := by
  unfold numF
  cases f with
  | true => exact ⟨Nat.zero_lt_succ _, hp⟩
  | false =>
    have := getU_rng (b := xs) (p := p) rfl
    exact ⟨this.1, this.2.1, this.2.2.1⟩
theorem takF_rng {xs : List UInt8} {p : Int} {f : Bool} {n : Nat} (hp : 0 ≤ p ∧ p ≤ xs.length) : 0 ≤ (takF xs p f n).2.1 ∧ (takF xs p f n).2.1 ≤ xs.length := by
  unfold takF
  split
  · exact hp
  · rename_i h
    have : ¬ xs.length - p.toNat < n := fun h' => h (.inr h')
    simp only
    omega
set_option maxRecDepth 8000 in
theorem number_any {S : BS} {g n c kn kc : Nat} {A K : Option Addr} {xs : List UInt8} {p : Int} {f : Bool} {w : World} (h0 : Sat w [.blk g 67 (rdV A n c p K kn kc f)] S) (hb : ∀ w', Mod S w w' → RdB w' A xs) (hn : xs.length = n) (hl : xs.length ≤ 1099511627776) (hp : 0 ≤ p ∧ p ≤ xs.length) :
    CallsV Try.prog 51 #[.pointer (some ⟨g, 0, none⟩)] w fun v w' => v = .int .u64 ((numF xs p f).1 : Nat) ∧ St S w w' [.blk g 67 (rdV A n c (numF xs p f).2.1 K kn kc (numF xs p f).2.2)] := by
  subst hn
  have hs := St.start h0
  unfold rdV at hs
  refine calls_in (N := _) Try.func51 rfl Try.ntmps51 rfl ?_; show WC _ _ _ _ _ _
  cases f with
  | true =>
    refine wc_sr ?_; refine wl_as rfl rfl ?_; refine wl_ns ?_; refine wc_seq ?_; refine wc_sr ?_; refine wl_mv rfl rfl ?_; apply wl_val; apply opv_nilOk; exact rfl; exact rfl; apply wl_val; apply opv_fa; exact fa_R (by decide); exact rfl; exact rfl; apply wl_val; apply opv_ldX; exact rfl; exact hs.ar 0 rfl; exact e1_bB; exact rfl; exact rfl; refine wl_ns ?_; apply wc_condTb; exact rfl; exact rfl; refine wc_sr ?_; refine wl_as rfl rfl ?_; refine wl_ns ?_; refine wc_ret ?_; refine we_seq_ret ?_
    exact we_ret1 rfl rfl ⟨_, rfl, rfl, hs⟩
  | false =>
    refine wc_sr ?_; refine wl_as rfl rfl ?_; refine wl_ns ?_; refine wc_seq ?_; refine wc_sr ?_; refine wl_mv rfl rfl ?_; apply wl_val; apply opv_nilOk; exact rfl; exact rfl; apply wl_val; apply opv_fa; exact fa_R (by decide); exact rfl; exact rfl; apply wl_val; apply opv_ldX; exact rfl; exact hs.ar 0 rfl; exact e1_bB; exact rfl; exact rfl; refine wl_ns ?_; apply wc_condFb; exact rfl; exact rfl; refine wc_skip ?_; refine we_seq ?_; refine wc_seq ?_
    obtain ⟨v, p1, e, hg⟩ : ∃ v p1 e, getU xs p = (v, p1, e) := ⟨_, _, _, rfl⟩
    have e1 : (numF xs p false).1 = v := by rw [numF, if_neg (by decide), hg]
    have e2 : (numF xs p false).2.1 = p1 := by rw [numF, if_neg (by decide), hg]
    have e3 : (numF xs p false).2.2 = decide (¬ e = 0) := by rw [numF, if_neg (by decide), hg]
    rw [e1, e2, e3]
    have hrng := getU_rng hg
    have hbw := hb _ hs.1
    refine wc_drawB mixed (by kernel_rfl) ?_
    apply wq_val; intro _ hw_; apply opv_move; exact rfl; exact rfl; apply wq_val; intro _ hw_; apply opv_nilOk; exact rfl; exact rfl; apply wq_val; intro _ hw_; apply opv_fa; exact fa_R (by decide); exact rfl; exact rfl; apply wq_val; intro _ hw_; apply opv_ldX; exact rfl; exact Ar.bel (hs.ar 0 rfl) hw_; exact e1_by; exact rfl; exact rfl; apply wq_val; intro _ hw_; apply opv_move; exact rfl; exact rfl; apply wq_val; intro _ hw_; apply opv_nilOk; exact rfl; exact rfl; apply wq_val; intro _ hw_; apply opv_fa; exact fa_R (by decide); exact rfl; exact rfl; apply wq_val; intro _ hw_; apply opv_ldX; exact rfl; exact Ar.bel (hs.ar 0 rfl) hw_; exact e1_iB; exact rfl; exact rfl
    refine wq_call (v := .tuple #[.int .u64 (v : Int), .int .i64 p1, .int .i64 (e : Int)]) ok_codec_GetU (fun w' hw => (getU_at hg (hbw.below hw) rfl (by simp only [maxLen]; omega) (by omega)).mono fun v w2 h2 => ⟨h2.1, hw.trans (h2.2.mono hw.size)⟩) ⟨rfl, rfl, trivial⟩ rfl ?_
    apply wq_val; intro _ hw_; apply opv_move; exact rfl; exact rfl; apply wq_val; intro _ hw_; apply opv_extract; exact rfl; exact rfl; exact rfl; apply wq_val; intro _ hw_; apply opv_extract; exact rfl; exact rfl; exact rfl; apply wq_val; intro _ hw_; apply opv_extract; exact rfl; exact rfl; exact rfl; apply wq_val; intro _ hw_; apply opv_assign; exact rfl; exact rfl; apply wq_val; intro _ hw_; apply opv_assign; exact rfl; exact rfl; apply wq_val; intro _ hw_; apply opv_assign; exact rfl; exact rfl; refine wq_nil fun w1 hw1 => ?_
    replace hs := hs.below hw1
    by_cases he : e = 0
    · subst he
      refine we_seq ?_; refine wc_seq ?_; refine wc_sr ?_; refine wl_mv rfl rfl ?_; refine wl_bin rfl rfl bin_neq rfl ?_; refine wl_ns ?_; apply wc_condFb; exact rfl; exact rfl; refine wc_skip ?_; refine we_seq ?_; refine wc_sr ?_; refine wl_mv rfl rfl ?_; refine wl_mv rfl rfl ?_; apply wl_val; apply opv_nilOk; exact rfl; exact rfl; apply wl_val; apply opv_fa; exact fa_R (by decide); exact rfl; exact rfl; apply ws_st hs 0; exact rfl; exact rfl; exact e1_iB; exact rfl; exact rfl; exact rfl; clear hs; intro _ hs; dsimp only [setC, List.set] at hs; refine wl_ns ?_; refine wc_sr ?_; refine wl_mv rfl rfl ?_; refine wl_as rfl rfl ?_; refine wl_ns ?_; refine wc_ret ?_
      exact we_ret1 rfl rfl ⟨_, rfl, rfl, hs⟩
    · have he' : ((e : Nat) : Int) ≠ 0 := by omega
      rw [show decide (¬ e = 0) = true from decide_eq_true he]
      refine we_seq ?_; refine wc_seq ?_; refine wc_sr ?_; refine wl_mv rfl rfl ?_; refine wl_bin rfl rfl bin_neq rfl ?_; refine wl_ns ?_; apply wc_decT; exact rfl; (with_reducible assumption); refine wc_region ?_; refine wl_mv rfl rfl ?_; apply wl_val; apply opv_nilOk; exact rfl; exact rfl; apply wl_val; apply opv_fa; exact fa_R (by decide); exact rfl; exact rfl; apply ws_st hs 0; exact rfl; exact rfl; exact e1_bB; exact rfl; exact rfl; exact rfl; clear hs; intro _ hs; dsimp only [setC, List.set] at hs; refine wl_ns ?_; refine wc_sr ?_; refine wl_mv rfl rfl ?_; refine wl_mv rfl rfl ?_; apply wl_val; apply opv_nilOk; exact rfl; exact rfl; apply wl_val; apply opv_fa; exact fa_R (by decide); exact rfl; exact rfl; apply ws_st hs 0; exact rfl; exact rfl; exact e1_iB; exact rfl; exact rfl; exact rfl; clear hs; intro _ hs; dsimp only [setC, List.set] at hs; refine wl_ns ?_; refine wc_sr ?_; refine wl_mv rfl rfl ?_; refine wl_as rfl rfl ?_; refine wl_ns ?_; refine wc_ret ?_
      exact we_ret1 rfl rfl ⟨_, rfl, rfl, hs⟩
theorem cutB_rd {w : World} {A : Option Addr} {xs : List UInt8} {c l h : Nat} (hr : RdB w A xs) (h1 : l ≤ h) (h2 : h ≤ xs.length) (hc : xs.length ≤ c) : RdB w (cutA A c l) ((xs.take h).drop l) := by
  have hr := Rd.cut (l := l) (h := h) (c := c) hr h1 h2 hc
  have e : ((bvs xs).take h).drop l = bvs ((xs.take h).drop l) := by rw [bvs, bvs, List.map_drop, List.map_take]
  rw [e] at hr
  unfold RdB
  rw [List.length_drop, List.length_take, Nat.min_eq_left h2]
  exact hr
theorem take_drop_take (xs : List UInt8) (p n : Nat) : (xs.take (p + n)).drop p = (xs.drop p).take n := by rw [List.drop_take]; congr 1; omega
set_option maxRecDepth 8000 in
theorem take_any {S : BS} {g n c kn kc m : Nat} {A K : Option Addr} {xs : List UInt8} {p : Int} {f : Bool} {w : World} (h0 : Sat w [.blk g 67 (rdV A n c p K kn kc f)] S) (hb : ∀ w', Mod S w w' → RdB w' A xs) (hn : xs.length = n) (hc : n ≤ c) (hl : xs.length ≤ 1099511627776) (hp : 0 ≤ p ∧ p ≤ xs.length) (hm : m < 2 ^ 64) :
    CallsV Try.prog 52 #[.pointer (some ⟨g, 0, none⟩), .int .u64 (m : Int)] w fun v w' => (∃ (P : Option Addr) (pc : Nat), v = .slice P (takF xs p f m).1.length pc ∧ (takF xs p f m).1.length ≤ pc ∧ ∀ w'', RdB w'' A xs → RdB w'' P (takF xs p f m).1) ∧ St S w w' [.blk g 67 (rdV A n c (takF xs p f m).2.1 K kn kc (takF xs p f m).2.2)] := by
  subst hn
  obtain ⟨q, rfl⟩ := Int.eq_ofNat_of_zero_le hp.1
  have hs := St.start h0
  unfold rdV at hs
  have hq : ((xs.length : Int) - (q : Int)) = ((xs.length - q : Nat) : Int) := by omega
  refine calls_in (N := _) Try.func52 rfl Try.ntmps52 rfl ?_; show WC _ _ _ _ _ _
  cases f with
  | true =>
    have e1 : takF xs (q : Int) true m = ([], (q : Int), true) := by rw [takF, if_pos (.inl rfl)]
    rw [e1]
    refine wc_sr ?_; refine wl_as rfl rfl ?_; refine wl_ns ?_; refine wc_seq ?_; refine wc_seq ?_
    refine wc_drawB mixed (by kernel_rfl) ?_
    apply wq_val; intro _ hw_; apply opv_move; exact rfl; exact rfl; apply wq_val; intro _ hw_; apply opv_nilOk; exact rfl; exact rfl; apply wq_val; intro _ hw_; apply opv_fa; exact fa_R (by decide); exact rfl; exact rfl; apply wq_val; intro _ hw_; apply opv_ldX; exact rfl; exact Ar.bel (hs.ar 0 rfl) hw_; exact e1_bB; exact rfl; exact rfl; apply wq_val; intro _ hw_; apply opv_move; exact rfl; exact rfl; apply wq_skip; exact rfl; exact rfl; exact rfl; exact bR1; exact rfl; apply wq_skip; exact rfl; exact rfl; exact rfl; exact bR1; exact rfl; apply wq_skip; exact rfl; exact rfl; exact rfl; exact bR1; exact rfl; apply wq_skip; exact rfl; exact rfl; exact rfl; exact bR1; exact rfl; apply wq_skip; exact rfl; exact rfl; exact rfl; exact bR1; exact rfl; apply wq_skip; exact rfl; exact rfl; exact rfl; exact bR1; exact rfl; apply wq_skip; exact rfl; exact rfl; exact rfl; exact bR1; exact rfl; apply wq_skip; exact rfl; exact rfl; exact rfl; exact bR1; exact rfl; apply wq_skip; exact rfl; exact rfl; exact rfl; exact bR1; exact rfl; apply wq_skip; exact rfl; exact rfl; exact rfl; exact bR1; exact rfl; apply wq_skip; exact rfl; exact rfl; exact rfl; exact bR1; exact rfl; apply wq_skip; exact rfl; exact rfl; exact rfl; exact bR1; exact rfl; apply wq_skip; exact rfl; exact rfl; exact rfl; exact bR1; exact rfl; apply wq_val; intro _ hw_; apply opv_pickT; exact rfl; exact rfl; exact rfl; exact rfl; refine wq_nil fun w1 hw1 => ?_
    replace hs := hs.below hw1
    refine we_seq ?_; apply wc_condTb; exact rfl; exact rfl; refine wc_sr ?_; refine wl_mv rfl rfl ?_; apply wl_val; apply opv_nilOk; exact rfl; exact rfl; apply wl_val; apply opv_fa; exact fa_R (by decide); exact rfl; exact rfl; apply ws_st hs 0; exact rfl; exact rfl; exact e1_bB; exact rfl; exact rfl; exact rfl; clear hs; intro _ hs; dsimp only [setC, List.set] at hs; refine wl_ns ?_; refine wc_sr ?_; refine wl_as rfl rfl ?_; refine wl_ns ?_; refine wc_ret ?_; refine we_seq_ret ?_
    exact we_ret1 rfl rfl ⟨_, rfl, ⟨none, 0, rfl, Nat.zero_le _, fun _ _ => Rd.nil _ _⟩, hs⟩
  | false =>
    by_cases h1 : xs.length - q < m
    · have e1 : takF xs (q : Int) false m = ([], (q : Int), true) := by rw [takF, if_pos (.inr (by simpa using h1))]
      rw [e1]
      have h1' : ((xs.length - q : Nat) : Int) < (m : Int) := by omega
      refine wc_sr ?_; refine wl_as rfl rfl ?_; refine wl_ns ?_; refine wc_seq ?_; refine wc_seq ?_
      refine wc_drawB mixed (by kernel_rfl) ?_
      apply wq_val; intro _ hw_; apply opv_move; exact rfl; exact rfl; apply wq_val; intro _ hw_; apply opv_nilOk; exact rfl; exact rfl; apply wq_val; intro _ hw_; apply opv_fa; exact fa_R (by decide); exact rfl; exact rfl; apply wq_val; intro _ hw_; apply opv_ldX; exact rfl; exact Ar.bel (hs.ar 0 rfl) hw_; exact e1_bB; exact rfl; exact rfl; apply wq_val; intro _ hw_; apply opv_move; exact rfl; exact rfl; apply wq_take; exact rfl; exact rfl; exact rfl; exact rfl; apply wq_val; intro _ hw_; apply opv_move; exact rfl; exact rfl; apply wq_take; exact rfl; exact rfl; exact rfl; exact rfl; apply wq_val; intro _ hw_; apply opv_move; exact rfl; exact rfl; apply wq_take; exact rfl; exact rfl; exact rfl; exact rfl; apply wq_val; intro _ hw_; apply opv_nilOk; exact rfl; exact rfl; apply wq_take; exact rfl; exact rfl; exact rfl; exact rfl; apply wq_val; intro _ hw_; apply opv_fa; exact fa_R (by decide); exact rfl; exact rfl; apply wq_take; exact rfl; exact rfl; exact rfl; exact rfl; apply wq_val; intro _ hw_; apply opv_ldX; exact rfl; exact Ar.bel (hs.ar 0 rfl) hw_; exact e1_by; exact rfl; exact rfl; apply wq_take; exact rfl; exact rfl; exact rfl; exact rfl; apply wq_val; intro _ hw_; apply opv_len; exact rfl; exact tyB.sl; exact rfl; apply wq_take; exact rfl; exact rfl; exact rfl; exact rfl; apply wq_val; intro _ hw_; apply opv_move; exact rfl; exact rfl; apply wq_take; exact rfl; exact rfl; exact rfl; exact rfl; apply wq_val; intro _ hw_; apply opv_nilOk; exact rfl; exact rfl; apply wq_take; exact rfl; exact rfl; exact rfl; exact rfl; apply wq_val; intro _ hw_; apply opv_fa; exact fa_R (by decide); exact rfl; exact rfl; apply wq_take; exact rfl; exact rfl; exact rfl; exact rfl; apply wq_val; intro _ hw_; apply opv_ldX; exact rfl; exact Ar.bel (hs.ar 0 rfl) hw_; exact e1_iB; exact rfl; exact rfl; apply wq_take; exact rfl; exact rfl; exact rfl; exact rfl; apply wq_val; intro _ hw_; apply opv_bin; exact rfl; exact rfl; exact bin_sub64 (by omega); exact rfl; apply wq_take; exact rfl; exact rfl; exact rfl; exact rfl; apply wq_val; intro _ hw_; apply opv_convR; exact rfl; exact Try.underlying3; exact Try.underlying33; exact IntWalk.u64_in _ (by omega); exact rfl; apply wq_take; exact rfl; exact rfl; exact rfl; exact rfl; apply wq_val; intro _ hw_; apply opv_bin; exact rfl; exact rfl; exact bin_gtr; exact rfl; apply wq_val; intro _ hw_; apply opv_pickF; exact rfl; exact rfl; exact rfl; exact rfl; refine wq_nil fun w1 hw1 => ?_
      replace hs := hs.below hw1
      refine we_seq ?_; apply wc_decT; exact rfl; omega; refine wc_sr ?_; refine wl_mv rfl rfl ?_; apply wl_val; apply opv_nilOk; exact rfl; exact rfl; apply wl_val; apply opv_fa; exact fa_R (by decide); exact rfl; exact rfl; apply ws_st hs 0; exact rfl; exact rfl; exact e1_bB; exact rfl; exact rfl; exact rfl; clear hs; intro _ hs; dsimp only [setC, List.set] at hs; refine wl_ns ?_; refine wc_sr ?_; refine wl_as rfl rfl ?_; refine wl_ns ?_; refine wc_ret ?_; refine we_seq_ret ?_
      exact we_ret1 rfl rfl ⟨_, rfl, ⟨none, 0, rfl, Nat.zero_le _, fun _ _ => Rd.nil _ _⟩, hs⟩
    · have h2 : q + m ≤ xs.length := by omega
      have e1 : takF xs (q : Int) false m = ((xs.drop q).take m, (q : Int) + m, false) := by rw [takF, if_neg (by simp; omega)]; rfl
      have e2 : ((xs.drop q).take m).length = m := by simp; omega
      rw [e1, e2]
      have h1' : ¬ ((xs.length - q : Nat) : Int) < (m : Int) := by omega
      have hqm : (q : Int) + (m : Int) = ((q + m : Nat) : Int) := by omega
      have e3 : q + m - q = m := by omega
      refine wc_sr ?_; refine wl_as rfl rfl ?_; refine wl_ns ?_; refine wc_seq ?_; refine wc_seq ?_
      refine wc_drawB mixed (by kernel_rfl) ?_
      apply wq_val; intro _ hw_; apply opv_move; exact rfl; exact rfl; apply wq_val; intro _ hw_; apply opv_nilOk; exact rfl; exact rfl; apply wq_val; intro _ hw_; apply opv_fa; exact fa_R (by decide); exact rfl; exact rfl; apply wq_val; intro _ hw_; apply opv_ldX; exact rfl; exact Ar.bel (hs.ar 0 rfl) hw_; exact e1_bB; exact rfl; exact rfl; apply wq_val; intro _ hw_; apply opv_move; exact rfl; exact rfl; apply wq_take; exact rfl; exact rfl; exact rfl; exact rfl; apply wq_val; intro _ hw_; apply opv_move; exact rfl; exact rfl; apply wq_take; exact rfl; exact rfl; exact rfl; exact rfl; apply wq_val; intro _ hw_; apply opv_move; exact rfl; exact rfl; apply wq_take; exact rfl; exact rfl; exact rfl; exact rfl; apply wq_val; intro _ hw_; apply opv_nilOk; exact rfl; exact rfl; apply wq_take; exact rfl; exact rfl; exact rfl; exact rfl; apply wq_val; intro _ hw_; apply opv_fa; exact fa_R (by decide); exact rfl; exact rfl; apply wq_take; exact rfl; exact rfl; exact rfl; exact rfl; apply wq_val; intro _ hw_; apply opv_ldX; exact rfl; exact Ar.bel (hs.ar 0 rfl) hw_; exact e1_by; exact rfl; exact rfl; apply wq_take; exact rfl; exact rfl; exact rfl; exact rfl; apply wq_val; intro _ hw_; apply opv_len; exact rfl; exact tyB.sl; exact rfl; apply wq_take; exact rfl; exact rfl; exact rfl; exact rfl; apply wq_val; intro _ hw_; apply opv_move; exact rfl; exact rfl; apply wq_take; exact rfl; exact rfl; exact rfl; exact rfl; apply wq_val; intro _ hw_; apply opv_nilOk; exact rfl; exact rfl; apply wq_take; exact rfl; exact rfl; exact rfl; exact rfl; apply wq_val; intro _ hw_; apply opv_fa; exact fa_R (by decide); exact rfl; exact rfl; apply wq_take; exact rfl; exact rfl; exact rfl; exact rfl; apply wq_val; intro _ hw_; apply opv_ldX; exact rfl; exact Ar.bel (hs.ar 0 rfl) hw_; exact e1_iB; exact rfl; exact rfl; apply wq_take; exact rfl; exact rfl; exact rfl; exact rfl; apply wq_val; intro _ hw_; apply opv_bin; exact rfl; exact rfl; exact bin_sub64 (by omega); exact rfl; apply wq_take; exact rfl; exact rfl; exact rfl; exact rfl; apply wq_val; intro _ hw_; apply opv_convR; exact rfl; exact Try.underlying3; exact Try.underlying33; exact IntWalk.u64_in _ (by omega); exact rfl; apply wq_take; exact rfl; exact rfl; exact rfl; exact rfl; apply wq_val; intro _ hw_; apply opv_bin; exact rfl; exact rfl; exact bin_gtr; exact rfl; apply wq_val; intro _ hw_; apply opv_pickF; exact rfl; exact rfl; exact rfl; exact rfl; refine wq_nil fun w1 hw1 => ?_
      replace hs := hs.below hw1
      refine we_seq ?_; apply wc_decF; exact rfl; omega; refine wc_skip ?_; refine we_seq ?_; refine wc_seq ?_
      refine wc_drawB mixed (by kernel_rfl) ?_
      apply wq_val; intro _ hw_; apply opv_move; exact rfl; exact rfl; apply wq_val; intro _ hw_; apply opv_nilOk; exact rfl; exact rfl; apply wq_val; intro _ hw_; apply opv_fa; exact fa_R (by decide); exact rfl; exact rfl; apply wq_val; intro _ hw_; apply opv_ldX; exact rfl; exact Ar.bel (hs.ar 0 rfl) hw_; exact e1_by; exact rfl; exact rfl; apply wq_val; intro _ hw_; apply opv_move; exact rfl; exact rfl; apply wq_val; intro _ hw_; apply opv_nilOk; exact rfl; exact rfl; apply wq_val; intro _ hw_; apply opv_fa; exact fa_R (by decide); exact rfl; exact rfl; apply wq_val; intro _ hw_; apply opv_ldX; exact rfl; exact Ar.bel (hs.ar 0 rfl) hw_; exact e1_iB; exact rfl; exact rfl; apply wq_val; intro _ hw_; apply opv_move; exact rfl; exact rfl; apply wq_val; intro _ hw_; apply opv_nilOk; exact rfl; exact rfl; apply wq_val; intro _ hw_; apply opv_fa; exact fa_R (by decide); exact rfl; exact rfl; apply wq_val; intro _ hw_; apply opv_ldX; exact rfl; exact Ar.bel (hs.ar 0 rfl) hw_; exact e1_iB; exact rfl; exact rfl; apply wq_val; intro _ hw_; apply opv_move; exact rfl; exact rfl; apply wq_val; intro _ hw_; apply opv_convR; exact rfl; exact Try.underlying33; exact Try.underlying3; exact IntWalk.i64_in _ (by omega); exact rfl; apply wq_val; intro _ hw_; apply opv_bin; exact rfl; exact rfl; exact bin_add64 (by omega); exact rfl
      refine wq_val (fun _ _ => opv_slice (l := q) (h := q + m) tyB rfl ⟨_, rfl⟩ ⟨_, congrArg (fun z => some (Value.int .i64 z)) hqm⟩ (by omega) (by omega)) rfl ?_
      apply wq_val; intro _ hw_; apply opv_assign; exact rfl; exact rfl; refine wq_nil fun w1 hw1 => ?_
      replace hs := hs.below hw1
      rw [e3]
      refine we_seq ?_; refine wc_sr ?_; refine wl_mv rfl rfl ?_; apply wl_val; apply opv_nilOk; exact rfl; exact rfl; apply wl_val; apply opv_fa; exact fa_R (by decide); exact rfl; exact rfl; apply wl_val; apply opv_ldX; exact rfl; exact hs.ar 0 rfl; exact e1_iB; exact rfl; exact rfl; refine wl_mv rfl rfl ?_; apply wl_val; apply opv_convR; exact rfl; exact Try.underlying33; exact Try.underlying3; exact IntWalk.i64_in _ (by omega); exact rfl; apply wl_val; apply opv_bin; exact rfl; exact rfl; exact bin_add64 (by omega); exact rfl; apply wl_val; apply opv_nilOk; exact rfl; exact rfl; apply wl_val; apply opv_fa; exact fa_R (by decide); exact rfl; exact rfl; apply ws_st hs 0; exact rfl; exact rfl; exact e1_iB; exact rfl; exact rfl; exact rfl; clear hs; intro _ hs; dsimp only [setC, List.set] at hs; refine wl_ns ?_; refine wc_sr ?_; refine wl_mv rfl rfl ?_; refine wl_as rfl rfl ?_; refine wl_ns ?_; refine wc_ret ?_
      exact we_ret1 rfl rfl ⟨_, rfl, ⟨cutA A c q, c - q, rfl, by omega, fun w'' hm => by rw [← take_drop_take]; exact cutB_rd hm (by omega) h2 hc⟩, hs⟩
end Go.Proofs.Ytojncfdlddepdaa


/-
  Walk over entry of the reader of blocks.
-/
namespace Go.Proofs.Ytojncfdlddepdaa
open Go.RowKit

theorem numF_true {xs : List UInt8} {p : Int} : numF xs p true = (0, p, true) := rfl
theorem takF_true {xs : List UInt8} {p : Int} {n : Nat} : takF xs p true n = ([], p, true) := by rw [takF, if_pos (.inl rfl)]
theorem numF_false {xs : List UInt8} {p : Int} {f : Bool} {v : Nat} {p' : Int} (h : numF xs p f = (v, p', false)) : f = false ∧ getU xs p = (v, p', 0) := by
  cases f with
  | true => rw [numF_true] at h; simp at h
  | false =>
    refine ⟨rfl, ?_⟩
    rw [numF, if_neg (by decide)] at h
    simp only [Prod.mk.injEq, decide_eq_false_iff_not, Decidable.not_not] at h
    obtain ⟨h1, h2, h3⟩ := h
    rw [← h1, ← h2, ← h3]
theorem takF_false {xs : List UInt8} {p : Int} {f : Bool} {n : Nat} {bs : List UInt8} {p' : Int} (h : takF xs p f n = (bs, p', false)) : f = false ∧ n ≤ xs.length - p.toNat ∧ bs = (xs.drop p.toNat).take n ∧ p' = p + n := by
  unfold takF at h
  split at h
  · simp at h
  · rename_i hc
    simp only [Prod.mk.injEq, and_true] at h
    cases f with
    | true => exact absurd (.inl rfl) hc
    | false => exact ⟨rfl, by omega, h.1.symm, h.2.symm⟩
/-- The steps of entry, told by one result. -/
theorem rd_chain {xs key : List UInt8} {p : Nat} (hp : p ≤ xs.length) {v1 v2 v3 z : Nat} {p1 p2 p3 p4 p5 p6 p7 : Int} {f1 f2 f3 f4 f5 f7 f8 : Bool} {t1 t2 t3 : List UInt8}
    (h1 : numF xs p false = (v1, p1, f1)) (h2 : numF xs p1 f1 = (v2, p2, f2)) (h3 : numF xs p2 f2 = (v3, p3, f3)) (h4 : takF xs p3 f3 1 = (t1, p4, f4)) (h5 : numF xs p4 f4 = (z, p5, f5))
    (h7 : takF xs p5 (f5 || decide (key.length < v1)) v2 = (t2, p6, f7)) (h8 : takF xs p6 f7 z = (t3, p7, f8)) :
    (f8 = true ∧ rdE xs p key = none) ∨ (f8 = false ∧ v1 ≤ key.length ∧ ∃ kd, t1 = [kd] ∧ v3 < 2 ^ 64 ∧ 0 ≤ p7 ∧ rdE xs p key = some (⟨key.take v1 ++ t2, v3, kd, t3⟩, p7.toNat)) := by
  have n0 : ∀ (q : Int), 0 ≤ q → q = (q.toNat : Nat) := fun q h => by omega
  cases f8 with
  | false =>
    right
    obtain ⟨rfl, b1, b2, b3⟩ := takF_false h8
    obtain ⟨hf, c1, c2, c3⟩ := takF_false h7
    rw [Bool.or_eq_false_iff, decide_eq_false_iff_not] at hf
    obtain ⟨rfl, hk⟩ := hf
    obtain ⟨rfl, g5⟩ := numF_false h5
    obtain ⟨rfl, d1, d2, d3⟩ := takF_false h4
    obtain ⟨rfl, g3⟩ := numF_false h3
    obtain ⟨rfl, g2⟩ := numF_false h2
    obtain ⟨_, g1⟩ := numF_false h1
    have i1 := getU_rng g1
    have i2 := getU_rng g2
    have i3 := getU_rng g3
    have i5 := getU_rng g5
    have hlt : p3.toNat < xs.length := by omega
    have hx : xs[p3.toNat]? = some (xs[p3.toNat]'hlt) := List.getElem?_eq_getElem hlt
    refine ⟨rfl, by omega, xs[p3.toNat]'hlt, by rw [d2, drop_getB hx]; rfl, i3.1, by omega, ?_⟩
    subst d3 c3 b3
    unfold rdE
    rw [g1]
    simp only
    rw [g2]
    simp only
    rw [g3]
    simp only
    rw [hx]
    simp only
    rw [show ((1 : Nat) : Int) = 1 from rfl] at g5
    rw [g5]
    simp only
    have e6 : (p5 + (v2 : Int)).toNat = p5.toNat + v2 := by omega
    rw [if_neg (by omega), if_neg (by omega), if_neg (by omega), c2, b2, e6]
    simp only [Option.some.injEq, Prod.mk.injEq, true_and]
    omega
  | true =>
    left
    refine ⟨rfl, ?_⟩
    cases hr : rdE xs p key with
    | none => rfl
    | some y =>
      exfalso
      unfold rdE at hr
      split at hr
      case h_2 => cases hr
      rename_i s q1 g1
      split at hr
      case h_2 => cases hr
      rename_i r q2 g2
      split at hr
      case h_2 => cases hr
      rename_i q q3 g3
      split at hr
      case h_1 => cases hr
      rename_i kd hkd
      split at hr
      case h_2 => cases hr
      rename_i zz q5 g5
      have a1 : numF xs p false = (s, q1, false) := by rw [numF, if_neg (by decide), g1]; rfl
      rw [a1] at h1
      simp only [Prod.mk.injEq] at h1
      obtain ⟨rfl, rfl, rfl⟩ := h1
      have a2 : numF xs q1 false = (r, q2, false) := by rw [numF, if_neg (by decide), g2]; rfl
      rw [a2] at h2
      simp only [Prod.mk.injEq] at h2
      obtain ⟨rfl, rfl, rfl⟩ := h2
      have a3 : numF xs q2 false = (q, q3, false) := by rw [numF, if_neg (by decide), g3]; rfl
      rw [a3] at h3
      simp only [Prod.mk.injEq] at h3
      obtain ⟨rfl, rfl, rfl⟩ := h3
      have i3 := getU_rng g3
      have hlt := (List.getElem?_eq_some_iff.1 hkd).1
      rw [takF, if_neg (by rintro (h | h); · cases h
                           · omega)] at h4
      simp only [Prod.mk.injEq] at h4
      obtain ⟨_, rfl, rfl⟩ := h4
      have a5 : numF xs (q3 + ((1 : Nat) : Int)) false = (zz, q5, false) := by rw [numF, if_neg (by decide), show ((1 : Nat) : Int) = 1 from rfl, g5]; rfl
      rw [a5] at h5
      simp only [Prod.mk.injEq] at h5
      obtain ⟨rfl, rfl, rfl⟩ := h5
      have i5 := getU_rng g5
      split at hr
      · cases hr
      · rename_i hk
        split at hr
        · cases hr
        · rename_i hr1
          split at hr
          · cases hr
          · rename_i hr2
            rw [decide_eq_false hk, takF, if_neg (by rintro (h | h); · cases h
                                                     · omega)] at h7
            simp only [Prod.mk.injEq] at h7
            obtain ⟨_, rfl, rfl⟩ := h7
            have e6 : (q5 + (r : Int)).toNat = q5.toNat + r := by omega
            rw [takF, if_neg (by rw [e6]; rintro (h | h); · cases h
                                 · omega)] at h8
            simp only [Prod.mk.injEq] at h8
            exact absurd h8.2.2 (by decide)
end Go.Proofs.Ytojncfdlddepdaa


/-
  Walk over entry of the reader of blocks.
-/
namespace Go.Proofs.Ytojncfdlddepdaa
open Go.RowKit

/-- What a reader's entry answers, and what it brings. -/
def RdOut (S : BS) (g n c kn : Nat) (A : Option Addr) (o : Option (En × Nat)) (w : World) (v : Value) (w' : World) : Prop := match o with
  | some (x, p') => ∃ (X : Option Addr) (cx : Nat) (Y : Option Addr) (cy : Nat) (K : Option Addr) (kc : Nat), v = .agg (enV x X cx Y cy).toArray ∧ St S w w' (.ow 5 X x.key.length cx (bvs x.key) :: .ow 5 Y x.val.length cy (bvs x.val) :: .blk g 67 (rdV A n c (p' : Nat) K x.key.length kc false) :: .ow 5 K x.key.length kc (bvs x.key) :: [])
  | none => ∃ (p' : Int) (K : Option Addr) (kc : Nat), v = .agg zE.toArray ∧ St S w w' [.blk g 67 (rdV A n c p' K kn kc true)]
theorem takF_len {xs : List UInt8} {p : Int} {f : Bool} {n : Nat} : (takF xs p f n).1.length ≤ xs.length := by
  unfold takF
  split
  · exact Nat.zero_le _
  · simp only [List.length_take, List.length_drop]; omega
set_option maxRecDepth 8000 in
set_option maxHeartbeats 2000000 in
theorem rdEntry_any {S : BS} {g n c kc p : Nat} {A K : Option Addr} {xs key : List UInt8} {w : World} (h0 : Sat w [.blk g 67 (rdV A n c (p : Nat) K key.length kc false), .ow 5 K key.length kc (bvs key)] S) (hb : ∀ w', Mod S w w' → RdB w' A xs) (hn : xs.length = n) (hc : n ≤ c) (hl : xs.length ≤ 1099511627776) (hp : p ≤ xs.length) (hkl : key.length ≤ 1099511627776) :
    CallsV Try.prog 33 #[.pointer (some ⟨g, 0, none⟩)] w (RdOut S g n c key.length A (rdE xs p key) w) := by
  subst hn
  have hs := St.start h0
  have hp0 : 0 ≤ (p : Int) ∧ (p : Int) ≤ xs.length := by omega
  refine calls_in (N := _) Try.func33 rfl Try.ntmps33 rfl ?_; show WC _ _ _ _ _ _
  refine wc_sr ?_
  refine ws_new hs zeroE rfl ?_; clear hs; intro g2 _ hs
  replace hs := hs.front 1 rfl
  dsimp only [delC] at hs
  refine wl_ns ?_; refine wc_sr ?_; refine wl_mv rfl rfl ?_
  obtain ⟨S2, hS2, _, hM, hH, hB⟩ := St.lend (H1 := [.blk g 67 _]) (H2 := [_, _]) hs
  refine wl_call ok_block_reader_number (number_any hS2 (fun w' hm => hb _ (hM w' hm)) rfl hl hp0) ⟨rfl, trivial⟩ rfl ?_
  rintro _ _ ⟨rfl, hsx⟩
  replace hs := hB _ _ hsx
  clear hB hsx hS2 hM hH
  obtain ⟨⟨v1, p1, f1⟩, ev1⟩ : ∃ q, numF xs (p : Int) false = q := ⟨_, rfl⟩
  have rv1 := numF_rng (xs := xs) (p := (p : Int)) (f := false) hp0
  rw [ev1] at hs rv1
  rw [ev1]
  dsimp only [List.cons_append, List.nil_append] at hs rv1 ⊢
  refine wl_mv rfl rfl ?_
  obtain ⟨S2, hS2, _, hM, hH, hB⟩ := St.lend (H1 := [.blk g 67 _]) (H2 := [_, _]) hs
  refine wl_call ok_block_reader_number (number_any hS2 (fun w' hm => hb _ (hM w' hm)) rfl hl rv1.2) ⟨rfl, trivial⟩ rfl ?_
  rintro _ _ ⟨rfl, hsx⟩
  replace hs := hB _ _ hsx
  clear hB hsx hS2 hM hH
  obtain ⟨⟨v2, p2, f2⟩, ev2⟩ : ∃ q, numF xs p1 f1 = q := ⟨_, rfl⟩
  have rv2 := numF_rng (xs := xs) (p := p1) (f := f1) rv1.2
  rw [ev2] at hs rv2
  rw [ev2]
  dsimp only [List.cons_append, List.nil_append] at hs rv2 ⊢
  refine wl_as rfl rfl ?_; refine wl_as rfl rfl ?_; refine wl_ns ?_; refine wc_sr ?_; refine wl_mv rfl rfl ?_
  obtain ⟨S2, hS2, _, hM, hH, hB⟩ := St.lend (H1 := [.blk g 67 _]) (H2 := [_, _]) hs
  refine wl_call ok_block_reader_number (number_any hS2 (fun w' hm => hb _ (hM w' hm)) rfl hl rv2.2) ⟨rfl, trivial⟩ rfl ?_
  rintro _ _ ⟨rfl, hsx⟩
  replace hs := hB _ _ hsx
  clear hB hsx hS2 hM hH
  obtain ⟨⟨v3, p3, f3⟩, ev3⟩ : ∃ q, numF xs p2 f2 = q := ⟨_, rfl⟩
  have rv3 := numF_rng (xs := xs) (p := p2) (f := f2) rv2.2
  rw [ev3] at hs rv3
  rw [ev3]
  dsimp only [List.cons_append, List.nil_append] at hs rv3 ⊢
  refine wl_as rfl rfl ?_; refine wl_ns ?_; refine wc_sr ?_; refine wl_mv rfl rfl ?_
  obtain ⟨S2, hS2, _, hM, hH, hB⟩ := St.lend (H1 := [.blk g 67 _]) (H2 := [_, _]) hs
  refine wl_call ok_block_reader_take (take_any (m := 1) hS2 (fun w' hm => hb _ (hM w' hm)) rfl hc hl rv3.2 (by decide)) ⟨rfl, rfl, trivial⟩ rfl ?_
  rintro _ _ ⟨⟨Pt1, ct1, rfl, kt1, qt1⟩, hsx⟩
  replace hs := hB _ _ hsx
  clear hB hsx hS2 hM hH
  obtain ⟨⟨t1, p4, f4⟩, et1⟩ : ∃ q, takF xs p3 f3 1 = q := ⟨_, rfl⟩
  have rt1 := takF_rng (xs := xs) (p := p3) (f := f3) (n := 1) rv3.2
  rw [et1] at hs rt1 kt1 qt1
  rw [et1]
  dsimp only [List.cons_append, List.nil_append] at hs rt1 kt1 qt1 ⊢
  refine wl_as rfl rfl ?_; refine wl_ns ?_; refine wc_sr ?_; refine wl_mv rfl rfl ?_
  obtain ⟨S2, hS2, _, hM, hH, hB⟩ := St.lend (H1 := [.blk g 67 _]) (H2 := [_, _]) hs
  refine wl_call ok_block_reader_number (number_any hS2 (fun w' hm => hb _ (hM w' hm)) rfl hl rt1) ⟨rfl, trivial⟩ rfl ?_
  rintro _ _ ⟨rfl, hsx⟩
  replace hs := hB _ _ hsx
  clear hB hsx hS2 hM hH
  obtain ⟨⟨z, p5, f5⟩, ez⟩ : ∃ q, numF xs p4 f4 = q := ⟨_, rfl⟩
  have rz := numF_rng (xs := xs) (p := p4) (f := f4) rt1
  rw [ez] at hs rz
  rw [ez]
  dsimp only [List.cons_append, List.nil_append] at hs rz ⊢
  have hcap := ow_cap (hs.ow 2 rfl)
  unfold rdV at hs
  have hk64 : ((key.length : Nat) : Int) = (key.length : Int) := rfl
  refine wl_as rfl rfl ?_; refine wl_ns ?_; refine wc_seq ?_; refine wc_sr ?_; refine wl_mv rfl rfl ?_; refine wl_mv rfl rfl ?_; apply wl_val; apply opv_nilOk; exact rfl; exact rfl; apply wl_val; apply opv_fa; exact fa_R (by decide); exact rfl; exact rfl; apply wl_val; apply opv_ldX; exact rfl; exact hs.ar 0 rfl; exact e1_by; exact rfl; exact rfl; apply wl_val; apply opv_len; exact rfl; exact tyB.sl; exact rfl; apply wl_val; apply opv_convR; exact rfl; exact Try.underlying3; exact Try.underlying33; exact IntWalk.u64_in _ (by omega); exact rfl; refine wl_bin rfl rfl bin_gtr rfl ?_; refine wl_ns ?_
  refine wc_cutE (fun L' w' => L' = [(0, .pointer (some ⟨g, 0, none⟩)), (2, .pointer (some ⟨g2, 0, none⟩)), (3, .int .u64 (v1 : Int)), (4, .int .u64 (v2 : Int)), (5, .int .u64 (v3 : Int)), (6, .slice Pt1 t1.length ct1), (7, .int .u64 (z : Int))] ∧ St S w w' [.blk g 67 (rdV A xs.length c p5 K key.length kc (f5 || decide (key.length < v1))), .blk g2 38 zE, .ow 5 K key.length kc (bvs key)]) ?_ ?_
  · refine wc_cond rfl (fun h1 => ?_) (fun h1 => ?_)
    · have e6 : (f5 || decide (key.length < v1)) = true := by rw [decide_eq_true (show key.length < v1 by omega), Bool.or_true]
      rw [e6]
      refine wc_region ?_; refine wl_mv rfl rfl ?_; apply wl_val; apply opv_nilOk; exact rfl; exact rfl; apply wl_val; apply opv_fa; exact fa_R (by decide); exact rfl; exact rfl; apply ws_st hs 0; exact rfl; exact rfl; exact e1_bB; exact rfl; exact rfl; exact rfl; clear hs; intro _ hs; dsimp only [setC, List.set] at hs; refine wl_nil ?_
      exact we_cut _ ⟨rfl, hs⟩ ⟨rfl, rfl, rfl, rfl, rfl, rfl, rfl, trivial⟩
    · have e6 : (f5 || decide (key.length < v1)) = f5 := by rw [decide_eq_false (show ¬ key.length < v1 by omega), Bool.or_false]
      rw [e6]
      refine wc_skip ?_
      exact we_cut _ ⟨rfl, hs⟩ ⟨rfl, rfl, rfl, rfl, rfl, rfl, rfl, trivial⟩
  clear hs
  rintro _ w9 ⟨rfl, hs⟩
  refine we_seq ?_; refine wc_sr ?_; refine wl_mv rfl rfl ?_; refine wl_mv rfl rfl ?_
  obtain ⟨S2, hS2, _, hM, hH, hB⟩ := St.lend (H1 := [.blk g 67 _]) (H2 := [_, _]) hs
  refine wl_call ok_block_reader_take (take_any (m := v2) hS2 (fun w' hm => hb _ (hM w' hm)) rfl hc hl rz.2 rv2.1) ⟨rfl, rfl, trivial⟩ rfl ?_
  rintro _ _ ⟨⟨Pt2, ct2, rfl, kt2, qt2⟩, hsx⟩
  replace hs := hB _ _ hsx
  clear hB hsx hS2 hM hH
  obtain ⟨⟨t2, p6, f7⟩, et2⟩ : ∃ q, takF xs p5 (f5 || decide (key.length < v1)) v2 = q := ⟨_, rfl⟩
  have rt2 := takF_rng (xs := xs) (p := p5) (f := (f5 || decide (key.length < v1))) (n := v2) rz.2
  rw [et2] at hs rt2 kt2 qt2
  rw [et2]
  dsimp only [List.cons_append, List.nil_append] at hs rt2 kt2 qt2 ⊢
  refine wl_as rfl rfl ?_; refine wl_ns ?_; refine wc_sr ?_; refine wl_mv rfl rfl ?_; refine wl_mv rfl rfl ?_
  obtain ⟨S2, hS2, _, hM, hH, hB⟩ := St.lend (H1 := [.blk g 67 _]) (H2 := [_, _]) hs
  refine wl_call ok_block_reader_take (take_any (m := z) hS2 (fun w' hm => hb _ (hM w' hm)) rfl hc hl rt2 rz.1) ⟨rfl, rfl, trivial⟩ rfl ?_
  rintro _ _ ⟨⟨Pt3, ct3, rfl, kt3, qt3⟩, hsx⟩
  replace hs := hB _ _ hsx
  clear hB hsx hS2 hM hH
  obtain ⟨⟨t3, p7, f8⟩, et3⟩ : ∃ q, takF xs p6 f7 z = q := ⟨_, rfl⟩
  have rt3 := takF_rng (xs := xs) (p := p6) (f := f7) (n := z) rt2
  rw [et3] at hs rt3 kt3 qt3
  rw [et3]
  dsimp only [List.cons_append, List.nil_append] at hs rt3 kt3 qt3 ⊢
  unfold rdV at hs
  refine wl_as rfl rfl ?_; refine wl_ns ?_; refine wc_seq ?_; refine wc_sr ?_; refine wl_mv rfl rfl ?_; apply wl_val; apply opv_nilOk; exact rfl; exact rfl; apply wl_val; apply opv_fa; exact fa_R (by decide); exact rfl; exact rfl; apply wl_val; apply opv_ldX; exact rfl; exact hs.ar 0 rfl; exact e1_bB; exact rfl; exact rfl; refine wl_ns ?_
  have hch := rd_chain hp ev1 ev2 ev3 et1 ez et2 et3
  cases f8 with
  | true =>
    obtain ⟨_, hnone⟩ : True ∧ rdE xs p key = none := hch.elim (fun h => ⟨trivial, h.2⟩) fun h => absurd h.1 (by decide)
    rw [hnone]
    apply wc_condTb; exact rfl; exact rfl; refine wc_sr ?_
    refine wl_val (opv_build (vs := []) (cs := zE) trivial (by kernel_rfl)) rfl ?_
    apply ws_stS hs 1; exact rfl; exact rfl; exact rfl; exact sE; exact rfl; exact rfl; clear hs; intro _ hs; dsimp only [setC] at hs; refine wl_ns ?_; refine wc_ret ?_; refine we_seq_ret ?_
    exact we_retC rfl rfl (hs.ar 1 rfl) sE ⟨_, rfl, p7, K, kc, rfl, (hs.drop 1 rfl).drop 1 rfl⟩
  | false =>
    obtain ⟨hv1, kd, rfl, hv3, hp7, hsome⟩ := hch.elim (fun h => absurd h.1 (by decide)) fun h => h.2
    rw [hsome]
    apply wc_condFb; exact rfl; exact rfl; refine wc_skip ?_; refine we_seq ?_; refine wc_sr ?_; refine wl_mv rfl rfl ?_; refine wl_mv rfl rfl ?_; apply wl_val; apply opv_nilOk; exact rfl; exact rfl; apply wl_val; apply opv_fa; exact fa_R (by decide); exact rfl; exact rfl; apply wl_val; apply opv_ldX; exact rfl; exact hs.ar 0 rfl; exact e1_by; exact rfl; exact rfl; refine wl_mv rfl rfl ?_
    have hcap := ow_cap (hs.ow 2 rfl)
    have hkt : (key.take v1).length = v1 := by simp; omega
    refine wl_sl (l := 0) (h := v1) tyB rfl rfl ⟨_, rfl⟩ (Nat.zero_le _) (by omega) rfl ?_
    have hpre := cutB_rd (l := 0) (h := v1) (c := kc) (xs := key) (hs.ow 2 rfl).rd (Nat.zero_le _) (by omega) hcap
    rw [List.drop_zero] at hpre
    rw [Nat.sub_zero, Nat.sub_zero]
    refine wl_call ok_bytes_Clone (clone_any hpre hkt (by omega)) ⟨rfl, trivial⟩ rfl ?_
    rintro _ w10 ⟨C, e, rfl, o_, hbx⟩
    replace hs := hs.newO hbx o_ (Nat.le_refl _)
    clear o_ hbx hpre
    rw [hkt] at hs
    rw [hkt]
    have ht2 : t2.length ≤ xs.length := by have h := takF_len (xs := xs) (p := p5) (f := (f5 || decide (key.length < v1))) (n := v2); rw [et2] at h; exact h
    have ht3 : t3.length ≤ xs.length := by have h := takF_len (xs := xs) (p := p6) (f := f7) (n := z); rw [et3] at h; exact h
    have hKl : (key.take v1 ++ t2).length = v1 + t2.length := by rw [List.length_append, hkt]
    refine wl_mv rfl rfl ?_
    refine ws_app (ys := bvs t2) (m := t2.length) hs 0 rfl rfl tyB rfl (qt2 _ (hb _ hs.1)) (bvs_one _) (by omega) (by simp only [maxLen]; omega) rfl ?_
    clear hs; intro K2 kc2 w11 hs; dsimp only [setC] at hs
    rw [← bvs_append, ← hKl] at hs
    rw [← hKl]
    obtain ⟨nk, hnk⟩ : ∃ q, key.take v1 ++ t2 = q := ⟨_, rfl⟩
    rw [hnk] at hs hKl
    rw [hnk]
    apply wl_val; apply opv_nilOk; exact rfl; exact rfl; apply wl_val; apply opv_fa; exact fa_R (by decide); exact rfl; exact rfl; apply ws_st hs 1; exact rfl; exact rfl; exact e1_by; exact rfl; exact rfl; exact rfl; clear hs; intro _ hs; dsimp only [setC, List.set] at hs; refine wl_ns ?_; refine wc_seq ?_
    have hrow : (bvs [kd])[0]? = some (bv kd) := rfl
    have hkd := qt1 _ (hb _ hs.1)
    refine wc_heldM 12 mixed fun w_ hS => ?_
    apply wm_take 0; exact rfl; intro _ hw_; apply opv_move; exact rfl; exact rfl; kernel_rfl; exact hS; apply wm_take 1; exact rfl; intro _ hw_; apply opv_nilOk; exact rfl; exact rfl; kernel_rfl; exact hS; apply wm_take 2; exact rfl; intro _ hw_; apply opv_fa; exact fa_R (by decide); exact rfl; exact rfl; kernel_rfl; exact hS; apply wm_take 3; exact rfl; intro _ hw_; apply opv_ldX; exact rfl; exact Ar.bel (hs.ar 1 rfl) hw_; exact e1_by; exact rfl; exact rfl; kernel_rfl; exact hS; apply wm_take 5; exact rfl; intro _ hw_; apply opv_move; exact rfl; exact rfl; kernel_rfl; exact hS; apply wm_take 6; exact rfl; intro _ hw_; apply opv_move; exact rfl; exact rfl; kernel_rfl; exact hS; apply wm_take 9; exact rfl; intro _ hw_; apply opv_move; exact rfl; exact rfl; kernel_rfl; exact hS
    refine wm_take 7 rfl (fun _ hw_ => opv_idxR tyB rfl rfl (RdB.below hkd hw_) rfl hrow) rfl (by kernel_rfl) hS ?_
    refine wm_take 8 rfl (fun _ hw_ => opv_loadR tyB rfl (RdB.below hkd hw_) hrow) rfl (by kernel_rfl) hS ?_
    replace hs := hs.below hS
    refine wm_one 4 (by kernel_rfl) rfl ?_; dsimp only [List.getElem_toArray, List.getElem_cons_succ, List.getElem_cons_zero]
    refine wl_call ok_bytes_Clone (clone_any (xs := nk) (hs.ow 0 rfl).rd rfl (by omega)) ⟨rfl, trivial⟩ rfl ?_; rintro _ _ ⟨X, cx, rfl, o_, hbx⟩; replace hs := hs.newO hbx o_ (Nat.le_refl _); try dsimp only [List.cons_append, List.nil_append, setC, delC] at hs
    replace hS := hS.trans (hbx.mono hS.size)
    clear o_ hbx
    refine wl_nil ?_
    refine we_heldM (fun _ => hS) ?_
    refine wm_one 10 (by kernel_rfl) rfl ?_; dsimp only [List.getElem_toArray, List.getElem_cons_succ, List.getElem_cons_zero]
    refine wl_call ok_bytes_Clone (clone_any (xs := t3) (qt3 _ (hb _ hs.1)) rfl (by omega)) ⟨rfl, trivial⟩ rfl ?_; rintro _ _ ⟨Y, cy, rfl, o_, hbx⟩; replace hs := hs.newO hbx o_ (Nat.le_refl _); try dsimp only [List.cons_append, List.nil_append, setC, delC] at hs
    replace hS := hS.trans (hbx.mono hS.size)
    clear o_ hbx
    refine wl_nil ?_
    refine we_heldM (fun _ => hS) ?_
    refine wm_one 11 (by kernel_rfl) rfl ?_; dsimp only [List.getElem_toArray, List.getElem_cons_succ, List.getElem_cons_zero]
    refine wl_val (opv_build (vs := [(0, .slice X nk.length cx), (1, .int .u64 (v3 : Int)), (2, bv kd), (3, .slice Y t3.length cy)]) (cs := enV ⟨nk, v3, kd, t3⟩ X cx Y cy) ⟨rfl, rfl, rfl, rfl, rfl, rfl, rfl, rfl, trivial⟩ (by kernel_rfl)) rfl ?_
    refine wl_nil ?_
    refine we_heldM (fun _ => hS) ?_
    refine wm_one 12 (by kernel_rfl) rfl ?_; dsimp only [List.getElem_toArray, List.getElem_cons_succ, List.getElem_cons_zero]
    apply ws_stS hs 4; exact rfl; exact rfl; exact rfl; exact sE; exact rfl; exact rfl; clear hs; intro _ hs; dsimp only [setC] at hs; refine wl_nil ?_
    refine we_heldM (fun h => absurd h (by decide)) ?_
    refine wm_done (by kernel_rfl) ?_
    refine we_seq ?_; refine wc_ret ?_
    refine we_retC rfl rfl (hs.ar 4 rfl) sE ⟨_, rfl, ?_⟩
    have hp7' : p7 = ((p7.toNat : Nat) : Int) := by omega
    rw [hp7'] at hs
    exact ⟨X, cx, Y, cy, K2, kc2, rfl, ((((((hs.drop 4 rfl).drop 4 rfl).front 2 rfl).front 3 rfl).front 2 rfl).front 3 rfl)⟩
end Go.Proofs.Ytojncfdlddepdaa


/-
  Walk over split of blocks.
-/
namespace Go.Proofs.Ytojncfdlddepdaa
open Go.RowKit

def natV (ns : List Nat) : List Value := ns.map fun (n : Nat) => Value.int .i64 (n : Int)
theorem natV_len (ns : List Nat) : (natV ns).length = ns.length := by simp [natV]
theorem natV_one (ns : List Nat) : ∀ u ∈ natV ns, u.oneCell' = true := by
  intro u hu; simp [natV] at hu; obtain ⟨_, _, rfl⟩ := hu; rfl
/-- What split answers: the entries' bytes and the places of the restarts. -/
def splB (b : List UInt8) : (List UInt8 × List Nat) × Nat :=
  match openB b 0 with
  | (body, next, 0) => if next < b.length ∨ body.length < 4 then (([], []), 3) else
      if (body.length - 4) / 4 < numB (body.drop (body.length - 4)) then (([], []), 3) else
      ((body.take (body.length - 4 - 4 * numB (body.drop (body.length - 4))), startsB (body.take (body.length - 4)) (body.length - 4 - 4 * numB (body.drop (body.length - 4))) (numB (body.drop (body.length - 4)))), 0)
  | (_, _, e) => (([], []), e)
theorem dec_spl (b : List UInt8) : decB b = match splB b with
    | ((body, ss), 0) => (match rdL body body.length 0 [] with
      | none => ([], 3)
      | some r => if buildB (evL ss (r.map (·.2))) (r.map (·.1)) = (b, 0) then (r.map (·.1), 0) else ([], 3))
    | (_, e) => ([], e) := by
  unfold decB splB
  rcases openB b 0 with ⟨body, next, e⟩
  cases e with
  | zero =>
    simp only
    split
    · rfl
    · split
      · rfl
      · simp only
        rw [show (body.take (body.length - 4 - 4 * numB (body.drop (body.length - 4)))).length = body.length - 4 - 4 * numB (body.drop (body.length - 4)) by rw [List.length_take]; omega]
        rfl
  | succ e => rfl
theorem spl_small {b body : List UInt8} {ss : List Nat} {e : Nat} (h : splB b = ((body, ss), e)) : body.length ≤ 1048576 ∧ body.length ≤ b.length ∧ ss.length ≤ 1048576 := by
  unfold splB at h
  rcases ho : openB b 0 with ⟨bo, next, e2⟩
  rw [ho] at h
  cases e2 with
  | zero =>
    have hi := openB_inv (q := 0) (Nat.zero_le _) ho
    simp only at h
    split at h
    · simp only [Prod.mk.injEq] at h; obtain ⟨⟨rfl, rfl⟩, _⟩ := h; simp
    · split at h
      · simp only [Prod.mk.injEq] at h; obtain ⟨⟨rfl, rfl⟩, _⟩ := h; simp
      · simp only [Prod.mk.injEq] at h; obtain ⟨⟨rfl, rfl⟩, _⟩ := h
        rw [List.length_take, startsB_len]; omega
  | succ e2 => simp only [Prod.mk.injEq] at h; obtain ⟨⟨rfl, rfl⟩, _⟩ := h; simp
theorem starts_succ (b : List UInt8) (e i : Nat) : startsB b e (i + 1) = startsB b e i ++ [numB ((b.drop (e + 4 * i)).take 4)] := by rw [startsB, List.range_succ, List.map_append]; rfl
set_option maxRecDepth 8000 in
theorem split_any {A : Option Addr} {n c : Nat} {xs : List UInt8} {w : World} (hr : RdB w A xs) (hn : xs.length = n) (hc : xs.length ≤ c) (hl : xs.length ≤ 1099511627776) :
    CallsV Try.prog 32 #[.slice A n c] w fun v w' => ∃ (P : Option Addr) (pc : Nat) (Q : Option Addr) (qc : Nat), v = .tuple #[.slice P (splB xs).1.1.length pc, .slice Q (splB xs).1.2.length qc, .int .i64 ((splB xs).2 : Nat)] ∧ (splB xs).1.1.length ≤ pc ∧ RdB w' P (splB xs).1.1 ∧ Rd w' Q (splB xs).1.2.length (natV (splB xs).1.2) ∧ Below w.heap.size w w' := by
  subst hn
  refine calls_in (N := _) Try.func32 rfl Try.ntmps32 rfl ?_; show WC _ _ _ _ _ _
  refine wc_sr ?_; refine wl_as rfl rfl ?_; refine wl_as rfl rfl ?_; refine wl_as rfl rfl ?_; refine wl_ns ?_; refine wc_sr ?_; refine wl_mv rfl rfl ?_
  obtain ⟨body, next, e, ho⟩ : ∃ b n e, openB xs 0 = (b, n, e) := ⟨_, _, _, rfl⟩
  refine wl_call ok_crc_Open (open_at ho hr rfl hc (by omega)) ⟨rfl, rfl, trivial⟩ rfl ?_
  rintro _ w1 ⟨B, cB, rfl, o1, hb⟩
  dsimp only
  cases e with
  | succ e =>
    have hs : splB xs = (([], []), e + 1) := by unfold splB; rw [ho]; rfl
    rw [hs]
    have h1 : ((e + 1 : Nat) : Int) ≠ 0 := by omega
    refine wl_mv rfl rfl ?_; apply wl_val; apply opv_extract; exact rfl; exact rfl; exact rfl; apply wl_val; apply opv_extract; exact rfl; exact rfl; exact rfl; apply wl_val; apply opv_extract; exact rfl; exact rfl; exact rfl; refine wl_as rfl rfl ?_; refine wl_as rfl rfl ?_; refine wl_as rfl rfl ?_; refine wl_ns ?_; refine wc_seq ?_; refine wc_sr ?_; refine wl_mv rfl rfl ?_; refine wl_bin rfl rfl bin_neq rfl ?_; refine wl_ns ?_; apply wc_condTb; exact rfl; exact rfl; refine wc_sr ?_; refine wl_mv rfl rfl ?_; refine wl_as rfl rfl ?_; refine wl_as rfl rfl ?_; refine wl_as rfl rfl ?_; refine wl_ns ?_; refine wc_ret ?_; refine we_seq_ret ?_
    exact we_ret3 rfl rfl rfl rfl ⟨_, rfl, none, 0, none, 0, rfl, Nat.zero_le _, Rd.nil _ _, Rd.nil _ _, hb⟩
  | zero =>
    have hi := openB_inv (q := 0) (Nat.zero_le _) ho
    by_cases h1 : next < xs.length ∨ body.length < 4
    · have hs : splB xs = (([], []), 3) := by unfold splB; rw [ho]; simp only; rw [if_pos h1]
      rw [hs]
      by_cases h2 : next < xs.length
      · have h2' : (next : Int) < (xs.length : Int) := by omega
        refine wl_mv rfl rfl ?_; apply wl_val; apply opv_extract; exact rfl; exact rfl; exact rfl; apply wl_val; apply opv_extract; exact rfl; exact rfl; exact rfl; apply wl_val; apply opv_extract; exact rfl; exact rfl; exact rfl; refine wl_as rfl rfl ?_; refine wl_as rfl rfl ?_; refine wl_as rfl rfl ?_; refine wl_ns ?_; refine wc_seq ?_; refine wc_sr ?_; refine wl_mv rfl rfl ?_; refine wl_bin rfl rfl bin_neq rfl ?_; refine wl_ns ?_; apply wc_condFb; exact rfl; exact rfl; refine wc_skip ?_; refine we_seq ?_; refine wc_seq ?_; refine wc_sr ?_; refine wl_mv rfl rfl ?_; refine wl_mv rfl rfl ?_; apply wl_val; apply opv_len; exact rfl; exact tyB.sl; exact rfl; refine wl_bin rfl rfl bin_lss rfl ?_; refine wl_mv rfl rfl ?_; apply wl_skip; exact rfl; exact rfl; exact rfl; refine bTn ?_; (with_reducible assumption); exact rfl; apply wl_skip; exact rfl; exact rfl; exact rfl; refine bTn ?_; (with_reducible assumption); exact rfl; apply wl_skip; exact rfl; exact rfl; exact rfl; refine bTn ?_; (with_reducible assumption); exact rfl; apply wl_val; apply opv_pickT; exact rfl; refine bT ?_; (with_reducible assumption); exact rfl; exact rfl; refine wl_ns ?_; apply wc_condTb; exact rfl; exact rfl; refine wc_sr ?_; refine wl_as rfl rfl ?_; refine wl_as rfl rfl ?_; refine wl_as rfl rfl ?_; refine wl_ns ?_; refine wc_ret ?_; refine we_seq_ret ?_
        exact we_ret3 rfl rfl rfl rfl ⟨_, rfl, none, 0, none, 0, rfl, Nat.zero_le _, Rd.nil _ _, Rd.nil _ _, hb⟩
      · have h2' : ¬ (next : Int) < (xs.length : Int) := by omega
        have h3' : (body.length : Int) < 4 := by omega
        refine wl_mv rfl rfl ?_; apply wl_val; apply opv_extract; exact rfl; exact rfl; exact rfl; apply wl_val; apply opv_extract; exact rfl; exact rfl; exact rfl; apply wl_val; apply opv_extract; exact rfl; exact rfl; exact rfl; refine wl_as rfl rfl ?_; refine wl_as rfl rfl ?_; refine wl_as rfl rfl ?_; refine wl_ns ?_; refine wc_seq ?_; refine wc_sr ?_; refine wl_mv rfl rfl ?_; refine wl_bin rfl rfl bin_neq rfl ?_; refine wl_ns ?_; apply wc_condFb; exact rfl; exact rfl; refine wc_skip ?_; refine we_seq ?_; refine wc_seq ?_; refine wc_sr ?_; refine wl_mv rfl rfl ?_; refine wl_mv rfl rfl ?_; apply wl_val; apply opv_len; exact rfl; exact tyB.sl; exact rfl; refine wl_bin rfl rfl bin_lss rfl ?_; refine wl_mv rfl rfl ?_; apply wl_take; exact rfl; exact rfl; exact rfl; refine bF ?_; (with_reducible assumption); refine wl_mv rfl rfl ?_; apply wl_take; exact rfl; exact rfl; exact rfl; refine bF ?_; (with_reducible assumption); apply wl_val; apply opv_len; exact rfl; exact tyB.sl; exact rfl; apply wl_take; exact rfl; exact rfl; exact rfl; refine bF ?_; (with_reducible assumption); refine wl_bin rfl rfl bin_lss rfl ?_; apply wl_val; apply opv_pickF; exact rfl; refine bF ?_; (with_reducible assumption); exact rfl; exact rfl; refine wl_ns ?_; apply wc_decT; exact rfl; (with_reducible assumption); refine wc_sr ?_; refine wl_as rfl rfl ?_; refine wl_as rfl rfl ?_; refine wl_as rfl rfl ?_; refine wl_ns ?_; refine wc_ret ?_; refine we_seq_ret ?_
        exact we_ret3 rfl rfl rfl rfl ⟨_, rfl, none, 0, none, 0, rfl, Nat.zero_le _, Rd.nil _ _, Rd.nil _ _, hb⟩
    · have h2' : ¬ (next : Int) < (xs.length : Int) := by omega
      have h3' : ¬ (body.length : Int) < 4 := by omega
      have h4 : 4 ≤ body.length := by omega
      have hcap : body.length ≤ cB := o1.cap
      have hm4 : (body.length : Int) - 4 = ((body.length - 4 : Nat) : Int) := by omega
      refine wl_mv rfl rfl ?_; apply wl_val; apply opv_extract; exact rfl; exact rfl; exact rfl; apply wl_val; apply opv_extract; exact rfl; exact rfl; exact rfl; apply wl_val; apply opv_extract; exact rfl; exact rfl; exact rfl; refine wl_as rfl rfl ?_; refine wl_as rfl rfl ?_; refine wl_as rfl rfl ?_; refine wl_ns ?_; refine wc_seq ?_; refine wc_sr ?_; refine wl_mv rfl rfl ?_; refine wl_bin rfl rfl bin_neq rfl ?_; refine wl_ns ?_; apply wc_condFb; exact rfl; exact rfl; refine wc_skip ?_; refine we_seq ?_; refine wc_seq ?_; refine wc_sr ?_; refine wl_mv rfl rfl ?_; refine wl_mv rfl rfl ?_; apply wl_val; apply opv_len; exact rfl; exact tyB.sl; exact rfl; refine wl_bin rfl rfl bin_lss rfl ?_; refine wl_mv rfl rfl ?_; apply wl_take; exact rfl; exact rfl; exact rfl; refine bF ?_; (with_reducible assumption); refine wl_mv rfl rfl ?_; apply wl_take; exact rfl; exact rfl; exact rfl; refine bF ?_; (with_reducible assumption); apply wl_val; apply opv_len; exact rfl; exact tyB.sl; exact rfl; apply wl_take; exact rfl; exact rfl; exact rfl; refine bF ?_; (with_reducible assumption); refine wl_bin rfl rfl bin_lss rfl ?_; apply wl_val; apply opv_pickF; exact rfl; refine bF ?_; (with_reducible assumption); exact rfl; exact rfl; refine wl_ns ?_; apply wc_decF; exact rfl; (with_reducible assumption); refine wc_skip ?_; refine we_seq ?_; refine wc_sr ?_; refine wl_mv rfl rfl ?_; refine wl_mv rfl rfl ?_; apply wl_val; apply opv_len; exact rfl; exact tyB.sl; exact rfl; apply wl_val; apply opv_bin; exact rfl; exact rfl; exact bin_sub64 (by omega); exact rfl
      refine wl_sl (l := body.length - 4) (h := body.length) tyB rfl ⟨_, congrArg (fun z => some (Value.int .i64 z)) hm4⟩ rfl (by omega) hcap rfl ?_
      have r1 := cutB_rd (l := body.length - 4) (h := body.length) (c := cB) (xs := body) o1.rd (by omega) (Nat.le_refl _) hcap
      rw [List.take_length] at r1
      have l1 : (body.drop (body.length - 4)).length = 4 := by rw [List.length_drop]; omega
      refine wl_call ok_block_get4 (get4_any (xs := body.drop (body.length - 4)) (n := body.length - (body.length - 4)) r1 (by rw [l1]; omega) (by omega)) ⟨rfl, trivial⟩ rfl ?_
      rintro _ w2 ⟨rfl, hbx⟩
      rw [List.take_of_length_le (show (body.drop (body.length - 4)).length ≤ 4 by omega)]
      have hs := ((St.init w).newO hb o1 (Nat.le_refl _)).below hbx
      clear o1 r1 hbx hb
      obtain ⟨k, hk⟩ : ∃ q, numB (body.drop (body.length - 4)) = q := ⟨_, rfl⟩
      have hklt : k < 4294967296 := by have := numB_lt (body.drop (body.length - 4)); rw [l1, hk] at this; exact this
      rw [hk]
      refine wl_as rfl rfl ?_; refine wl_ns ?_; refine wc_sr ?_; refine wl_mv rfl rfl ?_; refine wl_mv rfl rfl ?_; apply wl_val; apply opv_len; exact rfl; exact tyB.sl; exact rfl; apply wl_val; apply opv_bin; exact rfl; exact rfl; exact bin_sub64 (by omega); exact rfl
      refine wl_sl (l := 0) (h := body.length - 4) tyB rfl rfl ⟨_, congrArg (fun z => some (Value.int .i64 z)) hm4⟩ (Nat.zero_le _) (by omega) rfl ?_
      rw [cutA_zero, Nat.sub_zero, Nat.sub_zero]
      refine wl_as rfl rfl ?_; refine wl_ns ?_; refine wc_seq ?_; refine wc_sr ?_; refine wl_mv rfl rfl ?_; refine wl_mv rfl rfl ?_; apply wl_val; apply opv_len; exact rfl; exact tyB.sl; exact rfl
      refine wl_val (opv_bin (b := .int .i64 ((4 : Nat) : Int)) rfl rfl (bin_quoN (a := body.length - 4) (b := 4) (by decide) (by omega))) rfl ?_
      refine wl_bin rfl rfl bin_gtr rfl ?_; refine wl_ns ?_
      by_cases h5 : (body.length - 4) / 4 < k
      · have hsp : splB xs = (([], []), 3) := by unfold splB; rw [ho]; simp only; rw [if_neg h1, hk, if_pos h5]
        rw [hsp]
        have h5' : (((body.length - 4) / 4 : Nat) : Int) < (k : Int) := by omega
        apply wc_decT; exact rfl; (with_reducible assumption); refine wc_sr ?_; refine wl_as rfl rfl ?_; refine wl_as rfl rfl ?_; refine wl_as rfl rfl ?_; refine wl_ns ?_; refine wc_ret ?_; refine we_seq_ret ?_
        exact we_ret3 rfl rfl rfl rfl ⟨_, rfl, none, 0, none, 0, rfl, Nat.zero_le _, Rd.nil _ _, Rd.nil _ _, hs.bel⟩
      · have hsp : splB xs = ((body.take (body.length - 4 - 4 * k), startsB (body.take (body.length - 4)) (body.length - 4 - 4 * k) k), 0) := by unfold splB; rw [ho]; simp only; rw [if_neg h1, hk, if_neg h5]
        have h5' : ¬ (((body.length - 4) / 4 : Nat) : Int) < (k : Int) := by omega
        have h6 : 4 * k ≤ body.length - 4 := by omega
        apply wc_decF; exact rfl; (with_reducible assumption); refine wc_skip ?_; refine we_seq ?_; refine wc_sr ?_; refine wl_mv rfl rfl ?_; apply wl_val; apply opv_len; exact rfl; exact tyB.sl; exact rfl; refine wl_mv rfl rfl ?_
        refine wl_val (opv_bin (a := .int .i64 ((4 : Nat) : Int)) rfl rfl (bin_mulN (a := 4) (b := k) (by omega))) rfl ?_
        refine wl_val (opv_bin rfl rfl (bin_subN (a := body.length - 4) (b := 4 * k) h6 (by omega))) rfl ?_
        obtain ⟨q, hq⟩ : ∃ q, body.length - 4 - 4 * k = q := ⟨_, rfl⟩
        rw [hq] at hsp
        rw [hsp, hq]
        replace hs := hs.nilO 3
        refine wl_as rfl rfl ?_; refine wl_ns ?_; refine wc_sr ?_; refine wl_as rfl rfl ?_; refine wl_ns ?_; refine wc_seq ?_; refine wc_sr ?_; refine wl_mv rfl rfl ?_; refine wl_mv rfl rfl ?_; refine wl_ns ?_; refine wc_block ?_
        refine wc_loop (fun L wr mm => ∃ (i : Nat) (Q : Option Addr) (qc : Nat), L = [(5, .slice B (body.length - 4) cB), (9, .int .i64 (q : Int)), (10, .slice Q i qc), (51, .int .i64 (k : Int)), (52, .int .i64 (i : Int))] ∧ i ≤ k ∧ St NoB w wr [.ow 3 Q i qc (natV (startsB (body.take (body.length - 4)) q i)), .ow 5 B body.length cB (bvs body)] ∧ mm = k - i)
          [(5, .slice B (body.length - 4) cB), (9, .int .i64 (q : Int)), (10, .slice none 0 0), (51, .int .i64 (k : Int)), (52, .int .i64 (0 : Nat))] k ⟨0, none, 0, rfl, by omega, hs, rfl⟩ ⟨rfl, rfl, rfl, rfl, rfl, trivial⟩ ?_
        clear hs
        rintro _ w3 mm ⟨i, Q, qc, rfl, hi, hs, rfl⟩
        refine wc_sr ?_; refine wl_bin rfl rfl bin_lss rfl ?_; refine wl_ns ?_; refine wc_seq ?_
        refine wc_cond rfl (fun h7 => ?_) (fun h7 => ?_)
        · refine wc_skip ?_; refine we_seq ?_; refine wc_seq ?_; refine wc_block ?_; refine wc_sr ?_; refine wl_mv rfl rfl ?_; refine wl_as rfl rfl ?_; refine wl_ns ?_; refine wc_region ?_; refine wl_mv rfl rfl ?_; refine wl_mv rfl rfl ?_; refine wl_mv rfl rfl ?_; refine wl_mv rfl rfl ?_
          refine wl_val (opv_bin (a := .int .i64 ((4 : Nat) : Int)) rfl rfl (bin_mulN (a := 4) (b := i) (by omega))) rfl ?_
          refine wl_val (opv_bin rfl rfl (bin_addN (a := q) (b := 4 * i) (by omega))) rfl ?_
          refine wl_sl (l := q + 4 * i) (h := body.length - 4) tyB rfl ⟨_, rfl⟩ rfl (by omega) (by omega) rfl ?_
          have r2 := cutB_rd (l := q + 4 * i) (h := body.length - 4) (c := cB) (xs := body) (hs.ow 1 rfl).rd (by omega) (by omega) hcap
          have l2 : ((body.take (body.length - 4)).drop (q + 4 * i)).length = body.length - 4 - (q + 4 * i) := by rw [List.length_drop, List.length_take]; omega
          refine wl_call ok_block_get4 (get4_any r2 l2 (by omega)) ⟨rfl, trivial⟩ rfl ?_
          rintro _ w4 ⟨rfl, hbx⟩
          replace hs := hs.below hbx
          clear hbx r2
          have hst := starts_succ (body.take (body.length - 4)) q i
          refine ws_push (vs := natV [numB (((body.take (body.length - 4)).drop (q + 4 * i)).take 4)]) hs 0 rfl rfl tyI ⟨rfl, rfl, rfl, trivial⟩ rfl (by decide) rfl (by omega) (by simp only [maxLen]; omega) rfl rfl ?_
          clear hs; intro _ Q2 qc2 w5 hs; dsimp only [setC] at hs
          rw [show natV (startsB (body.take (body.length - 4)) q i) ++ natV [numB (((body.take (body.length - 4)).drop (q + 4 * i)).take 4)] = natV (startsB (body.take (body.length - 4)) q (i + 1)) by rw [hst]; simp [natV]] at hs
          refine wl_as rfl rfl ?_; refine wl_nil ?_; refine we_block_norm ?_; refine we_seq ?_; refine wc_region ?_; apply wl_val; apply opv_bin; exact rfl; exact rfl; exact bin_add64 (by omega); exact rfl; refine wl_mv rfl rfl ?_; refine wl_nil ?_
          exact we_loop _ (k - (i + 1)) ⟨i + 1, Q2, qc2, rfl, by omega, hs, rfl⟩ (by omega) ⟨rfl, rfl, rfl, rfl, by simp [lookT], trivial⟩
        · obtain rfl : i = k := by omega
          have l3 : (body.take q).length = q := by rw [List.length_take]; omega
          have l4 : (startsB (body.take (body.length - 4)) q i).length = i := startsB_len _ _ _
          refine wc_exit ?_; refine we_seq_exit ?_; refine we_loop_exit ?_; refine we_block_exit ?_; refine we_seq ?_; refine wc_sr ?_; refine wl_mv rfl rfl ?_; refine wl_mv rfl rfl ?_
          refine wl_sl (l := 0) (h := q) tyB rfl rfl ⟨_, rfl⟩ (Nat.zero_le _) (by omega) rfl ?_
          rw [cutA_zero, Nat.sub_zero, Nat.sub_zero]
          have r3 := cutB_rd (l := 0) (h := q) (c := cB) (xs := body) (hs.ow 1 rfl).rd (Nat.zero_le _) (by omega) hcap
          rw [cutA_zero, List.drop_zero] at r3
          refine wl_mv rfl rfl ?_; refine wl_as rfl rfl ?_; refine wl_as rfl rfl ?_; refine wl_as rfl rfl ?_; refine wl_ns ?_; refine wc_ret ?_
          refine we_ret3 rfl rfl rfl rfl ⟨_, rfl, B, cB, Q, qc, ?_, ?_, r3, ?_, hs.bel⟩
          · show Value.tuple #[.slice B q cB, .slice Q i qc, .int .i64 0] = .tuple #[.slice B (body.take q).length cB, .slice Q (startsB (body.take (body.length - 4)) q i).length qc, .int .i64 0]
            rw [l3, l4]
          · show (body.take q).length ≤ cB
            omega
          · show Rd _ Q (startsB (body.take (body.length - 4)) q i).length (natV (startsB (body.take (body.length - 4)) q i))
            rw [l4]; exact (hs.ow 0 rfl).rd
end Go.Proofs.Ytojncfdlddepdaa


/-
  Walk over Decode of blocks.
-/
namespace Go.Proofs.Ytojncfdlddepdaa
open Go.RowKit

theorem rdE_bnd {b key : List UInt8} {p p' : Nat} {x : En} (h : rdE b p key = some (x, p')) : x.key.length ≤ key.length + (p' - p) ∧ x.val.length ≤ p' - p ∧ x.seq < 2 ^ 64 := by
  unfold rdE at h
  split at h
  case h_2 => cases h
  rename_i s p1 h1
  split at h
  case h_2 => cases h
  rename_i r p2 h2
  split at h
  case h_2 => cases h
  rename_i q p3 h3
  split at h
  case h_1 => cases h
  rename_i kd h4
  split at h
  case h_2 => cases h
  rename_i z p5 h5
  have i1 := getU_adv h1
  have i2 := getU_adv h2
  have i3 := getU_adv h3
  have i5 := getU_adv h5
  have j3 := (getU_rng h3).1
  split at h
  · cases h
  · split at h
    · cases h
    · split at h
      · cases h
      · simp only [Option.some.injEq, Prod.mk.injEq] at h
        obtain ⟨rfl, rfl⟩ := h
        simp only [List.length_append, List.length_take, List.length_drop]
        omega
theorem rdL_step {b key : List UInt8} {f p p' : Nat} {x : En} (hp : p < b.length) (h : rdE b p key = some (x, p')) : rdL b (f + 1) p key = (rdL b f p' x.key).map ((x, p) :: ·) := by rw [rdL, if_pos hp, h]
theorem rdL_bad {b key : List UInt8} {f p : Nat} (hp : p < b.length) (h : rdE b p key = none) : rdL b (f + 1) p key = none := by rw [rdL, if_pos hp, h]
theorem rdL_end {b key : List UInt8} {f p : Nat} (hp : ¬ p < b.length) : rdL b f p key = some [] := by
  cases f with
  | zero => rw [rdL, if_neg hp]
  | succ f => rw [rdL, if_neg hp]
theorem evF_app (ss ps qs : List Nat) : ∀ i, i ≤ ps.length → evF ss (ps ++ qs) i = evF ss ps i
  | 0, _ => rfl
  | i + 1, h => by
    rw [evF, evF, evF_app ss ps qs i (by omega), List.getElem?_append_left (by omega)]
theorem evF_le (ss ps : List Nat) : ∀ i, evF ss ps i ≤ i
  | 0 => Nat.le_refl _
  | i + 1 => by
    have := evF_le ss ps i
    rw [evF]; split <;> omega
theorem opt_map_app {α : Type} {o : Option (List α)} {a : α} {l : List α} : (o.map (a :: ·)).map (l ++ ·) = o.map ((l ++ [a]) ++ ·) := by
  cases o with
  | none => rfl
  | some x => simp
/-- What the loop of Decode knows. -/
structure DecI (body : List UInt8) (done : List (En × Nat)) (p : Nat) (key : List UInt8) (f : Nat) : Prop where
  all : rdL body body.length 0 [] = (rdL body f p key).map (done ++ ·)
  fuel : body.length ≤ p + f
  le : p ≤ body.length
  key : key.length ≤ p
  len : done.length ≤ p
  siz : ∀ y ∈ done, y.1.key.length ≤ body.length ∧ y.1.val.length ≤ body.length ∧ y.1.seq < 2 ^ 64
theorem DecI.start (body : List UInt8) : DecI body [] 0 [] body.length := ⟨by cases rdL body body.length 0 [] <;> simp, by omega, Nat.zero_le _, Nat.zero_le _, Nat.zero_le _, by simp⟩
theorem DecI.step {body key : List UInt8} {done : List (En × Nat)} {p p' f : Nat} {x : En} (h : DecI body done p key f) (hp : p < body.length) (hr : rdE body p key = some (x, p')) : ∃ f', DecI body (done ++ [(x, p)]) p' x.key f' ∧ p < p' := by
  have h1 := rdE_inv hr
  have h2 := rdE_bnd hr
  have hk := h.key
  have hl := h.len
  obtain ⟨f', rfl⟩ : ∃ f', f = f' + 1 := ⟨f - 1, by have := h.fuel; omega⟩
  refine ⟨f', ⟨?_, ?_, h1.2, ?_, ?_, fun y hy => ?_⟩, h1.1⟩
  · rw [h.all, rdL_step hp hr, opt_map_app]
  · have := h.fuel; omega
  · omega
  · rw [List.length_append]; simp; omega
  · rcases List.mem_append.1 hy with hy | hy
    · exact h.siz y hy
    · rw [List.mem_singleton.1 hy]
      show x.key.length ≤ body.length ∧ x.val.length ≤ body.length ∧ x.seq < 2 ^ 64
      exact ⟨by omega, by omega, h2.2.2⟩
theorem DecI.bad {body key : List UInt8} {done : List (En × Nat)} {p f : Nat} (h : DecI body done p key f) (hp : p < body.length) (hr : rdE body p key = none) : rdL body body.length 0 [] = none := by
  obtain ⟨f', rfl⟩ : ∃ f', f = f' + 1 := ⟨f - 1, by have := h.fuel; omega⟩
  rw [h.all, rdL_bad hp hr]; rfl
theorem DecI.fin {body key : List UInt8} {done : List (En × Nat)} {p f : Nat} (h : DecI body done p key f) (hp : ¬ p < body.length) : rdL body body.length 0 [] = some done := by rw [h.all, rdL_end hp]; simp
set_option maxRecDepth 8000 in
theorem decode_any {A : Option Addr} {n c : Nat} {xs : List UInt8} {w : World} (hr : RdB w A xs) (hn : xs.length = n) (hc : xs.length ≤ c) (hl : xs.length ≤ 1099511627776) :
    CallsV Try.prog 10 #[.slice A n c] w fun v w' => ∃ (R : Option Addr) (rc : Nat), v = .tuple #[.slice R (decB xs).1.length rc, .int .i64 ((decB xs).2 : Nat)] ∧ St NoB w w' [.ck (rsC 4 38 R rc ((decB xs).1.map oE))] := by
  subst hn
  refine calls_in (N := _) Try.func10 rfl Try.ntmps10 rfl ?_; show WC _ _ _ _ _ _
  refine wc_sr ?_; refine wl_as rfl rfl ?_; refine wl_as rfl rfl ?_; refine wl_ns ?_; refine wc_sr ?_; refine wl_mv rfl rfl ?_
  obtain ⟨⟨⟨body, ss⟩, e⟩, hsp⟩ : ∃ q, splB xs = q := ⟨_, rfl⟩
  obtain ⟨hs1, hs2, hs3⟩ := spl_small hsp
  refine wl_call ok_block_split (split_any hr rfl hc hl) ⟨rfl, trivial⟩ rfl ?_
  rw [hsp]
  rintro _ w1 ⟨P, pc, Q, qc, rfl, hpc, rP, rQ, hb⟩
  dsimp only at hpc rP rQ ⊢
  by_cases he : e = 0
  · subst he
    have hdec : decB xs = (match rdL body body.length 0 [] with
      | none => ([], 3)
      | some r => if buildB (evL ss (r.map (·.2))) (r.map (·.1)) = (xs, 0) then (r.map (·.1), 0) else ([], 3)) := by rw [dec_spl, hsp]; rfl
    have hs := (St.init w1).nilO 5
    refine wl_mv rfl rfl ?_; apply wl_val; apply opv_extract; exact rfl; exact rfl; exact rfl; apply wl_val; apply opv_extract; exact rfl; exact rfl; exact rfl; apply wl_val; apply opv_extract; exact rfl; exact rfl; exact rfl; refine wl_as rfl rfl ?_; refine wl_as rfl rfl ?_; refine wl_as rfl rfl ?_; refine wl_ns ?_; refine wc_seq ?_; refine wc_sr ?_; refine wl_mv rfl rfl ?_; refine wl_bin rfl rfl bin_neq rfl ?_; refine wl_ns ?_; apply wc_condFb; exact rfl; exact rfl; refine wc_skip ?_; refine we_seq ?_; refine wc_sr ?_; refine wl_as rfl rfl ?_; refine wl_ns ?_; refine wc_sr ?_; refine wl_as rfl rfl ?_; refine wl_ns ?_; refine wc_sr ?_; refine wl_mv rfl rfl ?_
    refine wl_val (opv_build (vs := [(0, .slice P body.length pc)]) (cs := rdV P body.length pc 0 none 0 0 false) ⟨rfl, rfl, trivial⟩ (by kernel_rfl)) rfl ?_
    refine ws_box (cs := rdV P body.length pc 0 none 0 0 false) hs rfl rfl ?_; clear hs; intro g9 _ hs
    replace hs := hs.nilS 4 38
    refine wl_as rfl rfl ?_; refine wl_ns ?_; refine wc_seq ?_; refine wc_block ?_
    refine wc_loop (fun L wr mm => ∃ (done : List (En × Nat)) (p : Nat) (key : List UInt8) (f : Nat) (R : Option Addr) (rc : Nat) (K : Option Addr) (kc : Nat), L = [(0, .slice A xs.length c), (4, .slice P body.length pc), (5, .slice Q ss.length qc), (7, .slice R done.length rc), (8, .int .i64 (evF ss (done.map (·.2)) done.length : Nat)), (9, .pointer (some ⟨g9, 0, none⟩))] ∧ DecI body done p key f ∧ St NoB w1 wr [.ck (rsC 4 38 R rc ((done.map (·.1)).map oE)), .blk g9 67 (rdV P body.length pc (p : Nat) K key.length kc false), .ow 5 K key.length kc (bvs key)] ∧ mm = body.length - p)
      [(0, .slice A xs.length c), (4, .slice P body.length pc), (5, .slice Q ss.length qc), (7, .slice none 0 0), (8, .int .i64 0), (9, .pointer (some ⟨g9, 0, none⟩))] body.length ⟨[], 0, [], body.length, none, 0, none, 0, rfl, DecI.start body, hs, rfl⟩ ⟨rfl, rfl, rfl, rfl, rfl, rfl, trivial⟩ ?_
    clear hs
    rintro _ w2 mm ⟨done, p, key, f, R, rc, K, kc, rfl, hI, hs, rfl⟩
    unfold rdV at hs
    refine wc_seq ?_; refine wc_sr ?_; refine wl_mv rfl rfl ?_; apply wl_val; apply opv_nilOk; exact rfl; exact rfl; apply wl_val; apply opv_fa; exact fa_R (by decide); exact rfl; exact rfl; apply wl_val; apply opv_ldX; exact rfl; exact hs.ar 1 rfl; exact e1_iB; exact rfl; exact rfl; refine wl_mv rfl rfl ?_; apply wl_val; apply opv_len; exact rfl; exact tyB.sl; exact rfl; refine wl_bin rfl rfl bin_lss rfl ?_; refine wl_ns ?_
    refine wc_cond rfl (fun h1 => ?_) (fun h1 => ?_)
    · have hlt : p < body.length := by omega
      have hbw := hs.bel
      have hQ := rQ.below hbw
      have hpl : (done.map (·.2) ++ [p])[done.length]? = some p := by rw [List.getElem?_append_right (by simp)]; simp
      refine wc_skip ?_; refine we_seq ?_; refine wc_block ?_; refine wc_seq ?_; refine wc_seq ?_
      refine wc_cutE (fun L' w' => ∃ t : Bool, L' = [(0, .slice A xs.length c), (4, .slice P body.length pc), (5, .slice Q ss.length qc), (7, .slice R done.length rc), (8, .int .i64 (evF ss (done.map (·.2)) done.length : Nat)), (9, .pointer (some ⟨g9, 0, none⟩)), (47, .bool t)] ∧ St NoB w1 w' [.ck (rsC 4 38 R rc ((done.map (·.1)).map oE)), .blk g9 67 [.slice P body.length pc, .int .i64 (p : Int), .slice K key.length kc, .bool false], .ow 5 K key.length kc (bvs key)] ∧ (t = true ↔ (1 < ss.length ∧ some p = ss[1]? ∧ evF ss (done.map (·.2)) done.length = 0))) ?_ ?_
      · by_cases k1 : 1 < ss.length
        · obtain ⟨s1, hs1⟩ : ∃ s, ss[1]? = some s := ⟨_, List.getElem?_eq_getElem k1⟩
          have hu : (natV ss)[1]? = some (.int .i64 (s1 : Int)) := by rw [natV, List.getElem?_map, hs1]; rfl
          have k1' : (1 : Int) < (ss.length : Int) := by omega
          have a9 := hs.ar 1 rfl
          by_cases k2 : p = s1
          · have k2' : (p : Int) = (s1 : Int) := by omega
            refine wc_drawB mixed (by kernel_rfl) ?_
            apply wq_val; intro _ hw_; apply opv_move; exact rfl; exact rfl; apply wq_val; intro _ hw_; apply opv_len; exact rfl; exact tyI.sl; exact rfl; apply wq_val; intro _ hw_; apply opv_bin; exact rfl; exact rfl; exact bin_gtr; exact rfl; apply wq_val; intro _ hw_; apply opv_move; exact rfl; exact rfl; apply wq_take; exact rfl; exact rfl; exact rfl; refine bT ?_; (with_reducible assumption); apply wq_val; intro _ hw_; apply opv_move; exact rfl; exact rfl; apply wq_take; exact rfl; exact rfl; exact rfl; refine bT ?_; (with_reducible assumption); apply wq_val; intro _ hw_; apply opv_nilOk; exact rfl; exact rfl; apply wq_take; exact rfl; exact rfl; exact rfl; refine bT ?_; (with_reducible assumption); apply wq_val; intro _ hw_; apply opv_fa; exact fa_R (by decide); exact rfl; exact rfl; apply wq_take; exact rfl; exact rfl; exact rfl; refine bT ?_; (with_reducible assumption); apply wq_val; intro _ hw_; apply opv_ldX; exact rfl; exact Ar.bel (by assumption) hw_; exact e1_iB; exact rfl; exact rfl; apply wq_take; exact rfl; exact rfl; exact rfl; refine bT ?_; (with_reducible assumption); apply wq_val; intro _ hw_; apply opv_move; exact rfl; exact rfl; apply wq_elTK (T := tyI) (hr := hQ) (hb := hu); exact rfl; exact rfl; exact rfl; refine bT ?_; (with_reducible assumption); exact rfl; exact rfl; exact rfl; exact rfl; refine bT ?_; (with_reducible assumption); exact rfl; exact rfl; exact rfl; exact rfl; exact rfl; intro _; apply wq_take; exact rfl; exact rfl; exact rfl; refine bT ?_; (with_reducible assumption); apply wq_val; intro _ hw_; apply opv_bin; exact rfl; exact rfl; exact bin_eql; exact rfl; apply wq_val; intro _ hw_; apply opv_pickT; exact rfl; refine bT ?_; (with_reducible assumption); exact rfl; exact rfl; apply wq_val; intro _ hw_; apply opv_move; exact rfl; exact rfl; apply wq_take; exact rfl; exact rfl; exact rfl; refine bT ?_; (with_reducible assumption); apply wq_val; intro _ hw_; apply opv_move; exact rfl; exact rfl; apply wq_take; exact rfl; exact rfl; exact rfl; refine bT ?_; (with_reducible assumption); apply wq_val; intro _ hw_; apply opv_bin; exact rfl; exact rfl; exact bin_eql; exact rfl; apply wq_val; intro _ hw_; apply opv_pickT; exact rfl; refine bT ?_; (with_reducible assumption); exact rfl; exact rfl; refine wq_nil fun w1 hw1 => ?_
            replace hs := hs.below hw1
            skip
            refine we_cut _ ⟨decide (((evF ss (done.map (·.2)) done.length : Nat) : Int) = 0), rfl, hs, ?_⟩ ⟨rfl, rfl, rfl, rfl, rfl, rfl, rfl, trivial⟩
            rw [decide_eq_true_eq]
            constructor
            · intro h; exact ⟨k1, by rw [hs1, k2], by omega⟩
            · intro h; omega
          · have k2' : ¬ (p : Int) = (s1 : Int) := by omega
            refine wc_drawB mixed (by kernel_rfl) ?_
            apply wq_val; intro _ hw_; apply opv_move; exact rfl; exact rfl; apply wq_val; intro _ hw_; apply opv_len; exact rfl; exact tyI.sl; exact rfl; apply wq_val; intro _ hw_; apply opv_bin; exact rfl; exact rfl; exact bin_gtr; exact rfl; apply wq_val; intro _ hw_; apply opv_move; exact rfl; exact rfl; apply wq_take; exact rfl; exact rfl; exact rfl; refine bT ?_; (with_reducible assumption); apply wq_val; intro _ hw_; apply opv_move; exact rfl; exact rfl; apply wq_take; exact rfl; exact rfl; exact rfl; refine bT ?_; (with_reducible assumption); apply wq_val; intro _ hw_; apply opv_nilOk; exact rfl; exact rfl; apply wq_take; exact rfl; exact rfl; exact rfl; refine bT ?_; (with_reducible assumption); apply wq_val; intro _ hw_; apply opv_fa; exact fa_R (by decide); exact rfl; exact rfl; apply wq_take; exact rfl; exact rfl; exact rfl; refine bT ?_; (with_reducible assumption); apply wq_val; intro _ hw_; apply opv_ldX; exact rfl; exact Ar.bel (by assumption) hw_; exact e1_iB; exact rfl; exact rfl; apply wq_take; exact rfl; exact rfl; exact rfl; refine bT ?_; (with_reducible assumption); apply wq_val; intro _ hw_; apply opv_move; exact rfl; exact rfl; apply wq_elTK (T := tyI) (hr := hQ) (hb := hu); exact rfl; exact rfl; exact rfl; refine bT ?_; (with_reducible assumption); exact rfl; exact rfl; exact rfl; exact rfl; refine bT ?_; (with_reducible assumption); exact rfl; exact rfl; exact rfl; exact rfl; exact rfl; intro _; apply wq_take; exact rfl; exact rfl; exact rfl; refine bT ?_; (with_reducible assumption); apply wq_val; intro _ hw_; apply opv_bin; exact rfl; exact rfl; exact bin_eql; exact rfl; apply wq_val; intro _ hw_; apply opv_pickT; exact rfl; refine bT ?_; (with_reducible assumption); exact rfl; exact rfl; apply wq_val; intro _ hw_; apply opv_move; exact rfl; exact rfl; apply wq_skip; exact rfl; exact rfl; exact rfl; refine bFn ?_; (with_reducible assumption); exact rfl; apply wq_skip; exact rfl; exact rfl; exact rfl; refine bFn ?_; (with_reducible assumption); exact rfl; apply wq_val; intro _ hw_; apply opv_pickF; exact rfl; refine bF ?_; (with_reducible assumption); exact rfl; exact rfl; refine wq_nil fun w1 hw1 => ?_
            replace hs := hs.below hw1
            skip
            refine we_cut _ ⟨false, rfl, hs, ?_⟩ ⟨rfl, rfl, rfl, rfl, rfl, rfl, rfl, trivial⟩
            constructor
            · intro h; cases h
            · rintro ⟨_, h, _⟩; rw [hs1] at h; exact absurd (Option.some.inj h) k2
        · have k1' : ¬ (1 : Int) < (ss.length : Int) := by omega
          refine wc_drawB mixed (by kernel_rfl) ?_
          apply wq_val; intro _ hw_; apply opv_move; exact rfl; exact rfl; apply wq_val; intro _ hw_; apply opv_len; exact rfl; exact tyI.sl; exact rfl; apply wq_val; intro _ hw_; apply opv_bin; exact rfl; exact rfl; exact bin_gtr; exact rfl; apply wq_val; intro _ hw_; apply opv_move; exact rfl; exact rfl; apply wq_skip; exact rfl; exact rfl; exact rfl; refine bFn ?_; (with_reducible assumption); exact rfl; apply wq_skip; exact rfl; exact rfl; exact rfl; refine bFn ?_; (with_reducible assumption); exact rfl; apply wq_skip; exact rfl; exact rfl; exact rfl; refine bFn ?_; (with_reducible assumption); exact rfl; apply wq_skip; exact rfl; exact rfl; exact rfl; refine bFn ?_; (with_reducible assumption); exact rfl; apply wq_skip; exact rfl; exact rfl; exact rfl; refine bFn ?_; (with_reducible assumption); exact rfl; apply wq_skip; exact rfl; exact rfl; exact rfl; refine bFn ?_; (with_reducible assumption); exact rfl; apply wq_skip; exact rfl; exact rfl; exact rfl; refine bFn ?_; (with_reducible assumption); exact rfl; apply wq_skip; exact rfl; exact rfl; exact rfl; refine bFn ?_; (with_reducible assumption); exact rfl; apply wq_val; intro _ hw_; apply opv_pickF; exact rfl; refine bF ?_; (with_reducible assumption); exact rfl; exact rfl; apply wq_val; intro _ hw_; apply opv_move; exact rfl; exact rfl; apply wq_skip; exact rfl; exact rfl; exact rfl; exact bR2; exact rfl; apply wq_skip; exact rfl; exact rfl; exact rfl; exact bR2; exact rfl; apply wq_val; intro _ hw_; apply opv_pickF; exact rfl; exact rfl; exact rfl; exact rfl; refine wq_nil fun w1 hw1 => ?_
          replace hs := hs.below hw1
          skip
          refine we_cut _ ⟨false, rfl, hs, ?_⟩ ⟨rfl, rfl, rfl, rfl, rfl, rfl, rfl, trivial⟩
          constructor
          · intro h; cases h
          · rintro ⟨h, _⟩; exact absurd h k1
      clear hs
      rintro _ w3 ⟨t, rfl, hs, ht⟩
      have hev0 : evF ss (done.map (·.2) ++ [p]) done.length = evF ss (done.map (·.2)) done.length := evF_app _ _ _ _ (by simp)
      refine we_seq ?_
      refine wc_cutE (fun L' w' => L' = [(0, .slice A xs.length c), (4, .slice P body.length pc), (5, .slice Q ss.length qc), (7, .slice R done.length rc), (8, .int .i64 (evF ss (done.map (·.2) ++ [p]) (done.length + 1) : Nat)), (9, .pointer (some ⟨g9, 0, none⟩))] ∧ St NoB w1 w' [.ck (rsC 4 38 R rc ((done.map (·.1)).map oE)), .blk g9 67 [.slice P body.length pc, .int .i64 (p : Int), .slice K key.length kc, .bool false], .ow 5 K key.length kc (bvs key)]) ?_ ?_
      · cases t with
        | true =>
          have hev : evF ss (done.map (·.2) ++ [p]) (done.length + 1) = done.length := by rw [evF, hpl, hev0, if_pos (ht.1 rfl)]
          rw [hev]
          apply wc_condTb; exact rfl; exact rfl; refine wc_region ?_; refine wl_mv rfl rfl ?_; apply wl_val; apply opv_len; exact rfl; exact tkE.sl; exact rfl; refine wl_as rfl rfl ?_; refine wl_nil ?_
          exact we_cut _ ⟨rfl, hs⟩ ⟨rfl, rfl, rfl, rfl, rfl, rfl, trivial⟩
        | false =>
          have hev : evF ss (done.map (·.2) ++ [p]) (done.length + 1) = evF ss (done.map (·.2)) done.length := by rw [evF, hpl, hev0, if_neg fun h => by have := ht.2 h; cases this]
          rw [hev]
          apply wc_condFb; exact rfl; exact rfl; refine wc_skip ?_
          exact we_cut _ ⟨rfl, hs⟩ ⟨rfl, rfl, rfl, rfl, rfl, rfl, trivial⟩
      clear hs
      rintro _ w4 ⟨rfl, hs⟩
      have hdl := hI.len
      have hkl := hI.key
      refine we_seq ?_; refine wc_sr ?_; refine wl_mv rfl rfl ?_; refine wl_mv rfl rfl ?_
      obtain ⟨S2, hS2, _, hM, hH, hB⟩ := St.lend (H1 := [.blk g9 67 (rdV P body.length pc (p : Nat) K key.length kc false), .ow 5 K key.length kc (bvs key)]) (H2 := [.ck (rsC 4 38 R rc ((done.map (·.1)).map oE))]) ((hs.front 2 rfl).front 2 rfl)
      refine wl_call ok_block_reader_entry (rdEntry_any (xs := body) hS2 (fun w' hm => rP.below (hM w' hm).below) rfl hpc (by omega) hI.le (by omega)) ⟨rfl, trivial⟩ rfl ?_
      intro v w5 hout
      cases hrd : rdE body p key with
      | none =>
        rw [hrd] at hout
        obtain ⟨p', K', kc', rfl, hsx⟩ := hout
        replace hs := hB _ _ hsx
        clear hB hsx hS2 hM hH
        dsimp only [List.cons_append, List.nil_append] at hs
        replace hs := (((hs.nilO 5).nilO 5).pack (H1 := enOw ⟨[], 0, 0, []⟩ none 0 none 0) (.ce (oE ⟨[], 0, 0, []⟩) (enV ⟨[], 0, 0, []⟩ none 0 none 0)) oE_of).front 2 rfl
        dsimp only [delC] at hs
        have hnone := hI.bad hlt hrd
        rw [hnone] at hdec
        rw [hdec]
        skip
        refine ws_pushS hs tkE (fun _ => rfl) (by simp) ⟨_, rfl, rfl⟩ rfl rfl (by decide) (by omega) (by simp only [maxLen]; omega) rfl rfl ?_; clear hs; intro _ R2 c2 _ hs
        unfold rdV at hs
        refine wl_as rfl rfl ?_; refine wl_ns ?_; refine wc_sr ?_; refine wl_mv rfl rfl ?_; apply wl_val; apply opv_nilOk; exact rfl; exact rfl; apply wl_val; apply opv_fa; exact fa_R (by decide); exact rfl; exact rfl; apply wl_val; apply opv_ldX; exact rfl; exact hs.ar 1 rfl; exact e1_bB; exact rfl; exact rfl; refine wl_ns ?_; apply wc_condTb; exact rfl; exact rfl; refine wc_sr ?_; refine wl_as rfl rfl ?_; refine wl_as rfl rfl ?_; refine wl_ns ?_; refine wc_ret ?_; refine we_block_ret ?_; refine we_loop_ret ?_; refine we_block_ret ?_; refine we_seq_ret ?_
        exact we_ret2 rfl rfl rfl ⟨_, rfl, none, 0, rfl, (hs.nil.nilS 4 38).rebase hb⟩
      | some y =>
        obtain ⟨x, p'⟩ := y
        rw [hrd] at hout
        obtain ⟨X, cx, Y, cy, K', kc', rfl, hsx⟩ := hout
        replace hs := hB _ _ hsx
        clear hB hsx hS2 hM hH
        dsimp only [List.cons_append, List.nil_append] at hs
        replace hs := (hs.pack (H1 := enOw x X cx Y cy) (.ce (oE x) (enV x X cx Y cy)) oE_of).front 3 rfl
        dsimp only [delC] at hs
        obtain ⟨f', hI2, hpp⟩ := hI.step hlt hrd
        have hle2 := hI2.le
        skip
        refine ws_pushS hs tkE (fun _ => rfl) (by simp) ⟨_, rfl, rfl⟩ rfl rfl (by decide) (by omega) (by simp only [maxLen]; omega) rfl rfl ?_; clear hs; intro _ R2 c2 _ hs
        unfold rdV at hs
        refine wl_as rfl rfl ?_; refine wl_ns ?_; refine wc_sr ?_; refine wl_mv rfl rfl ?_; apply wl_val; apply opv_nilOk; exact rfl; exact rfl; apply wl_val; apply opv_fa; exact fa_R (by decide); exact rfl; exact rfl; apply wl_val; apply opv_ldX; exact rfl; exact hs.ar 1 rfl; exact e1_bB; exact rfl; exact rfl; refine wl_ns ?_; apply wc_condFb; exact rfl; exact rfl; refine wc_skip ?_; refine we_block_norm ?_
        refine we_loop _ (body.length - p') ⟨done ++ [(x, p)], p', x.key, f', R2, c2, K', kc', rfl, hI2, by rw [List.map_append, List.map_append]; exact hs, rfl⟩ (by omega) ⟨rfl, rfl, rfl, by rw [List.length_append]; rfl, by rw [List.map_append, List.length_append]; rfl, rfl, trivial⟩
    · have hfin := hI.fin (by omega)
      rw [hfin] at hdec
      dsimp only at hdec
      have hlen := hI.len
      have hple := hI.le
      have hel := evF_le ss (done.map (·.2)) done.length
      have hpos : 0 < evL ss (done.map (·.2)) ∧ evL ss (done.map (·.2)) ≤ 1048577 := by
        unfold evL; rw [List.length_map]; split <;> omega
      refine wc_exit ?_; refine we_seq_exit ?_; refine we_loop_exit ?_; refine we_block_exit ?_; refine we_seq ?_; refine wc_seq ?_; refine wc_sr ?_; refine wl_mv rfl rfl ?_; refine wl_bin rfl rfl bin_eql rfl ?_; refine wl_ns ?_
      refine wc_cutE (fun L' w' => L' = [(0, .slice A xs.length c), (4, .slice P body.length pc), (5, .slice Q ss.length qc), (7, .slice R done.length rc), (8, .int .i64 (evL ss (done.map (·.2)) : Nat)), (9, .pointer (some ⟨g9, 0, none⟩))] ∧ w' = w2) ?_ ?_
      · by_cases hev : evF ss (done.map (·.2)) done.length = 0
        · have hevL : evL ss (done.map (·.2)) = done.length + 1 := by unfold evL; rw [List.length_map, if_pos hev]
          have hev' : ((evF ss (done.map (·.2)) done.length : Nat) : Int) = 0 := by omega
          rw [hevL]
          apply wc_decT; exact rfl; (with_reducible assumption); refine wc_region ?_; refine wl_mv rfl rfl ?_; apply wl_val; apply opv_len; exact rfl; exact tkE.sl; exact rfl; apply wl_val; apply opv_bin; exact rfl; exact rfl; exact bin_add64 (by omega); exact rfl; refine wl_as rfl rfl ?_; refine wl_nil ?_
          exact we_cut _ ⟨rfl, rfl⟩ ⟨rfl, rfl, rfl, rfl, rfl, rfl, trivial⟩
        · have hevL : evL ss (done.map (·.2)) = evF ss (done.map (·.2)) done.length := by unfold evL; rw [List.length_map, if_neg hev]
          have hev' : ¬ ((evF ss (done.map (·.2)) done.length : Nat) : Int) = 0 := by omega
          rw [hevL]
          apply wc_decF; exact rfl; (with_reducible assumption); refine wc_skip ?_
          exact we_cut _ ⟨rfl, rfl⟩ ⟨rfl, rfl, rfl, rfl, rfl, rfl, trivial⟩
      rintro _ _ ⟨rfl, rfl⟩
      refine we_seq ?_
      refine wc_seq ?_; refine wc_sr ?_; refine wl_mv rfl rfl ?_; refine wl_mv rfl rfl ?_
      obtain ⟨⟨B, eb⟩, hbB⟩ : ∃ q, buildB (evL ss (done.map (·.2))) (done.map (·.1)) = q := ⟨_, rfl⟩
      have hbw := hs.bel
      refine wl_call ok_block_Build (blkBuild_any (l := done.map (·.1)) hpos.1 (by omega) (OwR.rd (hs.rsE 0 rfl)) (by simp) (by simp; omega) (by
        intro x hx
        obtain ⟨y, hy, rfl⟩ := List.mem_map.1 hx
        have := hI.siz y hy
        exact ⟨by omega, by omega, this.2.2⟩)) ⟨rfl, rfl, trivial⟩ rfl ?_
      rw [hbB] at hdec ⊢
      rintro _ w3 ⟨BA, bc, rfl, oB, hb3⟩
      dsimp only at oB ⊢
      replace hs := hs.below hb3
      have hbw3 := hs.bel
      by_cases k1 : eb = 0
      · subst k1
        refine wl_mv rfl rfl ?_; apply wl_val; apply opv_extract; exact rfl; exact rfl; exact rfl; apply wl_val; apply opv_extract; exact rfl; exact rfl; exact rfl; refine wl_as rfl rfl ?_; refine wl_as rfl rfl ?_; refine wl_ns ?_; refine wc_sr ?_; refine wl_mv rfl rfl ?_; refine wl_bin rfl rfl bin_neq rfl ?_; refine wl_mv rfl rfl ?_; apply wl_take; exact rfl; exact rfl; exact rfl; refine bF ?_; omega; refine wl_mv rfl rfl ?_; apply wl_take; exact rfl; exact rfl; exact rfl; refine bF ?_; omega; refine wl_mv rfl rfl ?_; apply wl_take; exact rfl; exact rfl; exact rfl; refine bF ?_; omega
        refine wl_call ok_bytes_Equal (beq_any (oB.rd) ((hr.below hb).below hbw3) rfl rfl) ⟨rfl, rfl, trivial⟩ rfl ?_
        rintro _ _ ⟨rfl, rfl⟩
        by_cases k2 : B = xs
        · rw [if_pos (by rw [k2])] at hdec
          rw [hdec]
          have k2' : ¬ ¬ B = xs := fun h => h k2
          apply wl_take; exact rfl; exact rfl; exact rfl; refine bF ?_; omega; apply wl_val; apply opv_notD; exact rfl; exact rfl; apply wl_val; apply opv_pickF; exact rfl; refine bF ?_; omega; exact rfl; exact rfl; refine wl_ns ?_; apply wc_decF; exact rfl; (with_reducible assumption); refine wc_skip ?_; refine we_seq ?_; refine wc_sr ?_; refine wl_mv rfl rfl ?_; refine wl_as rfl rfl ?_; refine wl_as rfl rfl ?_; refine wl_ns ?_; refine wc_ret ?_
          exact we_ret2 rfl rfl rfl ⟨_, rfl, R, rc, by rw [List.length_map]; rfl, ((hs.drop 1 rfl).drop 1 rfl).rebase hb⟩
        · rw [if_neg fun h => k2 (Prod.mk.inj h).1] at hdec
          rw [hdec]
          apply wl_take; exact rfl; exact rfl; exact rfl; refine bF ?_; omega; apply wl_val; apply opv_notD; exact rfl; exact rfl; apply wl_val; apply opv_pickF; exact rfl; refine bF ?_; omega; exact rfl; exact rfl; refine wl_ns ?_; apply wc_decT; exact rfl; (with_reducible assumption); refine wc_sr ?_; refine wl_as rfl rfl ?_; refine wl_as rfl rfl ?_; refine wl_ns ?_; refine wc_ret ?_; refine we_seq_ret ?_
          exact we_ret2 rfl rfl rfl ⟨_, rfl, none, 0, rfl, (hs.nil.nilS 4 38).rebase hb⟩
      · have k1' : ¬ (eb : Int) = 0 := by omega
        have hne : ¬ (B, eb) = (xs, 0) := fun h => k1 (Prod.mk.inj h).2
        rw [if_neg hne] at hdec
        rw [hdec]
        refine wl_mv rfl rfl ?_; apply wl_val; apply opv_extract; exact rfl; exact rfl; exact rfl; apply wl_val; apply opv_extract; exact rfl; exact rfl; exact rfl; refine wl_as rfl rfl ?_; refine wl_as rfl rfl ?_; refine wl_ns ?_; refine wc_sr ?_; refine wl_mv rfl rfl ?_; refine wl_bin rfl rfl bin_neq rfl ?_; refine wl_mv rfl rfl ?_; apply wl_skip; exact rfl; exact rfl; exact rfl; refine bTn ?_; (with_reducible assumption); exact rfl; apply wl_skip; exact rfl; exact rfl; exact rfl; refine bTn ?_; (with_reducible assumption); exact rfl; apply wl_skip; exact rfl; exact rfl; exact rfl; refine bTn ?_; (with_reducible assumption); exact rfl; apply wl_skip; exact rfl; exact rfl; exact rfl; refine bTn ?_; (with_reducible assumption); exact rfl; apply wl_val; apply opv_pickT; exact rfl; refine bT ?_; (with_reducible assumption); exact rfl; exact rfl; refine wl_ns ?_; apply wc_condTb; exact rfl; exact rfl; refine wc_sr ?_; refine wl_as rfl rfl ?_; refine wl_as rfl rfl ?_; refine wl_ns ?_; refine wc_ret ?_; refine we_seq_ret ?_
        exact we_ret2 rfl rfl rfl ⟨_, rfl, none, 0, rfl, (hs.nil.nilS 4 38).rebase hb⟩
  · have he' : ((e : Nat) : Int) ≠ 0 := by omega
    have hdec : decB xs = ([], e) := by
      rw [dec_spl, hsp]
      cases e with
      | zero => exact absurd rfl he
      | succ e => rfl
    rw [hdec]
    refine wl_mv rfl rfl ?_; apply wl_val; apply opv_extract; exact rfl; exact rfl; exact rfl; apply wl_val; apply opv_extract; exact rfl; exact rfl; exact rfl; apply wl_val; apply opv_extract; exact rfl; exact rfl; exact rfl; refine wl_as rfl rfl ?_; refine wl_as rfl rfl ?_; refine wl_as rfl rfl ?_; refine wl_ns ?_; refine wc_seq ?_; refine wc_sr ?_; refine wl_mv rfl rfl ?_; refine wl_bin rfl rfl bin_neq rfl ?_; refine wl_ns ?_; apply wc_decT; exact rfl; (with_reducible assumption); refine wc_sr ?_; refine wl_mv rfl rfl ?_; refine wl_as rfl rfl ?_; refine wl_as rfl rfl ?_; refine wl_ns ?_; refine wc_ret ?_; refine we_seq_ret ?_
    exact we_ret2 rfl rfl rfl ⟨_, rfl, none, 0, rfl, ((St.init w1).nilS 4 38).rebase hb⟩
end Go.Proofs.Ytojncfdlddepdaa


/-
  Walk over sort.Search.
-/
namespace Go.Proofs.Ytojncfdlddepdaa
open Go.RowKit

/-- The least place at which p holds, of a p that keeps on. -/
structure SchR (n : Nat) (p : Nat → Bool) (i : Nat) : Prop where
  le : i ≤ n
  lo : ∀ k, k < i → p k = false
  hi : i < n → p i = true
theorem search_any {n : Nat} {f : FuncId} {us : Array Value} {p : Nat → Bool} {w : World} (hok : CallOk Try.prog f) (hn : n ≤ 4611686018427387903)
    (hf : ∀ k, k < n → ∀ w', Below w.heap.size w w' → CallsV Try.prog f (#[] ++ [Value.int .i64 (k : Int)].toArray ++ us) w' fun v w'' => v = .bool (p k) ∧ Below w'.heap.size w' w'')
    (hm : ∀ i j, i ≤ j → j < n → p i = true → p j = true) :
    CallsV Try.prog 38 #[.int .i64 (n : Int), .func (.func f) #[] us] w fun v w' => (∃ i : Nat, v = .int .i64 (i : Int) ∧ SchR n p i) ∧ Below w.heap.size w w' := by
  refine calls_in (N := _) Try.func38 rfl Try.ntmps38 rfl ?_; show WC _ _ _ _ _ _
  refine wc_sr ?_; refine wl_as rfl rfl ?_; refine wl_ns ?_; refine wc_sr ?_; refine wl_mv rfl rfl ?_; refine wl_as rfl rfl ?_; refine wl_as rfl rfl ?_; refine wl_ns ?_; refine wc_seq ?_; refine wc_block ?_
  refine wc_loop (fun L wr m => ∃ lo hi : Nat, L = [(0, .int .i64 (n : Int)), (1, .func (.func f) #[] us), (4, .int .i64 0), (5, .int .i64 (lo : Int)), (6, .int .i64 (hi : Int))] ∧ lo ≤ hi ∧ hi ≤ n ∧ (∀ k, k < lo → p k = false) ∧ (hi < n → p hi = true) ∧ Below w.heap.size w wr ∧ m = hi - lo)
    [(0, .int .i64 (n : Int)), (1, .func (.func f) #[] us), (4, .int .i64 0), (5, .int .i64 0), (6, .int .i64 (n : Int))] n ⟨0, n, rfl, Nat.zero_le _, Nat.le_refl _, fun k h => absurd h (Nat.not_lt_zero _), fun h => absurd h (Nat.lt_irrefl _), Below.refl _ _, rfl⟩ ⟨rfl, rfl, rfl, rfl, rfl, trivial⟩ ?_
  rintro _ w1 m ⟨lo, hi, rfl, h1, h2, h3, h4, hb, rfl⟩
  refine wc_seq ?_; refine wc_sr ?_; refine wl_mv rfl rfl ?_; refine wl_mv rfl rfl ?_; refine wl_bin rfl rfl bin_lss rfl ?_; refine wl_ns ?_
  refine wc_cond rfl (fun hlt => ?_) (fun hlt => ?_)
  · have hlt' : lo < hi := by omega
    refine wc_skip ?_; refine we_seq ?_; refine wc_block ?_; refine wc_sr ?_; refine wl_mv rfl rfl ?_; refine wl_mv rfl rfl ?_; apply wl_val; apply opv_bin; exact rfl; exact rfl; exact bin_add64 (by omega); exact rfl; apply wl_val; apply opv_convR; exact rfl; exact Try.underlying3; exact Try.underlying93; exact IntWalk.u64_in _ (by omega); exact rfl
    have hx : lo + hi < 2 ^ IntKind.u64.bits := by show _ < 2 ^ 64; omega
    rw [← Int.natCast_add]
    refine wl_val (opv_bin (b := .int .u64 (1 : Nat)) rfl rfl (bin_shr hx)) rfl ?_
    obtain ⟨m, hm1⟩ : ∃ m, (lo + hi) / 2 ^ 1 = m := ⟨_, rfl⟩
    rw [hm1]
    have hm2 : lo ≤ m ∧ m < hi := by omega
    apply wl_val; apply opv_convR; exact rfl; exact Try.underlying93; exact Try.underlying3; exact IntWalk.i64_in _ (by omega); exact rfl; refine wl_as rfl rfl ?_; refine wl_ns ?_; refine wc_sr ?_; refine wl_mv rfl rfl ?_; refine wl_mv rfl rfl ?_
    refine wl_callF hok rfl (hf m (by omega) w1 hb) ⟨rfl, trivial⟩ rfl ?_
    rintro _ w2 ⟨rfl, hb2⟩
    replace hb2 := hb.trans (hb2.mono hb.size)
    cases hpm : p m with
    | true =>
      apply wl_val; apply opv_not; exact rfl; exact rfl; refine wl_ns ?_; apply wc_condFb; exact rfl; exact Bool.not_true; refine wc_region ?_; refine wl_mv rfl rfl ?_; refine wl_as rfl rfl ?_; refine wl_nil ?_; refine we_block_norm ?_
      refine we_loop _ (m - lo) ⟨lo, m, rfl, hm2.1, by omega, h3, fun _ => hpm, hb2, rfl⟩ (by omega) ⟨rfl, rfl, rfl, rfl, rfl, trivial⟩
    | false =>
      apply wl_val; apply opv_not; exact rfl; exact rfl; refine wl_ns ?_; apply wc_condTb; exact rfl; exact Bool.not_false; refine wc_region ?_; refine wl_mv rfl rfl ?_; apply wl_val; apply opv_bin; exact rfl; exact rfl; exact bin_add64 (by omega); exact rfl; refine wl_as rfl rfl ?_; refine wl_nil ?_; refine we_block_norm ?_
      refine we_loop _ (hi - (m + 1)) ⟨m + 1, hi, rfl, by omega, h2, fun k hk => ?_, h4, hb2, rfl⟩ (by omega) ⟨rfl, rfl, rfl, rfl, rfl, trivial⟩
      cases hpk : p k with
      | false => rfl
      | true => rw [hm k m (by omega) (by omega) hpk] at hpm; cases hpm
  · have : lo = hi := by omega
    subst this
    refine wc_exit ?_; refine we_seq_exit ?_; refine we_loop_exit ?_; refine we_block_exit ?_; refine we_seq ?_; refine wc_sr ?_; refine wl_mv rfl rfl ?_; refine wl_as rfl rfl ?_; refine wl_ns ?_; refine wc_ret ?_
    exact we_ret1 rfl rfl ⟨_, rfl, ⟨lo, rfl, h2, h3, h4⟩, hb⟩
end Go.Proofs.Ytojncfdlddepdaa


/-
  Walk over the test that Seek hands to Search, and over Seek of blocks.
-/
namespace Go.Proofs.Ytojncfdlddepdaa
open Go.RowKit
/-- A struct is handed back by value; beside two results. -/
theorem we_retC2 {P : Program} {N : Nat} {L : FL} {w : World} {t : TypeId} {g : Nat} {cs : List Value} {fn : Func} {R : Ending → World → Prop} {p q r : Nat} {T : TypeId} {u v : Value} (hr : fn.results = #[.cell p t, .tmp q, .tmp r]) (hx : lookT L p = some (.pointer (some ⟨g, 0, none⟩))) (hq : lookT L q = some u) (hv : lookT L r = some v) (ha : Ar w g T cs) (S : StT P t cs.length)
    (h : R (.returned (.tuple #[.agg cs.toArray, u, v])) w) : WE N (bodyPost P fn R) .ret L w := fun a hA =>
  ⟨hA.nodefer, _, by
    obtain ⟨fs, hu⟩ := S.get
    have := run_loadVar_row (P := P) w g T t cs.toArray (0, 0) _ ha hu rfl (by simpa using S.size)
    have e := hA.get p _ hx
    have e2 := hA.get q _ hq
    have e3 := hA.get r _ hv
    rw [Array.getD_eq_getD_getElem?] at e e2 e3
    simp [results, hr, e, e2, e3, asAddr, this], h⟩
/-- New bytes with room behind them, as a piece. -/
def nwC (A : Option Addr) (c : Nat) (xs : List UInt8) : Ck := ⟨fun w S => (∀ a, A = some a → S a.block) ∧ NwB w 0 A c xs, fun {w w' S S'} ⟨h1, h2⟩ hz hm => by
  rcases h2 with ⟨rfl, h⟩ | ⟨g, cs, rfl, hg, ha, h⟩
  · exact ⟨fun a h => (by cases h), .inl ⟨rfl, h⟩⟩
  · have := hm g ha.lt (h1 _ rfl)
    exact ⟨fun a h => (by cases h; exact this.1), .inr ⟨g, cs, rfl, hg, this.2.trans ha, h⟩⟩⟩
theorem St.newN {M : BS} {w0 w w' : World} {H : List Cd} {A : Option Addr} {c : Nat} {xs : List UInt8} (hs : St M w0 w H) (hb : Below w.heap.size w w') (hn : NwB w' w.heap.size A c xs) : St M w0 w' (.ck (nwC A c xs) :: H) :=
  hs.new (T := fun b => w.heap.size ≤ b) (c := .ck (nwC A c xs)) hb ⟨fun a ha => by
    rcases hn with ⟨rfl, _⟩ | ⟨g, cs, rfl, hg, _⟩
    · cases ha
    · cases ha; exact hg, hn.mono (Nat.zero_le _)⟩ fun _ _ h => h
theorem St.nw {M : BS} {w0 w : World} {H : List Cd} {A : Option Addr} {c : Nat} {xs : List UInt8} (h : St M w0 w H) (i : Nat) (hi : nthC H i = some (.ck (nwC A c xs))) : RdB w A xs ∧ xs.length ≤ c := by
  obtain ⟨T, hc, _⟩ := h.get i hi
  exact ⟨hc.2.rd, hc.2.cap⟩
theorem enEl_rdW {w : World} {S : Nat → Prop} {x : En} {A B : Option Addr} {c d : Nat} (h : (enEl x).P w S (enV x A c B d)) : RdB w A x.key ∧ RdB w B x.val := by
  obtain ⟨A', c', B', d', he, r1, _, r2, _⟩ := enEl.rd h
  simp only [enV, List.cons.injEq, Value.slice.injEq] at he
  obtain ⟨⟨rfl, _⟩, _, _, ⟨rfl, _⟩, _⟩ := he
  exact ⟨r1, r2⟩
/-- An element of a row that is told as pieces. -/
theorem zip_rd {w : World} {S : BS} {e : TypeId} {A : Option Addr} {c i : Nat} {l : List En} {css : List (List Value)} {x : En} (h : Sat w (.rg 4 e A c (css.map rawEl) :: zipCe (l.map oE) css) S) (hcl : css.length = (l.map oE).length) (hx : l[i]? = some x) :
    ∃ cs, css[i]? = some cs ∧ (enEl x).P w S cs := by
  obtain ⟨T, hT, h1, h2⟩ := h
  obtain ⟨ho, hk⟩ := OwR.raw h1.2
  have hi : i < css.length := by rw [hcl, List.length_map]; exact (List.getElem?_eq_some_iff.1 hx).1
  refine ⟨css[i], List.getElem?_eq_getElem hi, ?_⟩
  obtain ⟨_, E, h3, h4⟩ := (zipCe_grp h2 hcl hk).2 i _ (List.getElem?_eq_getElem hi)
  rw [List.getElem?_map, hx] at h3
  cases h3
  exact El.mono (oE_en h4) fun b _ h => h.1
theorem zeroR : (Try.prog.info? 22).map (·.zero) = some (some (.slice none 0 0)) := by kernel_rfl
theorem rdL_len {b : List UInt8} : ∀ {f p : Nat} {key : List UInt8} {r : List (En × Nat)}, rdL b f p key = some r → p ≤ b.length → r.length ≤ b.length - p
  | 0, p, key, r, h, _ => by
    rw [rdL] at h
    split at h
    · cases h
    · cases h; exact Nat.zero_le _
  | f + 1, p, key, r, h, hp => by
    by_cases hlt : p < b.length
    · cases hr : rdE b p key with
      | none => rw [rdL_bad hlt hr] at h; cases h
      | some y =>
        obtain ⟨x, p'⟩ := y
        rw [rdL_step hlt hr] at h
        have hi := rdE_inv hr
        cases hr2 : rdL b f p' x.key with
        | none => rw [hr2] at h; cases h
        | some r2 =>
          rw [hr2] at h
          cases h
          have := rdL_len hr2 hi.2
          rw [List.length_cons]; omega
    · rw [rdL_end hlt] at h; cases h; exact Nat.zero_le _
/-- What a block that is read well is. -/
theorem dec_ok {b : List UInt8} {l : List En} {e : Nat} (h : decB b = (l, e)) : l.length ≤ 1048576 ∧ (e = 0 → Ord l) := by
  rw [dec_spl] at h
  obtain ⟨⟨⟨body, ss⟩, e'⟩, hsp⟩ : ∃ q, splB b = q := ⟨_, rfl⟩
  have hs := spl_small hsp
  rw [hsp] at h
  cases e' with
  | succ e' => cases h; exact ⟨Nat.zero_le _, fun h => by cases h⟩
  | zero =>
    replace h : (match rdL body body.length 0 [] with
      | none => ([], 3)
      | some r => if buildB (evL ss (r.map (·.2))) (r.map (·.1)) = (b, 0) then (r.map (·.1), 0) else ([], 3)) = (l, e) := h
    cases hr : rdL body body.length 0 [] with
    | none => rw [hr] at h; cases h; exact ⟨Nat.zero_le _, fun h => by cases h⟩
    | some r =>
      rw [hr] at h
      dsimp only at h
      split at h
      · rename_i hb
        cases h
        have h1 := rdL_len hr (Nat.zero_le _)
        refine ⟨by rw [List.length_map]; omega, fun _ => ord_of ?_⟩
        unfold buildB at hb
        split at hb
        · cases hb
        · split at hb
          · split at hb
            · rename_i hk; exact hk.2
            · cases hb
          · rename_i hk; exact absurd (Prod.mk.inj hb).2 hk
      · cases h; exact ⟨Nat.zero_le _, fun h => by cases h⟩
def noE : En := ⟨[], 0, 0, []⟩
/-- What Seek answers. -/
def sekE (l : List En) (y : En) : Option En := l.find? fun x => !lessE x y
def sekB (b : List UInt8) (y : En) : En × Bool × Nat :=
  match decB b with
  | (l, 0) => ((sekE l y).getD noE, (sekE l y).isSome, 0)
  | (_, e) => (noE, false, e)
theorem sek_at {l : List En} {y : En} {i : Nat} (h : SchR l.length (fun k => !lessE (l[k]?.getD noE) y) i) : sekE l y = l[i]? := by
  obtain ⟨h1, h2, h3⟩ := h
  have hpre : (l.take i).find? (fun x => !lessE x y) = none := List.find?_eq_none.2 fun x hx => by
    obtain ⟨k, hk⟩ := List.mem_iff_getElem?.1 hx
    have hki : k < i := by
      have := (List.getElem?_eq_some_iff.1 hk).1
      rw [List.length_take] at this; omega
    rw [List.getElem?_take_of_lt hki] at hk
    have := h2 k hki
    rw [hk, Option.getD_some] at this
    simpa using this
  have e : sekE l y = (l.drop i).find? fun x => !lessE x y := by
    have := List.find?_append (xs := l.take i) (ys := l.drop i) (p := fun x => !lessE x y)
    rw [List.take_append_drop, hpre, Option.none_or] at this
    exact this
  rw [e]
  by_cases hi : i < l.length
  · have h4 := h3 hi
    rw [List.getElem?_eq_getElem hi, Option.getD_some] at h4
    rw [List.drop_eq_getElem_cons hi, List.find?_cons, h4, List.getElem?_eq_getElem hi]
  · rw [List.drop_eq_nil_of_le (by omega), List.getElem?_eq_none (by omega)]; rfl
theorem ord_mono {l : List En} {y : En} (ho : Ord l) {i j : Nat} (hij : i ≤ j) (hj : j < l.length) (h : (!lessE (l[i]?.getD noE) y) = true) : (!lessE (l[j]?.getD noE) y) = true := by
  rw [List.getElem?_eq_getElem hj, Option.getD_some]
  rw [List.getElem?_eq_getElem (by omega), Option.getD_some] at h
  rcases Nat.eq_or_lt_of_le hij with rfl | hlt
  · exact h
  · have := List.pairwise_iff_getElem.1 ho i j (by omega) hj hlt
    cases hb : lessE l[j] y with
    | false => rfl
    | true => rw [lessE_trans this hb] at h; cases h
theorem seekP_any {k n c g h : Nat} {A C D : Option Addr} {d e : Nat} {l : List En} {x y : En} {w : World} (hx : l[k]? = some x) (hr : RdR 4 w All A (l.map enEl)) (hn : l.length = n) (a9 : Ar w g 22 [.slice A n c]) (a11 : Ar w h 38 (enV y C d D e)) (ry : RdB w C y.key) :
    CallsV Try.prog 39 #[.int .i64 (k : Int), .pointer (some ⟨g, 0, none⟩), .pointer (some ⟨h, 0, none⟩)] w fun v w' => v = .bool (!lessE x y) ∧ Below w.heap.size w w' := by
  subst hn
  have hs := St.init w
  have hk := (List.getElem?_eq_some_iff.1 hx).1
  obtain ⟨bb, o, cs, rfl, _, _, hp, i0⟩ := RdR.at (k := 4) (by decide) hr (E := enEl x) (i := k) (by rw [List.getElem?_map, hx]; rfl)
  obtain ⟨X, cx, X2, cx2, rfl, rx, hcx, rx2, hcx2⟩ := enEl.rd hp
  refine calls_in (N := _) Try.func39 rfl Try.ntmps39 rfl ?_; show WC _ _ _ _ _ _
  refine wc_sr ?_; refine wl_as rfl rfl ?_; refine wl_ns ?_; refine wc_seq ?_
  refine wc_drawB mixed (by kernel_rfl) ?_
  apply wq_val; intro _ hw_; apply opv_ldX; exact rfl; exact Ar.bel (by assumption) hw_; exact e1_row; exact rfl; exact rfl; apply wq_val; intro _ hw_; apply opv_move; exact rfl; exact rfl; apply wq_val; intro _ hw_; apply opv_idxG tkE; exact rfl; exact rfl; exact rfl; omega; exact rfl; apply wq_val; intro _ hw_; apply opv_ldG; exact rfl; exact Wi.below (by assumption) hw_; exact sE; exact rfl; apply wq_val; intro _ hw_; apply opv_loadX; exact rfl; exact Ar.bel (by assumption) hw_; exact sE; exact rfl
  refine wq_call (v := .bool (lessE x y)) ok_mem_Less (fun w' hw => (less_any (rx.below hw) (ry.below hw)).mono fun v w2 h2 => ⟨h2.1, hw.trans (h2.2.mono hw.size)⟩) ⟨rfl, rfl, trivial⟩ rfl ?_
  apply wq_val; intro _ hw_; apply opv_notD; exact rfl; exact rfl; apply wq_val; intro _ hw_; apply opv_assign; exact rfl; exact rfl; refine wq_nil fun w1 hw1 => ?_
  replace hs := hs.below hw1
  refine we_seq ?_; refine wc_ret ?_
  exact we_ret1 rfl rfl ⟨_, rfl, congrArg Value.bool (by unfold lessE; rw [decide_not]), hs.bel⟩
theorem bseek_any {A K : Option Addr} {n c kn kc m : Nat} {xs key : List UInt8} {w : World} (hr : RdB w A xs) (hn : xs.length = n) (hc : xs.length ≤ c) (hl : xs.length ≤ 1099511627776) (rk : RdB w K key) (hkn : key.length = kn) :
    CallsV Try.prog 13 #[.slice A n c, .slice K kn kc, .int .u64 (m : Int)] w fun v w' => (∃ (X : Option Addr) (cx : Nat) (Y : Option Addr) (cy : Nat), v = .tuple #[.agg (enV (sekB xs ⟨key, m, 0, []⟩).1 X cx Y cy).toArray, .bool (sekB xs ⟨key, m, 0, []⟩).2.1, .int .i64 ((sekB xs ⟨key, m, 0, []⟩).2.2 : Nat)] ∧ RdB w' X (sekB xs ⟨key, m, 0, []⟩).1.key ∧ RdB w' Y (sekB xs ⟨key, m, 0, []⟩).1.val) ∧ Below w.heap.size w w' := by
  subst hn hkn
  have hs := St.init w
  obtain ⟨y, hy⟩ : ∃ y : En, ⟨key, m, 0, []⟩ = y := ⟨_, rfl⟩
  rw [hy]
  refine calls_in (N := _) Try.func13 rfl Try.ntmps13 rfl ?_; show WC _ _ _ _ _ _
  refine wc_sr ?_
  refine ws_new hs zeroE rfl ?_; clear hs; intro g6 _ hs
  unfold zE at hs
  refine wl_as rfl rfl ?_; refine wl_as rfl rfl ?_; refine wl_ns ?_; refine wc_sr ?_; refine wl_mv rfl rfl ?_
  refine wl_call ok_block_Decode (decode_any (hr.below hs.bel) rfl hc hl) ⟨rfl, trivial⟩ rfl ?_
  obtain ⟨⟨l, e⟩, hd⟩ : ∃ q, decB xs = q := ⟨_, rfl⟩
  have hok := dec_ok hd
  rw [hd]
  rintro _ w1 ⟨R, rc, rfl, hsx⟩
  replace hs := hs.call hsx
  clear hsx
  dsimp only [List.cons_append, List.nil_append] at hs hok ⊢
  refine wl_mv rfl rfl ?_; apply wl_val; apply opv_extract; exact rfl; exact rfl; exact rfl; apply wl_val; apply opv_extract; exact rfl; exact rfl; exact rfl
  refine ws_new1 hs zeroR rfl rfl ?_; clear hs; intro g9 _ hs
  apply ws_st hs 0; exact rfl; exact rfl; exact e1_row; exact rfl; exact rfl; exact rfl; clear hs; intro _ hs; dsimp only [setC, List.set] at hs; refine wl_as rfl rfl ?_; refine wl_ns ?_; refine wc_seq ?_; refine wc_sr ?_; refine wl_mv rfl rfl ?_; refine wl_bin rfl rfl bin_neq rfl ?_; refine wl_ns ?_
  by_cases he : e = 0
  · subst he
    have ho := hok.2 rfl
    have hsk : sekB xs y = ((sekE l y).getD noE, (sekE l y).isSome, 0) := by rw [sekB, hd]; rfl
    rw [hsk]
    apply wc_condFb; exact rfl; exact rfl; refine wc_skip ?_; refine we_seq ?_; refine wc_sr ?_; refine wl_mv rfl rfl ?_; refine wl_mv rfl rfl ?_
    refine wl_val (opv_build (vs := [(0, .slice K key.length kc), (1, .int .u64 (m : Int))]) (cs := enV y K kc none 0) ⟨rfl, rfl, rfl, rfl, trivial⟩ (by subst hy; kernel_rfl)) rfl ?_
    skip
    refine ws_new hs zeroE rfl ?_; clear hs; intro g11 _ hs
    unfold zE at hs
    unfold enV
    apply ws_stS hs 0; exact rfl; exact rfl; exact rfl; exact sE; exact rfl; exact rfl; clear hs; intro _ hs; dsimp only [setC] at hs; refine wl_ns ?_; refine wc_sr ?_; apply wl_val; apply opv_ldX; exact rfl; exact hs.ar 1 rfl; exact e1_row; exact rfl; exact rfl; apply wl_val; apply opv_len; exact rfl; exact tkE.sl; exact rfl
    refine wl_val (opv_mkFunc (us := [.pointer (some ⟨g9, 0, none⟩), .pointer (some ⟨g11, 0, none⟩)]) ⟨rfl, rfl, trivial⟩) rfl ?_
    have hrk := rk.below hs.bel
    refine wl_call ok_sort_Search (search_any (n := l.length) (p := fun k => !lessE (l[k]?.getD noE) y) ok_block_Seek_1 (by omega) (fun k hk w' hb => ?_) fun i j h1 h2 h3 => ord_mono ho h1 h2 h3) ⟨rfl, rfl, trivial⟩ rfl ?_
    · have hs' := hs.below hb
      have hx : l[k]? = some l[k] := List.getElem?_eq_getElem hk
      rw [hx, Option.getD_some]
      exact seekP_any hx (OwR.rd (hs'.rsE 2 rfl)) (by simp) (hs'.ar 1 rfl) (hs'.ar 0 rfl) (by subst hy; exact hrk.below hb)
    rintro _ w2 ⟨⟨i, rfl, hi⟩, hb⟩
    replace hs := hs.below hb
    clear hb
    have hil := hi.le
    rw [sek_at hi]
    refine wl_as rfl rfl ?_; refine wl_ns ?_; refine wc_seq ?_; refine wc_sr ?_; refine wl_mv rfl rfl ?_; apply wl_val; apply opv_ldX; exact rfl; exact hs.ar 1 rfl; exact e1_row; exact rfl; exact rfl; apply wl_val; apply opv_len; exact rfl; exact tkE.sl; exact rfl; refine wl_bin rfl rfl bin_eql rfl ?_; refine wl_ns ?_
    by_cases k1 : i = l.length
    · subst k1
      rw [List.getElem?_eq_none (Nat.le_refl _)]
      apply wc_decT; exact rfl; (with_reducible rfl); refine wc_sr ?_
      refine wl_val (opv_build (vs := []) (cs := zE) trivial (by kernel_rfl)) rfl ?_
      unfold zE
      apply ws_stS hs 3; exact rfl; exact rfl; exact rfl; exact sE; exact rfl; exact rfl; clear hs; intro _ hs; dsimp only [setC] at hs; refine wl_as rfl rfl ?_; refine wl_as rfl rfl ?_; refine wl_ns ?_; refine wc_ret ?_; refine we_seq_ret ?_
      exact we_retC2 rfl rfl rfl rfl (hs.ar 3 rfl) sE ⟨_, rfl, ⟨none, 0, none, 0, rfl, Rd.nil _ _, Rd.nil _ _⟩, hs.bel⟩
    · obtain ⟨x, hx⟩ : ∃ x, l[i]? = some x := ⟨_, List.getElem?_eq_getElem (by omega)⟩
      have k1' : ¬ (i : Int) = (l.length : Int) := by omega
      rw [hx]
      obtain ⟨css, hcl, hs⟩ := (hs.front 2 rfl).unrs
      replace hs := hs.map fun S h => Sat.swap (H1 := .rg 4 38 R rc (css.map rawEl) :: zipCe (l.map oE) css) h
      dsimp only [List.cons_append, List.nil_append, delC] at hs
      obtain ⟨cs, hcs, hp⟩ := zip_rd hs.2.dropC.dropC.dropC hcl hx
      obtain ⟨X, cx, X2, cx2, rfl, rx, hcx, rx2, hcx2⟩ := enEl.rd hp
      obtain ⟨b, o, _, rfl, _, _, rfl, i0⟩ := RdR.at (k := 4) (by decide) (OwR.rd (hs.rg 3 rfl)) (E := rawEl (enV x X cx X2 cx2)) (i := i) (by rw [List.getElem?_map, hcs]; rfl)
      apply wc_decF; exact rfl; (with_reducible assumption); refine wc_skip ?_; refine we_seq ?_; refine wc_sr ?_; apply wl_val; apply opv_ldX; exact rfl; exact hs.ar 1 rfl; exact e1_row; exact rfl; exact rfl; refine wl_mv rfl rfl ?_; apply wl_val; apply opv_idxG tkE; exact rfl; exact rfl; exact rfl; omega; exact rfl; apply wl_val; apply opv_ldG; exact rfl; assumption; exact sE; exact rfl; apply ws_stS hs 2; exact rfl; exact rfl; exact rfl; exact sE; exact rfl; exact rfl; clear hs; intro _ hs; dsimp only [setC] at hs; refine wl_as rfl rfl ?_; refine wl_as rfl rfl ?_; refine wl_ns ?_; refine wc_ret ?_
      obtain ⟨_, hcs2, hp2⟩ := zip_rd hs.2.dropC.dropC.dropC hcl hx
      rw [hcs] at hcs2
      cases hcs2
      obtain ⟨rx, rx2⟩ := enEl_rdW hp2
      exact we_retC2 rfl rfl rfl rfl (hs.ar 2 rfl) sE ⟨_, rfl, ⟨X, cx, X2, cx2, rfl, rx, rx2⟩, hs.bel⟩
  · have he' : ¬ (e : Int) = 0 := by omega
    have hsk : sekB xs y = (noE, false, e) := by
      rw [sekB, hd]
      cases e with
      | zero => exact absurd rfl he
      | succ e => rfl
    rw [hsk]
    apply wc_decT; exact rfl; (with_reducible assumption); refine wc_sr ?_
    refine wl_val (opv_build (vs := []) (cs := zE) trivial (by kernel_rfl)) rfl ?_
    refine wl_mv rfl rfl ?_; apply ws_stS hs 2; exact rfl; exact rfl; exact rfl; exact sE; exact rfl; exact rfl; clear hs; intro _ hs; dsimp only [setC] at hs; refine wl_as rfl rfl ?_; refine wl_as rfl rfl ?_; refine wl_ns ?_; refine wc_ret ?_; refine we_seq_ret ?_
    unfold zE
    skip
    exact we_retC2 rfl rfl rfl rfl (hs.ar 2 rfl) sE ⟨_, rfl, ⟨none, 0, none, 0, rfl, Rd.nil _ _, Rd.nil _ _⟩, hs.bel⟩
end Go.Proofs.Ytojncfdlddepdaa


/-
  Walk over the document's Build of blocks.
-/
namespace Go.Proofs.Ytojncfdlddepdaa
open Go.RowKit

theorem refFour8_any (n : Nat) (hn : n < 2 ^ 63) (w : World) : CallsV Try.prog 57 #[.int .i64 n] w fun v w' => ∃ (A : Option Addr) (c : Nat), v = .slice A 4 c ∧ 4 ≤ c ∧ RdB w' A (four n) ∧ Below w.heap.size w w' := by
  have h1 : (n : Int) ≤ 9223372036854775807 := by omega
  refine calls_in (N := _) Try.func57 rfl Try.ntmps57 rfl ?_; show WC _ _ _ _ _ _
  refine wc_sr ?_; refine wl_as rfl rfl ?_; refine wl_ns ?_; refine wc_sr ?_; refine wl_mv rfl rfl ?_; apply wl_val; apply opv_convR; exact rfl; exact Try.underlying3; exact Try.underlying33; exact IntWalk.u64_in _ (by omega); exact rfl
  refine wl_call ok_caissonref01_OrdU (refOrdU_any n (by omega) w) ⟨rfl, trivial⟩ rfl ?_
  rintro _ w1 ⟨A, c, rfl, o1, hb⟩
  have hcap := o1.cap
  rw [ordU_length] at hcap
  refine wl_as rfl rfl ?_; refine wl_ns ?_; refine wc_sr ?_; refine wl_mv rfl rfl ?_
  refine wl_sl (l := 4) (h := (ordU n).length) tyB rfl ⟨_, rfl⟩ rfl (by rw [ordU_length]; decide) o1.cap rfl ?_
  have hr := Rd.cut (l := 4) (h := (ordU n).length) (c := c) o1.rd (by rw [ordU_length]; decide) (Nat.le_refl _) o1.cap
  have e : ((bvs (ordU n)).take (ordU n).length).drop 4 = bvs (four n) := by
    rw [List.take_of_length_le (by rw [bvs_length]; exact Nat.le_refl _), ← ordU_four, bvs, bvs, List.map_drop]
  rw [e, ordU_length] at hr
  rw [ordU_length]
  refine wl_as rfl rfl ?_; refine wl_ns ?_; refine wc_ret ?_
  exact we_ret1 rfl rfl ⟨_, rfl, _, _, rfl, by omega, by unfold RdB; rw [four_length]; exact hr, hb⟩
theorem rd_tail {w : World} {A : Option Addr} {xs : List UInt8} {c s : Nat} (h : RdB w A xs) (hs : s ≤ xs.length) (hc : xs.length ≤ c) : Rd w (cutA A c s) (xs.length - s) (bvs (xs.drop s)) := by
  have := cutA_rd h hs hc
  unfold RdB at this
  rw [List.length_drop] at this
  exact this
/-- The error that the document's Build has found behind k entries. -/
def eR (l : List En) (k : Nat) : Nat := if checkE l = 0 ∧ ordT l k = true then 0 else 3
theorem eR_zero {l : List En} (h : ¬ checkE l = 2) : eR l 0 = checkE l := by
  rw [eR]
  unfold checkE at h ⊢
  split
  · rename_i k; rw [if_pos k] at h; exact absurd rfl h
  · rename_i k
    rw [if_neg k] at h
    split
    · rename_i k2; rw [if_pos k2] at h; simp [k2]
    · rename_i k2; simp [k2, ordT]
theorem eR_step {l : List En} {k : Nat} : eR l (k + 1) = if stepO l k = true then eR l k else 3 := by
  by_cases h : stepO l k = true
  · rw [if_pos h, eR, eR]; simp [ordT, h]
  · rw [if_neg h, eR, if_neg (by rw [ordT]; simp [h])]
set_option maxRecDepth 8000 in
set_option maxHeartbeats 2000000 in
theorem refBuild_any {A : Option Addr} {n c every : Nat} {l : List En} {w : World} (he : 0 < every) (he2 : every ≤ 9223372036854775807) (hr : RdR 4 w All A (l.map enEl)) (hn : l.length = n) (hl : l.length ≤ 2097152) (hz : Siz2 l) :
    CallsV Try.prog 37 #[.int .i64 (every : Int), .slice A n c] w (RetS w (buildB every l)) := by
  subst hn
  have hs := St.init w
  have h1' : ¬ (every : Int) < 1 := by omega
  refine calls_in (N := _) Try.func37 rfl Try.ntmps37 rfl ?_; show WC _ _ _ _ _ _
  refine wc_sr ?_; refine wl_as rfl rfl ?_; refine wl_as rfl rfl ?_; refine wl_ns ?_; refine wc_seq ?_; refine wc_sr ?_; refine wl_mv rfl rfl ?_; refine wl_bin rfl rfl bin_lss rfl ?_; refine wl_ns ?_; apply wc_decF; exact rfl; (with_reducible assumption); refine wc_skip ?_; refine we_seq ?_; refine wc_sr ?_; refine wl_mv rfl rfl ?_
  refine wl_call ok_caissonref07_Check (refCheck_any (hr.below hs.bel) rfl (by simp only [maxLen]; omega)) ⟨rfl, trivial⟩ rfl ?_
  rintro _ w1 ⟨rfl, hbx⟩
  replace hs := hs.below hbx
  clear hbx
  by_cases hc2 : checkE l = 2
  · rw [hc2]
    have h2 : ((2 : Nat) : Int) = 2 := rfl
    refine wl_as rfl rfl ?_; refine wl_ns ?_; refine wc_seq ?_; refine wc_sr ?_; refine wl_mv rfl rfl ?_; refine wl_bin rfl rfl bin_eql rfl ?_; refine wl_ns ?_; apply wc_condTb; exact rfl; exact rfl; refine wc_sr ?_; refine wl_mv rfl rfl ?_; refine wl_as rfl rfl ?_; refine wl_as rfl rfl ?_; refine wl_ns ?_; refine wc_ret ?_; refine we_seq_ret ?_
    exact we_ret2 rfl rfl rfl ⟨_, rfl, none, 0, by rw [buildB, if_pos hc2]; rfl, by rw [buildB, if_pos hc2]; exact Ow.nil _ _ _, hs.bel⟩
  have hc2' : ¬ ((checkE l : Nat) : Int) = 2 := by omega
  replace hs := (hs.nilO 5).nilO 5
  rw [← eR_zero hc2] at hc2' ⊢
  refine wl_as rfl rfl ?_; refine wl_ns ?_; refine wc_seq ?_; refine wc_sr ?_; refine wl_mv rfl rfl ?_; refine wl_bin rfl rfl bin_eql rfl ?_; refine wl_ns ?_; apply wc_decF; exact rfl; (with_reducible assumption); refine wc_skip ?_; refine we_seq ?_; refine wc_sr ?_; refine wl_as rfl rfl ?_; refine wl_ns ?_; refine wc_sr ?_; refine wl_as rfl rfl ?_; refine wl_ns ?_; refine wc_sr ?_; refine wl_as rfl rfl ?_; refine wl_ns ?_; refine wc_seq ?_; refine wc_sr ?_; refine wl_as rfl rfl ?_; refine wl_ns ?_; refine wc_block ?_
  refine wc_loop (fun L wr mm => ∃ (k : Nat) (Bd : Option Addr) (cb : Nat) (Rs : Option Addr) (cr : Nat), L = [(0, .int .i64 (every : Int)), (1, .slice A l.length c), (6, .int .i64 (eR l k : Nat)), (7, .slice Bd (bodyB every l k).length cb), (8, .slice Rs (resB every l k).length cr), (9, .int .i64 (stN every k : Nat)), (10, .int .i64 (k : Int))] ∧ k ≤ l.length ∧ St NoB w wr [.ow 5 Bd (bodyB every l k).length cb (bvs (bodyB every l k)), .ow 5 Rs (resB every l k).length cr (bvs (resB every l k))] ∧ mm = l.length - k)
    [(0, .int .i64 (every : Int)), (1, .slice A l.length c), (6, .int .i64 (eR l 0 : Nat)), (7, .slice none 0 0), (8, .slice none 0 0), (9, .int .i64 0), (10, .int .i64 (0 : Nat))] l.length ⟨0, none, 0, none, 0, rfl, by omega, hs, rfl⟩ ⟨rfl, rfl, rfl, rfl, rfl, rfl, rfl, trivial⟩ ?_
  clear hs
  rintro _ w2 mm ⟨k, Bd, cb, Rs, cr, rfl, hk, hs, rfl⟩
  have hbm := body_max (every := every) hz k hk
  have hrm := resB_max every l k
  have hsn := stN_le every k
  refine wc_seq ?_; refine wc_sr ?_; refine wl_mv rfl rfl ?_; refine wl_mv rfl rfl ?_; apply wl_val; apply opv_len; exact rfl; exact tkE.sl; exact rfl; refine wl_bin rfl rfl bin_lss rfl ?_; refine wl_ns ?_
  refine wc_cond rfl (fun h1 => ?_) (fun h1 => ?_)
  · obtain ⟨x, hx⟩ : ∃ x, l[k]? = some x := ⟨_, List.getElem?_eq_getElem (by omega)⟩
    obtain ⟨z1, z2, z3⟩ := hz _ (List.mem_of_getElem? hx)
    obtain ⟨s1, s2⟩ := shrN_le (every := every) hx
    have hent := (entB_length x _ s1 (by omega) (by omega) z3).1
    obtain ⟨b, o, cs, rfl, _, _, hp, i0⟩ := RdR.at (k := 4) (by decide) hr (E := enEl x) (i := k) (by rw [List.getElem?_map, hx]; rfl)
    obtain ⟨X, cx, X2, cx2, rfl, rx, hcx, rx2, hcx2⟩ := enEl.rd hp
    refine wc_skip ?_; refine we_seq ?_; refine wc_seq ?_; refine wc_block ?_; refine wc_sr ?_; refine wl_as rfl rfl ?_; refine wl_ns ?_; refine wc_seq ?_; refine wc_sr ?_; refine wl_mv rfl rfl ?_; refine wl_mv rfl rfl ?_; apply wl_val; apply opv_bin; exact rfl; exact rfl; exact bin_rem (by omega); exact rfl; refine wl_bin rfl rfl bin_neq rfl ?_; refine wl_ns ?_
    refine wc_cutE (fun L' w' => ∃ (Rs : Option Addr) (cr : Nat), L' = [(0, .int .i64 (every : Int)), (1, .slice (some ⟨b, o, none⟩) l.length c), (6, .int .i64 (eR l k : Nat)), (7, .slice Bd (bodyB every l k).length cb), (8, .slice Rs (resB every l (k + 1)).length cr), (9, .int .i64 (stN every (k + 1) : Nat)), (10, .int .i64 (k : Int)), (11, .int .i64 (shrN every l k : Nat))] ∧ St NoB w w' [.ow 5 Bd (bodyB every l k).length cb (bvs (bodyB every l k)), .ow 5 Rs (resB every l (k + 1)).length cr (bvs (resB every l (k + 1)))]) ?_ ?_
    · by_cases hm : k % every = 0
      · have hm' : ((k % every : Nat) : Int) = 0 := by omega
        have e1 : resB every l (k + 1) = resB every l k ++ four (bodyB every l k).length := by rw [resB, if_pos hm]
        have e2 : stN every (k + 1) = stN every k + 1 := by rw [stN, if_pos hm]
        have e3 : shrN every l k = 0 := by rw [shrN, if_pos hm]
        have e4 : (resB every l (k + 1)).length = (resB every l k).length + 4 := by rw [e1, List.length_append, four_length]
        apply wc_decF; exact rfl; omega; refine wc_sr ?_; refine wl_mv rfl rfl ?_; refine wl_mv rfl rfl ?_; apply wl_val; apply opv_len; exact rfl; exact tyB.sl; exact rfl
        refine wl_call ok_caissonref08_four (refFour8_any (bodyB every l k).length (by omega) _) ⟨rfl, trivial⟩ rfl ?_
        rintro _ w4 ⟨F, cF, rfl, _, rF, hbx⟩
        replace hs := hs.below hbx
        clear hbx
        have rF' : Rd w4 F 4 (bvs (four (bodyB every l k).length)) := by have := rF; unfold RdB at this; rw [four_length] at this; exact this
        skip
        refine ws_app (ys := bvs (four (bodyB every l k).length)) (m := 4) hs 1 rfl rfl tyB rfl rF' (bvs_one _) (by omega) (by simp only [maxLen]; omega) rfl ?_
        clear hs; intro Rs2 cr2 w5 hs; dsimp only [setC] at hs
        rw [← bvs_append, ← e1, ← e4] at hs
        rw [← e4]
        refine wl_as rfl rfl ?_; refine wl_ns ?_; refine wc_region ?_; refine wl_mv rfl rfl ?_; apply wl_val; apply opv_bin; exact rfl; exact rfl; exact bin_add64 (by omega); exact rfl; refine wl_as rfl rfl ?_; refine wl_nil ?_
        exact we_cut _ ⟨Rs2, cr2, rfl, hs⟩ ⟨rfl, rfl, rfl, rfl, rfl, congrArg (fun z : Int => some (Value.int .i64 z)) (show (stN every k : Int) + 1 = ((stN every (k + 1) : Nat) : Int) by rw [e2]; omega), rfl, congrArg (fun z : Nat => some (Value.int .i64 (z : Int))) e3.symm, trivial⟩
      · have hm' : ¬ ((k % every : Nat) : Int) = 0 := by omega
        have e1 : resB every l (k + 1) = resB every l k := by rw [resB, if_neg hm, List.append_nil]
        have e2 : stN every (k + 1) = stN every k := by rw [stN, if_neg hm]; rfl
        obtain ⟨j, rfl⟩ : ∃ j, k = j + 1 := ⟨k - 1, by
          rcases Nat.eq_zero_or_pos k with h | h
          · subst h; exact absurd (Nat.zero_mod _) hm
          · omega⟩
        obtain ⟨y, hy⟩ : ∃ y, l[j]? = some y := ⟨_, List.getElem?_eq_getElem (by omega)⟩
        obtain ⟨y1, y2, y3⟩ := hz _ (List.mem_of_getElem? hy)
        have e3 : shrN every l (j + 1) = comN y.key x.key := by rw [shrN, if_neg hm, prevK_succ hy, hx]; rfl
        rw [e1, e2, e3]
        obtain ⟨b', o', cs, hA', _, _, hp, j0⟩ := RdR.at (k := 4) (by decide) hr (E := enEl y) (i := j) (by rw [List.getElem?_map, hy]; rfl)
        simp only [Option.some.injEq, Addr.mk.injEq, and_true] at hA'
        obtain ⟨rfl, rfl⟩ := hA'
        obtain ⟨Y, cy, Y2, cy2, rfl, ry, _, _, _⟩ := enEl.rd hp
        have j1 := j0.below hs.bel
        have i1 := i0.below hs.bel
        apply wc_decT; exact rfl; (with_reducible assumption); refine wc_seq ?_
        refine wc_drawB mixed (by kernel_rfl) ?_
        apply wq_val; intro _ hw_; apply opv_move; exact rfl; exact rfl; apply wq_val; intro _ hw_; apply opv_move; exact rfl; exact rfl; apply wq_val; intro _ hw_; apply opv_bin; exact rfl; exact rfl; exact bin_sub64 (by omega); exact rfl; apply wq_val; intro _ hw_; apply opv_idxG tkE; exact rfl; exact rfl; exact natc_pred; omega; exact rfl; apply wq_val; intro _ hw_; apply opv_fa; exact fa_sE (by decide); exact rfl; exact rfl; apply wq_val; intro _ hw_; apply opv_ldW; exact rfl; exact Wi.below (by assumption) hw_; exact e1_by; exact rfl; exact rfl; apply wq_val; intro _ hw_; apply opv_move; exact rfl; exact rfl; apply wq_val; intro _ hw_; apply opv_move; exact rfl; exact rfl; apply wq_val; intro _ hw_; apply opv_idxG tkE; exact rfl; exact rfl; exact rfl; omega; exact rfl; apply wq_val; intro _ hw_; apply opv_fa; exact fa_sE (by decide); exact rfl; exact rfl; apply wq_val; intro _ hw_; apply opv_ldW; exact rfl; exact Wi.below (by assumption) hw_; exact e1_by; exact rfl; exact rfl; apply wq_val; intro _ hw_; apply opv_assign; exact rfl; exact rfl; apply wq_val; intro _ hw_; apply opv_assign; exact rfl; exact rfl; refine wq_nil fun w1 hw1 => ?_
        replace hs := hs.below hw1
        clear i1 j1
        refine we_seq ?_; refine wc_block ?_
        refine wc_loop (fun L wr mm => ∃ q : Nat, L = [(0, .int .i64 (every : Int)), (1, .slice (some ⟨b, o, none⟩) l.length c), (6, .int .i64 (eR l (j + 1) : Nat)), (7, .slice Bd (bodyB every l (j + 1)).length cb), (8, .slice Rs (resB every l (j + 1)).length cr), (9, .int .i64 (stN every (j + 1) : Nat)), (10, .int .i64 ((j + 1 : Nat) : Int)), (11, .int .i64 (q : Int)), (12, .slice Y y.key.length cy), (13, .slice X x.key.length cx)] ∧ q ≤ y.key.length ∧ comN y.key x.key = q + comN (y.key.drop q) (x.key.drop q) ∧ St NoB w wr [.ow 5 Bd (bodyB every l (j + 1)).length cb (bvs (bodyB every l (j + 1))), .ow 5 Rs (resB every l (j + 1)).length cr (bvs (resB every l (j + 1)))] ∧ mm = y.key.length - q)
          [(0, .int .i64 (every : Int)), (1, .slice (some ⟨b, o, none⟩) l.length c), (6, .int .i64 (eR l (j + 1) : Nat)), (7, .slice Bd (bodyB every l (j + 1)).length cb), (8, .slice Rs (resB every l (j + 1)).length cr), (9, .int .i64 (stN every (j + 1) : Nat)), (10, .int .i64 ((j + 1 : Nat) : Int)), (11, .int .i64 (0 : Nat)), (12, .slice Y y.key.length cy), (13, .slice X x.key.length cx)] y.key.length ⟨0, rfl, by omega, by simp, hs, rfl⟩ ⟨rfl, rfl, rfl, rfl, rfl, rfl, rfl, rfl, rfl, rfl, trivial⟩ ?_
        clear hs
        rintro _ w5 mm ⟨q, rfl, hq, hcn, hs, rfl⟩
        have hra := ry.below hs.bel
        have hrb := rx.below hs.bel
        refine wc_seq ?_; refine wc_seq ?_
        refine wc_cutE (fun L' w' => ∃ t : Bool, L' = [(0, .int .i64 (every : Int)), (1, .slice (some ⟨b, o, none⟩) l.length c), (6, .int .i64 (eR l (j + 1) : Nat)), (7, .slice Bd (bodyB every l (j + 1)).length cb), (8, .slice Rs (resB every l (j + 1)).length cr), (9, .int .i64 (stN every (j + 1) : Nat)), (10, .int .i64 ((j + 1 : Nat) : Int)), (11, .int .i64 (q : Int)), (12, .slice Y y.key.length cy), (13, .slice X x.key.length cx), (64, .bool t)] ∧ St NoB w w' [.ow 5 Bd (bodyB every l (j + 1)).length cb (bvs (bodyB every l (j + 1))), .ow 5 Rs (resB every l (j + 1)).length cr (bvs (resB every l (j + 1)))] ∧ (if t then comN (y.key.drop q) (x.key.drop q) = comN (y.key.drop (q + 1)) (x.key.drop (q + 1)) + 1 ∧ q < y.key.length else comN (y.key.drop q) (x.key.drop q) = 0)) ?_ ?_
        · by_cases h1 : q < y.key.length
          · by_cases h2 : q < x.key.length
            · obtain ⟨u, hu⟩ : ∃ u, y.key[q]? = some u := ⟨_, List.getElem?_eq_getElem h1⟩
              obtain ⟨v, hv⟩ : ∃ u, x.key[q]? = some u := ⟨_, List.getElem?_eq_getElem h2⟩
              have hst := comN_step hu hv
              have h1' : (q : Int) < (y.key.length : Int) := by omega
              have h2' : (q : Int) < (x.key.length : Int) := by omega
              have exy : (u.toNat : Int) = (v.toNat : Int) ↔ u = v := by rw [Int.ofNat_inj]; exact UInt8.toNat_inj
              by_cases h3 : u = v
              · have h3' := exy.2 h3
                rw [if_pos h3] at hst
                refine wc_drawB mixed (by kernel_rfl) ?_
                apply wq_val; intro _ hw_; apply opv_move; exact rfl; exact rfl; apply wq_val; intro _ hw_; apply opv_move; exact rfl; exact rfl; apply wq_val; intro _ hw_; apply opv_len; exact rfl; exact tyB.sl; exact rfl; apply wq_val; intro _ hw_; apply opv_bin; exact rfl; exact rfl; exact bin_lss; exact rfl; apply wq_val; intro _ hw_; apply opv_move; exact rfl; exact rfl; apply wq_take; exact rfl; exact rfl; exact rfl; refine bT ?_; (with_reducible assumption); apply wq_val; intro _ hw_; apply opv_move; exact rfl; exact rfl; apply wq_take; exact rfl; exact rfl; exact rfl; refine bT ?_; (with_reducible assumption); apply wq_val; intro _ hw_; apply opv_move; exact rfl; exact rfl; apply wq_take; exact rfl; exact rfl; exact rfl; refine bT ?_; (with_reducible assumption); apply wq_val; intro _ hw_; apply opv_len; exact rfl; exact tyB.sl; exact rfl; apply wq_take; exact rfl; exact rfl; exact rfl; refine bT ?_; (with_reducible assumption); apply wq_val; intro _ hw_; apply opv_bin; exact rfl; exact rfl; exact bin_lss; exact rfl; apply wq_val; intro _ hw_; apply opv_pickT; exact rfl; refine bT ?_; (with_reducible assumption); exact rfl; exact rfl; apply wq_val; intro _ hw_; apply opv_move; exact rfl; exact rfl; apply wq_take; exact rfl; exact rfl; exact rfl; refine bT ?_; (with_reducible assumption); apply wq_val; intro _ hw_; apply opv_move; exact rfl; exact rfl; apply wq_take; exact rfl; exact rfl; exact rfl; refine bT ?_; (with_reducible assumption); apply wq_val; intro _ hw_; apply opv_move; exact rfl; exact rfl; apply wq_byTK (T := tyB) (hr := hra) (hb := hu); exact rfl; exact rfl; exact rfl; refine bT ?_; (with_reducible assumption); exact rfl; exact rfl; exact rfl; exact rfl; refine bT ?_; (with_reducible assumption); exact rfl; exact rfl; exact rfl; exact rfl; exact rfl; intro _; apply wq_take; exact rfl; exact rfl; exact rfl; refine bT ?_; (with_reducible assumption); apply wq_val; intro _ hw_; apply opv_move; exact rfl; exact rfl; apply wq_take; exact rfl; exact rfl; exact rfl; refine bT ?_; (with_reducible assumption); apply wq_val; intro _ hw_; apply opv_move; exact rfl; exact rfl; apply wq_byTK (T := tyB) (hr := hrb) (hb := hv); exact rfl; exact rfl; exact rfl; refine bT ?_; (with_reducible assumption); exact rfl; exact rfl; exact rfl; exact rfl; refine bT ?_; (with_reducible assumption); exact rfl; exact rfl; exact rfl; exact rfl; exact rfl; intro _; apply wq_take; exact rfl; exact rfl; exact rfl; refine bT ?_; (with_reducible assumption); apply wq_val; intro _ hw_; apply opv_bin; exact rfl; exact rfl; exact bin_eql; exact rfl; apply wq_val; intro _ hw_; apply opv_pickT; exact rfl; refine bT ?_; (with_reducible assumption); exact rfl; exact rfl; refine wq_nil fun w1 hw1 => ?_
                replace hs := hs.below hw1
                skip
                exact we_cut _ ⟨true, rfl, hs, hst, h1⟩ ⟨rfl, rfl, rfl, rfl, rfl, rfl, rfl, rfl, rfl, rfl, congrArg (fun b => some (Value.bool b)) (decide_eq_true h3'), trivial⟩
              · have h3' : ¬ (u.toNat : Int) = (v.toNat : Int) := fun h => h3 (exy.1 h)
                rw [if_neg h3] at hst
                refine wc_drawB mixed (by kernel_rfl) ?_
                apply wq_val; intro _ hw_; apply opv_move; exact rfl; exact rfl; apply wq_val; intro _ hw_; apply opv_move; exact rfl; exact rfl; apply wq_val; intro _ hw_; apply opv_len; exact rfl; exact tyB.sl; exact rfl; apply wq_val; intro _ hw_; apply opv_bin; exact rfl; exact rfl; exact bin_lss; exact rfl; apply wq_val; intro _ hw_; apply opv_move; exact rfl; exact rfl; apply wq_take; exact rfl; exact rfl; exact rfl; refine bT ?_; (with_reducible assumption); apply wq_val; intro _ hw_; apply opv_move; exact rfl; exact rfl; apply wq_take; exact rfl; exact rfl; exact rfl; refine bT ?_; (with_reducible assumption); apply wq_val; intro _ hw_; apply opv_move; exact rfl; exact rfl; apply wq_take; exact rfl; exact rfl; exact rfl; refine bT ?_; (with_reducible assumption); apply wq_val; intro _ hw_; apply opv_len; exact rfl; exact tyB.sl; exact rfl; apply wq_take; exact rfl; exact rfl; exact rfl; refine bT ?_; (with_reducible assumption); apply wq_val; intro _ hw_; apply opv_bin; exact rfl; exact rfl; exact bin_lss; exact rfl; apply wq_val; intro _ hw_; apply opv_pickT; exact rfl; refine bT ?_; (with_reducible assumption); exact rfl; exact rfl; apply wq_val; intro _ hw_; apply opv_move; exact rfl; exact rfl; apply wq_take; exact rfl; exact rfl; exact rfl; refine bT ?_; (with_reducible assumption); apply wq_val; intro _ hw_; apply opv_move; exact rfl; exact rfl; apply wq_take; exact rfl; exact rfl; exact rfl; refine bT ?_; (with_reducible assumption); apply wq_val; intro _ hw_; apply opv_move; exact rfl; exact rfl; apply wq_byTK (T := tyB) (hr := hra) (hb := hu); exact rfl; exact rfl; exact rfl; refine bT ?_; (with_reducible assumption); exact rfl; exact rfl; exact rfl; exact rfl; refine bT ?_; (with_reducible assumption); exact rfl; exact rfl; exact rfl; exact rfl; exact rfl; intro _; apply wq_take; exact rfl; exact rfl; exact rfl; refine bT ?_; (with_reducible assumption); apply wq_val; intro _ hw_; apply opv_move; exact rfl; exact rfl; apply wq_take; exact rfl; exact rfl; exact rfl; refine bT ?_; (with_reducible assumption); apply wq_val; intro _ hw_; apply opv_move; exact rfl; exact rfl; apply wq_byTK (T := tyB) (hr := hrb) (hb := hv); exact rfl; exact rfl; exact rfl; refine bT ?_; (with_reducible assumption); exact rfl; exact rfl; exact rfl; exact rfl; refine bT ?_; (with_reducible assumption); exact rfl; exact rfl; exact rfl; exact rfl; exact rfl; intro _; apply wq_take; exact rfl; exact rfl; exact rfl; refine bT ?_; (with_reducible assumption); apply wq_val; intro _ hw_; apply opv_bin; exact rfl; exact rfl; exact bin_eql; exact rfl; apply wq_val; intro _ hw_; apply opv_pickT; exact rfl; refine bT ?_; (with_reducible assumption); exact rfl; exact rfl; refine wq_nil fun w1 hw1 => ?_
                replace hs := hs.below hw1
                skip
                exact we_cut _ ⟨false, rfl, hs, hst⟩ ⟨rfl, rfl, rfl, rfl, rfl, rfl, rfl, rfl, rfl, rfl, congrArg (fun b => some (Value.bool b)) (decide_eq_false h3'), trivial⟩
            · have h1' : (q : Int) < (y.key.length : Int) := by omega
              have h2' : ¬ (q : Int) < (x.key.length : Int) := by omega
              refine wc_drawB mixed (by kernel_rfl) ?_
              apply wq_val; intro _ hw_; apply opv_move; exact rfl; exact rfl; apply wq_val; intro _ hw_; apply opv_move; exact rfl; exact rfl; apply wq_val; intro _ hw_; apply opv_len; exact rfl; exact tyB.sl; exact rfl; apply wq_val; intro _ hw_; apply opv_bin; exact rfl; exact rfl; exact bin_lss; exact rfl; apply wq_val; intro _ hw_; apply opv_move; exact rfl; exact rfl; apply wq_take; exact rfl; exact rfl; exact rfl; refine bT ?_; (with_reducible assumption); apply wq_val; intro _ hw_; apply opv_move; exact rfl; exact rfl; apply wq_take; exact rfl; exact rfl; exact rfl; refine bT ?_; (with_reducible assumption); apply wq_val; intro _ hw_; apply opv_move; exact rfl; exact rfl; apply wq_take; exact rfl; exact rfl; exact rfl; refine bT ?_; (with_reducible assumption); apply wq_val; intro _ hw_; apply opv_len; exact rfl; exact tyB.sl; exact rfl; apply wq_take; exact rfl; exact rfl; exact rfl; refine bT ?_; (with_reducible assumption); apply wq_val; intro _ hw_; apply opv_bin; exact rfl; exact rfl; exact bin_lss; exact rfl; apply wq_val; intro _ hw_; apply opv_pickT; exact rfl; refine bT ?_; (with_reducible assumption); exact rfl; exact rfl; apply wq_val; intro _ hw_; apply opv_move; exact rfl; exact rfl; apply wq_skip; exact rfl; exact rfl; exact rfl; refine bFn ?_; (with_reducible assumption); exact rfl; apply wq_skip; exact rfl; exact rfl; exact rfl; refine bFn ?_; (with_reducible assumption); exact rfl; apply wq_skip; exact rfl; exact rfl; exact rfl; refine bFn ?_; (with_reducible assumption); exact rfl; apply wq_skip; exact rfl; exact rfl; exact rfl; refine bFn ?_; (with_reducible assumption); exact rfl; apply wq_skip; exact rfl; exact rfl; exact rfl; refine bFn ?_; (with_reducible assumption); exact rfl; apply wq_skip; exact rfl; exact rfl; exact rfl; refine bFn ?_; (with_reducible assumption); exact rfl; apply wq_skip; exact rfl; exact rfl; exact rfl; refine bFn ?_; (with_reducible assumption); exact rfl; apply wq_skip; exact rfl; exact rfl; exact rfl; refine bFn ?_; (with_reducible assumption); exact rfl; apply wq_skip; exact rfl; exact rfl; exact rfl; refine bFn ?_; (with_reducible assumption); exact rfl; apply wq_val; intro _ hw_; apply opv_pickF; exact rfl; refine bF ?_; (with_reducible assumption); exact rfl; exact rfl; refine wq_nil fun w1 hw1 => ?_
              replace hs := hs.below hw1
              skip
              exact we_cut _ ⟨false, rfl, hs, comN_end (.inr (by omega))⟩ ⟨rfl, rfl, rfl, rfl, rfl, rfl, rfl, rfl, rfl, rfl, rfl, trivial⟩
          · have h1' : ¬ (q : Int) < (y.key.length : Int) := by omega
            refine wc_drawB mixed (by kernel_rfl) ?_
            apply wq_val; intro _ hw_; apply opv_move; exact rfl; exact rfl; apply wq_val; intro _ hw_; apply opv_move; exact rfl; exact rfl; apply wq_val; intro _ hw_; apply opv_len; exact rfl; exact tyB.sl; exact rfl; apply wq_val; intro _ hw_; apply opv_bin; exact rfl; exact rfl; exact bin_lss; exact rfl; apply wq_val; intro _ hw_; apply opv_move; exact rfl; exact rfl; apply wq_skip; exact rfl; exact rfl; exact rfl; refine bFn ?_; (with_reducible assumption); exact rfl; apply wq_skip; exact rfl; exact rfl; exact rfl; refine bFn ?_; (with_reducible assumption); exact rfl; apply wq_skip; exact rfl; exact rfl; exact rfl; refine bFn ?_; (with_reducible assumption); exact rfl; apply wq_skip; exact rfl; exact rfl; exact rfl; refine bFn ?_; (with_reducible assumption); exact rfl; apply wq_val; intro _ hw_; apply opv_pickF; exact rfl; refine bF ?_; (with_reducible assumption); exact rfl; exact rfl; apply wq_val; intro _ hw_; apply opv_move; exact rfl; exact rfl; apply wq_skip; exact rfl; exact rfl; exact rfl; exact bR2; exact rfl; apply wq_skip; exact rfl; exact rfl; exact rfl; exact bR2; exact rfl; apply wq_skip; exact rfl; exact rfl; exact rfl; exact bR2; exact rfl; apply wq_skip; exact rfl; exact rfl; exact rfl; exact bR2; exact rfl; apply wq_skip; exact rfl; exact rfl; exact rfl; exact bR2; exact rfl; apply wq_skip; exact rfl; exact rfl; exact rfl; exact bR2; exact rfl; apply wq_skip; exact rfl; exact rfl; exact rfl; exact bR2; exact rfl; apply wq_skip; exact rfl; exact rfl; exact rfl; exact bR2; exact rfl; apply wq_skip; exact rfl; exact rfl; exact rfl; exact bR2; exact rfl; apply wq_val; intro _ hw_; apply opv_pickF; exact rfl; exact rfl; exact rfl; exact rfl; refine wq_nil fun w1 hw1 => ?_
            replace hs := hs.below hw1
            skip
            exact we_cut _ ⟨false, rfl, hs, comN_end (.inl (by omega))⟩ ⟨rfl, rfl, rfl, rfl, rfl, rfl, rfl, rfl, rfl, rfl, rfl, trivial⟩
        clear hs hra hrb
        rintro _ w6 ⟨t, rfl, hs, ht⟩
        cases t with
        | true =>
          obtain ⟨h1, h2⟩ := ht
          refine we_seq ?_; apply wc_condTb; exact rfl; exact rfl; refine wc_skip ?_; refine we_seq ?_; refine wc_block ?_; refine wc_region ?_; refine wl_mv rfl rfl ?_; apply wl_val; apply opv_bin; exact rfl; exact rfl; exact bin_add64 (by omega); exact rfl; refine wl_as rfl rfl ?_; refine wl_nil ?_; refine we_block_norm ?_
          exact we_loop _ (y.key.length - (q + 1)) ⟨q + 1, rfl, by omega, by rw [hcn, h1]; omega, hs, rfl⟩ (by omega) ⟨rfl, rfl, rfl, rfl, rfl, rfl, rfl, by simp [lookT], rfl, rfl, trivial⟩
        | false =>
          have h0 : comN y.key x.key = q := by rw [hcn, show comN (y.key.drop q) (x.key.drop q) = 0 from ht]; rfl
          rw [h0]
          refine we_seq ?_; apply wc_condFb; exact rfl; exact rfl; refine wc_exit ?_; refine we_seq_exit ?_; refine we_loop_exit ?_; refine we_block_exit ?_
          exact we_cut _ ⟨Rs, cr, rfl, hs⟩ ⟨rfl, rfl, rfl, rfl, rfl, rfl, rfl, rfl, trivial⟩
    clear hs
    rintro _ w3 ⟨Rs', cr', rfl, hs⟩
    have hrm' := resB_max every l (k + 1)
    have i1 := i0.below hs.bel
    refine we_seq ?_
    refine wc_seq ?_; refine wc_seq ?_
    refine wc_cutE (fun L' w' => L' = [(0, .int .i64 (every : Int)), (1, .slice (some ⟨b, o, none⟩) l.length c), (6, .int .i64 (eR l k : Nat)), (7, .slice Bd (bodyB every l k).length cb), (8, .slice Rs' (resB every l (k + 1)).length cr'), (9, .int .i64 (stN every (k + 1) : Nat)), (10, .int .i64 (k : Int)), (11, .int .i64 (shrN every l k : Nat)), (88, .bool (!stepO l k))] ∧ St NoB w w' [.ow 5 Bd (bodyB every l k).length cb (bvs (bodyB every l k)), .ow 5 Rs' (resB every l (k + 1)).length cr' (bvs (resB every l (k + 1)))]) ?_ ?_
    · cases k with
      | zero =>
        have e1 : stepO l 0 = true := rfl
        have hz0 : ¬ ((0 : Nat) : Int) > 0 := by omega
        rw [e1]
        refine wc_drawB mixed (by kernel_rfl) ?_
        apply wq_val; intro _ hw_; apply opv_move; exact rfl; exact rfl; apply wq_val; intro _ hw_; apply opv_bin; exact rfl; exact rfl; exact bin_gtr; exact rfl; apply wq_val; intro _ hw_; apply opv_move; exact rfl; exact rfl; apply wq_skip; exact rfl; exact rfl; exact rfl; refine bFn ?_; (with_reducible assumption); exact rfl; apply wq_skip; exact rfl; exact rfl; exact rfl; refine bFn ?_; (with_reducible assumption); exact rfl; apply wq_skip; exact rfl; exact rfl; exact rfl; refine bFn ?_; (with_reducible assumption); exact rfl; apply wq_skip; exact rfl; exact rfl; exact rfl; refine bFn ?_; (with_reducible assumption); exact rfl; apply wq_skip; exact rfl; exact rfl; exact rfl; refine bFn ?_; (with_reducible assumption); exact rfl; apply wq_skip; exact rfl; exact rfl; exact rfl; refine bFn ?_; (with_reducible assumption); exact rfl; apply wq_skip; exact rfl; exact rfl; exact rfl; refine bFn ?_; (with_reducible assumption); exact rfl; apply wq_skip; exact rfl; exact rfl; exact rfl; refine bFn ?_; (with_reducible assumption); exact rfl; apply wq_skip; exact rfl; exact rfl; exact rfl; refine bFn ?_; (with_reducible assumption); exact rfl; apply wq_skip; exact rfl; exact rfl; exact rfl; refine bFn ?_; (with_reducible assumption); exact rfl; apply wq_skip; exact rfl; exact rfl; exact rfl; refine bFn ?_; (with_reducible assumption); exact rfl; apply wq_val; intro _ hw_; apply opv_pickF; exact rfl; refine bF ?_; (with_reducible assumption); exact rfl; exact rfl; refine wq_nil fun w1 hw1 => ?_
        replace hs := hs.below hw1
        skip
        exact we_cut _ ⟨rfl, hs⟩ ⟨rfl, rfl, rfl, rfl, rfl, rfl, rfl, rfl, rfl, trivial⟩
      | succ j =>
        have hz0 : ((j + 1 : Nat) : Int) > 0 := by omega
        obtain ⟨y, hy⟩ : ∃ y, l[j]? = some y := ⟨_, List.getElem?_eq_getElem (by omega)⟩
        obtain ⟨y1, y2, y3⟩ := hz _ (List.mem_of_getElem? hy)
        obtain ⟨b', o', cs, hA', _, _, hp, j0⟩ := RdR.at (k := 4) (by decide) hr (E := enEl y) (i := j) (by rw [List.getElem?_map, hy]; rfl)
        simp only [Option.some.injEq, Addr.mk.injEq, and_true] at hA'
        obtain ⟨rfl, rfl⟩ := hA'
        obtain ⟨Y, cy, Y2, cy2, rfl, ry, _, _, _⟩ := enEl.rd hp
        have j1 := j0.below hs.bel
        have hbw := hs.bel
        have e1 : stepO l (j + 1) = lessE y x := by rw [stepO, hy, hx]
        rw [e1]
        refine wc_drawB mixed (by kernel_rfl) ?_
        apply wq_val; intro _ hw_; apply opv_move; exact rfl; exact rfl; apply wq_val; intro _ hw_; apply opv_bin; exact rfl; exact rfl; exact bin_gtr; exact rfl; apply wq_val; intro _ hw_; apply opv_move; exact rfl; exact rfl; apply wq_take; exact rfl; exact rfl; exact rfl; refine bT ?_; (with_reducible assumption); apply wq_val; intro _ hw_; apply opv_move; exact rfl; exact rfl; apply wq_take; exact rfl; exact rfl; exact rfl; refine bT ?_; (with_reducible assumption); apply wq_val; intro _ hw_; apply opv_move; exact rfl; exact rfl; apply wq_take; exact rfl; exact rfl; exact rfl; refine bT ?_; (with_reducible assumption); apply wq_val; intro _ hw_; apply opv_bin; exact rfl; exact rfl; exact bin_sub64 (by omega); exact rfl; apply wq_take; exact rfl; exact rfl; exact rfl; refine bT ?_; (with_reducible assumption); apply wq_val; intro _ hw_; apply opv_idxG tkE; exact rfl; exact rfl; exact natc_pred; omega; exact rfl; apply wq_take; exact rfl; exact rfl; exact rfl; refine bT ?_; (with_reducible assumption); apply wq_val; intro _ hw_; apply opv_ldG; exact rfl; exact Wi.below (by assumption) hw_; exact sE; exact rfl; apply wq_take; exact rfl; exact rfl; exact rfl; refine bT ?_; (with_reducible assumption); apply wq_val; intro _ hw_; apply opv_move; exact rfl; exact rfl; apply wq_take; exact rfl; exact rfl; exact rfl; refine bT ?_; (with_reducible assumption); apply wq_val; intro _ hw_; apply opv_move; exact rfl; exact rfl; apply wq_take; exact rfl; exact rfl; exact rfl; refine bT ?_; (with_reducible assumption); apply wq_val; intro _ hw_; apply opv_idxG tkE; exact rfl; exact rfl; exact rfl; omega; exact rfl; apply wq_take; exact rfl; exact rfl; exact rfl; refine bT ?_; (with_reducible assumption); apply wq_val; intro _ hw_; apply opv_ldG; exact rfl; exact Wi.below (by assumption) hw_; exact sE; exact rfl; apply wq_take; exact rfl; exact rfl; exact rfl; refine bT ?_; (with_reducible assumption)
        refine wq_call (v := .bool (lessE y x)) ok_caissonref07_Less (fun w' hw => (refLess_any ((ry.below hbw).below hw) ((rx.below hbw).below hw) (by simp only [maxLen]; omega) (by simp only [maxLen]; omega)).mono fun v w2 h2 => ⟨h2.1, hw.trans (h2.2.mono hw.size)⟩) ⟨rfl, rfl, trivial⟩ rfl ?_
        apply wq_take; exact rfl; exact rfl; exact rfl; refine bT ?_; (with_reducible assumption); apply wq_val; intro _ hw_; apply opv_notD; exact rfl; exact rfl; apply wq_val; intro _ hw_; apply opv_pickT; exact rfl; refine bT ?_; (with_reducible assumption); exact rfl; exact rfl; refine wq_nil fun w1 hw1 => ?_
        replace hs := hs.below hw1
        skip
        exact we_cut _ ⟨rfl, hs⟩ ⟨rfl, rfl, rfl, rfl, rfl, rfl, rfl, rfl, congrArg (fun b => some (Value.bool b)) (show decide (¬ (cmpB y.key x.key < 0 ∨ (cmpB y.key x.key = 0 ∧ x.seq < y.seq))) = !lessE y x by unfold lessE; rw [decide_not]), trivial⟩
    clear hs i1
    rintro _ w4 ⟨rfl, hs⟩
    refine we_seq ?_
    refine wc_cutE (fun L' w' => L' = [(0, .int .i64 (every : Int)), (1, .slice (some ⟨b, o, none⟩) l.length c), (6, .int .i64 (eR l (k + 1) : Nat)), (7, .slice Bd (bodyB every l k).length cb), (8, .slice Rs' (resB every l (k + 1)).length cr'), (9, .int .i64 (stN every (k + 1) : Nat)), (10, .int .i64 (k : Int)), (11, .int .i64 (shrN every l k : Nat))] ∧ St NoB w w' [.ow 5 Bd (bodyB every l k).length cb (bvs (bodyB every l k)), .ow 5 Rs' (resB every l (k + 1)).length cr' (bvs (resB every l (k + 1)))]) ?_ ?_
    · rw [eR_step]
      cases stepO l k with
      | true =>
        rw [if_pos rfl]
        apply wc_condFb; exact rfl; exact Bool.not_true; refine wc_skip ?_
        exact we_cut _ ⟨rfl, hs⟩ ⟨rfl, rfl, rfl, rfl, rfl, rfl, rfl, rfl, trivial⟩
      | false =>
        rw [if_neg (by decide)]
        apply wc_condTb; exact rfl; exact Bool.not_false; refine wc_region ?_; refine wl_as rfl rfl ?_; refine wl_nil ?_
        exact we_cut _ ⟨rfl, hs⟩ ⟨rfl, rfl, rfl, rfl, rfl, rfl, rfl, rfl, trivial⟩
    clear hs
    rintro _ w5 ⟨rfl, hs⟩
    refine we_seq ?_
    have i1 := i0.below hs.bel
    refine wc_sr ?_; refine wl_mv rfl rfl ?_; refine wl_mv rfl rfl ?_; apply wl_val; apply opv_convR; exact rfl; exact Try.underlying3; exact Try.underlying33; exact IntWalk.u64_in _ (by omega); exact rfl
    have q1 := putU_le (n := shrN every l k) (by omega)
    have q2 := putU_le (n := x.key.length - shrN every l k) (by omega)
    have q3 := putU_le z3
    have q4 := putU_le (n := x.val.length) (by omega)
    have hkl : ((x.key.length : Nat) : Int) - ((shrN every l k : Nat) : Int) = ((x.key.length - shrN every l k : Nat) : Int) := by omega
    refine wl_call ok_caissonref01_PutU (refPutU_any (shrN every l k) (by omega) _) ⟨rfl, trivial⟩ rfl ?_
    rintro _ _ ⟨U, cu, rfl, ou, hbx⟩
    replace hs := hs.below hbx
    clear hbx
    skip
    refine ws_app (ys := bvs (putU (shrN every l k))) (m := (putU (shrN every l k)).length) hs 0 rfl rfl tyB rfl ou.rd (bvs_one _) (by omega) (by simp only [maxLen]; omega) rfl ?_
    clear hs ou; intro B1 cB1 _ hs; dsimp only [setC] at hs
    have i1 := i0.below hs.bel
    refine wl_as rfl rfl ?_; refine wl_ns ?_; refine wc_sr ?_; refine wl_mv rfl rfl ?_; refine wl_mv rfl rfl ?_; refine wl_mv rfl rfl ?_; apply wl_val; apply opv_idxG tkE; exact rfl; exact rfl; exact rfl; omega; exact rfl; apply wl_val; apply opv_fa; exact fa_sE (by decide); exact rfl; exact rfl; apply wl_val; apply opv_ldW; exact rfl; assumption; exact e1_by; exact rfl; exact rfl; apply wl_val; apply opv_len; exact rfl; exact tyB.sl; exact rfl; refine wl_mv rfl rfl ?_; apply wl_val; apply opv_bin; exact rfl; exact rfl; exact bin_sub64 (by omega); exact rfl; apply wl_val; apply opv_convR; exact rfl; exact Try.underlying3; exact Try.underlying33; exact IntWalk.u64_in _ (by omega); exact rfl
    rw [hkl]
    skip
    refine wl_call ok_caissonref01_PutU (refPutU_any (x.key.length - shrN every l k) (by omega) _) ⟨rfl, trivial⟩ rfl ?_
    rintro _ _ ⟨U, cu, rfl, ou, hbx⟩
    replace hs := hs.below hbx
    clear hbx
    skip
    refine ws_app (ys := bvs (putU (x.key.length - shrN every l k))) (m := (putU (x.key.length - shrN every l k)).length) hs 0 rfl rfl tyB rfl ou.rd (bvs_one _) (by omega) (by simp only [maxLen]; omega) rfl ?_
    clear hs ou; intro B2 cB2 _ hs; dsimp only [setC] at hs
    have i1 := i0.below hs.bel
    refine wl_as rfl rfl ?_; refine wl_ns ?_; refine wc_sr ?_; refine wl_mv rfl rfl ?_; refine wl_mv rfl rfl ?_; refine wl_mv rfl rfl ?_; apply wl_val; apply opv_idxG tkE; exact rfl; exact rfl; exact rfl; omega; exact rfl; apply wl_val; apply opv_fa; exact fa_sE (by decide); exact rfl; exact rfl; apply wl_val; apply opv_ldW; exact rfl; assumption; exact e1_u64; exact rfl; exact rfl
    refine wl_call ok_caissonref01_PutU (refPutU_any (x.seq) (z3) _) ⟨rfl, trivial⟩ rfl ?_
    rintro _ _ ⟨U, cu, rfl, ou, hbx⟩
    replace hs := hs.below hbx
    clear hbx
    skip
    refine ws_app (ys := bvs (putU (x.seq))) (m := (putU (x.seq)).length) hs 0 rfl rfl tyB rfl ou.rd (bvs_one _) (by omega) (by simp only [maxLen]; omega) rfl ?_
    clear hs ou; intro B3 cB3 _ hs; dsimp only [setC] at hs
    have i1 := i0.below hs.bel
    refine wl_as rfl rfl ?_; refine wl_ns ?_; refine wc_sr ?_; refine wl_mv rfl rfl ?_; refine wl_mv rfl rfl ?_; refine wl_mv rfl rfl ?_; apply wl_val; apply opv_idxG tkE; exact rfl; exact rfl; exact rfl; omega; exact rfl; apply wl_val; apply opv_fa; exact fa_sE (by decide); exact rfl; exact rfl; apply wl_val; apply opv_ldW; exact rfl; assumption; exact e1_u8; exact rfl; exact rfl
    refine ws_push (vs := [.int .u8 (x.kind.toNat : Int)]) hs 0 rfl rfl tyB ⟨rfl, rfl, rfl, trivial⟩ rfl (by decide) rfl (by omega) (by simp only [maxLen]; omega) rfl rfl ?_
    clear hs; intro _ B4 cB4 _ hs; dsimp only [setC] at hs
    have i1 := i0.below hs.bel
    refine wl_as rfl rfl ?_; refine wl_ns ?_; refine wc_sr ?_; refine wl_mv rfl rfl ?_; refine wl_mv rfl rfl ?_; refine wl_mv rfl rfl ?_; apply wl_val; apply opv_idxG tkE; exact rfl; exact rfl; exact rfl; omega; exact rfl; apply wl_val; apply opv_fa; exact fa_sE (by decide); exact rfl; exact rfl; apply wl_val; apply opv_ldW; exact rfl; assumption; exact e1_by; exact rfl; exact rfl; apply wl_val; apply opv_len; exact rfl; exact tyB.sl; exact rfl; apply wl_val; apply opv_convR; exact rfl; exact Try.underlying3; exact Try.underlying33; exact IntWalk.u64_in _ (by omega); exact rfl
    refine wl_call ok_caissonref01_PutU (refPutU_any (x.val.length) (by omega) _) ⟨rfl, trivial⟩ rfl ?_
    rintro _ _ ⟨U, cu, rfl, ou, hbx⟩
    replace hs := hs.below hbx
    clear hbx
    skip
    refine ws_app (ys := bvs (putU (x.val.length))) (m := (putU (x.val.length)).length) hs 0 rfl rfl tyB rfl ou.rd (bvs_one _) (by omega) (by simp only [maxLen]; omega) rfl ?_
    clear hs ou; intro B5 cB5 _ hs; dsimp only [setC] at hs
    have i1 := i0.below hs.bel
    refine wl_as rfl rfl ?_; refine wl_ns ?_; refine wc_sr ?_; refine wl_mv rfl rfl ?_; refine wl_mv rfl rfl ?_; refine wl_mv rfl rfl ?_; apply wl_val; apply opv_idxG tkE; exact rfl; exact rfl; exact rfl; omega; exact rfl; apply wl_val; apply opv_fa; exact fa_sE (by decide); exact rfl; exact rfl; apply wl_val; apply opv_ldW; exact rfl; assumption; exact e1_by; exact rfl; exact rfl; refine wl_mv rfl rfl ?_
    refine wl_sl (l := shrN every l k) (h := x.key.length) tyB rfl ⟨_, rfl⟩ rfl s1 hcx rfl ?_
    refine ws_app (ys := bvs (x.key.drop (shrN every l k))) (m := x.key.length - shrN every l k) hs 0 rfl rfl tyB rfl (rd_tail (rx.below hs.bel) s1 hcx) (bvs_one _) (by omega) (by simp only [maxLen]; omega) rfl ?_
    clear hs; intro B6 cB6 w8 hs; dsimp only [setC] at hs
    have i1 := i0.below hs.bel
    refine wl_as rfl rfl ?_; refine wl_ns ?_; refine wc_region ?_; refine wl_mv rfl rfl ?_; refine wl_mv rfl rfl ?_; refine wl_mv rfl rfl ?_; apply wl_val; apply opv_idxG tkE; exact rfl; exact rfl; exact rfl; omega; exact rfl; apply wl_val; apply opv_fa; exact fa_sE (by decide); exact rfl; exact rfl; apply wl_val; apply opv_ldW; exact rfl; assumption; exact e1_by; exact rfl; exact rfl
    refine ws_app (ys := bvs x.val) (m := x.val.length) hs 0 rfl rfl tyB rfl (rx2.below hs.bel) (bvs_one _) (by omega) (by simp only [maxLen]; omega) rfl ?_
    clear hs; intro B7 cB7 w9 hs; dsimp only [setC] at hs
    have hbs := bodyB_succ (every := every) hx
    have hbl : (bodyB every l k).length + (putU (shrN every l k)).length + (putU (x.key.length - shrN every l k)).length + (putU x.seq).length + 1 + (putU x.val.length).length + (x.key.length - shrN every l k) + x.val.length = (bodyB every l (k + 1)).length := by rw [hbs]; simp [entB]; omega
    have hbc : bvs (bodyB every l k) ++ bvs (putU (shrN every l k)) ++ bvs (putU (x.key.length - shrN every l k)) ++ bvs (putU x.seq) ++ [Value.int .u8 (x.kind.toNat : Int)] ++ bvs (putU x.val.length) ++ bvs (x.key.drop (shrN every l k)) ++ bvs x.val = bvs (bodyB every l (k + 1)) := by
      rw [hbs, entB]; simp [bvs_append, bvs, bv]
    rw [hbl, hbc] at hs
    rw [hbl]
    refine wl_as rfl rfl ?_; refine wl_nil ?_; refine we_block_norm ?_; refine we_seq ?_; refine wc_region ?_; refine wl_mv rfl rfl ?_; apply wl_val; apply opv_bin; exact rfl; exact rfl; exact bin_add64 (by omega); exact rfl; refine wl_as rfl rfl ?_; refine wl_nil ?_
    exact we_loop _ (l.length - (k + 1)) ⟨k + 1, B7, cB7, Rs', cr', rfl, by omega, hs, rfl⟩ (by omega) ⟨rfl, rfl, rfl, rfl, rfl, rfl, by simp [lookT], trivial⟩
  · obtain rfl : k = l.length := by omega
    have hel : eR l l.length = if checkE l = 0 ∧ ordE l = true then 0 else 3 := by rw [eR, ordT_all]
    have h4 : (four (stN every l.length)).length = 4 := four_length _
    have hst := resB_length every l l.length
    refine wc_exit ?_; refine we_seq_exit ?_; refine we_loop_exit ?_; refine we_block_exit ?_; refine we_seq ?_; refine wc_sr ?_; refine wl_mv rfl rfl ?_; refine wl_mv rfl rfl ?_
    refine ws_app (ys := bvs (resB every l l.length)) (m := (resB every l l.length).length) hs 0 rfl rfl tyB rfl (hs.ow 1 rfl).rd (bvs_one _) (by omega) (by simp only [maxLen]; omega) rfl ?_
    clear hs; intro B1 cB1 _ hs; dsimp only [setC] at hs
    refine wl_as rfl rfl ?_; refine wl_ns ?_; refine wc_sr ?_; refine wl_mv rfl rfl ?_; refine wl_mv rfl rfl ?_
    refine wl_call ok_caissonref08_four (refFour8_any (stN every l.length) (by omega) _) ⟨rfl, trivial⟩ rfl ?_
    rintro _ w4 ⟨F, cF, rfl, _, rF, hbx⟩
    replace hs := hs.below hbx
    clear hbx
    have rF' : Rd w4 F 4 (bvs (four (stN every l.length))) := by have := rF; unfold RdB at this; rw [four_length] at this; exact this
    skip
    refine ws_app (ys := bvs (four (stN every l.length))) (m := 4) hs 0 rfl rfl tyB rfl rF' (bvs_one _) (by omega) (by simp only [maxLen]; omega) rfl ?_
    clear hs rF rF'; intro B2 cB2 w5 hs; dsimp only [setC] at hs
    have hbl : (bodyB every l l.length).length + (resB every l l.length).length + 4 = (blkB every l).length := by rw [blkB]; simp [four_length]; omega
    have hbc : bvs (bodyB every l l.length) ++ bvs (resB every l l.length) ++ bvs (four (stN every l.length)) = bvs (blkB every l) := by rw [blkB]; simp [bvs_append]
    rw [hbl, hbc] at hs
    rw [hbl]
    refine wl_call ok_caissonref03_Seal (refSeal_any (xs := blkB every l) (hs.ow 0 rfl).rd rfl) ⟨rfl, trivial⟩ rfl ?_
    rintro _ w6 ⟨J, cJ, rfl, o_, hbx⟩
    have hsz := hs.size
    replace hs := hs.below hbx
    have n1 := Ow.mono o_ hsz
    clear hbx o_
    by_cases hse : (sealB (blkB every l)).2 = 0
    · rw [hse]
      have h00 : ((0 : Nat) : Int) = 0 := rfl
      by_cases hck : checkE l = 0 ∧ ordE l = true
      · have hbd : buildB every l = ((sealB (blkB every l)).1, 0) := by rw [buildB, if_neg hc2, if_pos hse, if_pos hck]
        rw [if_pos hck] at hel
        rw [hbd, hel]
        refine wl_mv rfl rfl ?_; apply wl_val; apply opv_extract; exact rfl; exact rfl; exact rfl; apply wl_val; apply opv_extract; exact rfl; exact rfl; exact rfl; refine wl_as rfl rfl ?_; refine wl_as rfl rfl ?_; refine wl_ns ?_; refine wc_seq ?_; refine wc_sr ?_; refine wl_mv rfl rfl ?_; refine wl_bin rfl rfl bin_neq rfl ?_; refine wl_ns ?_; apply wc_condFb; exact rfl; exact rfl; refine wc_skip ?_; refine we_seq ?_; refine wc_seq ?_; refine wc_sr ?_; refine wl_mv rfl rfl ?_; refine wl_bin rfl rfl bin_neq rfl ?_; refine wl_ns ?_; apply wc_condFb; exact rfl; exact rfl; refine wc_skip ?_; refine we_seq ?_; refine wc_sr ?_; refine wl_mv rfl rfl ?_; refine wl_as rfl rfl ?_; refine wl_as rfl rfl ?_; refine wl_ns ?_; refine wc_ret ?_
        exact we_ret2 rfl rfl rfl ⟨_, rfl, J, cJ, rfl, n1, hs.bel⟩
      · have hbd : buildB every l = ([], 3) := by rw [buildB, if_neg hc2, if_pos hse, if_neg hck]
        rw [if_neg hck] at hel
        have h03 : ¬ ((3 : Nat) : Int) = 0 := by omega
        rw [hbd, hel]
        refine wl_mv rfl rfl ?_; apply wl_val; apply opv_extract; exact rfl; exact rfl; exact rfl; apply wl_val; apply opv_extract; exact rfl; exact rfl; exact rfl; refine wl_as rfl rfl ?_; refine wl_as rfl rfl ?_; refine wl_ns ?_; refine wc_seq ?_; refine wc_sr ?_; refine wl_mv rfl rfl ?_; refine wl_bin rfl rfl bin_neq rfl ?_; refine wl_ns ?_; apply wc_condFb; exact rfl; exact rfl; refine wc_skip ?_; refine we_seq ?_; refine wc_seq ?_; refine wc_sr ?_; refine wl_mv rfl rfl ?_; refine wl_bin rfl rfl bin_neq rfl ?_; refine wl_ns ?_; apply wc_condTb; exact rfl; exact rfl; refine wc_sr ?_; refine wl_mv rfl rfl ?_; refine wl_as rfl rfl ?_; refine wl_as rfl rfl ?_; refine wl_ns ?_; refine wc_ret ?_; refine we_seq_ret ?_
        exact we_ret2 rfl rfl rfl ⟨_, rfl, none, 0, rfl, Ow.nil _ _ _, hs.bel⟩
    · have hse' : ¬ (((sealB (blkB every l)).2 : Nat) : Int) = 0 := by omega
      have hbd : buildB every l = ([], (sealB (blkB every l)).2) := by rw [buildB, if_neg hc2, if_neg hse]
      rw [hbd]
      refine wl_mv rfl rfl ?_; apply wl_val; apply opv_extract; exact rfl; exact rfl; exact rfl; apply wl_val; apply opv_extract; exact rfl; exact rfl; exact rfl; refine wl_as rfl rfl ?_; refine wl_as rfl rfl ?_; refine wl_ns ?_; refine wc_seq ?_; refine wc_sr ?_; refine wl_mv rfl rfl ?_; refine wl_bin rfl rfl bin_neq rfl ?_; refine wl_ns ?_; apply wc_decT; exact rfl; (with_reducible assumption); refine wc_sr ?_; refine wl_mv rfl rfl ?_; refine wl_as rfl rfl ?_; refine wl_as rfl rfl ?_; refine wl_ns ?_; refine wc_ret ?_; refine we_seq_ret ?_
      exact we_ret2 rfl rfl rfl ⟨_, rfl, none, 0, rfl, Ow.nil _ _ _, hs.bel⟩
end Go.Proofs.Ytojncfdlddepdaa


/-
  Walks over the document's get and read of blocks.
-/
namespace Go.Proofs.Ytojncfdlddepdaa
open Go.RowKit

def get8 (b : List UInt8) (p : Int) : Int × Int := match getU b p with
  | (n, q, 0) => if 1099511627776 < n then (-1, p) else ((n : Int), q)
  | _ => (-1, p)
theorem get8_any {A : Option Addr} {n c : Nat} {xs : List UInt8} {p : Int} {w : World} (hr : RdB w A xs) (hn : xs.length = n) (hl : xs.length ≤ maxLen) (hp : -9223372036854775808 ≤ p ∧ p ≤ 9223372036854775807) :
    CallsV Try.prog 55 #[.slice A n c, .int .i64 p] w fun v w' => v = .tuple #[.int .i64 (get8 xs p).1, .int .i64 (get8 xs p).2] ∧ Below w.heap.size w w' := by
  subst hn
  obtain ⟨⟨v, q, e⟩, hg⟩ : ∃ r, getU xs p = r := ⟨_, rfl⟩
  have hv := getU_rng hg
  refine calls_in (N := _) Try.func55 rfl Try.ntmps55 rfl ?_; show WC _ _ _ _ _ _
  refine wc_sr ?_; refine wl_as rfl rfl ?_; refine wl_as rfl rfl ?_; refine wl_ns ?_; refine wc_sr ?_; refine wl_mv rfl rfl ?_; refine wl_mv rfl rfl ?_
  refine wl_call ok_caissonref01_GetU (refGetU_at hg hr rfl hl hp) ⟨rfl, rfl, trivial⟩ rfl ?_
  rintro _ w1 ⟨rfl, hb⟩
  by_cases he : e = 0
  · subst he
    have h00 : ((0 : Nat) : Int) = 0 := rfl
    by_cases hbig : 1099511627776 < v
    · have hbig' : (v : Int) > 1099511627776 := by omega
      have e1 : get8 xs p = (-1, p) := by rw [get8, hg]; exact if_pos hbig
      rw [e1]
      refine wl_mv rfl rfl ?_; apply wl_val; apply opv_extract; exact rfl; exact rfl; exact rfl; apply wl_val; apply opv_extract; exact rfl; exact rfl; exact rfl; apply wl_val; apply opv_extract; exact rfl; exact rfl; exact rfl; refine wl_as rfl rfl ?_; refine wl_as rfl rfl ?_; refine wl_as rfl rfl ?_; refine wl_ns ?_; refine wc_seq ?_; refine wc_sr ?_; refine wl_mv rfl rfl ?_; refine wl_bin rfl rfl bin_neq rfl ?_; refine wl_mv rfl rfl ?_; apply wl_take; exact rfl; exact rfl; exact rfl; refine bF ?_; omega; refine wl_mv rfl rfl ?_; apply wl_take; exact rfl; exact rfl; exact rfl; refine bF ?_; omega; refine wl_bin rfl rfl bin_gtr rfl ?_; apply wl_val; apply opv_pickF; exact rfl; refine bF ?_; omega; exact rfl; exact rfl; refine wl_ns ?_; apply wc_decT; exact rfl; (with_reducible assumption); refine wc_sr ?_; refine wl_mv rfl rfl ?_; refine wl_as rfl rfl ?_; refine wl_as rfl rfl ?_; refine wl_ns ?_; refine wc_ret ?_; refine we_seq_ret ?_
      exact we_ret2 rfl rfl rfl ⟨_, rfl, rfl, hb⟩
    · have hbig' : ¬ (v : Int) > 1099511627776 := by omega
      have e1 : get8 xs p = ((v : Int), q) := by rw [get8, hg]; exact if_neg hbig
      rw [e1]
      refine wl_mv rfl rfl ?_; apply wl_val; apply opv_extract; exact rfl; exact rfl; exact rfl; apply wl_val; apply opv_extract; exact rfl; exact rfl; exact rfl; apply wl_val; apply opv_extract; exact rfl; exact rfl; exact rfl; refine wl_as rfl rfl ?_; refine wl_as rfl rfl ?_; refine wl_as rfl rfl ?_; refine wl_ns ?_; refine wc_seq ?_; refine wc_sr ?_; refine wl_mv rfl rfl ?_; refine wl_bin rfl rfl bin_neq rfl ?_; refine wl_mv rfl rfl ?_; apply wl_take; exact rfl; exact rfl; exact rfl; refine bF ?_; omega; refine wl_mv rfl rfl ?_; apply wl_take; exact rfl; exact rfl; exact rfl; refine bF ?_; omega; refine wl_bin rfl rfl bin_gtr rfl ?_; apply wl_val; apply opv_pickF; exact rfl; refine bF ?_; omega; exact rfl; exact rfl; refine wl_ns ?_; apply wc_decF; exact rfl; (with_reducible assumption); refine wc_skip ?_; refine we_seq ?_; refine wc_sr ?_; refine wl_mv rfl rfl ?_; apply wl_val; apply opv_convR; exact rfl; exact Try.underlying33; exact Try.underlying3; exact IntWalk.i64_in _ (by omega); exact rfl; refine wl_mv rfl rfl ?_; refine wl_as rfl rfl ?_; refine wl_as rfl rfl ?_; refine wl_ns ?_; refine wc_ret ?_
      exact we_ret2 rfl rfl rfl ⟨_, rfl, rfl, hb⟩
  · have he' : ¬ (e : Int) = 0 := by omega
    have e1 : get8 xs p = (-1, p) := by
      rw [get8, hg]
      cases e with
      | zero => exact absurd rfl he
      | succ e => rfl
    rw [e1]
    refine wl_mv rfl rfl ?_; apply wl_val; apply opv_extract; exact rfl; exact rfl; exact rfl; apply wl_val; apply opv_extract; exact rfl; exact rfl; exact rfl; apply wl_val; apply opv_extract; exact rfl; exact rfl; exact rfl; refine wl_as rfl rfl ?_; refine wl_as rfl rfl ?_; refine wl_as rfl rfl ?_; refine wl_ns ?_; refine wc_seq ?_; refine wc_sr ?_; refine wl_mv rfl rfl ?_; refine wl_bin rfl rfl bin_neq rfl ?_; refine wl_mv rfl rfl ?_; apply wl_skip; exact rfl; exact rfl; exact rfl; refine bTn ?_; (with_reducible assumption); exact rfl; apply wl_skip; exact rfl; exact rfl; exact rfl; refine bTn ?_; (with_reducible assumption); exact rfl; apply wl_val; apply opv_pickT; exact rfl; refine bT ?_; (with_reducible assumption); exact rfl; exact rfl; refine wl_ns ?_; apply wc_condTb; exact rfl; exact rfl; refine wc_sr ?_; refine wl_mv rfl rfl ?_; refine wl_as rfl rfl ?_; refine wl_as rfl rfl ?_; refine wl_ns ?_; refine wc_ret ?_; refine we_seq_ret ?_
    exact we_ret2 rfl rfl rfl ⟨_, rfl, rfl, hb⟩
/-- A number that is there and small, or none. -/
theorem get8_cases {b : List UInt8} {p : Int} (hl : b.length ≤ 1099511627776) : (∃ v q, getU b p = (v, q, 0) ∧ v ≤ 1099511627776 ∧ get8 b p = ((v : Int), q)) ∨ ((get8 b p = (-1, p)) ∧ ∀ v q, getU b p = (v, q, 0) → 1099511627776 < v) := by
  obtain ⟨⟨v, q, e⟩, hg⟩ : ∃ r, getU b p = r := ⟨_, rfl⟩
  cases e with
  | zero =>
    by_cases h : 1099511627776 < v
    · exact .inr ⟨by rw [get8, hg]; exact if_pos h, fun v' q' h' => by rw [hg] at h'; cases h'; exact h⟩
    · exact .inl ⟨v, q, hg, by omega, by rw [get8, hg]; exact if_neg h⟩
  | succ e => exact .inr ⟨by rw [get8, hg]; rfl, fun v' q' h' => by rw [hg] at h'; cases h'⟩
theorem rdE_some {b key : List UInt8} {p p' : Nat} {x : En} (h : rdE b p key = some (x, p')) : ∃ s p1 r p2 q p3 kd z p5, getU b p = (s, p1, 0) ∧ getU b p1 = (r, p2, 0) ∧ getU b p2 = (q, p3, 0) ∧ b[p3.toNat]? = some kd ∧ getU b (p3 + 1) = (z, p5, 0) ∧ s ≤ key.length ∧ r ≤ b.length - p5.toNat ∧ z ≤ b.length - (p5.toNat + r) := by
  unfold rdE at h
  split at h
  case h_2 => cases h
  rename_i s p1 h1
  split at h
  case h_2 => cases h
  rename_i r p2 h2
  split at h
  case h_2 => cases h
  rename_i q p3 h3
  split at h
  case h_1 => cases h
  rename_i kd h4
  split at h
  case h_2 => cases h
  rename_i z p5 h5
  split at h
  · cases h
  · split at h
    · cases h
    · split at h
      · cases h
      · exact ⟨s, p1, r, p2, q, p3, kd, z, p5, h1, h2, h3, h4, h5, by omega, by omega, by omega⟩
theorem rdE_mk {b key : List UInt8} {p s r q z : Nat} {p1 p2 p3 p5 : Int} {kd : UInt8} (h1 : getU b p = (s, p1, 0)) (h2 : getU b p1 = (r, p2, 0)) (h3 : getU b p2 = (q, p3, 0)) (h4 : b[p3.toNat]? = some kd) (h5 : getU b (p3 + 1) = (z, p5, 0)) (i1 : s ≤ key.length) (i2 : r ≤ b.length - p5.toNat) (i3 : z ≤ b.length - (p5.toNat + r)) :
    rdE b p key = some (⟨key.take s ++ (b.drop p5.toNat).take r, q, kd, (b.drop (p5.toNat + r)).take z⟩, p5.toNat + r + z) := by
  simp only [rdE, h1, h2, h3, h4, h5]
  rw [if_neg (by omega), if_neg (by omega), if_neg (by omega)]
theorem rdE_no {b key : List UInt8} {p : Nat} (h : ∀ x p', rdE b p key = some (x, p') → False) : rdE b p key = none := by
  cases hr : rdE b p key with
  | none => rfl
  | some y => exact (h y.1 y.2 hr).elim
end Go.Proofs.Ytojncfdlddepdaa


/-
  Walk over the document's read of blocks.
-/
namespace Go.Proofs.Ytojncfdlddepdaa
open Go.RowKit

section
variable {P : Program} {N : Nat} {Q : Exit → Act → World → Prop} {L : FL} {w : World}
theorem wc_heldR (S : World → Prop) (m : Nat) {id : Nat} {l : List Oper} (hm : P.follows .mixedOrders = true) (h : WM P N l.toArray Q S m l.length (Array.replicate l.length false) L w.drew) : WC P N (.region id l.toArray true) Q L w := fun a ha =>
  wp_region_noPanic (wp_region_any hm (any_of_M (S := S) (m := m) _ _ _ _ (by simpa using h a ha)))
end
theorem get8_ok {b : List UInt8} {p a q : Int} (hl : b.length ≤ 1099511627776) (h : get8 b p = (a, q)) (h0 : ¬ a < 0) : ∃ v : Nat, getU b p = (v, q, 0) ∧ a = (v : Int) ∧ v ≤ 1099511627776 := by
  rcases get8_cases (p := p) hl with ⟨v, q', h1, h2, h3⟩ | ⟨h1, _⟩
  · rw [h3] at h; cases h; exact ⟨v, h1, rfl, h2⟩
  · rw [h1] at h; cases h; exact absurd (by decide : (-1 : Int) < 0) h0
theorem get8_no {b : List UInt8} {p a q : Int} (hl : b.length ≤ 1099511627776) (h : get8 b p = (a, q)) (h0 : a < 0) : ∀ v q, getU b p = (v, q, 0) → 1099511627776 < v := by
  rcases get8_cases (p := p) hl with ⟨v, q', h1, h2, h3⟩ | ⟨_, h2⟩
  · rw [h3] at h; cases h; omega
  · exact h2
theorem get8_rng {b : List UInt8} {p a q : Int} (hp : 0 ≤ p ∧ p ≤ b.length) (hl : b.length ≤ 1099511627776) (h : get8 b p = (a, q)) : (0 ≤ q ∧ q ≤ b.length) ∧ -1 ≤ a ∧ a ≤ 1099511627776 := by
  by_cases h0 : a < 0
  · rcases get8_cases (p := p) hl with ⟨v, q', h1, h2, h3⟩ | ⟨h1, _⟩
    · rw [h3] at h; cases h; omega
    · rw [h1] at h; cases h; exact ⟨hp, by decide, by decide⟩
  · obtain ⟨v, h1, rfl, h2⟩ := get8_ok hl h h0
    have := getU_rng h1
    exact ⟨⟨this.2.1, this.2.2.1⟩, by omega, by omega⟩
/-- The last entry's key. -/
def lastKV (es : List EnA) : Option Addr × Nat × List UInt8 := match es.getLast? with
  | none => (none, 0, [])
  | some a => (a.A, a.c, a.x.key)
theorem lastKV_snoc (es : List EnA) (a : EnA) : lastKV (es ++ [a]) = (a.A, a.c, a.x.key) := by rw [lastKV, List.getLast?_concat]
theorem lastKV_rd {w : World} {T : BS} {es : List EnA} (h : Sat w (es.flatMap enM) T) : RdB w (lastKV es).1 (lastKV es).2.2 ∧ (lastKV es).2.2.length ≤ (lastKV es).2.1 := by
  rcases List.eq_nil_or_concat es with rfl | ⟨es', a, rfl⟩
  · exact ⟨Rd.nil _ _, Nat.le_refl _⟩
  · rw [List.concat_eq_append] at h ⊢
    rw [List.flatMap_append] at h
    obtain ⟨_, _, _, h⟩ := h.append
    rw [lastKV_snoc]
    obtain ⟨_, _, h, _⟩ := h
    exact ⟨h.2.rd, ow_cap h.2⟩
theorem zip_of_es8 {w : World} : ∀ {es : List EnA} {S : BS}, Sat w (es.flatMap enM) S → Sat w (zipCe ((es.map (·.x)).map oE) (es.map eaV)) S
  | [], _, _ => trivial
  | a :: es, S, h => by
    rw [List.flatMap_cons] at h
    obtain ⟨T, hT, h1, h2⟩ := h.append
    exact ⟨T, hT, ⟨_, _, _, _, rfl, h1⟩, zip_of_es8 h2⟩
/-- What read answers. -/
def RetRd (w : World) (o : Option (List (En × Nat))) (v : Value) (w' : World) : Prop := match o with
  | none => v = .tuple #[.slice none 0 0, .slice none 0 0, .bool false] ∧ Below w.heap.size w w'
  | some r => ∃ (R : Option Addr) (rc : Nat) (Q : Option Addr) (qc : Nat), v = .tuple #[.slice R r.length rc, .slice Q r.length qc, .bool true] ∧ St NoB w w' [.ow 3 Q r.length qc (natV (r.map (·.2))), .ck (rsC 4 38 R rc ((r.map (·.1)).map oE))]
set_option maxRecDepth 8000 in
set_option maxHeartbeats 2000000 in
theorem refRead_any {A : Option Addr} {n c : Nat} {xs : List UInt8} {w : World} (hr : RdB w A xs) (hn : xs.length = n) (hc : xs.length ≤ c) (hl : xs.length ≤ 1048576) :
    CallsV Try.prog 36 #[.slice A n c] w (RetRd w (rdL xs xs.length 0 [])) := by
  subst hn
  have hs := ((((St.init w).pk (H1 := [])).nilG 4 38).nilO 3)
  refine calls_in (N := _) Try.func36 rfl Try.ntmps36 rfl ?_; show WC _ _ _ _ _ _
  refine wc_sr ?_; refine wl_as rfl rfl ?_; refine wl_as rfl rfl ?_; refine wl_as rfl rfl ?_; refine wl_ns ?_; refine wc_sr ?_; refine wl_as rfl rfl ?_; refine wl_ns ?_; refine wc_sr ?_; refine wl_as rfl rfl ?_; refine wl_ns ?_; refine wc_sr ?_; refine wl_as rfl rfl ?_; refine wl_ns ?_; refine wc_sr ?_; refine wl_as rfl rfl ?_; refine wl_ns ?_; refine wc_seq ?_; refine wc_block ?_
  refine wc_loop (fun L wr mm => ∃ (done : List (En × Nat)) (es : List EnA) (p : Nat) (f : Nat) (R : Option Addr) (rc : Nat) (Q : Option Addr) (qc : Nat), L = [(0, .slice A xs.length c), (5, .slice R done.length rc), (6, .slice Q done.length qc), (7, .slice (lastKV es).1 (lastKV es).2.2.length (lastKV es).2.1), (8, .int .i64 (p : Int))] ∧ DecI xs done p (lastKV es).2.2 f ∧ es.map (·.x) = done.map (·.1) ∧ St NoB w wr [.ow 3 Q done.length qc (natV (done.map (·.2))), .rg 4 38 R rc ((es.map eaV).map rawEl), .ck (packC (es.flatMap enM))] ∧ mm = xs.length - p)
    [(0, .slice A xs.length c), (5, .slice none 0 0), (6, .slice none 0 0), (7, .slice none 0 0), (8, .int .i64 0)] xs.length ⟨[], [], 0, xs.length, none, 0, none, 0, rfl, DecI.start xs, rfl, hs, rfl⟩ ⟨rfl, rfl, rfl, rfl, rfl, trivial⟩ ?_
  clear hs
  rintro _ w2 mm ⟨done, es, p, f, R, rc, Q, qc, rfl, hI, hes, hs, rfl⟩
  have hle := hI.le
  have hlen := hI.len
  have hkl := hI.key
  have hel : es.length = done.length := by have := congrArg List.length hes; simpa using this
  refine wc_seq ?_; refine wc_sr ?_; refine wl_mv rfl rfl ?_; refine wl_mv rfl rfl ?_; apply wl_val; apply opv_len; exact rfl; exact tyB.sl; exact rfl; refine wl_bin rfl rfl bin_lss rfl ?_; refine wl_ns ?_
  refine wc_cond rfl (fun h1 => ?_) (fun h1 => ?_)
  · have hlt : p < xs.length := by omega
    refine wc_skip ?_; refine we_seq ?_; refine wc_block ?_; refine wc_sr ?_; refine wl_mv rfl rfl ?_; refine wl_mv rfl rfl ?_
    refine ws_push (vs := [.int .i64 (p : Int)]) hs 0 rfl rfl tyI ⟨rfl, rfl, rfl, trivial⟩ rfl (by decide) rfl (by omega) (by simp only [maxLen]; omega) rfl rfl ?_
    clear hs; intro _ Q2 qc2 w3 hs; dsimp only [setC] at hs
    obtain ⟨⟨a1, q1⟩, g1⟩ : ∃ r, get8 xs (p : Int) = r := ⟨_, rfl⟩
    obtain ⟨⟨a2, q2⟩, g2⟩ : ∃ r, get8 xs q1 = r := ⟨_, rfl⟩
    obtain ⟨⟨v3, q3, e3⟩, g3⟩ : ∃ r, getU xs q2 = r := ⟨_, rfl⟩
    obtain ⟨⟨a5, q5⟩, g5⟩ : ∃ r, get8 xs (q3 + 1) = r := ⟨_, rfl⟩
    have r1 := get8_rng (by omega) (by omega) g1
    have r2 := get8_rng r1.1 (by omega) g2
    have r3 := getU_rng g3
    refine wl_as rfl rfl ?_; refine wl_ns ?_; refine wc_sr ?_; refine wl_mv rfl rfl ?_; refine wl_mv rfl rfl ?_
    refine wl_call ok_caissonref08_get (get8_any (p := (p : Int)) (hr.below hs.bel) rfl (by simp only [maxLen]; omega) (by omega)) ⟨rfl, rfl, trivial⟩ rfl ?_
    rw [g1]
    rintro _ w4 ⟨rfl, hbx⟩
    replace hs := hs.below hbx
    clear hbx
    dsimp only
    refine wl_mv rfl rfl ?_; apply wl_val; apply opv_extract; exact rfl; exact rfl; exact rfl; apply wl_val; apply opv_extract; exact rfl; exact rfl; exact rfl; refine wl_as rfl rfl ?_; refine wl_as rfl rfl ?_; refine wl_ns ?_; refine wc_sr ?_; refine wl_mv rfl rfl ?_; refine wl_mv rfl rfl ?_
    refine wl_call ok_caissonref08_get (get8_any (p := q1) (hr.below hs.bel) rfl (by simp only [maxLen]; omega) (by omega)) ⟨rfl, rfl, trivial⟩ rfl ?_
    rw [g2]
    rintro _ w5 ⟨rfl, hbx⟩
    replace hs := hs.below hbx
    clear hbx
    dsimp only
    refine wl_mv rfl rfl ?_; apply wl_val; apply opv_extract; exact rfl; exact rfl; exact rfl; apply wl_val; apply opv_extract; exact rfl; exact rfl; exact rfl; refine wl_as rfl rfl ?_; refine wl_as rfl rfl ?_; refine wl_ns ?_; refine wc_sr ?_; refine wl_mv rfl rfl ?_; refine wl_mv rfl rfl ?_
    refine wl_call ok_caissonref01_GetU (refGetU_at g3 (hr.below hs.bel) rfl (by simp only [maxLen]; omega) (by omega)) ⟨rfl, rfl, trivial⟩ rfl ?_
    rintro _ w6 ⟨rfl, hbx⟩
    replace hs := hs.below hbx
    clear hbx
    have hno : ∀ {v : Value}, v = .tuple #[.slice none 0 0, .slice none 0 0, .bool false] → (∀ x' p', rdE xs p (lastKV es).2.2 = some (x', p') → False) → RetRd w (rdL xs xs.length 0 []) v w6 := fun {v} hv h => by
      rw [hI.bad hlt (rdE_no h)]; exact ⟨hv, hs.bel⟩
    by_cases k1 : a1 < 0
    · refine wl_mv rfl rfl ?_; apply wl_val; apply opv_extract; exact rfl; exact rfl; exact rfl; apply wl_val; apply opv_extract; exact rfl; exact rfl; exact rfl; apply wl_val; apply opv_extract; exact rfl; exact rfl; exact rfl; refine wl_as rfl rfl ?_; refine wl_as rfl rfl ?_; refine wl_as rfl rfl ?_; refine wl_ns ?_; refine wc_seq ?_; refine wc_sr ?_; refine wl_mv rfl rfl ?_; refine wl_bin rfl rfl bin_lss rfl ?_; refine wl_mv rfl rfl ?_; apply wl_skip; exact rfl; exact rfl; exact rfl; refine bTn ?_; (with_reducible assumption); exact rfl; apply wl_skip; exact rfl; exact rfl; exact rfl; refine bTn ?_; (with_reducible assumption); exact rfl; apply wl_val; apply opv_pickT; exact rfl; refine bT ?_; (with_reducible assumption); exact rfl; exact rfl; refine wl_mv rfl rfl ?_; apply wl_skip; exact rfl; exact rfl; exact rfl; exact bR1; exact rfl; apply wl_skip; exact rfl; exact rfl; exact rfl; exact bR1; exact rfl; apply wl_val; apply opv_pickT; exact rfl; exact rfl; exact rfl; exact rfl; refine wl_mv rfl rfl ?_; apply wl_skip; exact rfl; exact rfl; exact rfl; exact bR1; exact rfl; apply wl_skip; exact rfl; exact rfl; exact rfl; exact bR1; exact rfl; apply wl_skip; exact rfl; exact rfl; exact rfl; exact bR1; exact rfl; apply wl_skip; exact rfl; exact rfl; exact rfl; exact bR1; exact rfl; apply wl_val; apply opv_pickT; exact rfl; exact rfl; exact rfl; exact rfl; refine wl_mv rfl rfl ?_; apply wl_skip; exact rfl; exact rfl; exact rfl; exact bR1; exact rfl; apply wl_skip; exact rfl; exact rfl; exact rfl; exact bR1; exact rfl; apply wl_skip; exact rfl; exact rfl; exact rfl; exact bR1; exact rfl; apply wl_skip; exact rfl; exact rfl; exact rfl; exact bR1; exact rfl; apply wl_val; apply opv_pickT; exact rfl; exact rfl; exact rfl; exact rfl; refine wl_ns ?_; apply wc_condTb; exact rfl; exact rfl; refine wc_sr ?_; refine wl_as rfl rfl ?_; refine wl_as rfl rfl ?_; refine wl_as rfl rfl ?_; refine wl_ns ?_; refine wc_ret ?_; refine we_seq_ret ?_; refine we_block_ret ?_; refine we_loop_ret ?_; refine we_block_ret ?_; refine we_seq_ret ?_
      refine we_ret3 rfl rfl rfl rfl ⟨_, rfl, hno rfl fun x' p' h => ?_⟩
      obtain ⟨s', p1', _, _, _, _, _, _, _, e1, _, _, _, _, i1, _⟩ := rdE_some h
      have := get8_no (by omega) g1 k1 _ _ e1
      omega
    obtain ⟨v1, u1, rfl, b1⟩ := get8_ok (by omega) g1 k1
    by_cases k2 : a2 < 0
    · refine wl_mv rfl rfl ?_; apply wl_val; apply opv_extract; exact rfl; exact rfl; exact rfl; apply wl_val; apply opv_extract; exact rfl; exact rfl; exact rfl; apply wl_val; apply opv_extract; exact rfl; exact rfl; exact rfl; refine wl_as rfl rfl ?_; refine wl_as rfl rfl ?_; refine wl_as rfl rfl ?_; refine wl_ns ?_; refine wc_seq ?_; refine wc_sr ?_; refine wl_mv rfl rfl ?_; refine wl_bin rfl rfl bin_lss rfl ?_; refine wl_mv rfl rfl ?_; apply wl_take; exact rfl; exact rfl; exact rfl; refine bF ?_; (with_reducible assumption); refine wl_mv rfl rfl ?_; apply wl_take; exact rfl; exact rfl; exact rfl; refine bF ?_; (with_reducible assumption); refine wl_bin rfl rfl bin_lss rfl ?_; apply wl_val; apply opv_pickF; exact rfl; refine bF ?_; (with_reducible assumption); exact rfl; exact rfl; refine wl_mv rfl rfl ?_; apply wl_skip; exact rfl; exact rfl; exact rfl; refine bTn ?_; (with_reducible assumption); exact rfl; apply wl_skip; exact rfl; exact rfl; exact rfl; refine bTn ?_; (with_reducible assumption); exact rfl; apply wl_val; apply opv_pickT; exact rfl; refine bT ?_; (with_reducible assumption); exact rfl; exact rfl; refine wl_mv rfl rfl ?_; apply wl_skip; exact rfl; exact rfl; exact rfl; exact bR1; exact rfl; apply wl_skip; exact rfl; exact rfl; exact rfl; exact bR1; exact rfl; apply wl_skip; exact rfl; exact rfl; exact rfl; exact bR1; exact rfl; apply wl_skip; exact rfl; exact rfl; exact rfl; exact bR1; exact rfl; apply wl_val; apply opv_pickT; exact rfl; exact rfl; exact rfl; exact rfl; refine wl_mv rfl rfl ?_; apply wl_skip; exact rfl; exact rfl; exact rfl; exact bR1; exact rfl; apply wl_skip; exact rfl; exact rfl; exact rfl; exact bR1; exact rfl; apply wl_skip; exact rfl; exact rfl; exact rfl; exact bR1; exact rfl; apply wl_skip; exact rfl; exact rfl; exact rfl; exact bR1; exact rfl; apply wl_val; apply opv_pickT; exact rfl; exact rfl; exact rfl; exact rfl; refine wl_ns ?_; apply wc_condTb; exact rfl; exact rfl; refine wc_sr ?_; refine wl_as rfl rfl ?_; refine wl_as rfl rfl ?_; refine wl_as rfl rfl ?_; refine wl_ns ?_; refine wc_ret ?_; refine we_seq_ret ?_; refine we_block_ret ?_; refine we_loop_ret ?_; refine we_block_ret ?_; refine we_seq_ret ?_
      refine we_ret3 rfl rfl rfl rfl ⟨_, rfl, hno rfl fun x' p' h => ?_⟩
      obtain ⟨s', p1', r', p2', _, _, _, _, _, e1, e2, _, _, _, _, i2, _⟩ := rdE_some h
      rw [u1] at e1
      cases e1
      have := get8_no (by omega) g2 k2 _ _ e2
      omega
    obtain ⟨v2, u2, rfl, b2⟩ := get8_ok (by omega) g2 k2
    by_cases k3 : e3 = 0
    case neg =>
      have k3' : ¬ (e3 : Int) = 0 := by omega
      refine wl_mv rfl rfl ?_; apply wl_val; apply opv_extract; exact rfl; exact rfl; exact rfl; apply wl_val; apply opv_extract; exact rfl; exact rfl; exact rfl; apply wl_val; apply opv_extract; exact rfl; exact rfl; exact rfl; refine wl_as rfl rfl ?_; refine wl_as rfl rfl ?_; refine wl_as rfl rfl ?_; refine wl_ns ?_; refine wc_seq ?_; refine wc_sr ?_; refine wl_mv rfl rfl ?_; refine wl_bin rfl rfl bin_lss rfl ?_; refine wl_mv rfl rfl ?_; apply wl_take; exact rfl; exact rfl; exact rfl; refine bF ?_; (with_reducible assumption); refine wl_mv rfl rfl ?_; apply wl_take; exact rfl; exact rfl; exact rfl; refine bF ?_; (with_reducible assumption); refine wl_bin rfl rfl bin_lss rfl ?_; apply wl_val; apply opv_pickF; exact rfl; refine bF ?_; (with_reducible assumption); exact rfl; exact rfl; refine wl_mv rfl rfl ?_; apply wl_take; exact rfl; exact rfl; exact rfl; refine bF ?_; (with_reducible assumption); refine wl_mv rfl rfl ?_; apply wl_take; exact rfl; exact rfl; exact rfl; refine bF ?_; (with_reducible assumption); refine wl_bin rfl rfl bin_neq rfl ?_; apply wl_val; apply opv_pickF; exact rfl; refine bF ?_; (with_reducible assumption); exact rfl; exact rfl; refine wl_mv rfl rfl ?_; apply wl_skip; exact rfl; exact rfl; exact rfl; refine bTn ?_; (with_reducible assumption); exact rfl; apply wl_skip; exact rfl; exact rfl; exact rfl; refine bTn ?_; (with_reducible assumption); exact rfl; apply wl_skip; exact rfl; exact rfl; exact rfl; refine bTn ?_; (with_reducible assumption); exact rfl; apply wl_skip; exact rfl; exact rfl; exact rfl; refine bTn ?_; (with_reducible assumption); exact rfl; apply wl_val; apply opv_pickT; exact rfl; refine bT ?_; (with_reducible assumption); exact rfl; exact rfl; refine wl_mv rfl rfl ?_; apply wl_skip; exact rfl; exact rfl; exact rfl; exact bR1; exact rfl; apply wl_skip; exact rfl; exact rfl; exact rfl; exact bR1; exact rfl; apply wl_skip; exact rfl; exact rfl; exact rfl; exact bR1; exact rfl; apply wl_skip; exact rfl; exact rfl; exact rfl; exact bR1; exact rfl; apply wl_val; apply opv_pickT; exact rfl; exact rfl; exact rfl; exact rfl; refine wl_ns ?_; apply wc_condTb; exact rfl; exact rfl; refine wc_sr ?_; refine wl_as rfl rfl ?_; refine wl_as rfl rfl ?_; refine wl_as rfl rfl ?_; refine wl_ns ?_; refine wc_ret ?_; refine we_seq_ret ?_; refine we_block_ret ?_; refine we_loop_ret ?_; refine we_block_ret ?_; refine we_seq_ret ?_
      refine we_ret3 rfl rfl rfl rfl ⟨_, rfl, hno rfl fun x' p' h => ?_⟩
      obtain ⟨s', p1', r', p2', _, _, _, _, _, e1, e2, e3', _⟩ := rdE_some h
      rw [u1] at e1; cases e1
      rw [u2] at e2; cases e2
      rw [g3] at e3'; cases e3'
      exact k3 rfl
    subst k3
    have h00 : ((0 : Nat) : Int) = 0 := rfl
    by_cases k4 : (xs.length : Int) ≤ q3
    · refine wl_mv rfl rfl ?_; apply wl_val; apply opv_extract; exact rfl; exact rfl; exact rfl; apply wl_val; apply opv_extract; exact rfl; exact rfl; exact rfl; apply wl_val; apply opv_extract; exact rfl; exact rfl; exact rfl; refine wl_as rfl rfl ?_; refine wl_as rfl rfl ?_; refine wl_as rfl rfl ?_; refine wl_ns ?_; refine wc_seq ?_; refine wc_sr ?_; refine wl_mv rfl rfl ?_; refine wl_bin rfl rfl bin_lss rfl ?_; refine wl_mv rfl rfl ?_; apply wl_take; exact rfl; exact rfl; exact rfl; refine bF ?_; (with_reducible assumption); refine wl_mv rfl rfl ?_; apply wl_take; exact rfl; exact rfl; exact rfl; refine bF ?_; (with_reducible assumption); refine wl_bin rfl rfl bin_lss rfl ?_; apply wl_val; apply opv_pickF; exact rfl; refine bF ?_; (with_reducible assumption); exact rfl; exact rfl; refine wl_mv rfl rfl ?_; apply wl_take; exact rfl; exact rfl; exact rfl; refine bF ?_; (with_reducible assumption); refine wl_mv rfl rfl ?_; apply wl_take; exact rfl; exact rfl; exact rfl; refine bF ?_; (with_reducible assumption); refine wl_bin rfl rfl bin_neq rfl ?_; apply wl_val; apply opv_pickF; exact rfl; refine bF ?_; (with_reducible assumption); exact rfl; exact rfl; refine wl_mv rfl rfl ?_; apply wl_take; exact rfl; exact rfl; exact rfl; refine bF ?_; omega; refine wl_mv rfl rfl ?_; apply wl_take; exact rfl; exact rfl; exact rfl; refine bF ?_; omega; refine wl_mv rfl rfl ?_; apply wl_take; exact rfl; exact rfl; exact rfl; refine bF ?_; omega; apply wl_val; apply opv_len; exact rfl; exact tyB.sl; exact rfl; apply wl_take; exact rfl; exact rfl; exact rfl; refine bF ?_; omega; refine wl_bin rfl rfl bin_geq rfl ?_; apply wl_val; apply opv_pickF; exact rfl; refine bF ?_; omega; exact rfl; exact rfl; refine wl_mv rfl rfl ?_; apply wl_skip; exact rfl; exact rfl; exact rfl; refine bTn ?_; (with_reducible assumption); exact rfl; apply wl_skip; exact rfl; exact rfl; exact rfl; refine bTn ?_; (with_reducible assumption); exact rfl; apply wl_skip; exact rfl; exact rfl; exact rfl; refine bTn ?_; (with_reducible assumption); exact rfl; apply wl_skip; exact rfl; exact rfl; exact rfl; refine bTn ?_; (with_reducible assumption); exact rfl; apply wl_val; apply opv_pickT; exact rfl; refine bT ?_; (with_reducible assumption); exact rfl; exact rfl; refine wl_ns ?_; apply wc_condTb; exact rfl; exact rfl; refine wc_sr ?_; refine wl_as rfl rfl ?_; refine wl_as rfl rfl ?_; refine wl_as rfl rfl ?_; refine wl_ns ?_; refine wc_ret ?_; refine we_seq_ret ?_; refine we_block_ret ?_; refine we_loop_ret ?_; refine we_block_ret ?_; refine we_seq_ret ?_
      refine we_ret3 rfl rfl rfl rfl ⟨_, rfl, hno rfl fun x' p' h => ?_⟩
      obtain ⟨s', p1', r', p2', _, _, _, _, _, e1, e2, e3', e4, _⟩ := rdE_some h
      rw [u1] at e1; cases e1
      rw [u2] at e2; cases e2
      rw [g3] at e3'; cases e3'
      have := (List.getElem?_eq_some_iff.1 e4).1
      omega
    have k4' : ¬ q3 ≥ (xs.length : Int) := k4
    by_cases k5 : (lastKV es).2.2.length < v1
    · have k5' : (v1 : Int) > ((lastKV es).2.2.length : Int) := by omega
      refine wl_mv rfl rfl ?_; apply wl_val; apply opv_extract; exact rfl; exact rfl; exact rfl; apply wl_val; apply opv_extract; exact rfl; exact rfl; exact rfl; apply wl_val; apply opv_extract; exact rfl; exact rfl; exact rfl; refine wl_as rfl rfl ?_; refine wl_as rfl rfl ?_; refine wl_as rfl rfl ?_; refine wl_ns ?_; refine wc_seq ?_; refine wc_sr ?_; refine wl_mv rfl rfl ?_; refine wl_bin rfl rfl bin_lss rfl ?_; refine wl_mv rfl rfl ?_; apply wl_take; exact rfl; exact rfl; exact rfl; refine bF ?_; (with_reducible assumption); refine wl_mv rfl rfl ?_; apply wl_take; exact rfl; exact rfl; exact rfl; refine bF ?_; (with_reducible assumption); refine wl_bin rfl rfl bin_lss rfl ?_; apply wl_val; apply opv_pickF; exact rfl; refine bF ?_; (with_reducible assumption); exact rfl; exact rfl; refine wl_mv rfl rfl ?_; apply wl_take; exact rfl; exact rfl; exact rfl; refine bF ?_; (with_reducible assumption); refine wl_mv rfl rfl ?_; apply wl_take; exact rfl; exact rfl; exact rfl; refine bF ?_; (with_reducible assumption); refine wl_bin rfl rfl bin_neq rfl ?_; apply wl_val; apply opv_pickF; exact rfl; refine bF ?_; (with_reducible assumption); exact rfl; exact rfl; refine wl_mv rfl rfl ?_; apply wl_take; exact rfl; exact rfl; exact rfl; refine bF ?_; omega; refine wl_mv rfl rfl ?_; apply wl_take; exact rfl; exact rfl; exact rfl; refine bF ?_; omega; refine wl_mv rfl rfl ?_; apply wl_take; exact rfl; exact rfl; exact rfl; refine bF ?_; omega; apply wl_val; apply opv_len; exact rfl; exact tyB.sl; exact rfl; apply wl_take; exact rfl; exact rfl; exact rfl; refine bF ?_; omega; refine wl_bin rfl rfl bin_geq rfl ?_; apply wl_val; apply opv_pickF; exact rfl; refine bF ?_; omega; exact rfl; exact rfl; refine wl_mv rfl rfl ?_; apply wl_take; exact rfl; exact rfl; exact rfl; refine bF ?_; (with_reducible assumption); refine wl_mv rfl rfl ?_; apply wl_take; exact rfl; exact rfl; exact rfl; refine bF ?_; (with_reducible assumption); refine wl_mv rfl rfl ?_; apply wl_take; exact rfl; exact rfl; exact rfl; refine bF ?_; (with_reducible assumption); apply wl_val; apply opv_len; exact rfl; exact tyB.sl; exact rfl; apply wl_take; exact rfl; exact rfl; exact rfl; refine bF ?_; (with_reducible assumption); refine wl_bin rfl rfl bin_gtr rfl ?_; apply wl_val; apply opv_pickF; exact rfl; refine bF ?_; (with_reducible assumption); exact rfl; exact rfl; refine wl_ns ?_; apply wc_decT; exact rfl; (with_reducible assumption); refine wc_sr ?_; refine wl_as rfl rfl ?_; refine wl_as rfl rfl ?_; refine wl_as rfl rfl ?_; refine wl_ns ?_; refine wc_ret ?_; refine we_seq_ret ?_; refine we_block_ret ?_; refine we_loop_ret ?_; refine we_block_ret ?_; refine we_seq_ret ?_
      refine we_ret3 rfl rfl rfl rfl ⟨_, rfl, hno rfl fun x' p' h => ?_⟩
      obtain ⟨s', p1', r', p2', _, _, _, _, _, e1, e2, e3', e4, _, i1, _⟩ := rdE_some h
      rw [u1] at e1; cases e1
      omega
    have k5' : ¬ (v1 : Int) > ((lastKV es).2.2.length : Int) := by omega
    have r5 := get8_rng (by omega) (by omega) g5
    have hq3 : 0 ≤ q3 := r3.2.1
    refine wl_mv rfl rfl ?_; apply wl_val; apply opv_extract; exact rfl; exact rfl; exact rfl; apply wl_val; apply opv_extract; exact rfl; exact rfl; exact rfl; apply wl_val; apply opv_extract; exact rfl; exact rfl; exact rfl; refine wl_as rfl rfl ?_; refine wl_as rfl rfl ?_; refine wl_as rfl rfl ?_; refine wl_ns ?_; refine wc_seq ?_; refine wc_sr ?_; refine wl_mv rfl rfl ?_; refine wl_bin rfl rfl bin_lss rfl ?_; refine wl_mv rfl rfl ?_; apply wl_take; exact rfl; exact rfl; exact rfl; refine bF ?_; (with_reducible assumption); refine wl_mv rfl rfl ?_; apply wl_take; exact rfl; exact rfl; exact rfl; refine bF ?_; (with_reducible assumption); refine wl_bin rfl rfl bin_lss rfl ?_; apply wl_val; apply opv_pickF; exact rfl; refine bF ?_; (with_reducible assumption); exact rfl; exact rfl; refine wl_mv rfl rfl ?_; apply wl_take; exact rfl; exact rfl; exact rfl; refine bF ?_; (with_reducible assumption); refine wl_mv rfl rfl ?_; apply wl_take; exact rfl; exact rfl; exact rfl; refine bF ?_; (with_reducible assumption); refine wl_bin rfl rfl bin_neq rfl ?_; apply wl_val; apply opv_pickF; exact rfl; refine bF ?_; (with_reducible assumption); exact rfl; exact rfl; refine wl_mv rfl rfl ?_; apply wl_take; exact rfl; exact rfl; exact rfl; refine bF ?_; omega; refine wl_mv rfl rfl ?_; apply wl_take; exact rfl; exact rfl; exact rfl; refine bF ?_; omega; refine wl_mv rfl rfl ?_; apply wl_take; exact rfl; exact rfl; exact rfl; refine bF ?_; omega; apply wl_val; apply opv_len; exact rfl; exact tyB.sl; exact rfl; apply wl_take; exact rfl; exact rfl; exact rfl; refine bF ?_; omega; refine wl_bin rfl rfl bin_geq rfl ?_; apply wl_val; apply opv_pickF; exact rfl; refine bF ?_; omega; exact rfl; exact rfl; refine wl_mv rfl rfl ?_; apply wl_take; exact rfl; exact rfl; exact rfl; refine bF ?_; (with_reducible assumption); refine wl_mv rfl rfl ?_; apply wl_take; exact rfl; exact rfl; exact rfl; refine bF ?_; (with_reducible assumption); refine wl_mv rfl rfl ?_; apply wl_take; exact rfl; exact rfl; exact rfl; refine bF ?_; (with_reducible assumption); apply wl_val; apply opv_len; exact rfl; exact tyB.sl; exact rfl; apply wl_take; exact rfl; exact rfl; exact rfl; refine bF ?_; (with_reducible assumption); refine wl_bin rfl rfl bin_gtr rfl ?_; apply wl_val; apply opv_pickF; exact rfl; refine bF ?_; (with_reducible assumption); exact rfl; exact rfl; refine wl_ns ?_; apply wc_decF; exact rfl; (with_reducible assumption); refine wc_skip ?_; refine we_seq ?_; refine wc_sr ?_; refine wl_mv rfl rfl ?_; refine wl_mv rfl rfl ?_; apply wl_val; apply opv_bin; exact rfl; exact rfl; exact bin_add64 (by omega); exact rfl
    refine wl_call ok_caissonref08_get (get8_any (p := q3 + 1) (hr.below hs.bel) rfl (by simp only [maxLen]; omega) (by omega)) ⟨rfl, rfl, trivial⟩ rfl ?_
    rw [g5]
    clear hno
    rintro _ w7 ⟨rfl, hbx⟩
    replace hs := hs.below hbx
    clear hbx
    dsimp only
    have hno : ∀ {v : Value}, v = .tuple #[.slice none 0 0, .slice none 0 0, .bool false] → (∀ x' p', rdE xs p (lastKV es).2.2 = some (x', p') → False) → RetRd w (rdL xs xs.length 0 []) v w7 := fun {v} hv h => by
      rw [hI.bad hlt (rdE_no h)]; exact ⟨hv, hs.bel⟩
    by_cases k6 : a5 < 0
    · refine wl_mv rfl rfl ?_; apply wl_val; apply opv_extract; exact rfl; exact rfl; exact rfl; apply wl_val; apply opv_extract; exact rfl; exact rfl; exact rfl; refine wl_as rfl rfl ?_; refine wl_as rfl rfl ?_; refine wl_ns ?_; refine wc_seq ?_; refine wc_sr ?_; refine wl_mv rfl rfl ?_; refine wl_bin rfl rfl bin_lss rfl ?_; refine wl_mv rfl rfl ?_; apply wl_skip; exact rfl; exact rfl; exact rfl; refine bTn ?_; (with_reducible assumption); exact rfl; apply wl_skip; exact rfl; exact rfl; exact rfl; refine bTn ?_; (with_reducible assumption); exact rfl; apply wl_skip; exact rfl; exact rfl; exact rfl; refine bTn ?_; (with_reducible assumption); exact rfl; apply wl_skip; exact rfl; exact rfl; exact rfl; refine bTn ?_; (with_reducible assumption); exact rfl; apply wl_skip; exact rfl; exact rfl; exact rfl; refine bTn ?_; (with_reducible assumption); exact rfl; apply wl_skip; exact rfl; exact rfl; exact rfl; refine bTn ?_; (with_reducible assumption); exact rfl; apply wl_val; apply opv_pickT; exact rfl; refine bT ?_; (with_reducible assumption); exact rfl; exact rfl; refine wl_mv rfl rfl ?_; apply wl_skip; exact rfl; exact rfl; exact rfl; exact bR1; exact rfl; apply wl_skip; exact rfl; exact rfl; exact rfl; exact bR1; exact rfl; apply wl_skip; exact rfl; exact rfl; exact rfl; exact bR1; exact rfl; apply wl_skip; exact rfl; exact rfl; exact rfl; exact bR1; exact rfl; apply wl_skip; exact rfl; exact rfl; exact rfl; exact bR1; exact rfl; apply wl_skip; exact rfl; exact rfl; exact rfl; exact bR1; exact rfl; apply wl_skip; exact rfl; exact rfl; exact rfl; exact bR1; exact rfl; apply wl_skip; exact rfl; exact rfl; exact rfl; exact bR1; exact rfl; apply wl_val; apply opv_pickT; exact rfl; exact rfl; exact rfl; exact rfl; refine wl_ns ?_; apply wc_condTb; exact rfl; exact rfl; refine wc_sr ?_; refine wl_as rfl rfl ?_; refine wl_as rfl rfl ?_; refine wl_as rfl rfl ?_; refine wl_ns ?_; refine wc_ret ?_; refine we_seq_ret ?_; refine we_block_ret ?_; refine we_loop_ret ?_; refine we_block_ret ?_; refine we_seq_ret ?_
      refine we_ret3 rfl rfl rfl rfl ⟨_, rfl, hno rfl fun x' p' h => ?_⟩
      obtain ⟨s', p1', r', p2', _, _, _, _, _, e1, e2, e3', e4, e5, _, _, i3⟩ := rdE_some h
      rw [u1] at e1; cases e1
      rw [u2] at e2; cases e2
      rw [g3] at e3'; cases e3'
      have := get8_no (by omega) g5 k6 _ _ e5
      omega
    obtain ⟨v5, u5, rfl, b5⟩ := get8_ok (by omega) g5 k6
    obtain ⟨q5, rfl⟩ := Int.eq_ofNat_of_zero_le r5.1.1
    have hq5 : q5 ≤ xs.length := by omega
    by_cases k7 : xs.length - q5 < v2
    · have k7' : (v2 : Int) > (xs.length : Int) - (q5 : Int) := by omega
      refine wl_mv rfl rfl ?_; apply wl_val; apply opv_extract; exact rfl; exact rfl; exact rfl; apply wl_val; apply opv_extract; exact rfl; exact rfl; exact rfl; refine wl_as rfl rfl ?_; refine wl_as rfl rfl ?_; refine wl_ns ?_; refine wc_seq ?_; refine wc_sr ?_; refine wl_mv rfl rfl ?_; refine wl_bin rfl rfl bin_lss rfl ?_; refine wl_mv rfl rfl ?_; apply wl_take; exact rfl; exact rfl; exact rfl; refine bF ?_; (with_reducible assumption); refine wl_mv rfl rfl ?_; apply wl_take; exact rfl; exact rfl; exact rfl; refine bF ?_; (with_reducible assumption); refine wl_mv rfl rfl ?_; apply wl_take; exact rfl; exact rfl; exact rfl; refine bF ?_; (with_reducible assumption); apply wl_val; apply opv_len; exact rfl; exact tyB.sl; exact rfl; apply wl_take; exact rfl; exact rfl; exact rfl; refine bF ?_; (with_reducible assumption); refine wl_mv rfl rfl ?_; apply wl_take; exact rfl; exact rfl; exact rfl; refine bF ?_; (with_reducible assumption); apply wl_val; apply opv_bin; exact rfl; exact rfl; exact bin_sub64 (by omega); exact rfl; apply wl_take; exact rfl; exact rfl; exact rfl; refine bF ?_; (with_reducible assumption); refine wl_bin rfl rfl bin_gtr rfl ?_; apply wl_val; apply opv_pickF; exact rfl; refine bF ?_; (with_reducible assumption); exact rfl; exact rfl; refine wl_mv rfl rfl ?_; apply wl_skip; exact rfl; exact rfl; exact rfl; refine bTn ?_; (with_reducible assumption); exact rfl; apply wl_skip; exact rfl; exact rfl; exact rfl; refine bTn ?_; (with_reducible assumption); exact rfl; apply wl_skip; exact rfl; exact rfl; exact rfl; refine bTn ?_; (with_reducible assumption); exact rfl; apply wl_skip; exact rfl; exact rfl; exact rfl; refine bTn ?_; (with_reducible assumption); exact rfl; apply wl_skip; exact rfl; exact rfl; exact rfl; refine bTn ?_; (with_reducible assumption); exact rfl; apply wl_skip; exact rfl; exact rfl; exact rfl; refine bTn ?_; (with_reducible assumption); exact rfl; apply wl_skip; exact rfl; exact rfl; exact rfl; refine bTn ?_; (with_reducible assumption); exact rfl; apply wl_skip; exact rfl; exact rfl; exact rfl; refine bTn ?_; (with_reducible assumption); exact rfl; apply wl_val; apply opv_pickT; exact rfl; refine bT ?_; (with_reducible assumption); exact rfl; exact rfl; refine wl_ns ?_; apply wc_condTb; exact rfl; exact rfl; refine wc_sr ?_; refine wl_as rfl rfl ?_; refine wl_as rfl rfl ?_; refine wl_as rfl rfl ?_; refine wl_ns ?_; refine wc_ret ?_; refine we_seq_ret ?_; refine we_block_ret ?_; refine we_loop_ret ?_; refine we_block_ret ?_; refine we_seq_ret ?_
      refine we_ret3 rfl rfl rfl rfl ⟨_, rfl, hno rfl fun x' p' h => ?_⟩
      obtain ⟨s', p1', r', p2', _, _, _, _, _, e1, e2, e3', e4, e5, _, i2, i3⟩ := rdE_some h
      rw [u1] at e1; cases e1
      rw [u2] at e2; cases e2
      rw [g3] at e3'; cases e3'
      rw [u5] at e5; cases e5
      simp only [Int.toNat_natCast] at i2
      omega
    have k7' : ¬ (v2 : Int) > (xs.length : Int) - (q5 : Int) := by omega
    by_cases k8 : xs.length - q5 - v2 < v5
    · have k8' : (v5 : Int) > (xs.length : Int) - (q5 : Int) - (v2 : Int) := by omega
      refine wl_mv rfl rfl ?_; apply wl_val; apply opv_extract; exact rfl; exact rfl; exact rfl; apply wl_val; apply opv_extract; exact rfl; exact rfl; exact rfl; refine wl_as rfl rfl ?_; refine wl_as rfl rfl ?_; refine wl_ns ?_; refine wc_seq ?_; refine wc_sr ?_; refine wl_mv rfl rfl ?_; refine wl_bin rfl rfl bin_lss rfl ?_; refine wl_mv rfl rfl ?_; apply wl_take; exact rfl; exact rfl; exact rfl; refine bF ?_; (with_reducible assumption); refine wl_mv rfl rfl ?_; apply wl_take; exact rfl; exact rfl; exact rfl; refine bF ?_; (with_reducible assumption); refine wl_mv rfl rfl ?_; apply wl_take; exact rfl; exact rfl; exact rfl; refine bF ?_; (with_reducible assumption); apply wl_val; apply opv_len; exact rfl; exact tyB.sl; exact rfl; apply wl_take; exact rfl; exact rfl; exact rfl; refine bF ?_; (with_reducible assumption); refine wl_mv rfl rfl ?_; apply wl_take; exact rfl; exact rfl; exact rfl; refine bF ?_; (with_reducible assumption); apply wl_val; apply opv_bin; exact rfl; exact rfl; exact bin_sub64 (by omega); exact rfl; apply wl_take; exact rfl; exact rfl; exact rfl; refine bF ?_; (with_reducible assumption); refine wl_bin rfl rfl bin_gtr rfl ?_; apply wl_val; apply opv_pickF; exact rfl; refine bF ?_; (with_reducible assumption); exact rfl; exact rfl; refine wl_mv rfl rfl ?_; apply wl_take; exact rfl; exact rfl; exact rfl; refine bF ?_; (with_reducible assumption); refine wl_mv rfl rfl ?_; apply wl_take; exact rfl; exact rfl; exact rfl; refine bF ?_; (with_reducible assumption); refine wl_mv rfl rfl ?_; apply wl_take; exact rfl; exact rfl; exact rfl; refine bF ?_; (with_reducible assumption); apply wl_val; apply opv_len; exact rfl; exact tyB.sl; exact rfl; apply wl_take; exact rfl; exact rfl; exact rfl; refine bF ?_; (with_reducible assumption); refine wl_mv rfl rfl ?_; apply wl_take; exact rfl; exact rfl; exact rfl; refine bF ?_; (with_reducible assumption); apply wl_val; apply opv_bin; exact rfl; exact rfl; exact bin_sub64 (by omega); exact rfl; apply wl_take; exact rfl; exact rfl; exact rfl; refine bF ?_; (with_reducible assumption); refine wl_mv rfl rfl ?_; apply wl_take; exact rfl; exact rfl; exact rfl; refine bF ?_; (with_reducible assumption); apply wl_val; apply opv_bin; exact rfl; exact rfl; exact bin_sub64 (by omega); exact rfl; apply wl_take; exact rfl; exact rfl; exact rfl; refine bF ?_; (with_reducible assumption); refine wl_bin rfl rfl bin_gtr rfl ?_; apply wl_val; apply opv_pickF; exact rfl; refine bF ?_; (with_reducible assumption); exact rfl; exact rfl; refine wl_ns ?_; apply wc_decT; exact rfl; (with_reducible assumption); refine wc_sr ?_; refine wl_as rfl rfl ?_; refine wl_as rfl rfl ?_; refine wl_as rfl rfl ?_; refine wl_ns ?_; refine wc_ret ?_; refine we_seq_ret ?_; refine we_block_ret ?_; refine we_loop_ret ?_; refine we_block_ret ?_; refine we_seq_ret ?_
      refine we_ret3 rfl rfl rfl rfl ⟨_, rfl, hno rfl fun x' p' h => ?_⟩
      obtain ⟨s', p1', r', p2', _, _, _, _, _, e1, e2, e3', e4, e5, _, i2, i3⟩ := rdE_some h
      rw [u1] at e1; cases e1
      rw [u2] at e2; cases e2
      rw [g3] at e3'; cases e3'
      rw [u5] at e5; cases e5
      simp only [Int.toNat_natCast] at i3
      omega
    have k8' : ¬ (v5 : Int) > (xs.length : Int) - (q5 : Int) - (v2 : Int) := by omega
    clear hno
    obtain ⟨q3, rfl⟩ := Int.eq_ofNat_of_zero_le hq3
    obtain ⟨kd, hkd⟩ : ∃ u, xs[q3]? = some u := ⟨_, List.getElem?_eq_getElem (by omega)⟩
    have hmk := rdE_mk (key := (lastKV es).2.2) (kd := kd) u1 u2 g3 (by simpa using hkd) u5 (by omega) (by simp only [Int.toNat_natCast]; omega) (by simp only [Int.toNat_natCast]; omega)
    simp only [Int.toNat_natCast] at hmk
    refine wl_mv rfl rfl ?_; apply wl_val; apply opv_extract; exact rfl; exact rfl; exact rfl; apply wl_val; apply opv_extract; exact rfl; exact rfl; exact rfl; refine wl_as rfl rfl ?_; refine wl_as rfl rfl ?_; refine wl_ns ?_; refine wc_seq ?_; refine wc_sr ?_; refine wl_mv rfl rfl ?_; refine wl_bin rfl rfl bin_lss rfl ?_; refine wl_mv rfl rfl ?_; apply wl_take; exact rfl; exact rfl; exact rfl; refine bF ?_; (with_reducible assumption); refine wl_mv rfl rfl ?_; apply wl_take; exact rfl; exact rfl; exact rfl; refine bF ?_; (with_reducible assumption); refine wl_mv rfl rfl ?_; apply wl_take; exact rfl; exact rfl; exact rfl; refine bF ?_; (with_reducible assumption); apply wl_val; apply opv_len; exact rfl; exact tyB.sl; exact rfl; apply wl_take; exact rfl; exact rfl; exact rfl; refine bF ?_; (with_reducible assumption); refine wl_mv rfl rfl ?_; apply wl_take; exact rfl; exact rfl; exact rfl; refine bF ?_; (with_reducible assumption); apply wl_val; apply opv_bin; exact rfl; exact rfl; exact bin_sub64 (by omega); exact rfl; apply wl_take; exact rfl; exact rfl; exact rfl; refine bF ?_; (with_reducible assumption); refine wl_bin rfl rfl bin_gtr rfl ?_; apply wl_val; apply opv_pickF; exact rfl; refine bF ?_; (with_reducible assumption); exact rfl; exact rfl; refine wl_mv rfl rfl ?_; apply wl_take; exact rfl; exact rfl; exact rfl; refine bF ?_; (with_reducible assumption); refine wl_mv rfl rfl ?_; apply wl_take; exact rfl; exact rfl; exact rfl; refine bF ?_; (with_reducible assumption); refine wl_mv rfl rfl ?_; apply wl_take; exact rfl; exact rfl; exact rfl; refine bF ?_; (with_reducible assumption); apply wl_val; apply opv_len; exact rfl; exact tyB.sl; exact rfl; apply wl_take; exact rfl; exact rfl; exact rfl; refine bF ?_; (with_reducible assumption); refine wl_mv rfl rfl ?_; apply wl_take; exact rfl; exact rfl; exact rfl; refine bF ?_; (with_reducible assumption); apply wl_val; apply opv_bin; exact rfl; exact rfl; exact bin_sub64 (by omega); exact rfl; apply wl_take; exact rfl; exact rfl; exact rfl; refine bF ?_; (with_reducible assumption); refine wl_mv rfl rfl ?_; apply wl_take; exact rfl; exact rfl; exact rfl; refine bF ?_; (with_reducible assumption); apply wl_val; apply opv_bin; exact rfl; exact rfl; exact bin_sub64 (by omega); exact rfl; apply wl_take; exact rfl; exact rfl; exact rfl; refine bF ?_; (with_reducible assumption); refine wl_bin rfl rfl bin_gtr rfl ?_; apply wl_val; apply opv_pickF; exact rfl; refine bF ?_; (with_reducible assumption); exact rfl; exact rfl; refine wl_ns ?_; apply wc_decF; exact rfl; (with_reducible assumption); refine wc_skip ?_; refine we_seq ?_; refine wc_seq ?_
    obtain ⟨T0, hpk, _⟩ := hs.get 2 rfl
    have hlast := lastKV_rd (show Sat w7 (es.flatMap enM) T0 from hpk)
    clear hpk
    have hkt : ((lastKV es).2.2.take v1).length = v1 := by rw [List.length_take]; omega
    have hvt : ((xs.drop q5).take v2).length = v2 := by rw [List.length_take, List.length_drop]; omega
    have hpre : RdB w7 (cutA (lastKV es).1 (lastKV es).2.1 0) ((lastKV es).2.2.take v1) := by
      have := cutB_rd (l := 0) (h := v1) hlast.1 (Nat.zero_le _) (by omega) hlast.2
      rw [List.drop_zero] at this; exact this
    have hmid : ∀ {w' : World}, Below w.heap.size w w' → Rd w' (cutA A c q5) v2 (bvs ((xs.drop q5).take v2)) := fun {w'} hb => by
      have := cutB_rd (l := q5) (h := q5 + v2) (hr.below hb) (Nat.le_add_right _ _) (by omega) hc
      have e : (xs.take (q5 + v2)).drop q5 = (xs.drop q5).take v2 := by rw [List.drop_take, Nat.add_sub_cancel_left]
      rw [e] at this
      unfold RdB at this; rw [hvt] at this; exact this
    refine wc_heldM 10 mixed fun w_ hS => ?_
    apply wm_takeP 0; exact rfl; intro _; apply opv_move; exact rfl; exact rfl; kernel_rfl; exact fun _ => hS; apply wm_takeP 1; exact rfl; intro _; apply opv_move; exact rfl; exact rfl; kernel_rfl; exact fun _ => hS
    refine wm_takeP 2 rfl (fun _ => opv_slice (l := 0) (h := v1) tyB rfl rfl ⟨_, rfl⟩ (Nat.zero_le _) (by omega)) rfl (by kernel_rfl) (fun _ => hS) ?_
    apply wm_takeP 4; exact rfl; intro _; apply opv_move; exact rfl; exact rfl; kernel_rfl; exact fun _ => hS; apply wm_takeP 5; exact rfl; intro _; apply opv_move; exact rfl; exact rfl; kernel_rfl; exact fun _ => hS; apply wm_takeP 6; exact rfl; intro _; apply opv_move; exact rfl; exact rfl; kernel_rfl; exact fun _ => hS; apply wm_takeP 7; exact rfl; intro _; apply opv_move; exact rfl; exact rfl; kernel_rfl; exact fun _ => hS; apply wm_takeP 8; exact rfl; intro _; apply opv_bin; exact rfl; exact rfl; exact bin_add64 (by omega); exact rfl; kernel_rfl; exact fun _ => hS
    refine wm_takeP 9 rfl (fun _ => opv_slice (l := q5) (h := q5 + v2) tyB rfl ⟨_, rfl⟩ ⟨_, congrArg (fun z : Int => some (Value.int .i64 z)) (show (q5 : Int) + (v2 : Int) = ((q5 + v2 : Nat) : Int) by omega)⟩ (Nat.le_add_right _ _) (by omega)) rfl (by kernel_rfl) (fun _ => hS) ?_
    rw [Nat.sub_zero, Nat.sub_zero, Nat.add_sub_cancel_left]
    replace hs := hs.below hS
    refine wm_one 3 (by kernel_rfl) rfl ?_; dsimp only [List.getElem_toArray, List.getElem_cons_succ, List.getElem_cons_zero]
    refine wl_call ok_caissonref01_Copy (copy_any (hpre.below hS) hkt (by omega)) ⟨rfl, trivial⟩ rfl ?_
    rintro _ w8 ⟨C, cc, rfl, o_, hbx⟩
    replace hs := hs.newO hbx o_ (Nat.le_refl _)
    replace hS := hS.trans (hbx.mono hS.size)
    clear o_ hbx hpre
    rw [hkt] at hs
    rw [hkt]
    refine wl_nil ?_
    refine we_heldM (fun _ => hS) ?_
    refine wm_one 10 (by kernel_rfl) rfl ?_; dsimp only [List.getElem_toArray, List.getElem_cons_succ, List.getElem_cons_zero]
    refine ws_app (ys := bvs ((xs.drop q5).take v2)) (m := v2) hs 0 rfl rfl tyB rfl (hmid hs.bel) (bvs_one _) (by omega) (by simp only [maxLen]; omega) rfl ?_
    clear hs hmid; intro K2 kc2 w9 hs; dsimp only [setC] at hs
    have hnkl : v1 + v2 = ((lastKV es).2.2.take v1 ++ (xs.drop q5).take v2).length := by rw [List.length_append, hkt, hvt]
    rw [← bvs_append, hnkl] at hs
    rw [hnkl]
    obtain ⟨nk, hnk⟩ : ∃ q, (lastKV es).2.2.take v1 ++ (xs.drop q5).take v2 = q := ⟨_, rfl⟩
    rw [hnk] at hs hnkl hmk
    rw [hnk]
    clear hS
    refine wl_nil ?_
    refine we_heldM (fun h => absurd h (by decide)) ?_
    refine wm_one 11 (by kernel_rfl) rfl ?_; dsimp only [List.getElem_toArray, List.getElem_cons_succ, List.getElem_cons_zero]
    refine wl_as rfl rfl ?_; refine wl_nil ?_
    refine we_heldM (fun h => absurd h (by decide)) ?_
    refine wm_done (by kernel_rfl) ?_
    refine we_seq ?_; refine wc_seq ?_
    have hrow : (bvs xs)[q3]? = some (bv kd) := by simp [bvs, hkd]
    obtain ⟨vl, hvl⟩ : ∃ q, (xs.drop (q5 + v2)).take v5 = q := ⟨_, rfl⟩
    have hvll : vl.length = v5 := by rw [← hvl, List.length_take, List.length_drop]; omega
    have hval : ∀ {w' : World}, Below w.heap.size w w' → RdB w' (cutA A c (q5 + v2)) vl := fun {w'} hb => by
      have := cutB_rd (l := q5 + v2) (h := q5 + v2 + v5) (hr.below hb) (Nat.le_add_right _ _) (by omega) hc
      have e : (xs.take (q5 + v2 + v5)).drop (q5 + v2) = vl := by rw [List.drop_take, Nat.add_sub_cancel_left, hvl]
      rw [e] at this; exact this
    rw [hvl] at hmk
    refine wc_heldR (Below w.heap.size w) 21 mixed ?_
    replace hs := hs.below (Below.refl _ _).drew
    have hS := hs.bel
    apply wm_take 0; exact rfl; intro _ hw_; apply opv_move; exact rfl; exact rfl; kernel_rfl; exact hS; apply wm_take 1; exact rfl; intro _ hw_; apply opv_move; exact rfl; exact rfl; kernel_rfl; exact hS; apply wm_take 2; exact rfl; intro _ hw_; apply opv_move; exact rfl; exact rfl; kernel_rfl; exact hS; apply wm_take 3; exact rfl; intro _ hw_; apply opv_move; exact rfl; exact rfl; kernel_rfl; exact hS; apply wm_take 4; exact rfl; intro _ hw_; apply opv_move; exact rfl; exact rfl; kernel_rfl; exact hS
    refine wm_take 5 rfl (fun _ hw_ => opv_idxR tyB rfl rfl (RdB.below hr hw_) rfl hrow) rfl (by kernel_rfl) hS ?_
    refine wm_take 6 rfl (fun _ hw_ => opv_loadR tyB rfl (RdB.below hr hw_) hrow) rfl (by kernel_rfl) hS ?_
    apply wm_take 7; exact rfl; intro _ hw_; apply opv_move; exact rfl; exact rfl; kernel_rfl; exact hS; apply wm_take 8; exact rfl; intro _ hw_; apply opv_move; exact rfl; exact rfl; kernel_rfl; exact hS; apply wm_take 9; exact rfl; intro _ hw_; apply opv_move; exact rfl; exact rfl; kernel_rfl; exact hS; apply wm_take 10; exact rfl; intro _ hw_; apply opv_bin; exact rfl; exact rfl; exact bin_add64 (by omega); exact rfl; kernel_rfl; exact hS; apply wm_take 11; exact rfl; intro _ hw_; apply opv_move; exact rfl; exact rfl; kernel_rfl; exact hS; apply wm_take 12; exact rfl; intro _ hw_; apply opv_move; exact rfl; exact rfl; kernel_rfl; exact hS; apply wm_take 13; exact rfl; intro _ hw_; apply opv_bin; exact rfl; exact rfl; exact bin_add64 (by omega); exact rfl; kernel_rfl; exact hS; apply wm_take 14; exact rfl; intro _ hw_; apply opv_move; exact rfl; exact rfl; kernel_rfl; exact hS; apply wm_take 15; exact rfl; intro _ hw_; apply opv_bin; exact rfl; exact rfl; exact bin_add64 (by omega); exact rfl; kernel_rfl; exact hS
    refine wm_take 16 rfl (fun _ _ => opv_slice (l := q5 + v2) (h := q5 + v2 + v5) tyB rfl ⟨_, congrArg (fun z : Int => some (Value.int .i64 z)) (show (q5 : Int) + (v2 : Int) = ((q5 + v2 : Nat) : Int) by omega)⟩ ⟨_, congrArg (fun z : Int => some (Value.int .i64 z)) (show (q5 : Int) + (v2 : Int) + (v5 : Int) = ((q5 + v2 + v5 : Nat) : Int) by omega)⟩ (Nat.le_add_right _ _) (by omega)) rfl (by kernel_rfl) hS ?_
    rw [Nat.add_sub_cancel_left]
    refine wm_one 17 (by kernel_rfl) rfl ?_; dsimp only [List.getElem_toArray, List.getElem_cons_succ, List.getElem_cons_zero]
    refine wl_call ok_caissonref01_Copy (copy_any (hval hs.bel) hvll (by omega)) ⟨rfl, trivial⟩ rfl ?_
    rintro _ w10 ⟨V, vc, rfl, o_, hbx⟩
    replace hs := hs.newO hbx o_ (Nat.le_refl _)
    replace hS := hs.bel
    clear o_ hbx
    refine wl_nil ?_
    refine we_heldM (fun _ => hS) ?_
    refine wm_one 18 (by kernel_rfl) rfl ?_; dsimp only [List.getElem_toArray, List.getElem_cons_succ, List.getElem_cons_zero]
    refine wl_val (opv_build (vs := [(0, .slice K2 nk.length kc2), (1, .int .u64 (v3 : Int)), (2, bv kd), (3, .slice V vl.length vc)]) (cs := enV ⟨nk, v3, kd, vl⟩ K2 kc2 V vc) ⟨rfl, rfl, rfl, rfl, rfl, rfl, rfl, rfl, trivial⟩ (by kernel_rfl)) rfl ?_
    refine wl_nil ?_
    refine we_heldM (fun _ => hS) ?_
    refine wm_one 19 (by kernel_rfl) rfl ?_; dsimp only [List.getElem_toArray, List.getElem_cons_succ, List.getElem_cons_zero]
    refine wl_bsG (css := [enV ⟨nk, v3, kd, vl⟩ K2 kc2 V vc]) tkE ⟨rfl, ⟨_, rfl, rfl⟩, rfl, trivial⟩ (els := [enV ⟨nk, v3, kd, vl⟩ K2 kc2 V vc].map rawEl) (S := NoB) rfl (by decide) (by decide)
      (grp_raw (by simp [enV])) rfl fun U w11 hU hbx _ => ?_
    replace hs := hs.below hbx
    replace hS := hs.bel
    clear hbx
    refine wl_nil ?_
    refine we_heldM (fun _ => hS) ?_
    refine wm_one 20 (by kernel_rfl) rfl ?_; dsimp only [List.getElem_toArray, List.getElem_cons_succ, List.getElem_cons_zero]
    refine ws_appR (css := [enV ⟨nk, v3, kd, vl⟩ K2 kc2 V vc]) hs 3 rfl rfl tkE (by simp [hel]) rfl (OwR.rd hU) rfl (enV_all _ _ _ _ _) (by omega) (by simp only [maxLen]; omega) rfl ?_
    clear hs hU; intro R2 rc2 w12 hs; dsimp only [setC] at hs
    replace hS := hs.bel
    refine wl_nil ?_
    refine we_heldM (fun _ => hS) ?_
    refine wm_one 21 (by kernel_rfl) rfl ?_; dsimp only [List.getElem_toArray, List.getElem_cons_succ, List.getElem_cons_zero]
    refine wl_as rfl rfl ?_; refine wl_nil ?_
    refine we_heldM (fun h => absurd h (by decide)) ?_
    refine wm_done (by kernel_rfl) ?_
    refine we_seq ?_; refine wc_region ?_; refine wl_mv rfl rfl ?_; refine wl_mv rfl rfl ?_; apply wl_val; apply opv_bin; exact rfl; exact rfl; exact bin_add64 (by omega); exact rfl; refine wl_mv rfl rfl ?_; apply wl_val; apply opv_bin; exact rfl; exact rfl; exact bin_add64 (by omega); exact rfl; refine wl_as rfl rfl ?_; refine wl_nil ?_; refine we_block_norm ?_
    obtain ⟨f', hI2, hpp⟩ := hI.step hlt hmk
    have hle2 := hI2.le
    have hq8 : ((q5 + v2 + v5 : Nat) : Int) = (q5 : Int) + (v2 : Int) + (v5 : Int) := by omega
    refine we_loop _ (xs.length - (q5 + v2 + v5)) ⟨done ++ [(⟨nk, v3, kd, vl⟩, p)], es ++ [⟨⟨nk, v3, kd, vl⟩, K2, kc2, V, vc⟩], q5 + v2 + v5, f', R2, rc2, Q2, qc2, rfl, by rw [lastKV_snoc]; exact hI2, by simp [hes], ?_, rfl⟩ (by omega) ⟨rfl, by rw [List.length_append]; rfl, by rw [List.length_append]; rfl, by rw [lastKV_snoc]; rfl, by rw [hq8]; simp [lookT], trivial⟩
    have h9 := (((hs.front 1 rfl).front 4 rfl).front 4 rfl).front 4 rfl
    refine h9.map fun S h => ?_
    have e1 : natV ((done ++ [((⟨nk, v3, kd, vl⟩ : En), p)]).map (·.2)) = natV (done.map (·.2)) ++ [.int .i64 (p : Int)] := by simp [natV]
    have e2 : ((es ++ [(⟨⟨nk, v3, kd, vl⟩, K2, kc2, V, vc⟩ : EnA)]).map eaV).map rawEl = (es.map eaV).map rawEl ++ [enV ⟨nk, v3, kd, vl⟩ K2 kc2 V vc].map rawEl := by simp [eaV]
    have e3 : (done ++ [((⟨nk, v3, kd, vl⟩ : En), p)]).length = done.length + 1 := by simp
    rw [e1, e2, e3]
    refine Sat.packR (X := [.ow 3 Q2 (done.length + 1) qc2 (natV (done.map (·.2)) ++ [.int .i64 (p : Int)]), .rg 4 38 R2 rc2 ((es.map eaV).map rawEl ++ [enV ⟨nk, v3, kd, vl⟩ K2 kc2 V vc].map rawEl)]) (Y := [.ck (packC (es.flatMap enM)), .ow 5 K2 nk.length kc2 (bvs nk), .ow 5 V vl.length vc (bvs vl)]) h fun T h => ?_
    obtain ⟨T1, hT1, h2, h3⟩ := h
    show Sat _ ((es ++ [_]).flatMap enM) T
    rw [List.flatMap_append]
    exact Sat.join hT1 h2 (by simpa [enM, enOw] using h3)
  · have hfin := hI.fin (by omega)
    rw [hfin]
    refine wc_exit ?_; refine we_seq_exit ?_; refine we_loop_exit ?_; refine we_block_exit ?_; refine we_seq ?_; refine wc_sr ?_; refine wl_mv rfl rfl ?_; refine wl_mv rfl rfl ?_; refine wl_as rfl rfl ?_; refine wl_as rfl rfl ?_; refine wl_as rfl rfl ?_; refine wl_ns ?_; refine wc_ret ?_
    refine we_ret3 rfl rfl rfl rfl ⟨_, rfl, R, rc, Q, qc, rfl, ?_⟩
    have h2 := hs.front 1 rfl
    dsimp only [delC] at h2
    have h3 : St NoB w w2 ([.rg 4 38 R rc ((es.map eaV).map rawEl), .ck (packC (es.flatMap enM))] ++ [.ow 3 Q done.length qc (natV (done.map (·.2)))]) := (h2.front 2 rfl).front 1 rfl
    refine St.front (St.pack h3 (.ck (rsC 4 38 R rc ((done.map (·.1)).map oE))) fun w S h => ?_) 1 rfl
    obtain ⟨T, hT, h4, T2, hT2, h5, _⟩ := h
    rw [← hes]
    exact ⟨es.map eaV, by simp, T, hT, h4, (zip_of_es8 (show Sat w (es.flatMap enM) T2 from h5)).mono fun b _ h => hT2 b h⟩
end Go.Proofs.Ytojncfdlddepdaa


/-
  The document's way to find how many entries stand from restart to restart finds the same block.
-/
namespace Go.Proofs.Ytojncfdlddepdaa
open Go.RowKit

theorem rdL_inc {b : List UInt8} : ∀ {f p : Nat} {key : List UInt8} {r : List (En × Nat)}, rdL b f p key = some r → (∀ y ∈ r.map (·.2), p ≤ y) ∧ (r.map (·.2)).Pairwise (· < ·)
  | 0, p, key, r, h => by
    rw [rdL] at h
    split at h
    · cases h
    · cases h; exact ⟨by simp, .nil⟩
  | f + 1, p, key, r, h => by
    by_cases hlt : p < b.length
    · cases hr : rdE b p key with
      | none => rw [rdL_bad hlt hr] at h; cases h
      | some y =>
        obtain ⟨x, p'⟩ := y
        rw [rdL_step hlt hr] at h
        have hi := rdE_inv hr
        cases hr2 : rdL b f p' x.key with
        | none => rw [hr2] at h; cases h
        | some r2 =>
          rw [hr2] at h
          cases h
          obtain ⟨h1, h2⟩ := rdL_inc hr2
          refine ⟨fun y hy => ?_, ?_⟩
          · rw [List.map_cons, List.mem_cons] at hy
            rcases hy with rfl | hy
            · exact Nat.le_refl _
            · have := h1 y hy; omega
          · rw [List.map_cons]
            exact List.pairwise_cons.2 ⟨fun y hy => by have := h1 y hy; show p < y; omega, h2⟩
    · rw [rdL_end hlt] at h; cases h; exact ⟨by simp, .nil⟩
/-- The last place that is the second restart's. -/
def evR (s : Nat) (ps : List Nat) (e0 : Nat) : Nat → Nat
  | 0 => e0
  | i + 1 => if ps[i]? = some s then i else evR s ps e0 i
theorem evR_none {s e0 : Nat} {ps : List Nat} : ∀ {n : Nat}, (∀ i, i < n → ¬ ps[i]? = some s) → evR s ps e0 n = e0
  | 0, _ => rfl
  | n + 1, h => by rw [evR, if_neg (h n (Nat.lt_succ_self n)), evR_none fun i hi => h i (by omega)]
theorem evR_at {s e0 e : Nat} {ps : List Nat} (he : ps[e]? = some s) : ∀ {n : Nat}, e < n → (∀ i, e < i → i < n → ¬ ps[i]? = some s) → evR s ps e0 n = e
  | 0, h, _ => absurd h (Nat.not_lt_zero _)
  | n + 1, h, h2 => by
    rw [evR]
    by_cases k : e = n
    · subst k; rw [if_pos he]
    · rw [if_neg (h2 n (by omega) (Nat.lt_succ_self n)), evR_at he (by omega) fun i h3 h4 => h2 i h3 (by omega)]
def ev8 (ss : List Nat) (k : Nat) (ps : List Nat) : Nat := if 1 < k then evR (ss[1]?.getD 0) ps ps.length ps.length else ps.length
theorem stN_one {l : List En} (h : l ≠ []) : stN (l.length + 1) l.length = 1 := by
  have hb := stN_bound (every := l.length + 1) (Nat.succ_pos _) l.length
  have hp : 0 < l.length := List.length_pos_iff.2 h
  obtain ⟨h1, h2⟩ := hb
  rcases hs : stN (l.length + 1) l.length with _ | _ | s
  · rw [hs] at h1; omega
  · rfl
  · rw [hs] at h2
    have : 2 * (l.length + 1) ≤ (s + 1 + 1) * (l.length + 1) := Nat.mul_le_mul_right _ (by omega)
    omega
theorem build_one {l : List En} {e e' : Nat} (h1 : l.length ≤ e) (h2 : l.length ≤ e') : buildB e l = buildB e' l := by rw [buildB, buildB, blk_one h1 h2]
/-- A block of one restart has one. -/
theorem build_single {l : List En} {b body : List UInt8} {nx : Nat} (hl : l ≠ []) (ho : openB b 0 = (body, nx, 0)) (hk : 1 < numB (body.drop (body.length - 4))) : ¬ buildB (l.length + 1) l = (b, 0) := fun h => by
  rw [buildB] at h
  split at h
  · cases h
  · split at h
    · rename_i hs
      split at h
      · have hb : ¬ 1048576 < (blkB (l.length + 1) l).length := fun h' => by rw [sealB, if_pos h'] at hs; cases hs
        rw [sealB, if_neg hb] at h
        have h0 : crcRec (blkB (l.length + 1) l) = b := (Prod.mk.inj h).1
        rw [← h0, openB_rec (by omega)] at ho
        have h1 : blkB (l.length + 1) l = body := (Prod.mk.inj ho).1
        have hlen := blkB_length (l.length + 1) l
        have hst := stN_one hl
        rw [← h1] at hk
        have d1 : (blkB (l.length + 1) l).length - 4 = (bodyB (l.length + 1) l l.length ++ resB (l.length + 1) l l.length).length := by rw [List.length_append, resB_length]; omega
        have e1 : blkB (l.length + 1) l = (bodyB (l.length + 1) l l.length ++ resB (l.length + 1) l l.length) ++ four (stN (l.length + 1) l.length) := by rw [blkB, List.append_assoc]
        rw [d1, e1, List.drop_left, hst, numB_four (by decide)] at hk
        omega
      · cases h
    · rename_i hs; exact hs (Prod.mk.inj h).2
/-- The document's number of entries and the program's make the same of a block. -/
theorem ev8_eq {b body : List UInt8} {nx k : Nat} {ss : List Nat} {r : List (En × Nat)} {l : List En} {ps : List Nat} (ho : openB b 0 = (body, nx, 0)) (hk : numB (body.drop (body.length - 4)) = k) (hss : ss.length = k) (hl : r.map (·.1) = l) (hp : r.map (·.2) = ps) (hi : ps.Pairwise (· < ·)) (hne : l ≠ []) :
    (if ev8 ss k ps = 0 then (([], 3) : List En × Nat) else if buildB (ev8 ss k ps) l = (b, 0) then (l, 0) else ([], 3)) = (if buildB (evL ss ps) l = (b, 0) then (l, 0) else ([], 3)) := by
  have hlen : l.length = ps.length := by rw [← hl, ← hp]; simp
  have hpos : 0 < l.length := List.length_pos_iff.2 hne
  have hinj : ∀ i j s, ps[i]? = some s → ps[j]? = some s → i = j := fun i j s h1 h2 => by
    obtain ⟨a1, a2⟩ := List.getElem?_eq_some_iff.1 h1
    obtain ⟨b1, b2⟩ := List.getElem?_eq_some_iff.1 h2
    rcases Nat.lt_trichotomy i j with h | h | h
    · have := List.pairwise_iff_getElem.1 hi i j a1 b1 h; omega
    · exact h
    · have := List.pairwise_iff_getElem.1 hi j i b1 a1 h; omega
  have hdef : evF ss ps ps.length = 0 → ev8 ss k ps = ps.length → (if ev8 ss k ps = 0 then (([], 3) : List En × Nat) else if buildB (ev8 ss k ps) l = (b, 0) then (l, 0) else ([], 3)) = (if buildB (evL ss ps) l = (b, 0) then (l, 0) else ([], 3)) := fun h1 h2 => by
    rw [h2, if_neg (by omega), evL, if_pos h1, build_one (e := ps.length) (e' := ps.length + 1) (by omega) (by omega)]
  by_cases hk1 : 1 < k
  · obtain ⟨s, hs⟩ : ∃ s, ss[1]? = some s := ⟨_, List.getElem?_eq_getElem (by omega)⟩
    have e8 : ev8 ss k ps = evR s ps ps.length ps.length := by rw [ev8, if_pos hk1, hs]; rfl
    by_cases hex : ∃ e : Nat, ps[e]? = some s
    · obtain ⟨e, he⟩ := hex
      have hel := (List.getElem?_eq_some_iff.1 he).1
      have hR : ev8 ss k ps = e := by
        rw [e8]; exact evR_at he hel fun i h1 _ h2 => by have := hinj _ _ _ he h2; omega
      rw [hR]
      by_cases h0 : e = 0
      · subst h0
        have hF : evF ss ps ps.length = 0 := evF_zero fun i _ h2 ⟨_, h3⟩ => by rw [hs] at h3; have := hinj _ _ _ he h3; omega
        rw [if_pos rfl, evL, if_pos hF, ← hlen, if_neg (build_single hne ho (by rw [hk]; exact hk1))]
      · have hF : evF ss ps ps.length = e := evF_pos (by omega) (by omega) (by rw [he, hs]) (fun i h1 _ h3 => by rw [hs] at h3; have := hinj _ _ _ he h3; omega) _ hel
        rw [if_neg h0, evL, hF, if_neg h0]
    · have hn : ∀ i : Nat, ¬ ps[i]? = some s := fun i h => hex ⟨i, h⟩
      exact hdef (evF_zero fun i _ _ ⟨_, h3⟩ => hn i (by rw [h3, hs])) (by rw [e8, evR_none fun i _ => hn i])
  · exact hdef (evF_zero fun i _ _ ⟨h, _⟩ => hk1 (by omega)) (by rw [ev8, if_neg hk1])
end Go.Proofs.Ytojncfdlddepdaa
