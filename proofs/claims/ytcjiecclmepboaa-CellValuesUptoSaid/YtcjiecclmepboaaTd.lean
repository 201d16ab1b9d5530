
/-
  Walks over the functions that go through a text's runes: Len, Runes, Clip, and the reference's Runes.
-/
import Derived.Test.YtcjiecclmepboaaTc
namespace Go.Proofs.Ytcjiecclmepboaa
open Go.RowKit

theorem len_any {l : List UInt8} (hl : l.length ≤ 1099511627776) (w : World) : CallsV Try.prog 62 #[str l] w fun v w' => v = .int .i64 ((rs l).length : Int) ∧ Below w.heap.size w w' := by
  refine calls_in (N := _) Try.func62 rfl Try.ntmps62 rfl ?_; show WC _ _ _ _ _ _
  refine wc_sr ?_; refine wl_as rfl rfl ?_; refine wl_ns ?_; refine wc_sr ?_; refine wl_as rfl rfl ?_; refine wl_ns ?_; refine wc_seq ?_; refine wc_sr ?_; refine wl_mv rfl rfl ?_
  refine wl_range tyStr rfl rfl fun k w1 hk i1 hb1 => ?_
  refine wl_ns ?_; refine wc_block ?_
  refine wc_loop (fun L wr m => ∃ p n : Nat, L = [(3, .int .i64 (n : Int)), (5, .pointer (some ⟨k, 0, none⟩))] ∧ It wr k l p ∧ Below w.heap.size w wr ∧ p ≤ l.length ∧ n ≤ p ∧ n + (rs (l.drop p)).length = (rs l).length ∧ m = l.length - p)
    [(3, .int .i64 (0 : Nat)), (5, .pointer (some ⟨k, 0, none⟩))] l.length ⟨0, 0, rfl, i1, hb1, by omega, by omega, by simp, rfl⟩ ⟨rfl, rfl, trivial⟩ ?_
  rintro _ w2 m ⟨p, n, rfl, i2, hb2, hp, hn, he, rfl⟩
  refine wc_sr ?_
  by_cases hlt : p < l.length
  · have hd := dec_at hlt
    rw [rs_step hlt] at he
    refine wl_next rfl i2 hlt rfl fun w3 i3 g3 hs3 => ?_
    have hb3 := g3.belowI hb2 hk hb2.size
    apply wl_val; apply opv_extract; exact rfl; exact rfl; exact rfl; refine wl_ns ?_; refine wc_seq ?_; apply wc_condTb; exact rfl; exact rfl; refine wc_skip ?_; refine we_seq ?_; refine wc_block ?_; refine wc_region ?_; refine wl_mv rfl rfl ?_; apply wl_val; apply opv_bin; exact rfl; exact rfl; exact bin_add64 (by omega); exact rfl; refine wl_as rfl rfl ?_; refine wl_nil ?_; refine we_block_norm ?_
    refine we_loop [(3, .int .i64 ((n + 1 : Nat) : Int)), (5, .pointer (some ⟨k, 0, none⟩))] (l.length - (p + (dec (l.drop p)).2)) ⟨_, n + 1, rfl, i3, hb3, hd.2.1, by omega, by simp at he ⊢; omega, rfl⟩ (by omega) ⟨by simp [lookT], rfl, trivial⟩
  · refine wl_nextE rfl i2 hlt rfl ?_
    rw [rs_end hlt] at he
    apply wl_val; apply opv_extract; exact rfl; exact rfl; exact rfl; refine wl_ns ?_; refine wc_seq ?_; apply wc_condFb; exact rfl; exact rfl; refine wc_exit ?_; refine we_seq_exit ?_; refine we_loop_exit ?_; refine we_block_exit ?_; refine we_seq ?_; refine wc_sr ?_; refine wl_mv rfl rfl ?_; refine wl_as rfl rfl ?_; refine wl_ns ?_; refine wc_ret ?_
    exact we_ret1 rfl rfl ⟨_, rfl, by rw [← he]; rfl, hb2⟩

/-- Runes as new memory. -/
def RetR (w : World) (l : List UInt8) (v : Value) (w' : World) : Prop :=
  ∃ (A : Option Addr) (c : Nat), v = .slice A (rs l).length c ∧ Ow w' w.heap.size 21 A (rs l).length c ((rs l).map fun c : Nat => runeV (c : Int)) ∧ Below w.heap.size w w'
theorem runes_any {l : List UInt8} (hl : l.length ≤ 1099511627776) (w : World) : CallsV Try.prog 64 #[str l] w (RetR w l) := by
  refine calls_in (N := _) Try.func64 rfl Try.ntmps64 rfl ?_; show WC _ _ _ _ _ _
  refine wc_sr ?_; refine wl_as rfl rfl ?_; refine wl_ns ?_; refine wc_sr ?_; refine wl_as rfl rfl ?_; refine wl_ns ?_; refine wc_seq ?_; refine wc_sr ?_; refine wl_mv rfl rfl ?_
  refine wl_range tyStr rfl rfl fun k w1 hk i1 hb1 => ?_
  refine wl_ns ?_; refine wc_block ?_
  refine wc_loop (fun L wr m => ∃ (p : Nat) (done : List Nat) (A : Option Addr) (c : Nat), L = [(3, .slice A done.length c), (7, .pointer (some ⟨k, 0, none⟩))] ∧ It wr k l p ∧ Ow wr w.heap.size 21 A done.length c (done.map fun c : Nat => runeV (c : Int)) ∧ Below w.heap.size w wr ∧ p ≤ l.length ∧ done.length ≤ p ∧ done ++ rs (l.drop p) = rs l ∧ m = l.length - p)
    [(3, .slice none 0 0), (7, .pointer (some ⟨k, 0, none⟩))] l.length ⟨0, [], none, 0, rfl, i1, Ow.nil _ _ _, hb1, by omega, by simp, rfl, rfl⟩ ⟨rfl, rfl, trivial⟩ ?_
  rintro _ w2 m ⟨p, done, A, c, rfl, i2, o2, hb2, hp, hn, he, rfl⟩
  refine wc_sr ?_
  by_cases hlt : p < l.length
  · have hd := dec_at hlt
    rw [rs_step hlt] at he
    refine wl_next rfl i2 hlt rfl fun w3 i3 g3 hs3 => ?_
    have hb3 := g3.belowI hb2 hk hb2.size
    have o3 : Ow w3 w.heap.size 21 A done.length c (done.map fun c : Nat => runeV (c : Int)) := Ow.gr (base' := 0) (e' := 0) o2 g3 (fun a b ha hb => by cases hb; exact i2.ne_own o2 a ha)
    apply wl_val; apply opv_extract; exact rfl; exact rfl; exact rfl; refine wl_ns ?_; refine wc_seq ?_; apply wc_condTb; exact rfl; exact rfl; refine wc_skip ?_; refine we_seq ?_; refine wc_block ?_; refine wc_sr ?_; apply wl_val; apply opv_extract; exact rfl; exact rfl; exact rfl; refine wl_as rfl rfl ?_; refine wl_ns ?_; refine wc_region ?_; refine wl_mv rfl rfl ?_; refine wl_mv rfl rfl ?_
    refine wl_push (vs := [runeV ((dec (l.drop p)).1 : Int)]) tyR rfl o3 ⟨rfl, rfl, rfl, trivial⟩ rfl (by decide) rfl (by omega) (by simp only [maxLen]; omega) hb3.size rfl rfl fun q A4 c4 w4 o4 g4 hat => ?_
    have i4 := i3.gr g4 o3
    have hb4 := g4.below hb3 o3 (Nat.le_refl _) hb3.size
    refine wl_as rfl rfl ?_; refine wl_nil ?_; refine we_block_norm ?_
    refine we_loop [(3, .slice A4 (done ++ [(dec (l.drop p)).1]).length c4), (7, .pointer (some ⟨k, 0, none⟩))] (l.length - (p + (dec (l.drop p)).2)) ⟨_, _, A4, c4, rfl, i4, by simpa using o4, hb4, hd.2.1, by simp; omega, by rw [List.append_assoc]; exact he, rfl⟩ (by omega) ⟨by simp [lookT], rfl, trivial⟩
  · refine wl_nextE rfl i2 hlt rfl ?_
    rw [rs_end hlt, List.append_nil] at he
    subst he
    apply wl_val; apply opv_extract; exact rfl; exact rfl; exact rfl; refine wl_ns ?_; refine wc_seq ?_; apply wc_condFb; exact rfl; exact rfl; refine wc_exit ?_; refine we_seq_exit ?_; refine we_loop_exit ?_; refine we_block_exit ?_; refine we_seq ?_; refine wc_sr ?_; refine wl_mv rfl rfl ?_; refine wl_as rfl rfl ?_; refine wl_ns ?_; refine wc_ret ?_
    exact we_ret1 rfl rfl ⟨_, rfl, A, c, rfl, o2, hb2⟩

/-- The first runes' bytes. -/
def clipB (l : List UInt8) (n : Int) : List UInt8 := match (places l)[n.toNat]? with | some p => l.take p | none => l
theorem clip_any {l : List UInt8} (hl : l.length ≤ 1099511627776) (n : Int) (hn : -9223372036854775808 ≤ n ∧ n ≤ 9223372036854775807) (w : World) : CallsV Try.prog 15 #[str l, .int .i64 n] w fun v w' => v = str (clipB l n) ∧ Below w.heap.size w w' := by
  refine calls_in (N := _) Try.func15 rfl Try.ntmps15 rfl ?_; show WC _ _ _ _ _ _
  refine wc_sr ?_; refine wl_as rfl rfl ?_; refine wl_ns ?_; refine wc_seq ?_; refine wc_sr ?_; refine wl_mv rfl rfl ?_
  refine wl_range tyStr rfl rfl fun k w1 hk i1 hb1 => ?_
  refine wl_ns ?_; refine wc_block ?_
  refine wc_loop (fun L wr m => ∃ (p : Nat) (done : List Nat), L = [(0, str l), (1, .int .i64 (n - done.length)), (7, .pointer (some ⟨k, 0, none⟩))] ∧ It wr k l p ∧ Below w.heap.size w wr ∧ p ≤ l.length ∧ (done.length = 0 ∨ (done.length : Int) ≤ n) ∧ done ++ starts p (rw (l.drop p)) = places l ∧ m = l.length - p)
    [(0, str l), (1, .int .i64 n), (7, .pointer (some ⟨k, 0, none⟩))] l.length ⟨0, [], by simp, i1, hb1, by omega, by simp, rfl, rfl⟩ ⟨rfl, rfl, rfl, trivial⟩ ?_
  rintro _ w2 m ⟨p, done, rfl, i2, hb2, hp, hdn, he, rfl⟩
  refine wc_sr ?_
  by_cases hlt : p < l.length
  · have hd := dec_at hlt
    rw [rw_step hlt] at he
    refine wl_next rfl i2 hlt rfl fun w3 i3 g3 hs3 => ?_
    have hb3 := g3.belowI hb2 hk hb2.size
    apply wl_val; apply opv_extract; exact rfl; exact rfl; exact rfl; refine wl_ns ?_; refine wc_seq ?_; apply wc_condTb; exact rfl; exact rfl; refine wc_skip ?_; refine we_seq ?_; refine wc_block ?_; refine wc_sr ?_; apply wl_val; apply opv_extract; exact rfl; exact rfl; exact rfl; refine wl_as rfl rfl ?_; refine wl_ns ?_; refine wc_seq ?_; refine wc_sr ?_; refine wl_mv rfl rfl ?_; refine wl_bin rfl rfl bin_leq rfl ?_; refine wl_ns ?_
    refine wc_cond rfl (fun h1 => ?_) (fun h1 => ?_)
    · refine wc_sr ?_; refine wl_mv rfl rfl ?_; refine wl_mv rfl rfl ?_
      refine wl_val (opv_slS (a := 0) (b := p) tyStr rfl rfl ⟨_, rfl⟩ (by omega) hp) rfl ?_
      refine wl_as rfl rfl ?_; refine wl_ns ?_; refine wc_ret ?_; refine we_seq_ret ?_; refine we_block_ret ?_; refine we_loop_ret ?_; refine we_block_ret ?_; refine we_seq_ret ?_
      refine we_ret1 rfl rfl ⟨_, rfl, ?_, hb3⟩
      have hz : n.toNat = done.length := by omega
      rw [clipB, hz, ← he]
      simp [starts]
    · refine wc_skip ?_; refine we_seq ?_; refine wc_region ?_; refine wl_mv rfl rfl ?_; apply wl_val; apply opv_bin; exact rfl; exact rfl; exact bin_sub64 (by omega); exact rfl; refine wl_as rfl rfl ?_; refine wl_nil ?_; refine we_block_norm ?_
      refine we_loop [(0, str l), (1, .int .i64 (n - (done ++ [p]).length)), (7, .pointer (some ⟨k, 0, none⟩))] (l.length - (p + (dec (l.drop p)).2)) ⟨_, done ++ [p], rfl, i3, hb3, hd.2.1, by simp; omega, by rw [List.append_assoc]; exact he, rfl⟩ (by omega) ⟨rfl, by simp [lookT]; omega, rfl, trivial⟩
  · refine wl_nextE rfl i2 hlt rfl ?_
    rw [rw_end hlt] at he
    apply wl_val; apply opv_extract; exact rfl; exact rfl; exact rfl; refine wl_ns ?_; refine wc_seq ?_; apply wc_condFb; exact rfl; exact rfl; refine wc_exit ?_; refine we_seq_exit ?_; refine we_loop_exit ?_; refine we_block_exit ?_; refine we_seq ?_; refine wc_sr ?_; refine wl_mv rfl rfl ?_; refine wl_as rfl rfl ?_; refine wl_ns ?_; refine wc_ret ?_
    refine we_ret1 rfl rfl ⟨_, rfl, ?_, hb2⟩
    have : (places l)[n.toNat]? = none := by
      rw [← he]; simp [starts]; omega
    rw [clipB, this]
end Go.Proofs.Ytcjiecclmepboaa
