
/-
  Walks over GetOrdText of the program and of the reference.
-/
import Derived.Test.YtcjiecclmepboaaWb
import Derived.Test.YtcjiecclmepboaaPb
namespace Go.Proofs.Ytcjiecclmepboaa
open Go.RowKit

/-- New bytes, a place and an error are handed back. -/
def RetG (w : World) (r : List UInt8 × Int × Nat) (v : Value) (w' : World) : Prop :=
  ∃ A c, v = .tuple #[.slice A r.1.length c, .int .i64 r.2.1, .int .i64 (r.2.2 : Int)] ∧ OwB w' w.heap.size A c r.1 ∧ Below w.heap.size w w'
theorem RetG.err {w w' : World} {r : List UInt8 × Int × Nat} {e : Nat} (h : r = ([], 0, e)) (hb : Below w.heap.size w w') : RetG w r (.tuple #[.slice none 0 0, .int .i64 0, .int .i64 (e : Int)]) w' := by
  subst h; exact ⟨none, 0, rfl, Ow.nil _ _ _, hb⟩

def GotI (w : World) (xs : List UInt8) (A : Option Addr) (c q : Nat) : FL → World → Nat → Prop := fun L wr m =>
  ∃ (n : Nat) (acc : List UInt8) (A' : Option Addr) (c' : Nat), L = [(0, .slice A xs.length c), (7, .slice A' acc.length c'), (8, .int .i64 ((q + n : Nat) : Int))] ∧ q + n ≤ xs.length ∧ acc.length ≤ n ∧
    gotAux [] 0 (xs.drop q) = gotAux acc n (xs.drop (q + n)) ∧ OwB wr w.heap.size A' c' acc ∧ Below w.heap.size w wr ∧ m = xs.length - (q + n)

theorem getOrd_any {A : Option Addr} {n c : Nat} {xs : List UInt8} {p : Int} {w : World} (hr : RdB w A xs) (hn : xs.length = n) (hl : xs.length ≤ 1099511627776) :
    CallsV Try.prog 70 #[.slice A n c, .int .i64 p] w (RetG w (getOrd xs p)) := by
  subst hn
  refine calls_in (N := _) Try.func70 rfl Try.ntmps70 rfl ?_; show WC _ _ _ _ _ _
  refine wc_sr ?_; refine wl_as rfl rfl ?_; refine wl_as rfl rfl ?_; refine wl_as rfl rfl ?_; refine wl_ns ?_; refine wc_seq ?_; refine wc_sr ?_; refine wl_mv rfl rfl ?_; refine wl_mv rfl rfl ?_
  refine wl_call ok_codec_inside (inside_any p w) ⟨rfl, rfl, trivial⟩ rfl ?_
  rintro _ _ ⟨rfl, rfl⟩
  apply wl_val; apply opv_notD; exact rfl; exact rfl; refine wl_ns ?_
  refine wc_cond rfl (fun h => ?_) (fun h => ?_)
  · refine wc_sr ?_; refine wl_as rfl rfl ?_; refine wl_as rfl rfl ?_; refine wl_as rfl rfl ?_; refine wl_ns ?_; refine wc_ret ?_; refine we_seq_ret ?_
    exact we_ret3 rfl rfl rfl rfl ⟨_, rfl, RetG.err (getOrd_arg h) (Below.refl _ _)⟩
  · have h' : 0 ≤ p ∧ p ≤ xs.length := by simpa using h
    obtain ⟨q, rfl⟩ := Int.eq_ofNat_of_zero_le h'.1
    have hq : q ≤ xs.length := by omega
    refine wc_skip ?_; refine we_seq ?_; refine wc_sr ?_; refine wl_as rfl rfl ?_; refine wl_ns ?_; refine wc_seq ?_; refine wc_sr ?_; refine wl_mv rfl rfl ?_; refine wl_as rfl rfl ?_; refine wl_ns ?_; refine wc_block ?_
    refine wc_loop (GotI w xs A c q) [(0, .slice A xs.length c), (7, .slice none 0 0), (8, .int .i64 (q : Int))] (xs.length - q) ⟨0, [], none, 0, rfl, hq, by simp, rfl, Ow.nil _ _ _, Below.refl _ _, rfl⟩ ⟨rfl, rfl, rfl, trivial⟩ ?_
    rintro _ wr m ⟨n, acc, A', c', rfl, hqn, hal, heq, ho, hb, rfl⟩
    have hsz := hb.size
    have hrx := RdB.below hr hb
    refine wc_seq ?_; refine wc_sr ?_; refine wl_mv rfl rfl ?_; refine wl_mv rfl rfl ?_; apply wl_val; apply opv_len; exact rfl; exact tyB.sl; exact rfl; refine wl_bin rfl rfl bin_lss rfl ?_; refine wl_ns ?_
    refine wc_cond rfl (fun h1 => ?_) (fun h1 => ?_)
    · obtain ⟨x, hx⟩ : ∃ x, xs[q + n]? = some x := ⟨_, List.getElem?_eq_getElem (by omega)⟩
      have hd := drop_get hx
      refine wc_skip ?_; refine we_seq ?_; refine wc_seq ?_; refine wc_block ?_; refine wc_seq ?_; refine wc_sr ?_; refine wl_mv rfl rfl ?_; refine wl_mv rfl rfl ?_; apply wl_byK (T := tyB) (hr := hrx) (hb := hx); exact rfl; exact rfl; exact rfl; exact rfl; exact rfl; intro _; refine wl_bin rfl rfl bin_neq rfl ?_; refine wl_ns ?_
      refine wc_cond rfl (fun h2 => ?_) (fun h2 => ?_)
      · have h0 : ¬ x = 0 := fun e => h2 (toNat_zero.2 e)
        refine wc_sr ?_; refine wl_mv rfl rfl ?_; refine wl_mv rfl rfl ?_; refine wl_mv rfl rfl ?_; apply wl_byK (T := tyB) (hr := hrx) (hb := hx); exact rfl; exact rfl; exact rfl; exact rfl; exact rfl; intro _
        refine wl_push (vs := [_]) tyB rfl ho ⟨rfl, rfl, rfl, trivial⟩ rfl (by decide) rfl (by omega) (by simp only [maxLen]; omega) hsz rfl rfl fun p2 A2 c2 w2 ho2 hg2 hat2 => ?_
        refine wl_as rfl rfl ?_; refine wl_ns ?_; refine wc_exit ?_; refine we_seq_exit ?_; refine we_block_exit ?_; refine we_seq ?_; refine wc_region ?_; refine wl_mv rfl rfl ?_; apply wl_val; apply opv_bin; exact rfl; exact rfl; exact bin_add64 (by omega); exact rfl; refine wl_as rfl rfl ?_; refine wl_nil ?_
        refine we_loop [(0, .slice A xs.length c), (7, .slice A2 (acc ++ [x]).length c2), (8, .int .i64 ((q + (n + 1) : Nat) : Int))] (xs.length - (q + (n + 1))) ⟨n + 1, acc ++ [x], A2, c2, rfl, by omega, by simp; omega, ?_, OwB.snoc ho2 rfl, hg2.below hb ho (Nat.le_refl _) hsz, rfl⟩ (by omega) ⟨rfl, ?_, ?_, trivial⟩
        · rw [heq, hd, got_plain h0]; rfl
        · simp; rfl
        · rw [show ((q + (n + 1) : Nat) : Int) = ((q + n : Nat) : Int) + 1 by omega]; rfl
      · obtain rfl : x = 0 := toNat_zero.1 (by omega)
        refine wc_skip ?_; refine we_seq ?_; refine wc_sr ?_; refine wl_mv rfl rfl ?_; apply wl_val; apply opv_bin; exact rfl; exact rfl; exact bin_add64 (by omega); exact rfl; refine wl_as rfl rfl ?_; refine wl_ns ?_; refine wc_seq ?_; refine wc_block ?_; refine wc_sr ?_; refine wl_mv rfl rfl ?_; refine wl_mv rfl rfl ?_; apply wl_val; apply opv_len; exact rfl; exact tyB.sl; exact rfl; refine wl_bin rfl rfl bin_eql rfl ?_; refine wl_as rfl rfl ?_; refine wl_ns ?_
        refine wc_cond rfl (fun h3 => ?_) (fun h3 => ?_)
        · have hlast : xs.drop (q + n + 1) = [] := List.drop_of_length_le (by omega)
          refine wc_sr ?_; refine wl_as rfl rfl ?_; refine wl_as rfl rfl ?_; refine wl_as rfl rfl ?_; refine wl_ns ?_; refine wc_ret ?_; refine we_block_ret ?_; refine we_seq_ret ?_; refine we_block_ret ?_; refine we_seq_ret ?_; refine we_loop_ret ?_; refine we_block_ret ?_; refine we_seq_ret ?_
          exact we_ret3 rfl rfl rfl rfl ⟨_, rfl, RetG.err (getOrd_bad hq (heq.trans (by rw [hd, hlast, got_end]))) hb⟩
        · obtain ⟨y, hy⟩ : ∃ y, xs[q + n + 1]? = some y := ⟨_, List.getElem?_eq_getElem (by omega)⟩
          have hd2 := drop_get hy
          refine wc_sr ?_; refine wl_mv rfl rfl ?_; refine wl_mv rfl rfl ?_; apply wl_byK (T := tyB) (hr := hrx) (hb := hy); exact rfl; exact rfl; exact rfl; exact rfl; exact rfl; intro _; refine wl_bin rfl rfl bin_eql rfl ?_; refine wl_as rfl rfl ?_; refine wl_ns ?_
          refine wc_cond rfl (fun h4 => ?_) (fun h4 => ?_)
          · obtain rfl : y = 1 := UInt8.toNat_inj.1 (by simp; omega)
            have e := getOrd_ok hq (heq.trans (by rw [hd, hd2, got_fin]))
            refine wc_sr ?_; refine wl_mv rfl rfl ?_; refine wl_mv rfl rfl ?_; apply wl_val; apply opv_bin; exact rfl; exact rfl; exact bin_add64 (by omega); exact rfl; refine wl_as rfl rfl ?_; refine wl_as rfl rfl ?_; refine wl_as rfl rfl ?_; refine wl_ns ?_; refine wc_ret ?_; refine we_block_ret ?_; refine we_seq_ret ?_; refine we_block_ret ?_; refine we_seq_ret ?_; refine we_loop_ret ?_; refine we_block_ret ?_; refine we_seq_ret ?_
            refine we_ret3 rfl rfl rfl rfl ⟨_, rfl, ?_⟩
            rw [e]
            refine ⟨A', c', ?_, ho, hb⟩
            have : (q : Int) + ((n + 2 : Nat) : Int) = ((q + n : Nat) : Int) + 1 + 1 := by omega
            rw [this]; rfl
          · have h1' : ¬ y = 1 := fun e => h4 (by rw [e]; rfl)
            refine wc_sr ?_; refine wl_mv rfl rfl ?_; refine wl_mv rfl rfl ?_; apply wl_byK (T := tyB) (hr := hrx) (hb := hy); exact rfl; exact rfl; exact rfl; exact rfl; exact rfl; intro _; refine wl_bin rfl rfl bin_neq rfl ?_; refine wl_as rfl rfl ?_; refine wl_ns ?_
            refine wc_cond rfl (fun h5 => ?_) (fun h5 => ?_)
            · have h6 : ¬ y = 255 := fun e => h5 (by rw [e]; rfl)
              refine wc_sr ?_; refine wl_as rfl rfl ?_; refine wl_as rfl rfl ?_; refine wl_as rfl rfl ?_; refine wl_ns ?_; refine wc_ret ?_; refine we_block_ret ?_; refine we_seq_ret ?_; refine we_block_ret ?_; refine we_seq_ret ?_; refine we_loop_ret ?_; refine we_block_ret ?_; refine we_seq_ret ?_
              exact we_ret3 rfl rfl rfl rfl ⟨_, rfl, RetG.err (getOrd_bad hq (heq.trans (by rw [hd, hd2, got_bad h1' h6]))) hb⟩
            · obtain rfl : y = 255 := UInt8.toNat_inj.1 (by simp; omega)
              refine wc_skip ?_; refine we_block_norm ?_; refine we_seq ?_; refine wc_region ?_; refine wl_mv rfl rfl ?_
              refine wl_push (vs := [_]) tyB rfl ho ⟨rfl, rfl, rfl, trivial⟩ rfl (by decide) rfl (by omega) (by simp only [maxLen]; omega) hsz rfl rfl fun p2 A2 c2 w2 ho2 hg2 hat2 => ?_
              refine wl_as rfl rfl ?_; refine wl_nil ?_; refine we_block_norm ?_; refine we_seq ?_; refine wc_region ?_; refine wl_mv rfl rfl ?_; apply wl_val; apply opv_bin; exact rfl; exact rfl; exact bin_add64 (by omega); exact rfl; refine wl_as rfl rfl ?_; refine wl_nil ?_
              refine we_loop [(0, .slice A xs.length c), (7, .slice A2 (acc ++ [0]).length c2), (8, .int .i64 ((q + (n + 2) : Nat) : Int))] (xs.length - (q + (n + 2))) ⟨n + 2, acc ++ [0], A2, c2, rfl, by omega, by simp; omega, ?_, OwB.snoc ho2 rfl, hg2.below hb ho (Nat.le_refl _) hsz, rfl⟩ (by omega) ⟨rfl, ?_, ?_, trivial⟩
              · rw [heq, hd, hd2, got_esc]; rfl
              · simp; rfl
              · rw [show ((q + (n + 2) : Nat) : Int) = ((q + n : Nat) : Int) + 1 + 1 by omega]; rfl
    · have hlast : xs.drop (q + n) = [] := List.drop_of_length_le (by omega)
      refine wc_exit ?_; refine we_seq_exit ?_; refine we_loop_exit ?_; refine we_block_exit ?_; refine we_seq ?_; refine wc_sr ?_; refine wl_as rfl rfl ?_; refine wl_as rfl rfl ?_; refine wl_as rfl rfl ?_; refine wl_ns ?_; refine wc_ret ?_
      exact we_ret3 rfl rfl rfl rfl ⟨_, rfl, RetG.err (getOrd_bad hq (heq.trans (by rw [hlast, got_nil]))) hb⟩
theorem refGetOrd_any {A : Option Addr} {n c : Nat} {xs : List UInt8} {p : Int} {w : World} (hr : RdB w A xs) (hn : xs.length = n) (hl : xs.length ≤ 1099511627776) :
    CallsV Try.prog 73 #[.slice A n c, .int .i64 p] w (RetG w (getOrd xs p)) := by
  subst hn
  refine calls_in (N := _) Try.func73 rfl Try.ntmps73 rfl ?_; show WC _ _ _ _ _ _
  refine wc_sr ?_; refine wl_as rfl rfl ?_; refine wl_as rfl rfl ?_; refine wl_as rfl rfl ?_; refine wl_ns ?_; refine wc_seq ?_; refine wc_sr ?_; refine wl_mv rfl rfl ?_; refine wl_bin rfl rfl bin_lss rfl ?_; refine wl_mv rfl rfl ?_
  refine wl_cutV 5 16 (.bool (decide ((p < 0) ∨ ((xs.length : Int) < p)))) ?c18 ?_; (case c18 => (dsimp only [List.take]; by_cases hc0 : (p < 0); (focus (apply wl_skip; exact rfl; exact rfl; exact rfl; refine bTn ?_; (with_reducible assumption); exact rfl; apply wl_skip; exact rfl; exact rfl; exact rfl; refine bTn ?_; (with_reducible assumption); exact rfl; apply wl_skip; exact rfl; exact rfl; exact rfl; refine bTn ?_; (with_reducible assumption); exact rfl; apply wl_skip; exact rfl; exact rfl; exact rfl; refine bTn ?_; (with_reducible assumption); exact rfl; apply wl_val; apply opv_pickT; exact rfl; refine bT ?_; (with_reducible assumption); exact rfl; exact rfl; refine wl_nil ?_; refine we_cut _ ⟨rfl, rfl⟩ ⟨congrArg (fun b => some (Value.bool b)) ?e18_0, ?s18_0⟩; (case e18_0 => ((simp [hc0]; done))); (case s18_0 => (refine And.intro rfl ?_; refine And.intro rfl ?_; refine And.intro rfl ?_; refine And.intro rfl ?_; refine And.intro rfl ?_; refine And.intro rfl ?_; refine And.intro rfl ?_; refine And.intro rfl ?_; exact True.intro)))); (focus (apply wl_take; exact rfl; exact rfl; exact rfl; refine bF ?_; (with_reducible assumption); refine wl_mv rfl rfl ?_; apply wl_take; exact rfl; exact rfl; exact rfl; refine bF ?_; (with_reducible assumption); refine wl_mv rfl rfl ?_; apply wl_take; exact rfl; exact rfl; exact rfl; refine bF ?_; (with_reducible assumption); apply wl_val; apply opv_len; exact rfl; exact tyB.sl; exact rfl; apply wl_take; exact rfl; exact rfl; exact rfl; refine bF ?_; (with_reducible assumption); refine wl_bin rfl rfl bin_gtr rfl ?_; apply wl_val; apply opv_pickF; exact rfl; refine bF ?_; (with_reducible assumption); exact rfl; exact rfl; refine wl_nil ?_; refine we_cut _ ⟨rfl, rfl⟩ ⟨congrArg (fun b => some (Value.bool b)) ?e18_1, ?s18_1⟩; (case e18_1 => ((simp [hc0]; done))); (case s18_1 => (refine And.intro rfl ?_; refine And.intro rfl ?_; refine And.intro rfl ?_; refine And.intro rfl ?_; refine And.intro rfl ?_; refine And.intro rfl ?_; refine And.intro rfl ?_; refine And.intro rfl ?_; exact True.intro)))))); dsimp only [List.drop]
  refine wl_ns ?_
  refine wc_cond rfl (fun h => ?_) (fun h => ?_)
  · refine wc_sr ?_; refine wl_as rfl rfl ?_; refine wl_as rfl rfl ?_; refine wl_as rfl rfl ?_; refine wl_ns ?_; refine wc_ret ?_; refine we_seq_ret ?_
    exact we_ret3 rfl rfl rfl rfl ⟨_, rfl, RetG.err (getOrd_arg (by omega)) (Below.refl _ _)⟩
  · obtain ⟨q, rfl⟩ := Int.eq_ofNat_of_zero_le (show 0 ≤ p by omega)
    have hq : q ≤ xs.length := by omega
    refine wc_skip ?_; refine we_seq ?_; refine wc_sr ?_; refine wl_as rfl rfl ?_; refine wl_ns ?_; refine wc_sr ?_; refine wl_mv rfl rfl ?_; refine wl_as rfl rfl ?_; refine wl_ns ?_; refine wc_seq ?_; refine wc_block ?_
    refine wc_loop (GotI w xs A c q) [(0, .slice A xs.length c), (7, .slice none 0 0), (8, .int .i64 (q : Int))] (xs.length - q) ⟨0, [], none, 0, rfl, hq, by simp, rfl, Ow.nil _ _ _, Below.refl _ _, rfl⟩ ⟨rfl, rfl, rfl, trivial⟩ ?_
    rintro _ wr m ⟨n, acc, A', c', rfl, hqn, hal, heq, ho, hb, rfl⟩
    have hsz := hb.size
    have hrx := RdB.below hr hb
    refine wc_seq ?_; refine wc_sr ?_; refine wl_mv rfl rfl ?_; refine wl_mv rfl rfl ?_; apply wl_val; apply opv_len; exact rfl; exact tyB.sl; exact rfl; refine wl_bin rfl rfl bin_lss rfl ?_; refine wl_ns ?_
    refine wc_cond rfl (fun h1 => ?_) (fun h1 => ?_)
    · obtain ⟨x, hx⟩ : ∃ x, xs[q + n]? = some x := ⟨_, List.getElem?_eq_getElem (by omega)⟩
      have hd := drop_get hx
      refine wc_skip ?_; refine we_seq ?_; refine wc_block ?_; refine wc_seq ?_; refine wc_sr ?_; refine wl_mv rfl rfl ?_; refine wl_mv rfl rfl ?_; apply wl_byK (T := tyB) (hr := hrx) (hb := hx); exact rfl; exact rfl; exact rfl; exact rfl; exact rfl; intro _; refine wl_bin rfl rfl bin_neq rfl ?_; refine wl_ns ?_
      refine wc_cond rfl (fun h2 => ?_) (fun h2 => ?_)
      · have h0 : ¬ x = 0 := fun e => h2 (toNat_zero.2 e)
        refine wc_sr ?_; refine wl_mv rfl rfl ?_; refine wl_mv rfl rfl ?_; refine wl_mv rfl rfl ?_; apply wl_byK (T := tyB) (hr := hrx) (hb := hx); exact rfl; exact rfl; exact rfl; exact rfl; exact rfl; intro _
        refine wl_push (vs := [_]) tyB rfl ho ⟨rfl, rfl, rfl, trivial⟩ rfl (by decide) rfl (by omega) (by simp only [maxLen]; omega) hsz rfl rfl fun p2 A2 c2 w2 ho2 hg2 hat2 => ?_
        refine wl_as rfl rfl ?_; refine wl_ns ?_; refine wc_sr ?_; refine wl_mv rfl rfl ?_; apply wl_val; apply opv_bin; exact rfl; exact rfl; exact bin_add64 (by omega); exact rfl; refine wl_as rfl rfl ?_; refine wl_ns ?_; refine wc_exit ?_; refine we_seq_exit ?_; refine we_block_exit ?_
        refine we_loop [(0, .slice A xs.length c), (7, .slice A2 (acc ++ [x]).length c2), (8, .int .i64 ((q + (n + 1) : Nat) : Int))] (xs.length - (q + (n + 1))) ⟨n + 1, acc ++ [x], A2, c2, rfl, by omega, by simp; omega, ?_, OwB.snoc ho2 rfl, hg2.below hb ho (Nat.le_refl _) hsz, rfl⟩ (by omega) ⟨rfl, ?_, ?_, trivial⟩
        · rw [heq, hd, got_plain h0]; rfl
        · simp; rfl
        · rw [show ((q + (n + 1) : Nat) : Int) = ((q + n : Nat) : Int) + 1 by omega]; rfl
      · obtain rfl : x = 0 := toNat_zero.1 (by omega)
        refine wc_skip ?_; refine we_seq ?_; refine wc_seq ?_; refine wc_sr ?_; refine wl_mv rfl rfl ?_; apply wl_val; apply opv_bin; exact rfl; exact rfl; exact bin_add64 (by omega); exact rfl; refine wl_mv rfl rfl ?_; apply wl_val; apply opv_len; exact rfl; exact tyB.sl; exact rfl; refine wl_bin rfl rfl bin_geq rfl ?_; refine wl_ns ?_
        refine wc_cond rfl (fun h3 => ?_) (fun h3 => ?_)
        · have hlast : xs.drop (q + n + 1) = [] := List.drop_of_length_le (by omega)
          refine wc_sr ?_; refine wl_as rfl rfl ?_; refine wl_as rfl rfl ?_; refine wl_as rfl rfl ?_; refine wl_ns ?_; refine wc_ret ?_; refine we_seq_ret ?_; refine we_block_ret ?_; refine we_loop_ret ?_; refine we_block_ret ?_; refine we_seq_ret ?_
          exact we_ret3 rfl rfl rfl rfl ⟨_, rfl, RetG.err (getOrd_bad hq (heq.trans (by rw [hd, hlast, got_end]))) hb⟩
        · obtain ⟨y, hy⟩ : ∃ y, xs[q + n + 1]? = some y := ⟨_, List.getElem?_eq_getElem (by omega)⟩
          have hd2 := drop_get hy
          refine wc_skip ?_; refine we_seq ?_; refine wc_seq ?_; refine wc_sr ?_; refine wl_mv rfl rfl ?_; refine wl_mv rfl rfl ?_; apply wl_val; apply opv_bin; exact rfl; exact rfl; exact bin_add64 (by omega); exact rfl; apply wl_byK (T := tyB) (hr := hrx) (hb := hy); exact rfl; exact rfl; exact rfl; exact rfl; exact rfl; intro _; refine wl_bin rfl rfl bin_eql rfl ?_; refine wl_ns ?_
          refine wc_cond rfl (fun h4 => ?_) (fun h4 => ?_)
          · obtain rfl : y = 1 := UInt8.toNat_inj.1 (by simp; omega)
            have e := getOrd_ok hq (heq.trans (by rw [hd, hd2, got_fin]))
            refine wc_sr ?_; refine wl_mv rfl rfl ?_; refine wl_mv rfl rfl ?_; apply wl_val; apply opv_bin; exact rfl; exact rfl; exact bin_add64 (by omega); exact rfl; refine wl_as rfl rfl ?_; refine wl_as rfl rfl ?_; refine wl_as rfl rfl ?_; refine wl_ns ?_; refine wc_ret ?_; refine we_seq_ret ?_; refine we_block_ret ?_; refine we_loop_ret ?_; refine we_block_ret ?_; refine we_seq_ret ?_
            refine we_ret3 rfl rfl rfl rfl ⟨_, rfl, ?_⟩
            rw [e]
            refine ⟨A', c', ?_, ho, hb⟩
            have : (q : Int) + ((n + 2 : Nat) : Int) = ((q + n : Nat) : Int) + 2 := by omega
            rw [this]; rfl
          · have h1' : ¬ y = 1 := fun e => h4 (by rw [e]; rfl)
            refine wc_skip ?_; refine we_seq ?_; refine wc_seq ?_; refine wc_sr ?_; refine wl_mv rfl rfl ?_; refine wl_mv rfl rfl ?_; apply wl_val; apply opv_bin; exact rfl; exact rfl; exact bin_add64 (by omega); exact rfl; apply wl_byK (T := tyB) (hr := hrx) (hb := hy); exact rfl; exact rfl; exact rfl; exact rfl; exact rfl; intro _; refine wl_bin rfl rfl bin_neq rfl ?_; refine wl_ns ?_
            refine wc_cond rfl (fun h5 => ?_) (fun h5 => ?_)
            · have h6 : ¬ y = 255 := fun e => h5 (by rw [e]; rfl)
              refine wc_sr ?_; refine wl_as rfl rfl ?_; refine wl_as rfl rfl ?_; refine wl_as rfl rfl ?_; refine wl_ns ?_; refine wc_ret ?_; refine we_seq_ret ?_; refine we_block_ret ?_; refine we_loop_ret ?_; refine we_block_ret ?_; refine we_seq_ret ?_
              exact we_ret3 rfl rfl rfl rfl ⟨_, rfl, RetG.err (getOrd_bad hq (heq.trans (by rw [hd, hd2, got_bad h1' h6]))) hb⟩
            · obtain rfl : y = 255 := UInt8.toNat_inj.1 (by simp; omega)
              refine wc_skip ?_; refine we_seq ?_; refine wc_sr ?_; refine wl_mv rfl rfl ?_
              refine wl_push (vs := [_]) tyB rfl ho ⟨rfl, rfl, rfl, trivial⟩ rfl (by decide) rfl (by omega) (by simp only [maxLen]; omega) hsz rfl rfl fun p2 A2 c2 w2 ho2 hg2 hat2 => ?_
              refine wl_as rfl rfl ?_; refine wl_ns ?_; refine wc_region ?_; refine wl_mv rfl rfl ?_; apply wl_val; apply opv_bin; exact rfl; exact rfl; exact bin_add64 (by omega); exact rfl; refine wl_as rfl rfl ?_; refine wl_nil ?_; refine we_block_norm ?_
              refine we_loop [(0, .slice A xs.length c), (7, .slice A2 (acc ++ [0]).length c2), (8, .int .i64 ((q + (n + 2) : Nat) : Int))] (xs.length - (q + (n + 2))) ⟨n + 2, acc ++ [0], A2, c2, rfl, by omega, by simp; omega, ?_, OwB.snoc ho2 rfl, hg2.below hb ho (Nat.le_refl _) hsz, rfl⟩ (by omega) ⟨rfl, ?_, ?_, trivial⟩
              · rw [heq, hd, hd2, got_esc]; rfl
              · simp; rfl
              · rw [show ((q + (n + 2) : Nat) : Int) = ((q + n : Nat) : Int) + 2 by omega]; rfl
    · have hlast : xs.drop (q + n) = [] := List.drop_of_length_le (by omega)
      refine wc_exit ?_; refine we_seq_exit ?_; refine we_loop_exit ?_; refine we_block_exit ?_; refine we_seq ?_; refine wc_sr ?_; refine wl_as rfl rfl ?_; refine wl_as rfl rfl ?_; refine wl_as rfl rfl ?_; refine wl_ns ?_; refine wc_ret ?_
      exact we_ret3 rfl rfl rfl rfl ⟨_, rfl, RetG.err (getOrd_bad hq (heq.trans (by rw [hlast, got_nil]))) hb⟩

theorem getOrd_at {A : Option Addr} {n c : Nat} {xs ys : List UInt8} {p x : Int} {e : Nat} {w : World} (h : getOrd xs p = (ys, x, e)) (hr : RdB w A xs) (hn : xs.length = n) (hl : xs.length ≤ 1099511627776) :
    CallsV Try.prog 70 #[.slice A n c, .int .i64 p] w fun v w' => ∃ A' c', v = .tuple #[.slice A' ys.length c', .int .i64 x, .int .i64 (e : Int)] ∧ OwB w' w.heap.size A' c' ys ∧ Below w.heap.size w w' := by
  have := getOrd_any (p := p) (c := c) hr hn hl
  rw [h] at this
  exact this
theorem refGetOrd_at {A : Option Addr} {n c : Nat} {xs ys : List UInt8} {p x : Int} {e : Nat} {w : World} (h : getOrd xs p = (ys, x, e)) (hr : RdB w A xs) (hn : xs.length = n) (hl : xs.length ≤ 1099511627776) :
    CallsV Try.prog 73 #[.slice A n c, .int .i64 p] w fun v w' => ∃ A' c', v = .tuple #[.slice A' ys.length c', .int .i64 x, .int .i64 (e : Int)] ∧ OwB w' w.heap.size A' c' ys ∧ Below w.heap.size w w' := by
  have := refGetOrd_any (p := p) (c := c) hr hn hl
  rw [h] at this
  exact this
end Go.Proofs.Ytcjiecclmepboaa
