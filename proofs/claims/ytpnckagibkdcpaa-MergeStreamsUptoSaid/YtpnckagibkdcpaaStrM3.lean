/-
  The texts of this proof, joined: Jd, Zc, Je, Jf, Jg, Jh, Ji, Jj, Jk, Jp.
-/
import Derived.Test.YtpnckagibkdcpaaStrM2

/-
  Walks over Insert, Sorted, few of lists of entries.
-/
namespace Go.Proofs.Ytpnckagibkdcpaa
open Go.RowKit

theorem enE_one {w : World} {S : Nat → Prop} {l : List En} {css : List (List Value)} (h : Grp 4 w S (l.map enEl) css) : ∀ u ∈ css.flatten, u.oneCell' = true := by
  intro u hu
  obtain ⟨cs, hcs, hu⟩ := List.mem_flatten.1 hu
  obtain ⟨i, hi, rfl⟩ := List.getElem_of_mem hcs
  obtain ⟨_, E, hE, hp⟩ := h.2 i _ (List.getElem?_eq_getElem hi)
  rw [List.getElem?_map] at hE
  cases hx : l[i]? with
  | none => rw [hx] at hE; cases hE
  | some x =>
    rw [hx] at hE; cases hE
    obtain ⟨A, c, B, d, h0, _⟩ := hp
    rw [h0] at hu
    simp [enV] at hu
    rcases hu with rfl | rfl | rfl | rfl <;> rfl
/-- Where an entry belongs, sought from the end on. -/
def posE (l : List En) (e : En) : Nat → Nat
  | 0 => 0
  | k + 1 => match l[k]? with
    | some x => if lessE e x then posE l e k else k + 1
    | none => k + 1
theorem posE_le (l : List En) (e : En) : ∀ k, posE l e k ≤ k
  | 0 => Nat.le_refl _
  | k + 1 => by
    rw [posE]
    have := posE_le l e k
    split
    · split <;> omega
    · omega
def insE (l : List En) (e : En) : List En := l.take (posE l e l.length) ++ [e] ++ l.drop (posE l e l.length)
theorem insE_length (l : List En) (e : En) : (insE l e).length = l.length + 1 := by
  have := posE_le l e l.length
  rw [insE]; simp; omega
theorem raw_cut {w : World} {S : BS} {A : Option Addr} {css : List (List Value)} {k c l h n : Nat} (hr : RdR k w S A (css.map rawEl)) (hn : css.length = n) (h1 : l ≤ h) (h2 : h ≤ n) (hc : n ≤ c) : RdR k w S (cutK A c l k) (((css.take h).drop l).map rawEl) := by
  have := RdR.cut hr (by simpa using hn) h1 h2 hc
  rwa [← List.map_take, ← List.map_drop] at this
theorem mem_flat_cut {css : List (List Value)} {l h : Nat} {p : Value → Prop} (hp : ∀ u ∈ css.flatten, p u) : ∀ u ∈ ((css.take h).drop l).flatten, p u := fun u hu => by
  obtain ⟨cs, hcs, hu⟩ := List.mem_flatten.1 hu
  exact hp u (List.mem_flatten.2 ⟨cs, List.mem_of_mem_take (List.mem_of_mem_drop hcs), hu⟩)
theorem slice_eq {A : Option Addr} {n m c : Nat} (h : n = m) : Value.slice A n c = Value.slice A m c := by rw [h]
set_option maxRecDepth 4000 in
theorem insert_any {S : BS} {A B D : Option Addr} {n c b d : Nat} {l : List En} {e : En} {w : World} (hr : RdR 4 w S A (l.map enEl)) (hn : l.length = n) (hc : n ≤ c) (he : (enEl e).P w S (enV e B b D d)) (hok : ∀ x ∈ l, x.key.length ≤ maxLen) (hoe : e.key.length ≤ maxLen) (hl : l.length ≤ 4294967296) :
    CallsV Try.prog 57 #[.slice A n c, .agg (enV e B b D d).toArray] w fun v w' => ∃ P cp, v = .slice P (insE l e).length cp ∧ OwR 4 56 w' w.heap.size S P cp ((insE l e).map enEl) ∧ Below w.heap.size w w' := by
  subst hn
  have hmax : maxLen = 9223372036854775807 := rfl
  have hs := St.init w
  obtain ⟨_, _, _, _, hev, re, _, _, _⟩ := enEl.rd he
  simp only [enV, List.cons.injEq, Value.slice.injEq, true_and, and_true] at hev
  obtain ⟨⟨rfl, rfl⟩, rfl, rfl⟩ := hev
  obtain ⟨css, hg, hraw⟩ := RdR.to_raw hr
  have hcl : css.length = l.length := by rw [hg.1]; simp
  have hone := enE_one hg
  refine calls_in (N := _) Try.func57 rfl Try.ntmps57 rfl ?_; show WC _ _ _ _ _ _
  refine wc_sr ?_
  refine ws_box (cs := enV e B b D d) hs rfl rfl ?_; clear hs; intro g2 _ hs
  refine wl_as rfl rfl ?_; refine wl_ns ?_; refine wc_sr ?_; refine wl_mv rfl rfl ?_; apply wl_val; apply opv_len; exact rfl; exact tkE.sl; exact rfl; refine wl_as rfl rfl ?_; refine wl_ns ?_; refine wc_seq ?_; refine wc_block ?_
  refine wc_loop (fun L wr m => ∃ k : Nat, L = [(0, .slice A l.length c), (3, .pointer (some ⟨g2, 0, none⟩)), (5, .int .i64 (k : Int))] ∧ k ≤ l.length ∧ posE l e k = posE l e l.length ∧ St NoB w wr [.blk g2 56 (enV e B b D d)] ∧ k = m)
    [(0, .slice A l.length c), (3, .pointer (some ⟨g2, 0, none⟩)), (5, .int .i64 (l.length : Int))] l.length ⟨l.length, rfl, by omega, rfl, hs, rfl⟩ ⟨rfl, rfl, rfl, trivial⟩ ?_
  clear hs
  rintro _ w1 m ⟨k, rfl, hk, hpos, hs, rfl⟩
  have hstop : (posE l e l.length = k ∧ ((k = 0 ∧ True) ∨ ∃ j x, k = j + 1 ∧ l[j]? = some x ∧ lessE e x = false)) ∨ ∃ j x, k = j + 1 ∧ l[j]? = some x ∧ lessE e x = true ∧ posE l e j = posE l e l.length := by
    rw [← hpos]
    cases k with
    | zero => exact .inl ⟨rfl, .inl ⟨rfl, trivial⟩⟩
    | succ j =>
      have hx : l[j]? = some (l[j]'(by omega)) := List.getElem?_eq_getElem (by omega)
      cases h : lessE e (l[j]'(by omega)) with
      | false => exact .inl ⟨by rw [posE, hx]; simp [h], .inr ⟨j, _, rfl, hx, h⟩⟩
      | true => exact .inr ⟨j, _, rfl, hx, h, by rw [posE, hx]; simp [h]⟩
  refine wc_seq ?_; refine wc_seq ?_
  refine wc_cutE (fun L' w' => ∃ q : Bool, L' = [(0, .slice A l.length c), (3, .pointer (some ⟨g2, 0, none⟩)), (5, .int .i64 (k : Int)), (19, .bool q)] ∧ St NoB w w' [.blk g2 56 (enV e B b D d)] ∧ (if q then ∃ j x, k = j + 1 ∧ l[j]? = some x ∧ posE l e j = posE l e l.length else posE l e l.length = k)) ?_ ?_
  · rcases hstop with ⟨hpk, ⟨rfl, _⟩ | ⟨j, x, rfl, hx, hless⟩⟩ | ⟨j, x, rfl, hx, hless, hpj⟩
    · refine wc_drawB mixed (by kernel_rfl) ?_
      apply wq_val; intro _ hw_; apply opv_move; exact rfl; exact rfl; apply wq_val; intro _ hw_; apply opv_bin; exact rfl; exact rfl; exact bin_gtr; exact rfl; apply wq_val; intro _ hw_; apply opv_move; exact rfl; exact rfl; apply wq_skip; exact rfl; exact rfl; exact rfl; refine bFn ?_; omega; exact rfl; apply wq_skip; exact rfl; exact rfl; exact rfl; refine bFn ?_; omega; exact rfl; apply wq_skip; exact rfl; exact rfl; exact rfl; refine bFn ?_; omega; exact rfl; apply wq_skip; exact rfl; exact rfl; exact rfl; refine bFn ?_; omega; exact rfl; apply wq_skip; exact rfl; exact rfl; exact rfl; refine bFn ?_; omega; exact rfl; apply wq_skip; exact rfl; exact rfl; exact rfl; refine bFn ?_; omega; exact rfl; apply wq_skip; exact rfl; exact rfl; exact rfl; refine bFn ?_; omega; exact rfl; apply wq_val; intro _ hw_; apply opv_pickF; exact rfl; refine bF ?_; omega; exact rfl; exact rfl; refine wq_nil fun w1 hw1 => ?_
      exact we_cut _ ⟨false, rfl, hs.below hw1, hpk⟩ ⟨rfl, rfl, rfl, rfl, trivial⟩
    · obtain ⟨b1, o1, cs, rfl, _, _, hp, i1⟩ := RdR.at (k := 4) (by decide) hr (E := enEl x) (i := j) (by rw [List.getElem?_map, hx]; rfl)
      obtain ⟨X, cx, Y, cy, rfl, rx, _, _, _⟩ := enEl.rd (El.all hp)
      replace i1 := i1.below hs.bel
      have hj : (0 : Int) < ((j + 1 : Nat) : Int) := by omega
      refine wc_drawB mixed (by kernel_rfl) ?_
      apply wq_val; intro _ hw_; apply opv_move; exact rfl; exact rfl; apply wq_val; intro _ hw_; apply opv_bin; exact rfl; exact rfl; exact bin_gtr; exact rfl; apply wq_val; intro _ hw_; apply opv_move; exact rfl; exact rfl; apply wq_take; exact rfl; exact rfl; exact rfl; refine bT ?_; (with_reducible assumption); apply wq_val; intro _ hw_; apply opv_loadX; exact rfl; exact Ar.bel (hs.ar 0 rfl) hw_; exact sE; exact rfl; apply wq_take; exact rfl; exact rfl; exact rfl; refine bT ?_; (with_reducible assumption); apply wq_val; intro _ hw_; apply opv_move; exact rfl; exact rfl; apply wq_take; exact rfl; exact rfl; exact rfl; refine bT ?_; (with_reducible assumption); apply wq_val; intro _ hw_; apply opv_move; exact rfl; exact rfl; apply wq_take; exact rfl; exact rfl; exact rfl; refine bT ?_; (with_reducible assumption); apply wq_val; intro _ hw_; apply opv_bin; exact rfl; exact rfl; exact bin_sub64 (by omega); exact rfl; apply wq_take; exact rfl; exact rfl; exact rfl; refine bT ?_; (with_reducible assumption); apply wq_val; intro _ hw_; apply opv_idxG tkE; exact rfl; exact rfl; exact natc_pred; omega; exact rfl; apply wq_take; exact rfl; exact rfl; exact rfl; refine bT ?_; (with_reducible assumption); apply wq_val; intro _ hw_; apply opv_ldG; exact rfl; exact Wi.below (by assumption) hw_; exact sE; exact rfl; apply wq_take; exact rfl; exact rfl; exact rfl; refine bT ?_; (with_reducible assumption)
      refine wq_call (v := .bool false) ok_caissonref07_Less (fun w' hw => (refLess_any ((re.below hs.bel).below hw) ((rx.below hs.bel).below hw) hoe (hok x (List.mem_of_getElem? hx))).mono (fun v w2 h2 => ⟨by rw [h2.1, hless], hw.trans (h2.2.mono hw.size)⟩)) ⟨rfl, rfl, trivial⟩ rfl ?_
      apply wq_val; intro _ hw_; apply opv_pickT; exact rfl; refine bT ?_; (with_reducible assumption); exact rfl; exact rfl; refine wq_nil fun w1 hw1 => ?_
      exact we_cut _ ⟨false, rfl, hs.below hw1, hpk⟩ ⟨rfl, rfl, rfl, rfl, trivial⟩
    · obtain ⟨b1, o1, cs, rfl, _, _, hp, i1⟩ := RdR.at (k := 4) (by decide) hr (E := enEl x) (i := j) (by rw [List.getElem?_map, hx]; rfl)
      obtain ⟨X, cx, Y, cy, rfl, rx, _, _, _⟩ := enEl.rd (El.all hp)
      replace i1 := i1.below hs.bel
      have hj : (0 : Int) < ((j + 1 : Nat) : Int) := by omega
      refine wc_drawB mixed (by kernel_rfl) ?_
      apply wq_val; intro _ hw_; apply opv_move; exact rfl; exact rfl; apply wq_val; intro _ hw_; apply opv_bin; exact rfl; exact rfl; exact bin_gtr; exact rfl; apply wq_val; intro _ hw_; apply opv_move; exact rfl; exact rfl; apply wq_take; exact rfl; exact rfl; exact rfl; refine bT ?_; (with_reducible assumption); apply wq_val; intro _ hw_; apply opv_loadX; exact rfl; exact Ar.bel (hs.ar 0 rfl) hw_; exact sE; exact rfl; apply wq_take; exact rfl; exact rfl; exact rfl; refine bT ?_; (with_reducible assumption); apply wq_val; intro _ hw_; apply opv_move; exact rfl; exact rfl; apply wq_take; exact rfl; exact rfl; exact rfl; refine bT ?_; (with_reducible assumption); apply wq_val; intro _ hw_; apply opv_move; exact rfl; exact rfl; apply wq_take; exact rfl; exact rfl; exact rfl; refine bT ?_; (with_reducible assumption); apply wq_val; intro _ hw_; apply opv_bin; exact rfl; exact rfl; exact bin_sub64 (by omega); exact rfl; apply wq_take; exact rfl; exact rfl; exact rfl; refine bT ?_; (with_reducible assumption); apply wq_val; intro _ hw_; apply opv_idxG tkE; exact rfl; exact rfl; exact natc_pred; omega; exact rfl; apply wq_take; exact rfl; exact rfl; exact rfl; refine bT ?_; (with_reducible assumption); apply wq_val; intro _ hw_; apply opv_ldG; exact rfl; exact Wi.below (by assumption) hw_; exact sE; exact rfl; apply wq_take; exact rfl; exact rfl; exact rfl; refine bT ?_; (with_reducible assumption)
      refine wq_call (v := .bool true) ok_caissonref07_Less (fun w' hw => (refLess_any ((re.below hs.bel).below hw) ((rx.below hs.bel).below hw) hoe (hok x (List.mem_of_getElem? hx))).mono (fun v w2 h2 => ⟨by rw [h2.1, hless], hw.trans (h2.2.mono hw.size)⟩)) ⟨rfl, rfl, trivial⟩ rfl ?_
      apply wq_val; intro _ hw_; apply opv_pickT; exact rfl; refine bT ?_; (with_reducible assumption); exact rfl; exact rfl; refine wq_nil fun w1 hw1 => ?_
      exact we_cut _ ⟨true, rfl, hs.below hw1, j, x, rfl, hx, hpj⟩ ⟨rfl, rfl, rfl, rfl, trivial⟩
  clear hs hstop hpos
  rintro _ w2 ⟨q, rfl, hs, hq⟩
  cases q with
  | true =>
    obtain ⟨j, x, rfl, hx, hpj⟩ := hq
    refine we_seq ?_; apply wc_condTb; exact rfl; exact rfl; refine wc_skip ?_; refine we_seq ?_; refine wc_block ?_; refine wc_region ?_; refine wl_mv rfl rfl ?_; apply wl_val; apply opv_bin; exact rfl; exact rfl; exact bin_sub64 (by omega); exact rfl; refine wl_as rfl rfl ?_; refine wl_nil ?_; refine we_block_norm ?_
    refine we_loop _ j ⟨j, rfl, by omega, hpj, hs, rfl⟩ (by omega) ⟨rfl, rfl, by simp [lookT] <;> omega, trivial⟩
  | false =>
    have hpk : posE l e l.length = k := hq
    have hins : insE l e = l.take k ++ [e] ++ l.drop k := by rw [insE, hpk]
    have hlen : (insE l e).length = l.length + 1 := insE_length l e
    refine we_seq ?_; apply wc_condFb; exact rfl; exact rfl; refine wc_exit ?_; refine we_seq_exit ?_; refine we_loop_exit ?_; refine we_block_exit ?_; refine we_seq ?_; refine wc_sr ?_
    refine ws_bsG0 (k := 4) (e := 56) hs (opv_bsG0 tkE) rfl ?_
    clear hs; intro R w3 hs
    refine wl_mv rfl rfl ?_; refine wl_mv rfl rfl ?_
    refine wl_slK (l := 0) (h := k) tkE rfl rfl ⟨_, rfl⟩ (by omega) (by omega) rfl ?_
    refine ws_appR hs 0 rfl rfl tkE rfl rfl (raw_cut (hraw.below hs.bel) hcl (Nat.zero_le k) hk hc) (by simp; omega) (mem_flat_cut hone) (by omega) (by simp only [maxLen]; omega) rfl ?_
    clear hs; intro R2 c2 w4 hs; dsimp only [setC] at hs
    refine wl_as rfl rfl ?_; refine wl_ns ?_; refine wc_sr ?_; refine wl_mv rfl rfl ?_; apply wl_val; apply opv_loadX; exact rfl; exact hs.ar 1 rfl; exact sE; exact rfl
    refine ws_pushR (cs := enV e B b D d) hs 0 (fun _ => rfl) rfl tkE (by simp; omega) ⟨_, rfl, rfl⟩ rfl rfl (by decide) (by omega) (by simp only [maxLen]; omega) rfl rfl ?_
    clear hs; intro _ R3 c3 w5 hs; dsimp only [setC] at hs
    refine wl_as rfl rfl ?_; refine wl_ns ?_; refine wc_sr ?_; refine wl_mv rfl rfl ?_; refine wl_mv rfl rfl ?_; refine wl_mv rfl rfl ?_
    refine wl_slK (l := k) (h := l.length) tkE rfl ⟨_, rfl⟩ rfl (by omega) hc rfl ?_
    refine ws_appR hs 0 rfl rfl tkE (by simp; omega) rfl (raw_cut (hraw.below hs.bel) hcl hk (Nat.le_refl _) hc) (by simp; omega) (mem_flat_cut hone) (by omega) (by simp only [maxLen]; omega) rfl ?_
    clear hs; intro R4 c4 w6 hs; dsimp only [setC] at hs
    refine wl_as rfl rfl ?_; refine wl_ns ?_; refine wc_ret ?_
    refine we_ret1 rfl rfl ⟨_, rfl, R4, c4, slice_eq (by rw [hlen]; omega), ?_, hs.bel⟩
    rw [hins]
    refine St.rawOut (css := css.take k ++ [enV e B b D d] ++ css.drop k) hs 0 ?_ ?_
    · show some _ = some _
      congr 2
      simp [← hcl]
    · have := ((hg.take k).append (Grp.one he rfl)).append (hg.drop k)
      simpa using this
end Go.Proofs.Ytpnckagibkdcpaa


/-
  The engine's rules for a region whose order Go leaves open and which stores at its end: up to the first store (number m, for which all others wait) operations that yield one value in every world of a class are taken first; from there on the class no longer counts. Nothing here names the program.
-/
namespace Go.Proofs.Ytpnckagibkdcpaa
open Go.RowKit

def AnyM (P : Program) (ops : Array Oper) (Q : Exit → Act → World → Prop) (S : World → Prop) (m : Nat) : Nat → Array Bool → Act → World → Prop
  | 0, listed, a, w => Region.ready .any ops listed = [] ∧ Q .normal a w
  | fuel + 1, listed, a, w =>
    (Region.ready .any ops listed = [] → Q .normal a w) ∧
    ∀ i ∈ Region.ready .any ops listed, wpOp P ops Q i (fun a' w' => ((listed.setIfInBounds i true).getD m false = false → S w') ∧ AnyM P ops Q S m fuel (listed.setIfInBounds i true) a' w') a w
section
variable {P : Program} {ops : Array Oper} {Q : Exit → Act → World → Prop} {S : World → Prop} {m : Nat}
theorem any_of_M : ∀ (fuel : Nat) (listed : Array Bool) (a : Act) (w : World), AnyM P ops Q S m fuel listed a w → wpAny P .any ops Q fuel listed a w
  | 0, _, _, _, h => h
  | fuel + 1, _, _, _, h => ⟨h.1, fun i hi => wpOp_mono (fun a' w' h' => any_of_M fuel _ a' w' h'.2) (h.2 i hi)⟩
theorem anyM_first {i : Nat} {oi om : Oper} {v : Value} (hi : ops[i]? = some oi) (hsel : ∀ (j : Nat) (o : Oper) cs b, ops[j]? = some o → o.op ≠ .select cs b)
    (hQ : ∀ c a w, Q (.panic c) (a.put oi.dst v) w → Q (.panic c) a w) (hm : ops[m]? = some om) (hmi : m ≠ i) (hwait : ∃ e ∈ om.after, Region.binds .any e = true ∧ e.on = i) :
    ∀ (fuel : Nat) (listed : Array Bool) (a : Act) (w : World),
      (∀ j oj, ops[j]? = some oj → j ≠ i → listed.getD j true = false → (∀ e ∈ oj.after, Region.binds .any e = true → e.on ≠ i) → oi.apart ops oj = true) →
      i ∈ Region.ready .any ops listed → YieldsIf P ops S oi v a → S w → listed.getD m false = false →
      AnyM P ops Q S m fuel (listed.setIfInBounds i true) (a.put oi.dst v) w → AnyM P ops Q S m (fuel + 1) listed a w := by
  have hset : ∀ (l : Array Bool) (j : Nat), m ≠ j → (l.setIfInBounds j true).getD m false = l.getD m false := fun l j h => getD_set_ne false (Ne.symm h)
  intro fuel
  induction fuel with
  | zero =>
    intro listed a w _ hr hy hS hlm H
    refine ⟨fun h => (by rw [h] at hr; cases hr), fun j hj => ?_⟩
    by_cases hji : j = i
    · subst hji; exact hy.wpOp hi hS ⟨fun _ => hS, H⟩
    · have := ready_mono hj hji
      rw [H.1] at this
      cases this
  | succ fuel ih =>
    intro listed a w hfree hr hy hS hlm H
    refine ⟨fun h => (by rw [h] at hr; cases hr), fun j hj => ?_⟩
    by_cases hji : j = i
    · subst hji; exact hy.wpOp hi hS ⟨fun _ => hS, H⟩
    · have h1 := H.2 j (ready_mono hj hji)
      obtain ⟨hjun, oj, hoj, hall⟩ := mem_ready.1 hj
      have hnot : ∀ e ∈ oj.after, Region.binds .any e = true → e.on ≠ i := fun e he hb heq => by
        have h1 := hall e he hb
        have h0 := (mem_ready.1 hr).1
        rw [heq] at h1
        rcases Nat.lt_or_ge i listed.size with h' | h'
        · simp [h'] at h0 h1; rw [h0] at h1; cases h1
        · simp [Array.getElem?_eq_none h'] at h1
      have hjm : m ≠ j := by
        rintro rfl
        rw [hm] at hoj; cases hoj
        obtain ⟨e, he, hb, hon⟩ := hwait
        exact hnot e he hb hon
      have h2 := wpOp_putIf hoj (hfree j oj hoj hji hjun hnot) (fun cs b => hsel i oi cs b hi) (fun cs b => hsel j oj cs b hoj) hQ hy h1
      have hfree' : ∀ k ok, ops[k]? = some ok → k ≠ i → (listed.setIfInBounds j true).getD k true = false →
          (∀ e ∈ ok.after, Region.binds .any e = true → e.on ≠ i) → oi.apart ops ok = true := fun k ok hk hki hun hno => by
        refine hfree k ok hk hki ?_ hno
        by_cases hjk : j = k
        · subst hjk; exact hjun
        · rw [getD_set_ne true hjk] at hun; exact hun
      have hl2 : (listed.setIfInBounds j true).getD m false = false := by rw [hset _ _ hjm]; exact hlm
      refine wpOp_mono (fun a' w' h3 => ?_) h2
      have hSw : S w' := h3.2.1 (by rw [hset _ _ hjm, hset _ _ hmi]; exact hlm)
      refine ⟨fun _ => hSw, ih (listed.setIfInBounds j true) a' w' hfree' (ready_mono hr (Ne.symm hji)) h3.1 hSw hl2 ?_⟩
      rw [Array.setIfInBounds_comm _ _ hji]
      exact h3.2.2
theorem anyM_firstP {i : Nat} {oi : Oper} {v : Value} (hi : ops[i]? = some oi) (hsel : ∀ (j : Nat) (o : Oper) cs b, ops[j]? = some o → o.op ≠ .select cs b)
    (hQ : ∀ c a w, Q (.panic c) (a.put oi.dst v) w → Q (.panic c) a w) (hmi : m ≠ i) :
    ∀ (fuel : Nat) (listed : Array Bool) (a : Act) (w : World),
      (∀ j oj, ops[j]? = some oj → j ≠ i → listed.getD j true = false → (∀ e ∈ oj.after, Region.binds .any e = true → e.on ≠ i) → oi.apart ops oj = true) →
      i ∈ Region.ready .any ops listed → YieldsIf P ops (fun _ => True) oi v a → (listed.getD m false = false → S w) →
      AnyM P ops Q S m fuel (listed.setIfInBounds i true) (a.put oi.dst v) w → AnyM P ops Q S m (fuel + 1) listed a w := by
  have hset : ∀ (l : Array Bool) (j : Nat), m ≠ j → (l.setIfInBounds j true).getD m false = l.getD m false := fun l j h => getD_set_ne false (Ne.symm h)
  intro fuel
  induction fuel with
  | zero =>
    intro listed a w _ hr hy hS H
    refine ⟨fun h => (by rw [h] at hr; cases hr), fun j hj => ?_⟩
    by_cases hji : j = i
    · subst hji; exact hy.wpOp hi trivial ⟨fun h => hS (by rw [← hset _ _ hmi]; exact h), H⟩
    · have := ready_mono hj hji
      rw [H.1] at this
      cases this
  | succ fuel ih =>
    intro listed a w hfree hr hy hS H
    refine ⟨fun h => (by rw [h] at hr; cases hr), fun j hj => ?_⟩
    by_cases hji : j = i
    · subst hji; exact hy.wpOp hi trivial ⟨fun h => hS (by rw [← hset _ _ hmi]; exact h), H⟩
    · have h1 := H.2 j (ready_mono hj hji)
      obtain ⟨hjun, oj, hoj, hall⟩ := mem_ready.1 hj
      have hnot : ∀ e ∈ oj.after, Region.binds .any e = true → e.on ≠ i := fun e he hb heq => by
        have h1 := hall e he hb
        have h0 := (mem_ready.1 hr).1
        rw [heq] at h1
        rcases Nat.lt_or_ge i listed.size with h' | h'
        · simp [h'] at h0 h1; rw [h0] at h1; cases h1
        · simp [Array.getElem?_eq_none h'] at h1
      have h2 := wpOp_putIf hoj (hfree j oj hoj hji hjun hnot) (fun cs b => hsel i oi cs b hi) (fun cs b => hsel j oj cs b hoj) hQ hy h1
      have hfree' : ∀ k ok, ops[k]? = some ok → k ≠ i → (listed.setIfInBounds j true).getD k true = false →
          (∀ e ∈ ok.after, Region.binds .any e = true → e.on ≠ i) → oi.apart ops ok = true := fun k ok hk hki hun hno => by
        refine hfree k ok hk hki ?_ hno
        by_cases hjk : j = k
        · subst hjk; exact hjun
        · rw [getD_set_ne true hjk] at hun; exact hun
      refine wpOp_mono (fun a' w' h3 => ?_) h2
      have hSw : (listed.setIfInBounds j true).getD m false = false → S w' := fun h => h3.2.1 (by rw [Array.setIfInBounds_comm _ _ (Ne.symm hji), hset _ _ hmi]; exact h)
      refine ⟨hSw, ih (listed.setIfInBounds j true) a' w' hfree' (ready_mono hr (Ne.symm hji)) h3.1 hSw ?_⟩
      rw [Array.setIfInBounds_comm _ _ hji]
      exact h3.2.2
end

def waits (ops : Array Oper) (m i : Nat) : Bool := match ops[m]? with
  | some o => o.after.toList.any fun e => Region.binds .any e && Nat.beq e.on i
  | none => false
def okM (ops : Array Oper) (listed : Array Bool) (m i : Nat) : Bool := okAt ops listed i && (waits ops m i && (!Nat.beq m i && !listed.getD m false))
def WM (P : Program) (N : Nat) (ops : Array Oper) (Q : Exit → Act → World → Prop) (S : World → Prop) (m fuel : Nat) (listed : Array Bool) (L : FL) (w : World) : Prop :=
  ∀ a, Has N a L → AnyM P ops (NoPanic Q) S m fuel listed a w
def HeldM (P : Program) (ops : Array Oper) (Q : Exit → Act → World → Prop) (S : World → Prop) (m fuel : Nat) (listed : Array Bool) : Exit → Act → World → Prop :=
  Exit.then (fun a w => (listed.getD m false = false → S w) ∧ AnyM P ops (NoPanic Q) S m fuel listed a w) (NoPanic Q)
section
variable {P : Program} {N : Nat} {ops : Array Oper} {Q : Exit → Act → World → Prop} {S : World → Prop} {m fuel : Nat} {listed : Array Bool} {L : FL} {w : World}
theorem wc_heldM (m : Nat) {id : Nat} {l : List Oper} (hm : P.follows .mixedOrders = true) (h : ∀ w1, Below w.heap.size w w1 → WM P N l.toArray Q (Below w.heap.size w) m l.length (Array.replicate l.length false) L w1) : WC P N (.region id l.toArray true) Q L w := fun a ha =>
  wp_region_noPanic (wp_region_any hm (any_of_M (S := Below w.heap.size w) (m := m) _ _ _ _ (by simpa using h _ ((Below.refl _ _).drew) a ha)))
theorem okM_of {i : Nat} (h : okM ops listed m i = true) : okAt ops listed i = true ∧ (∃ om, ops[m]? = some om ∧ ∃ e ∈ om.after, Region.binds .any e = true ∧ e.on = i) ∧ m ≠ i ∧ listed.getD m false = false := by
  simp only [okM, Bool.and_eq_true, Bool.not_eq_true'] at h
  obtain ⟨h1, h2, h3, h4⟩ := h
  refine ⟨h1, ?_, Nat.ne_of_beq_eq_false h3, h4⟩
  unfold waits at h2
  split at h2
  · rename_i o ho
    obtain ⟨e, he, hb⟩ := List.any_eq_true.1 h2
    rw [Bool.and_eq_true] at hb
    exact ⟨o, ho, e, by simpa using he, hb.1, Nat.eq_of_beq_eq_true hb.2⟩
  · cases h2
theorem wm_done (hr : Region.ready .any ops listed = []) (h : WE N Q .normal L w) : WM P N ops Q S m fuel listed L w := fun a ha => by
  have hq : NoPanic Q .normal a w := NoPanic.normal (h a ha)
  cases fuel with
  | zero => exact ⟨hr, hq⟩
  | succ fuel => exact ⟨fun _ => hq, by rw [hr]; simp⟩
theorem anyM_take {i : Nat} {o : Oper} {v : Value} {a : Act} (hi : ops[i]? = some o) (hk : okM ops listed m i = true) (hS : S w) (hy : YieldsIf P ops S o v a)
    (h : AnyM P ops (NoPanic Q) S m fuel (listed.setIfInBounds i true) (a.put o.dst v) w) : AnyM P ops (NoPanic Q) S m (fuel + 1) listed a w := by
  obtain ⟨h1, ⟨om, h2, h3⟩, h4, h5⟩ := okM_of hk
  obtain ⟨k1, k2, k3⟩ := okAt_of h1
  exact anyM_first hi (Region.noSelect_spec k1) (fun _ _ _ h => np h) h2 h4 h3 fuel listed a w (Region.free_spec hi k2) (by simpa using k3) hy hS h5 h
theorem wm_take (i : Nat) {d : Nat} {op : Op} {ty : TypeId} {pos : String} {aft : Array Edge} {v : Value} (hi : ops[i]? = some ⟨some d, op, ty, pos, aft, none⟩) (hv : ∀ w, S w → OpV P op ty L w v w) (hd : Nat.blt d N = true) (hk : okM ops listed m i = true) (hS : S w)
    (h : WM P N ops Q S m fuel (listed.setIfInBounds i true) ((d, v) :: L) w) : WM P N ops Q S m (fuel + 1) listed L w := fun a ha =>
  anyM_take hi hk hS (.inl ⟨by simp [Region.wanted], fun w hw => hv w hw a.eval _ (fun x u hx => ha.eval hx) rfl rfl⟩) (h _ (ha.put hd v))
theorem wm_takeG (i : Nat) {d j g : Nat} {b want : Bool} {op : Op} {ty : TypeId} {pos : String} {aft : Array Edge} {v : Value} (hi : ops[i]? = some ⟨some d, op, ty, pos, aft, some (j, want)⟩)
    (hj : (ops[j]?).bind (·.dst) = some g) (hb : lookT L g = some (.bool b)) (hg : Nat.blt g N = true) (he : b = want) (hv : ∀ w, S w → OpV P op ty L w v w) (hd : Nat.blt d N = true) (hk : okM ops listed m i = true) (hS : S w)
    (h : WM P N ops Q S m fuel (listed.setIfInBounds i true) ((d, v) :: L) w) : WM P N ops Q S m (fuel + 1) listed L w := fun a ha => by
  have hy := yielded_of ha hj hb hg
  exact anyM_take hi hk hS (.inl ⟨by simp [Region.wanted, hy, he], fun w hw => hv w hw a.eval _ (fun x u hx => ha.eval hx) rfl rfl⟩) (h _ (ha.put hd v))
theorem wm_skipG (i : Nat) {d j g : Nat} {b want : Bool} {op : Op} {ty : TypeId} {pos : String} {aft : Array Edge} (hi : ops[i]? = some ⟨some d, op, ty, pos, aft, some (j, want)⟩)
    (hj : (ops[j]?).bind (·.dst) = some g) (hb : lookT L g = some (.bool b)) (hg : Nat.blt g N = true) (he : b = !want) (hd : Nat.blt d N = true) (hk : okM ops listed m i = true) (hS : S w)
    (h : WM P N ops Q S m fuel (listed.setIfInBounds i true) ((d, undef) :: L) w) : WM P N ops Q S m (fuel + 1) listed L w := fun a ha => by
  have hy := yielded_of ha hj hb hg
  exact anyM_take hi hk hS (.inr ⟨by simp [Region.wanted, hy, he], rfl⟩) (h _ (ha.put hd undef))
theorem wm_skipU (i : Nat) {d j g : Nat} {want : Bool} {op : Op} {ty : TypeId} {pos : String} {aft : Array Edge} (hi : ops[i]? = some ⟨some d, op, ty, pos, aft, some (j, want)⟩)
    (hj : (ops[j]?).bind (·.dst) = some g) (hb : lookT L g = some undef) (hg : Nat.blt g N = true) (hd : Nat.blt d N = true) (hk : okM ops listed m i = true) (hS : S w)
    (h : WM P N ops Q S m fuel (listed.setIfInBounds i true) ((d, undef) :: L) w) : WM P N ops Q S m (fuel + 1) listed L w := fun a ha => by
  have hy := yielded_undef ha hj hb hg
  exact anyM_take hi hk hS (.inr ⟨by simp [Region.wanted, hy], rfl⟩) (h _ (ha.put hd undef))
/-- The same of an operation that does not look at the world. -/
theorem wm_takeP (i : Nat) {d : Nat} {op : Op} {ty : TypeId} {pos : String} {aft : Array Edge} {v : Value} (hi : ops[i]? = some ⟨some d, op, ty, pos, aft, none⟩) (hv : ∀ w, OpV P op ty L w v w) (hd : Nat.blt d N = true) (hk : (okAt ops listed i && !Nat.beq m i) = true) (hS : listed.getD m false = false → S w)
    (h : WM P N ops Q S m fuel (listed.setIfInBounds i true) ((d, v) :: L) w) : WM P N ops Q S m (fuel + 1) listed L w := fun a ha => by
  rw [Bool.and_eq_true, Bool.not_eq_true'] at hk
  obtain ⟨k1, k2, k3⟩ := okAt_of hk.1
  exact anyM_firstP hi (Region.noSelect_spec k1) (fun _ _ _ h => np h) (Nat.ne_of_beq_eq_false hk.2) fuel listed a w (Region.free_spec hi k2) (by simpa using k3) (.inl ⟨by simp [Region.wanted], fun w _ => hv w a.eval _ (fun x u hx => ha.eval hx) rfl rfl⟩) hS (h _ (ha.put hd v))
/-- One operation alone may come up. -/
theorem wm_one (i : Nat) {o : Oper} (hr : Region.ready .any ops listed = [i]) (hi : ops[i]? = some o)
    (h : WL P N ops (HeldM P ops Q S m fuel (listed.setIfInBounds i true)) [o] L w) : WM P N ops Q S m (fuel + 1) listed L w := fun a ha => by
  refine ⟨fun h0 => absurd (hr ▸ h0) (by simp), hr ▸ fun i' hi' => ?_⟩
  obtain rfl : i' = i := by simpa using hi'
  have h' := h a ha
  unfold wpOp
  simp only [hi]
  unfold wpList at h'
  split
  · rename_i hw
    rw [if_pos hw] at h'
    rcases h' with h' | ⟨ha, a0, w0, h'⟩
    · exact .inl (upon_mono (fun a w h => h) (fun e a w he h => by cases e <;> first | exact absurd rfl he | exact h) h')
    · exact .inr ⟨ha, a0, w0, h'⟩
  · rename_i hw
    rw [if_neg hw] at h'
    exact h'
/-- Two may come up. -/
theorem wm_two (i j : Nat) {o o' : Oper} (hr : Region.ready .any ops listed = [i, j]) (hi : ops[i]? = some o) (hj : ops[j]? = some o')
    (h : WL P N ops (HeldM P ops Q S m fuel (listed.setIfInBounds i true)) [o] L w) (h' : WL P N ops (HeldM P ops Q S m fuel (listed.setIfInBounds j true)) [o'] L w) : WM P N ops Q S m (fuel + 1) listed L w := fun a ha => by
  have key : ∀ {i : Nat} {o : Oper}, ops[i]? = some o → WL P N ops (HeldM P ops Q S m fuel (listed.setIfInBounds i true)) [o] L w → wpOp P ops (NoPanic Q) i (fun a' w' => ((listed.setIfInBounds i true).getD m false = false → S w') ∧ AnyM P ops (NoPanic Q) S m fuel (listed.setIfInBounds i true) a' w') a w := by
    intro i o hi h
    have h' := h a ha
    unfold wpOp
    simp only [hi]
    unfold wpList at h'
    split
    · rename_i hw
      rw [if_pos hw] at h'
      rcases h' with h' | ⟨ha, a0, w0, h'⟩
      · exact .inl (upon_mono (fun a w h => h) (fun e a w he h => by cases e <;> first | exact absurd rfl he | exact h) h')
      · exact .inr ⟨ha, a0, w0, h'⟩
    · rename_i hw
      rw [if_neg hw] at h'
      exact h'
  refine ⟨fun h0 => absurd (hr ▸ h0) (by simp), hr ▸ fun i' hi' => ?_⟩
  rw [List.mem_cons, List.mem_singleton] at hi'
  rcases hi' with rfl | rfl
  · exact key hi h
  · exact key hj h'
theorem we_heldM (hS : listed.getD m false = false → S w) (h : WM P N ops Q S m fuel listed L w) : WE N (HeldM P ops Q S m fuel listed) .normal L w := fun a ha => ⟨hS, h a ha⟩
end
end Go.Proofs.Ytpnckagibkdcpaa


/-
  Walks over twin and twins of the program.
-/
namespace Go.Proofs.Ytpnckagibkdcpaa
open Go.RowKit

/-- An entry whose lists lie in memory of their own. -/
def enOw (x : En) (A : Option Addr) (c : Nat) (B : Option Addr) (d : Nat) : List Cd := [.ow 5 A x.key.length c (bvs x.key), .ow 5 B x.val.length d (bvs x.val)]
/-- An entry and where its lists lie. -/
structure EnA where
  x : En
  A : Option Addr
  c : Nat
  B : Option Addr
  d : Nat
def eaV (a : EnA) : List Value := enV a.x a.A a.c a.B a.d
def enM (a : EnA) : List Cd := enOw a.x a.A a.c a.B a.d
/-- An entry's cells, its lists in memory of their own that lies apart. -/
def oE (x : En) : El := ⟨fun w S cs => ∃ A c B d, cs = enV x A c B d ∧ Sat w (enOw x A c B d) S, fun ⟨A, c, B, d, h, h2⟩ hz hm => ⟨A, c, B, d, h, h2.move hz hm⟩⟩
def RetE2 (w : World) (x : En) (v : Value) (w' : World) : Prop := ∃ (A : Option Addr) (c : Nat) (B : Option Addr) (d : Nat), v = .agg (enV x A c B d).toArray ∧ St NoB w w' (enOw x A c B d)
theorem ow_cap {w : World} {A : Option Addr} {n c base : Nat} {e : TypeId} {xs : List Value} (h : Ow w base e A n c xs) : n ≤ c := by
  rcases h.2 with ⟨hv, hn⟩ | ⟨g, cap, cur, hv, _, _, hnc, _⟩
  · omega
  · injection hv with _ _ hc; omega
theorem byEl_of {w : World} {S : BS} {A : Option Addr} {c : Nat} {xs : List UInt8} (h : (Cd.ow 5 A xs.length c (bvs xs)).P w S) : (byEl xs).P w S [.slice A xs.length c] := ⟨A, c, rfl, ow_cap h.2, h.2.rd, fun a ha _ => h.1 a ha⟩
theorem enEl_of {x : En} {A B : Option Addr} {c d : Nat} (w : World) (S : BS) (h : Sat w (enOw x A c B d) S) : (Cd.ce (enEl x) (enV x A c B d)).P w S := by
  obtain ⟨T, hT, h1, U, hU, h2, _⟩ := h
  exact enEl.mk (El.mono (byEl_of h1) fun b _ h => hT b h) (El.mono (byEl_of h2) fun b _ h => (hU b h).1)
theorem oE_en {x : En} {w : World} {S : BS} {cs : List Value} (h : (oE x).P w S cs) : (enEl x).P w S cs := by
  obtain ⟨A, c, B, d, rfl, h⟩ := h
  exact enEl_of w S h
theorem oE_of {x : En} {A B : Option Addr} {c d : Nat} (w : World) (S : BS) (h : Sat w (enOw x A c B d) S) : (Cd.ce (oE x) (enV x A c B d)).P w S := ⟨A, c, B, d, rfl, h⟩
theorem grp_en {k : Nat} {w : World} {S : BS} {l : List En} {css : List (List Value)} (h : Grp k w S (l.map oE) css) : Grp k w S (l.map enEl) css := ⟨by rw [h.1]; simp, fun i cs hi => by
  obtain ⟨h1, E, h2, h3⟩ := h.2 i cs hi
  refine ⟨h1, ?_⟩
  rw [List.getElem?_map] at h2 ⊢
  cases hx : l[i]? with
  | none => rw [hx] at h2; cases h2
  | some x => rw [hx] at h2; cases h2; exact ⟨_, rfl, oE_en h3⟩⟩
theorem owr_en {k base c : Nat} {e : TypeId} {w : World} {S : BS} {A : Option Addr} {l : List En} (h : OwR k e w base S A c (l.map oE)) : OwR k e w base S A c (l.map enEl) := by
  obtain ⟨css, h1, h2⟩ := h
  exact ⟨css, grp_en h1, by simpa using h2⟩
/-- Rows of entries that lie apart, read. -/
theorem St.rsE {M : BS} {w0 w : World} {H : List Cd} {e : TypeId} {A : Option Addr} {c : Nat} {l : List En} (hs : St M w0 w H) (i : Nat) (hi : nthC H i = some (.ck (rsC 4 e A c (l.map oE)))) : OwR 4 e w 0 All A c (l.map enEl) := owr_en (hs.rs i hi)
theorem St.weakE {M : BS} {w0 w : World} {H : List Cd} {e : TypeId} {A : Option Addr} {c : Nat} {l : List En} (hs : St M w0 w (.ck (rsC 4 e A c (l.map oE)) :: H)) : St M w0 w (.rg 4 e A c (l.map enEl) :: H) := hs.map fun _ h => h.mapC fun _ h => ⟨(rs_rg h).1, owr_en (rs_rg h).2⟩
/-- A row of entries that lie apart, its entries told one by one. -/
theorem rs_es {e : TypeId} {A : Option Addr} {c : Nat} {l : List En} {w : World} {T : BS} (h : (rsC 4 e A c (l.map oE)).P w T) : ∃ es : List EnA, es.map (·.x) = l ∧ Sat w (.rg 4 e A c (es.map fun a => rawEl (eaV a)) :: es.flatMap enM) T := by
  obtain ⟨css, hl, U, hU, h1, h2⟩ := h
  have key : ∀ (l : List En) (css : List (List Value)) (S : BS), css.length = l.length → Sat w (zipCe (l.map oE) css) S → ∃ es : List EnA, es.map (·.x) = l ∧ es.map eaV = css ∧ Sat w (es.flatMap enM) S := by
    intro l
    induction l with
    | nil => intro css S h _; exact ⟨[], rfl, (List.eq_nil_of_length_eq_zero h).symm, trivial⟩
    | cons x l ih =>
      intro css S h hs
      cases css with
      | nil => simp at h
      | cons cs css =>
        obtain ⟨T, hT, ⟨A, c, B, d, hcs, he⟩, hr⟩ := hs
        obtain ⟨es, e1, e2, e3⟩ := ih css _ (by simpa using h) hr
        exact ⟨⟨x, A, c, B, d⟩ :: es, by simp [e1], by simp [e2, hcs, eaV], Sat.join hT he e3⟩
  obtain ⟨es, e1, e2, e3⟩ := key l css _ (by simpa using hl) h2
  refine ⟨es, e1, U, hU, ?_, e3⟩
  rw [show (es.map fun a => rawEl (eaV a)) = (es.map eaV).map rawEl by simp, e2]
  exact h1
theorem zip_one {l : List En} {css : List (List Value)} {w : World} {S : BS} (h : Sat w (zipCe (l.map oE) css) S) (hl : css.length = (l.map oE).length) : ∀ u ∈ css.flatten, u.oneCell' = true := by
  refine enE_one (w := w) (S := S) (grp_en (k := 4) (zipCe_grp h hl fun cs hcs => ?_))
  have key : ∀ (l : List En) (css : List (List Value)) (S : BS), css.length = l.length → Sat w (zipCe (l.map oE) css) S → ∀ cs ∈ css, cs.length = 4 := by
    intro l
    induction l with
    | nil => intro css S h _; have := List.eq_nil_of_length_eq_zero h; subst this; simp
    | cons x l ih =>
      intro css S h hs
      cases css with
      | nil => simp at h
      | cons cs css =>
        obtain ⟨T, hT, ⟨A, c, B, d, hcs, he⟩, hr⟩ := hs
        intro cs' h'
        rcases List.mem_cons.1 h' with rfl | h'
        · rw [hcs]; rfl
        · exact ih css _ (by simpa using h) hr cs' h'
  exact key l css S (by simpa using hl) h cs hcs
theorem mtwin_any {x : En} {A B : Option Addr} {c d : Nat} {w : World} (rx : RdB w A x.key) (rx2 : RdB w B x.val) (hl : x.key.length ≤ 140737488355328) (hl2 : x.val.length ≤ 140737488355328) :
    CallsV Try.prog 54 #[.agg (enV x A c B d).toArray] w (RetE2 w x) := by
  have hs := St.init w
  refine calls_in (N := _) Try.func54 rfl Try.ntmps54 rfl ?_; show WC _ _ _ _ _ _
  refine wc_sr ?_
  refine ws_box (cs := enV x A c B d) hs rfl rfl ?_; clear hs; intro g1 _ hs
  refine ws_new hs zeroE rfl ?_; clear hs; intro g2 _ hs
  refine wl_ns ?_; refine wc_seq ?_
  unfold enV at hs
  refine wc_heldM 7 mixed fun w_ hS => ?_
  apply wm_take 0; exact rfl; intro _ hw_; apply opv_fa; exact fa_sE (by decide); exact rfl; exact rfl; kernel_rfl; exact hS; apply wm_take 1; exact rfl; intro _ hw_; apply opv_ldX; exact rfl; exact Ar.bel (hs.ar 1 rfl) hw_; exact e1_by; exact rfl; exact rfl; kernel_rfl; exact hS; apply wm_take 3; exact rfl; intro _ hw_; apply opv_fa; exact fa_sE (by decide); exact rfl; exact rfl; kernel_rfl; exact hS; apply wm_take 4; exact rfl; intro _ hw_; apply opv_ldX; exact rfl; exact Ar.bel (hs.ar 1 rfl) hw_; exact e1_by; exact rfl; exact rfl; kernel_rfl; exact hS
  replace hs := hs.below hS
  refine wm_one 2 (by kernel_rfl) rfl ?_; dsimp only [List.getElem_toArray, List.getElem_cons_succ, List.getElem_cons_zero]
  refine wl_call ok_bytes_Clone (clone_any (rx.below hs.bel) rfl hl) ⟨rfl, trivial⟩ rfl ?_; rintro _ _ ⟨C, e, rfl, o_, hbx⟩; replace hs := hs.newO hbx o_ (Nat.le_refl _); try dsimp only [List.cons_append, List.nil_append, setC, delC] at hs
  replace hS := hS.trans (hbx.mono hS.size)
  refine wl_nil ?_
  refine we_heldM (fun _ => hS) ?_
  apply wm_take 6; exact rfl; intro _ hw_; apply opv_fa; exact fa_sE (by decide); exact rfl; exact rfl; kernel_rfl; exact hS
  refine wm_one 5 (by kernel_rfl) rfl ?_; dsimp only [List.getElem_toArray, List.getElem_cons_succ, List.getElem_cons_zero]
  refine wl_call ok_bytes_Clone (clone_any (rx2.below hs.bel) rfl hl2) ⟨rfl, trivial⟩ rfl ?_; rintro _ _ ⟨D, f, rfl, o_, hbx⟩; replace hs := hs.newO hbx o_ (Nat.le_refl _); try dsimp only [List.cons_append, List.nil_append, setC, delC] at hs
  replace hS := hS.trans (hbx.mono hS.size)
  refine wl_nil ?_
  refine we_heldM (fun _ => hS) ?_
  refine wm_one 7 (by kernel_rfl) rfl ?_; dsimp only [List.getElem_toArray, List.getElem_cons_succ, List.getElem_cons_zero]
  apply ws_st hs 3; exact rfl; exact rfl; exact e1_by; exact rfl; exact rfl; exact rfl; clear hs; intro _ hs; dsimp only [setC, List.set] at hs; refine wl_nil ?_
  refine we_heldM (fun h => absurd h (by decide)) ?_
  refine wm_one 8 (by kernel_rfl) rfl ?_; dsimp only [List.getElem_toArray, List.getElem_cons_succ, List.getElem_cons_zero]
  apply wl_val; apply opv_fa; exact fa_sE (by decide); exact rfl; exact rfl; refine wl_nil ?_
  refine we_heldM (fun h => absurd h (by decide)) ?_
  refine wm_one 9 (by kernel_rfl) rfl ?_; dsimp only [List.getElem_toArray, List.getElem_cons_succ, List.getElem_cons_zero]
  apply ws_st hs 3; exact rfl; exact rfl; exact e1_by; exact rfl; exact rfl; exact rfl; clear hs; intro _ hs; dsimp only [setC, List.set] at hs; refine wl_nil ?_
  refine we_heldM (fun h => absurd h (by decide)) ?_
  refine wm_done (by kernel_rfl) ?_
  refine we_seq ?_; refine wc_sr ?_; apply wl_val; apply opv_loadX; exact rfl; exact hs.ar 3 rfl; exact sE; exact rfl; apply ws_stS hs 2; exact rfl; exact rfl; exact rfl; exact sE; exact rfl; exact rfl; clear hs; intro _ hs; dsimp only [setC] at hs; refine wl_ns ?_; refine wc_ret ?_
  exact we_retC rfl rfl (hs.ar 2 rfl) sE ⟨_, rfl, C, e, D, f, rfl, (((hs.drop 2 rfl).drop 2 rfl).front 1 rfl)⟩
end Go.Proofs.Ytpnckagibkdcpaa


/-
  Walks over few, at, runs, Sorted of lists of entries.
-/
namespace Go.Proofs.Ytpnckagibkdcpaa
open Go.RowKit

theorem natc_succ {k : Nat} : (k : Int) + 1 = ((k + 1 : Nat) : Int) := by omega
theorem cutK_zero (A : Option Addr) (c k : Nat) : cutK A c 0 k = A := by
  unfold cutK
  split
  · rfl
  · cases A with
    | none => rfl
    | some a => simp [Addr.add]
theorem few_any {A : Option Addr} {n c m : Nat} {l : List En} {w : World} (hn : l.length = n) (hc : n ≤ c) :
    CallsV Try.prog 22 #[.slice A n c, .int .i64 (m : Int)] w fun v w' => v = .slice A (l.take m).length c ∧ w = w' := by
  subst hn
  refine calls_in (N := _) Try.func22 rfl Try.ntmps22 rfl ?_; show WC _ _ _ _ _ _
  refine wc_sr ?_; refine wl_as rfl rfl ?_; refine wl_ns ?_; refine wc_seq ?_; refine wc_sr ?_; refine wl_mv rfl rfl ?_; apply wl_val; apply opv_len; exact rfl; exact tkE.sl; exact rfl; refine wl_mv rfl rfl ?_; refine wl_bin rfl rfl bin_gtr rfl ?_; refine wl_ns ?_
  refine wc_cond rfl (fun h1 => ?_) (fun h1 => ?_)
  · refine wc_region ?_; refine wl_mv rfl rfl ?_; refine wl_mv rfl rfl ?_
    refine wl_slK (l := 0) (h := m) tkE rfl rfl ⟨_, rfl⟩ (by omega) (by omega) rfl ?_
    rw [cutK_zero]
    refine wl_as rfl rfl ?_; refine wl_ns ?_; refine wc_sr ?_; refine wl_mv rfl rfl ?_; refine wl_as rfl rfl ?_; refine wl_ns ?_; refine wc_ret ?_
    exact we_ret1 rfl rfl ⟨_, rfl, slice_eq (by simp; omega), rfl⟩
  · refine wc_skip ?_; refine we_seq ?_; refine wc_sr ?_; refine wl_mv rfl rfl ?_; refine wl_as rfl rfl ?_; refine wl_ns ?_; refine wc_ret ?_
    exact we_ret1 rfl rfl ⟨_, rfl, slice_eq (by simp; omega), rfl⟩
theorem take_rdr {w : World} {S : BS} {A : Option Addr} {l : List En} {c m : Nat} (h : RdR 4 w S A (l.map enEl)) (hc : l.length ≤ c) : RdR 4 w S A ((l.take m).map enEl) := by
  rcases Nat.lt_or_ge m l.length with h1 | h1
  · have := RdR.cut h (by simp) (Nat.zero_le m) (Nat.le_of_lt h1) hc
    rw [cutK_zero, List.drop_zero, ← List.map_take] at this
    exact this
  · rw [List.take_of_length_le h1]; exact h
/-- The first that isn't above a moment. -/
def atE (run : List En) (m : Nat) : Option Nat := run.findIdx? fun x => decide (x.seq ≤ m)
def atV (o : Option Nat) : Int := match o with | some i => (i : Int) | none => -1
theorem findIdx_at {α : Type} {p : α → Bool} {l : List α} {k : Nat} {x : α} (h : l[k]? = some x) (hn : ∀ i y, i < k → l[i]? = some y → p y = false) (hp : p x = true) : l.findIdx? p = some k := by
  rw [List.findIdx?_eq_some_iff_getElem]
  obtain ⟨hk, rfl⟩ := List.getElem?_eq_some_iff.1 h
  exact ⟨hk, hp, fun j hj => by simp [hn j l[j] hj (List.getElem?_eq_getElem (by omega))]⟩
theorem at_any {A : Option Addr} {n c m : Nat} {l : List En} {w : World} (hr : RdR 4 w All A (l.map enEl)) (hn : l.length = n) (hl : l.length ≤ 4294967296) :
    CallsV Try.prog 53 #[.slice A n c, .int .u64 (m : Int)] w fun v w' => v = .int .i64 (atV (atE l m)) ∧ Below w.heap.size w w' := by
  subst hn
  have hs := St.init w
  refine calls_in (N := _) Try.func53 rfl Try.ntmps53 rfl ?_; show WC _ _ _ _ _ _
  refine wc_sr ?_; refine wl_as rfl rfl ?_; refine wl_ns ?_; refine wc_seq ?_; refine wc_sr ?_; refine wl_mv rfl rfl ?_; apply wl_val; apply opv_len; exact rfl; exact tkE.sl; exact rfl; refine wl_mv rfl rfl ?_; refine wl_ns ?_; refine wc_block ?_
  refine wc_loop (fun L wr mm => ∃ (k : Nat), L = [(1, .int .u64 (m : Int)), (7, .slice A l.length c), (8, .int .i64 (l.length : Int)), (9, .int .i64 (k : Int))] ∧ k ≤ l.length ∧ (∀ i y, i < k → l[i]? = some y → decide (y.seq ≤ m) = false) ∧ St NoB w wr [] ∧ mm = l.length - k)
    [(1, .int .u64 (m : Int)), (7, .slice A l.length c), (8, .int .i64 (l.length : Int)), (9, .int .i64 (0 : Nat))] l.length ⟨0, rfl, by omega, by omega, hs, rfl⟩ ⟨rfl, rfl, rfl, rfl, trivial⟩ ?_
  clear hs
  rintro _ w1 mm ⟨k, rfl, hk, hlow, hs, rfl⟩
  refine wc_sr ?_; refine wl_bin rfl rfl bin_lss rfl ?_; refine wl_ns ?_; refine wc_seq ?_
  refine wc_cond rfl (fun h1 => ?_) (fun h1 => ?_)
  · obtain ⟨x, hx⟩ : ∃ x, l[k]? = some x := ⟨_, List.getElem?_eq_getElem (by omega)⟩
    obtain ⟨b, o, cs, rfl, _, _, hp, i1⟩ := RdR.at (k := 4) (by decide) hr (E := enEl x) (i := k) (by rw [List.getElem?_map, hx]; rfl)
    obtain ⟨X, cx, Y, cy, rfl, _⟩ := enEl.rd hp
    replace i1 := i1.below hs.bel
    refine wc_skip ?_; refine we_seq ?_; refine wc_seq ?_; refine wc_block ?_; refine wc_sr ?_; refine wl_mv rfl rfl ?_; apply wl_val; apply opv_idxG tkE; exact rfl; exact rfl; exact rfl; omega; exact rfl; apply wl_val; apply opv_ldG; exact rfl; assumption; exact sE; exact rfl
    refine ws_new hs zeroE rfl ?_; clear hs; intro g3 _ hs
    refine wl_as rfl rfl ?_; apply ws_stS hs 0; exact rfl; exact rfl; exact rfl; exact sE; exact rfl; exact rfl; clear hs; intro _ hs; dsimp only [setC] at hs; refine wl_ns ?_; refine wc_sr ?_; apply wl_val; apply opv_fa; exact fa_sE (by decide); exact rfl; exact rfl; apply wl_val; apply opv_ldX; exact rfl; exact hs.ar 0 rfl; exact e1_u64; exact rfl; exact rfl; refine wl_mv rfl rfl ?_; refine wl_bin rfl rfl bin_leq rfl ?_; refine wl_ns ?_
    unfold enV at hs
    skip
    by_cases h2 : x.seq ≤ m
    · have h2' : (x.seq : Int) ≤ (m : Int) := by omega
      apply wc_decT; exact rfl; (with_reducible assumption); refine wc_sr ?_; refine wl_mv rfl rfl ?_; refine wl_as rfl rfl ?_; refine wl_ns ?_; refine wc_ret ?_; refine we_block_ret ?_; refine we_seq_ret ?_; refine we_loop_ret ?_; refine we_block_ret ?_; refine we_seq_ret ?_
      exact we_ret1 rfl rfl ⟨_, rfl, by rw [atE, findIdx_at hx hlow (decide_eq_true h2)]; rfl, hs.bel⟩
    · have h2' : ¬ (x.seq : Int) ≤ (m : Int) := by omega
      apply wc_decF; exact rfl; (with_reducible assumption); refine wc_skip ?_; refine we_block_norm ?_; refine we_seq ?_; refine wc_region ?_; apply wl_val; apply opv_bin; exact rfl; exact rfl; exact bin_add64 (by omega); exact rfl; refine wl_mv rfl rfl ?_; refine wl_nil ?_
      refine we_loop _ (l.length - (k + 1)) ⟨k + 1, rfl, by omega, fun i y hi hy => ?_, hs.nil, rfl⟩ (by omega) ⟨rfl, rfl, rfl, by simp [lookT], trivial⟩
      rcases Nat.lt_or_ge i k with h | h
      · exact hlow i y h hy
      · obtain rfl : i = k := by omega
        rw [hx] at hy; cases hy; exact decide_eq_false h2
  · obtain rfl : k = l.length := by omega
    refine wc_exit ?_; refine we_seq_exit ?_; refine we_loop_exit ?_; refine we_block_exit ?_; refine we_seq ?_; refine wc_sr ?_; refine wl_as rfl rfl ?_; refine wl_ns ?_; refine wc_ret ?_
    refine we_ret1 rfl rfl ⟨_, rfl, ?_, hs.bel⟩
    rw [atE, List.findIdx?_eq_none_iff.2 fun x hx => ?_]; · rfl
    obtain ⟨i, hi, rfl⟩ := List.getElem_of_mem hx
    exact hlow i _ hi (List.getElem?_eq_getElem hi)
theorem beq_any {A B : Option Addr} {n m c d : Nat} {xs ys : List UInt8} {w : World} (hx : RdB w A xs) (hy : RdB w B ys) (hn : xs.length = n) (hm : ys.length = m) :
    CallsV Try.prog 69 #[.slice A n c, .slice B m d] w fun v w' => v = .bool (decide (xs = ys)) ∧ w = w' := by
  subst hn hm
  refine calls_in (N := _) Try.func69 rfl Try.ntmps69 rfl ?_; show WC _ _ _ _ _ _
  refine wc_sr ?_; refine wl_as rfl rfl ?_; refine wl_ns ?_; refine wc_sr ?_; refine wl_mv rfl rfl ?_
  refine wl_val (opv_ofBytes Try.underlying24 Try.underlying5 Try.underlying9 rfl hx) rfl ?_
  refine wl_mv rfl rfl ?_
  refine wl_val (opv_ofBytes Try.underlying24 Try.underlying5 Try.underlying9 rfl hy) rfl ?_
  refine wl_bin rfl rfl bin_eqlS rfl ?_; refine wl_as rfl rfl ?_; refine wl_ns ?_; refine wc_ret ?_
  exact we_ret1 rfl rfl ⟨_, rfl, rfl, rfl⟩
/-- The runs of one key, cut out of a list: where they begin. -/
def runsF : List En → List En → List (List En)
  | [], _ => []
  | [x], acc => [acc ++ [x]]
  | x :: y :: l, acc => if x.key = y.key then runsF (y :: l) (acc ++ [x]) else (acc ++ [x]) :: runsF (y :: l) []
def runsE (l : List En) : List (List En) := runsF l []
theorem runs_any {S : BS} {A : Option Addr} {n c : Nat} {l : List En} {w : World} (hr : RdR 4 w S A (l.map enEl)) (hn : l.length = n) (hc : n ≤ c) (hl : l.length ≤ 4294967296) :
    CallsV Try.prog 47 #[.slice A n c] w fun v w' => ∃ P cp, v = .slice P (runsE l).length cp ∧ OwR 1 40 w' w.heap.size S P cp ((runsE l).map fun r => rowEl 4 (r.map enEl)) ∧ Below w.heap.size w w' := by
  subst hn
  have hs := (St.init w).nilG 1 40
  have hmax : maxLen = 9223372036854775807 := rfl
  refine calls_in (N := _) Try.func47 rfl Try.ntmps47 rfl ?_; show WC _ _ _ _ _ _
  refine wc_sr ?_; refine wl_as rfl rfl ?_; refine wl_ns ?_; refine wc_sr ?_; refine wl_as rfl rfl ?_; refine wl_ns ?_; refine wc_sr ?_; refine wl_as rfl rfl ?_; refine wl_ns ?_; refine wc_seq ?_; refine wc_sr ?_; refine wl_mv rfl rfl ?_; apply wl_val; apply opv_len; exact rfl; exact tkE.sl; exact rfl; refine wl_mv rfl rfl ?_; refine wl_ns ?_; refine wc_block ?_
  refine wc_loop (fun L wr mm => ∃ (k q : Nat) (P : Option Addr) (cp : Nat) (css : List (List Value)) (rs : List (List En)), L = [(0, .slice A l.length c), (3, .slice P rs.length cp), (4, .int .i64 (q : Int)), (7, .int .i64 (l.length : Int)), (8, .int .i64 (k : Int))] ∧ k ≤ l.length ∧ q ≤ k ∧ rs.length ≤ k ∧ (k = l.length → q = k) ∧
      runsE l = rs ++ runsF (l.drop k) ((l.take k).drop q) ∧ Grp 1 w S (rs.map fun r => rowEl 4 (r.map enEl)) css ∧ St NoB w wr [.rg 1 40 P cp (css.map rawEl)] ∧ mm = l.length - k)
    [(0, .slice A l.length c), (3, .slice none 0 0), (4, .int .i64 (0 : Nat)), (7, .int .i64 (l.length : Int)), (8, .int .i64 (0 : Nat))] l.length ⟨0, 0, none, 0, [], [], rfl, by omega, by omega, by simp, fun _ => rfl, by simp [runsE], Grp.nil _ _ _, hs, rfl⟩ ⟨rfl, rfl, rfl, rfl, rfl, trivial⟩ ?_
  clear hs
  rintro _ w1 mm ⟨k, q, P, cp, css, rs, rfl, hk, hq, hrs, hqk, hrun, hg, hs, rfl⟩
  refine wc_sr ?_; refine wl_bin rfl rfl bin_lss rfl ?_; refine wl_ns ?_; refine wc_seq ?_
  refine wc_cond rfl (fun h1 => ?_) (fun h1 => ?_)
  · obtain ⟨x, hx⟩ : ∃ x, l[k]? = some x := ⟨_, List.getElem?_eq_getElem (by omega)⟩
    have hd1 : l.drop k = x :: l.drop (k + 1) := by rw [← List.getElem_cons_drop (by omega : k < l.length)]; congr 1; exact (List.getElem?_eq_some_iff.1 hx).2
    have ht1 : (l.take (k + 1)).drop q = (l.take k).drop q ++ [x] := by rw [take_getR hx, List.drop_append_of_le_length (by simp; omega)]
    obtain ⟨b, o, cs, rfl, _, _, hp, i1⟩ := RdR.at (k := 4) (by decide) hr (E := enEl x) (i := k) (by rw [List.getElem?_map, hx]; rfl)
    obtain ⟨X, cx, X2, cx2, rfl, rx, _, _, _⟩ := enEl.rd (El.all hp)
    replace i1 := i1.below hs.bel
    unfold enV at i1
    refine wc_skip ?_; refine we_seq ?_; refine wc_seq ?_; refine wc_block ?_; refine wc_sr ?_; refine wl_mv rfl rfl ?_; refine wl_as rfl rfl ?_; refine wl_ns ?_; refine wc_seq ?_
    refine wc_cutE (fun L' w' => ∃ t : Bool, L' = [(0, .slice (some ⟨b, o, none⟩) l.length c), (3, .slice P rs.length cp), (4, .int .i64 (q : Int)), (5, .int .i64 (k : Int)), (7, .int .i64 (l.length : Int)), (8, .int .i64 (k : Int)), (30, .bool t)] ∧ St NoB w w' [.rg 1 40 P cp (css.map rawEl)] ∧
      (if t then runsE l = (rs ++ [(l.take (k + 1)).drop q]) ++ runsF (l.drop (k + 1)) [] else runsE l = rs ++ runsF (l.drop (k + 1)) ((l.take (k + 1)).drop q) ∧ k + 1 < l.length)) ?_ ?_
    · by_cases h2 : k + 1 = l.length
      · have h2' : ((k + 1 : Nat) : Int) = (l.length : Int) := by omega
        refine wc_drawB mixed (by kernel_rfl) ?_
        apply wq_val; intro _ hw_; apply opv_move; exact rfl; exact rfl; apply wq_val; intro _ hw_; apply opv_bin; exact rfl; exact rfl; exact bin_add64 (by omega); exact rfl; apply wq_val; intro _ hw_; apply opv_move; exact rfl; exact rfl; apply wq_val; intro _ hw_; apply opv_len; exact rfl; exact tkE.sl; exact rfl; apply wq_val; intro _ hw_; apply opv_bin; exact rfl; exact rfl; exact bin_eql; exact rfl; apply wq_val; intro _ hw_; apply opv_move; exact rfl; exact rfl; apply wq_skip; exact rfl; exact rfl; exact rfl; refine bTn ?_; omega; exact rfl; apply wq_skip; exact rfl; exact rfl; exact rfl; refine bTn ?_; omega; exact rfl; apply wq_skip; exact rfl; exact rfl; exact rfl; refine bTn ?_; omega; exact rfl; apply wq_skip; exact rfl; exact rfl; exact rfl; refine bTn ?_; omega; exact rfl; apply wq_skip; exact rfl; exact rfl; exact rfl; refine bTn ?_; omega; exact rfl; apply wq_skip; exact rfl; exact rfl; exact rfl; refine bTn ?_; omega; exact rfl; apply wq_skip; exact rfl; exact rfl; exact rfl; refine bTn ?_; omega; exact rfl; apply wq_skip; exact rfl; exact rfl; exact rfl; refine bTn ?_; omega; exact rfl; apply wq_skip; exact rfl; exact rfl; exact rfl; refine bTn ?_; omega; exact rfl; apply wq_skip; exact rfl; exact rfl; exact rfl; refine bTn ?_; omega; exact rfl; apply wq_skip; exact rfl; exact rfl; exact rfl; refine bTn ?_; omega; exact rfl; apply wq_skip; exact rfl; exact rfl; exact rfl; refine bTn ?_; omega; exact rfl; apply wq_skip; exact rfl; exact rfl; exact rfl; refine bTn ?_; omega; exact rfl; apply wq_val; intro _ hw_; apply opv_pickT; exact rfl; refine bT ?_; omega; exact rfl; exact rfl; refine wq_nil fun w1 hw1 => ?_
        refine we_cut _ ⟨true, rfl, hs.below hw1, ?_⟩ ⟨rfl, rfl, rfl, rfl, rfl, rfl, rfl, trivial⟩
        rw [if_pos rfl, hrun, hd1, ht1, List.drop_of_length_le (i := k + 1) (by omega)]
        simp [runsF]
      · have h2' : ¬ ((k + 1 : Nat) : Int) = (l.length : Int) := by omega
        obtain ⟨y, hy⟩ : ∃ y, l[k + 1]? = some y := ⟨_, List.getElem?_eq_getElem (by omega)⟩
        have hd2 : l.drop (k + 1) = y :: l.drop (k + 1 + 1) := by rw [← List.getElem_cons_drop (by omega : k + 1 < l.length)]; congr 1; exact (List.getElem?_eq_some_iff.1 hy).2
        obtain ⟨b', o', cs', hA, _, _, hp', i2⟩ := RdR.at (k := 4) (by decide) hr (E := enEl y) (i := k + 1) (by rw [List.getElem?_map, hy]; rfl)
        simp only [Option.some.injEq, Addr.mk.injEq, and_true] at hA
        obtain ⟨rfl, rfl⟩ := hA
        obtain ⟨Y, cy, Y2, cy2, rfl, ry, _, _, _⟩ := enEl.rd (El.all hp')
        replace i2 := i2.below hs.bel
        unfold enV at i2
        have hq : ∀ w', Below w1.heap.size w1 w' → CallsV Try.prog 69 #[.slice X x.key.length cx, .slice Y y.key.length cy] w' fun v w2 => v = .bool (decide (x.key = y.key)) ∧ Below w1.heap.size w1 w2 := fun w' hw => (beq_any ((rx.below hs.bel).below hw) ((ry.below hs.bel).below hw) rfl rfl).mono fun v w2 h2 => ⟨h2.1, by rw [← h2.2]; exact hw⟩
        by_cases h3 : x.key = y.key
        · rw [decide_eq_true h3] at hq
          refine wc_drawB mixed (by kernel_rfl) ?_
          apply wq_val; intro _ hw_; apply opv_move; exact rfl; exact rfl; apply wq_val; intro _ hw_; apply opv_bin; exact rfl; exact rfl; exact bin_add64 (by omega); exact rfl; apply wq_val; intro _ hw_; apply opv_move; exact rfl; exact rfl; apply wq_val; intro _ hw_; apply opv_len; exact rfl; exact tkE.sl; exact rfl; apply wq_val; intro _ hw_; apply opv_bin; exact rfl; exact rfl; exact bin_eql; exact rfl; apply wq_val; intro _ hw_; apply opv_move; exact rfl; exact rfl; apply wq_take; exact rfl; exact rfl; exact rfl; refine bF ?_; omega; apply wq_val; intro _ hw_; apply opv_move; exact rfl; exact rfl; apply wq_take; exact rfl; exact rfl; exact rfl; refine bF ?_; omega; apply wq_val; intro _ hw_; apply opv_move; exact rfl; exact rfl; apply wq_take; exact rfl; exact rfl; exact rfl; refine bF ?_; omega; apply wq_val; intro _ hw_; apply opv_idxG tkE; exact rfl; exact rfl; exact rfl; omega; exact rfl; apply wq_take; exact rfl; exact rfl; exact rfl; refine bF ?_; omega; apply wq_val; intro _ hw_; apply opv_fa; exact fa_sE (by decide); exact rfl; exact rfl; apply wq_take; exact rfl; exact rfl; exact rfl; refine bF ?_; omega; apply wq_val; intro _ hw_; apply opv_ldW; exact rfl; exact Wi.below (by assumption) hw_; exact e1_by; exact rfl; exact rfl; apply wq_take; exact rfl; exact rfl; exact rfl; refine bF ?_; omega; apply wq_val; intro _ hw_; apply opv_move; exact rfl; exact rfl; apply wq_take; exact rfl; exact rfl; exact rfl; refine bF ?_; omega; apply wq_val; intro _ hw_; apply opv_move; exact rfl; exact rfl; apply wq_take; exact rfl; exact rfl; exact rfl; refine bF ?_; omega; apply wq_val; intro _ hw_; apply opv_bin; exact rfl; exact rfl; exact bin_add64 (by omega); exact rfl; apply wq_take; exact rfl; exact rfl; exact rfl; refine bF ?_; omega; apply wq_val; intro _ hw_; apply opv_idxG tkE; exact rfl; exact rfl; exact natc_succ; omega; exact rfl; apply wq_take; exact rfl; exact rfl; exact rfl; refine bF ?_; omega; apply wq_val; intro _ hw_; apply opv_fa; exact fa_sE (by decide); exact rfl; exact rfl; apply wq_take; exact rfl; exact rfl; exact rfl; refine bF ?_; omega; apply wq_val; intro _ hw_; apply opv_ldW; exact rfl; exact Wi.below (by assumption) hw_; exact e1_by; exact rfl; exact rfl; apply wq_take; exact rfl; exact rfl; exact rfl; refine bF ?_; omega
          refine wq_call (v := .bool true) ok_bytes_Equal hq ⟨rfl, rfl, trivial⟩ rfl ?_
          apply wq_take; exact rfl; exact rfl; exact rfl; refine bF ?_; omega; apply wq_val; intro _ hw_; apply opv_not; exact rfl; exact rfl; apply wq_val; intro _ hw_; apply opv_pickF; exact rfl; refine bF ?_; omega; exact rfl; exact rfl; refine wq_nil fun w1 hw1 => ?_
          refine we_cut _ ⟨false, rfl, hs.below hw1, ?_⟩ ⟨rfl, rfl, rfl, rfl, rfl, rfl, rfl, trivial⟩
          rw [if_neg (by decide), hrun, hd1, ht1, hd2]
          simp [runsF, h3]; omega
        · rw [decide_eq_false h3] at hq
          refine wc_drawB mixed (by kernel_rfl) ?_
          apply wq_val; intro _ hw_; apply opv_move; exact rfl; exact rfl; apply wq_val; intro _ hw_; apply opv_bin; exact rfl; exact rfl; exact bin_add64 (by omega); exact rfl; apply wq_val; intro _ hw_; apply opv_move; exact rfl; exact rfl; apply wq_val; intro _ hw_; apply opv_len; exact rfl; exact tkE.sl; exact rfl; apply wq_val; intro _ hw_; apply opv_bin; exact rfl; exact rfl; exact bin_eql; exact rfl; apply wq_val; intro _ hw_; apply opv_move; exact rfl; exact rfl; apply wq_take; exact rfl; exact rfl; exact rfl; refine bF ?_; omega; apply wq_val; intro _ hw_; apply opv_move; exact rfl; exact rfl; apply wq_take; exact rfl; exact rfl; exact rfl; refine bF ?_; omega; apply wq_val; intro _ hw_; apply opv_move; exact rfl; exact rfl; apply wq_take; exact rfl; exact rfl; exact rfl; refine bF ?_; omega; apply wq_val; intro _ hw_; apply opv_idxG tkE; exact rfl; exact rfl; exact rfl; omega; exact rfl; apply wq_take; exact rfl; exact rfl; exact rfl; refine bF ?_; omega; apply wq_val; intro _ hw_; apply opv_fa; exact fa_sE (by decide); exact rfl; exact rfl; apply wq_take; exact rfl; exact rfl; exact rfl; refine bF ?_; omega; apply wq_val; intro _ hw_; apply opv_ldW; exact rfl; exact Wi.below (by assumption) hw_; exact e1_by; exact rfl; exact rfl; apply wq_take; exact rfl; exact rfl; exact rfl; refine bF ?_; omega; apply wq_val; intro _ hw_; apply opv_move; exact rfl; exact rfl; apply wq_take; exact rfl; exact rfl; exact rfl; refine bF ?_; omega; apply wq_val; intro _ hw_; apply opv_move; exact rfl; exact rfl; apply wq_take; exact rfl; exact rfl; exact rfl; refine bF ?_; omega; apply wq_val; intro _ hw_; apply opv_bin; exact rfl; exact rfl; exact bin_add64 (by omega); exact rfl; apply wq_take; exact rfl; exact rfl; exact rfl; refine bF ?_; omega; apply wq_val; intro _ hw_; apply opv_idxG tkE; exact rfl; exact rfl; exact natc_succ; omega; exact rfl; apply wq_take; exact rfl; exact rfl; exact rfl; refine bF ?_; omega; apply wq_val; intro _ hw_; apply opv_fa; exact fa_sE (by decide); exact rfl; exact rfl; apply wq_take; exact rfl; exact rfl; exact rfl; refine bF ?_; omega; apply wq_val; intro _ hw_; apply opv_ldW; exact rfl; exact Wi.below (by assumption) hw_; exact e1_by; exact rfl; exact rfl; apply wq_take; exact rfl; exact rfl; exact rfl; refine bF ?_; omega
          refine wq_call (v := .bool false) ok_bytes_Equal hq ⟨rfl, rfl, trivial⟩ rfl ?_
          apply wq_take; exact rfl; exact rfl; exact rfl; refine bF ?_; omega; apply wq_val; intro _ hw_; apply opv_not; exact rfl; exact rfl; apply wq_val; intro _ hw_; apply opv_pickF; exact rfl; refine bF ?_; omega; exact rfl; exact rfl; refine wq_nil fun w1 hw1 => ?_
          refine we_cut _ ⟨true, rfl, hs.below hw1, ?_⟩ ⟨rfl, rfl, rfl, rfl, rfl, rfl, rfl, trivial⟩
          rw [if_pos rfl, hrun, hd1, ht1, hd2]
          simp [runsF, h3]
    clear hs hrun
    rintro _ w2 ⟨t, rfl, hs, ht⟩
    cases t with
    | true =>
      rw [if_pos rfl] at ht
      refine we_seq ?_; apply wc_condTb; exact rfl; exact rfl; refine wc_sr ?_; refine wl_mv rfl rfl ?_; refine wl_mv rfl rfl ?_; refine wl_mv rfl rfl ?_; refine wl_mv rfl rfl ?_; apply wl_val; apply opv_bin; exact rfl; exact rfl; exact bin_add64 (by omega); exact rfl
      refine wl_slK (l := q) (h := k + 1) tkE rfl ⟨_, rfl⟩ ⟨_, rfl⟩ (by omega) (by omega) rfl ?_
      refine ws_pushR (cs := [.slice (cutK (some ⟨b, o, none⟩) c q 4) (k + 1 - q) (c - q)]) hs 0 (fun _ => rfl) rfl tkEE (by have := hg.1; simp at this ⊢; exact this) ⟨_, rfl, rfl⟩ rfl rfl (by decide) (by omega) (by simp only [maxLen]; omega) rfl rfl ?_
      clear hs; intro _ R3 c3 w5 hs; dsimp only [setC] at hs
      refine wl_as rfl rfl ?_; refine wl_ns ?_; refine wc_region ?_; refine wl_mv rfl rfl ?_; apply wl_val; apply opv_bin; exact rfl; exact rfl; exact bin_add64 (by omega); exact rfl; refine wl_as rfl rfl ?_; refine wl_nil ?_; refine we_block_norm ?_; refine we_seq ?_; refine wc_region ?_; apply wl_val; apply opv_bin; exact rfl; exact rfl; exact bin_add64 (by omega); exact rfl; refine wl_mv rfl rfl ?_; refine wl_nil ?_
      refine we_loop _ (l.length - (k + 1)) ⟨k + 1, k + 1, R3, c3, css ++ [[.slice (cutK (some ⟨b, o, none⟩) c q 4) (k + 1 - q) (c - q)]], rs ++ [(l.take (k + 1)).drop q], rfl, by omega, by omega, by simp; omega, fun _ => rfl, ?_, ?_, by simpa using hs, rfl⟩ (by omega) ⟨rfl, by rw [List.length_append]; rfl, by simp [lookT], rfl, by simp [lookT], trivial⟩
      · rw [ht, List.drop_of_length_le (i := k + 1) (l := l.take (k + 1)) (by rw [List.length_take]; omega)]
      · rw [List.map_append]
        refine hg.append (Grp.one ?_ rfl)
        have hcut := RdR.cut hr (by simp) (by omega : q ≤ k + 1) (by omega : k + 1 ≤ l.length) hc
        rw [← List.map_take, ← List.map_drop] at hcut
        have := rowEl.mk hcut (c := c - q) (by simp; omega) (by decide)
        simpa [Nat.min_eq_left (by omega : k + 1 ≤ l.length)] using this
    | false =>
      rw [if_neg (by decide)] at ht
      refine we_seq ?_; apply wc_condFb; exact rfl; exact rfl; refine wc_skip ?_; refine we_block_norm ?_; refine we_seq ?_; refine wc_region ?_; apply wl_val; apply opv_bin; exact rfl; exact rfl; exact bin_add64 (by omega); exact rfl; refine wl_mv rfl rfl ?_; refine wl_nil ?_
      refine we_loop _ (l.length - (k + 1)) ⟨k + 1, q, P, cp, css, rs, rfl, by omega, by omega, by omega, by omega, ht.1, hg, hs, rfl⟩ (by omega) ⟨rfl, rfl, rfl, rfl, by simp [lookT], trivial⟩
  · obtain rfl : k = l.length := by omega
    obtain rfl := hqk rfl
    refine wc_exit ?_; refine we_seq_exit ?_; refine we_loop_exit ?_; refine we_block_exit ?_; refine we_seq ?_; refine wc_sr ?_; refine wl_mv rfl rfl ?_; refine wl_as rfl rfl ?_; refine wl_ns ?_; refine wc_ret ?_
    refine we_ret1 rfl rfl ⟨_, rfl, P, cp, ?_, ?_, hs.bel⟩
    · rw [hrun]; simp [runsF]
    · rw [hrun]; simp [runsF]; exact hs.rawOut 0 rfl hg
end Go.Proofs.Ytpnckagibkdcpaa


/-
  Walks over Sorted, and over the checks of many lists, of the program and of the document.
-/
namespace Go.Proofs.Ytpnckagibkdcpaa
open Go.RowKit

/-- Blocks of a set, or new ones. -/
def Ab (S : BS) (w : World) : BS := fun b => S b ∨ w.heap.size ≤ b
def RetL (w : World) (S : BS) (l : List En) (v : Value) (w' : World) : Prop := ∃ (P : Option Addr) (cp : Nat), v = .slice P l.length cp ∧ l.length ≤ cp ∧ RdR 4 w' (Ab S w) P (l.map enEl) ∧ Below w.heap.size w w'
theorem RdR.below' {k : Nat} {w w' : World} {S : BS} {A : Option Addr} {els : List El} (h : RdR k w S A els) (hb : Below w.heap.size w w') : RdR k w' S A els := RdR.below h hb
theorem RdR.mono {k : Nat} (hk : 0 < k) {w : World} {S S' : BS} {A : Option Addr} {els : List El} (h : RdR k w S A els) (hs : ∀ b, b < w.heap.size → S b → S' b) : RdR k w S' A els := RdR.move hk h (Nat.le_refl _) fun b hb h => ⟨hs b hb h, rfl⟩
theorem OwR.ab {k base c : Nat} {e : TypeId} {w w0 : World} {S : BS} {A : Option Addr} {els : List El} (h : OwR k e w base S A c els) (hb : w0.heap.size ≤ base) : RdR k w (Ab S w0) A els := by
  have hl := OwR.lt h
  obtain ⟨css, h1, h2⟩ := h
  exact ⟨css, h1.mono fun b _ hb => .inl hb.1, own_rd h2, fun a ha _ => .inr (Nat.le_trans hb (hl a ha).1)⟩
def addE (out : List En) (x : En) : List En := if checkE [x] = 0 ∧ inE out x = false then insE out x else out
def sortedE (l : List En) : List En := l.foldl addE []
theorem addE_len (out : List En) (x : En) : (addE out x).length ≤ out.length + 1 := by
  unfold addE; split
  · rw [insE_length]; omega
  · omega
theorem addE_ok {p : En → Prop} {out : List En} {x : En} (h : ∀ y ∈ out, p y) (hx : p x) : ∀ y ∈ addE out x, p y := by
  unfold addE; split
  · intro y hy
    rw [insE, List.mem_append, List.mem_append] at hy
    rcases hy with (hy | hy) | hy
    · exact h y (List.mem_of_mem_take hy)
    · simp at hy; subst hy; exact hx
    · exact h y (List.mem_of_mem_drop hy)
  · exact h
theorem foldl_take {α β : Type} {f : β → α → β} {b : β} {l : List α} {k : Nat} {x : α} (h : l[k]? = some x) : (l.take (k + 1)).foldl f b = f ((l.take k).foldl f b) x := by
  rw [take_getR h, List.foldl_append]; rfl
theorem fold_facts {p : En → Prop} {l : List En} (h : ∀ y ∈ l, p y) : ∀ k, ((l.take k).foldl addE []).length ≤ k ∧ ∀ y ∈ (l.take k).foldl addE [], p y := by
  intro k
  induction k with
  | zero => simp
  | succ k ih =>
    cases hx : l[k]? with
    | none => rw [List.take_of_length_le (by have := List.getElem?_eq_none_iff.1 hx; omega)]; rw [List.take_of_length_le (by have := List.getElem?_eq_none_iff.1 hx; omega)] at ih; exact ⟨by omega, ih.2⟩
    | some x =>
      rw [foldl_take hx]
      exact ⟨by have := addE_len ((l.take k).foldl addE []) x; omega, addE_ok ih.2 (h x (List.mem_of_getElem? hx))⟩
theorem ext_len {l l' : List En} (h : l = l') : l.length = l'.length := by rw [h]
set_option maxRecDepth 4000 in
theorem sorted_any {S : BS} {A : Option Addr} {n c : Nat} {l : List En} {w : World} (hr : RdR 4 w S A (l.map enEl)) (hn : l.length = n) (hok : ∀ x ∈ l, x.key.length ≤ maxLen ∧ x.val.length ≤ maxLen) (hl : l.length ≤ 1048576) :
    CallsV Try.prog 30 #[.slice A n c] w (RetL w S (sortedE l)) := by
  subst hn
  have hmax : maxLen = 9223372036854775807 := rfl
  have hs := St.init w
  refine calls_in (N := _) Try.func30 rfl Try.ntmps30 rfl ?_; show WC _ _ _ _ _ _
  refine wc_sr ?_; refine wl_as rfl rfl ?_; refine wl_ns ?_; refine wc_sr ?_; refine wl_as rfl rfl ?_; refine wl_ns ?_; refine wc_seq ?_; refine wc_sr ?_; refine wl_as rfl rfl ?_; refine wl_ns ?_; refine wc_block ?_
  refine wc_loop (fun L wr mm => ∃ (k : Nat) (P : Option Addr) (cp : Nat) (out : List En), L = [(0, .slice A l.length c), (3, .slice P out.length cp), (4, .int .i64 (k : Int))] ∧ k ≤ l.length ∧ (l.take k).foldl addE [] = out ∧ out.length ≤ cp ∧ RdR 4 wr (Ab S w) P (out.map enEl) ∧ St NoB w wr [] ∧ mm = l.length - k)
    [(0, .slice A l.length c), (3, .slice none 0 0), (4, .int .i64 (0 : Nat))] l.length ⟨0, none, 0, [], rfl, by omega, rfl, by simp, RdR.nil _, hs, rfl⟩ ⟨rfl, rfl, rfl, trivial⟩ ?_
  clear hs
  rintro _ w1 mm ⟨k, P, cp, out, rfl, hk, hout, hcp, hro, hs, rfl⟩
  refine wc_seq ?_; refine wc_sr ?_; refine wl_mv rfl rfl ?_; refine wl_mv rfl rfl ?_; apply wl_val; apply opv_len; exact rfl; exact tkE.sl; exact rfl; refine wl_bin rfl rfl bin_lss rfl ?_; refine wl_ns ?_
  refine wc_cond rfl (fun h1 => ?_) (fun h1 => ?_)
  · obtain ⟨x, hx⟩ : ∃ x, l[k]? = some x := ⟨_, List.getElem?_eq_getElem (by omega)⟩
    have hox := hok x (List.mem_of_getElem? hx)
    have hf := fold_facts (p := fun x => x.key.length ≤ maxLen) (fun y hy => (hok y hy).1) k
    rw [hout] at hf
    have hstep := foldl_take (f := addE) (b := []) hx
    rw [hout, addE] at hstep
    obtain ⟨b, o, cs, rfl, _, _, hp, i1⟩ := RdR.at (k := 4) (by decide) hr (E := enEl x) (i := k) (by rw [List.getElem?_map, hx]; rfl)
    obtain ⟨X, cx, X2, cx2, rfl, rx, _, rx2, _⟩ := enEl.rd (El.all hp)
    have hi := i1.below hs.bel
    have hpw := El.below (El.all hp) hs.bel
    refine wc_skip ?_; refine we_seq ?_; refine wc_seq ?_; refine wc_block ?_; refine wc_sr ?_; refine wl_mv rfl rfl ?_; refine wl_mv rfl rfl ?_; apply wl_val; apply opv_idxG tkE; exact rfl; exact rfl; exact rfl; omega; exact rfl; apply wl_val; apply opv_ldG; exact rfl; assumption; exact sE; exact rfl
    refine wl_bsG (css := [enV x X cx X2 cx2]) tkE ⟨rfl, ⟨_, rfl, rfl⟩, rfl, trivial⟩ (els := [enEl x]) rfl (by decide) (by decide) (Grp.one hpw rfl) rfl fun R w2 hR hbx _ => ?_
    replace hro := hro.below hbx
    replace hs := hs.below hbx
    replace hi := hi.below hbx
    skip
    refine wl_call ok_caissonref07_Check (refCheck_any (l := [x]) (OwR.rd hR) rfl (by simp [maxLen])) ⟨rfl, trivial⟩ rfl ?_; rintro _ _ ⟨rfl, hbx2⟩; replace hs := hs.below hbx2; try dsimp only [List.cons_append, List.nil_append, setC, delC] at hs
    replace hro := hro.below hbx2
    replace hi := hi.below hbx2
    refine wl_cutE (fun L' w' => ∃ t : Bool, L' = [(0, .slice (some ⟨b, o, none⟩) l.length c), (3, .slice P out.length cp), (4, .int .i64 (k : Int)), (26, .bool t)] ∧ St NoB w w' [] ∧ RdR 4 w' (Ab S w) P (out.map enEl) ∧ (t = true ↔ (checkE [x] = 0 ∧ inE out x = false))) ?_ ?_
    · by_cases h2 : checkE [x] = 0
      · have h2' : ((checkE [x] : Nat) : Int) = 0 := by omega
        refine wl_bin rfl rfl bin_eql rfl ?_; refine wl_mv rfl rfl ?_; apply wl_take; exact rfl; exact rfl; exact rfl; refine bT ?_; (with_reducible assumption); refine wl_mv rfl rfl ?_; apply wl_take; exact rfl; exact rfl; exact rfl; refine bT ?_; (with_reducible assumption); refine wl_mv rfl rfl ?_; apply wl_take; exact rfl; exact rfl; exact rfl; refine bT ?_; (with_reducible assumption); refine wl_mv rfl rfl ?_; apply wl_take; exact rfl; exact rfl; exact rfl; refine bT ?_; (with_reducible assumption); apply wl_val; apply opv_idxG tkE; exact rfl; exact rfl; exact rfl; omega; exact rfl; apply wl_take; exact rfl; exact rfl; exact rfl; refine bT ?_; (with_reducible assumption); apply wl_val; apply opv_ldG; exact rfl; assumption; exact sE; exact rfl; apply wl_take; exact rfl; exact rfl; exact rfl; refine bT ?_; (with_reducible assumption)
        refine wl_call ok_caissonref07_In (in_any (e := x) hro.all rfl (rx.below hs.bel) hf.2 (by omega)) ⟨rfl, rfl, trivial⟩ rfl ?_; rintro _ _ ⟨rfl, hbx3⟩; replace hs := hs.below hbx3; try dsimp only [List.cons_append, List.nil_append, setC, delC] at hs
        replace hro := hro.below hbx3
        apply wl_take; exact rfl; exact rfl; exact rfl; refine bT ?_; (with_reducible assumption); apply wl_val; apply opv_not; exact rfl; exact rfl; apply wl_val; apply opv_pickT; exact rfl; refine bT ?_; (with_reducible assumption); exact rfl; exact rfl; refine wl_nil ?_
        refine we_cut _ ⟨!inE out x, rfl, hs, hro, ?_⟩ ⟨rfl, rfl, rfl, rfl, trivial⟩
        simp [h2]
      · have h2' : ¬ ((checkE [x] : Nat) : Int) = 0 := by omega
        refine wl_bin rfl rfl bin_eql rfl ?_; refine wl_mv rfl rfl ?_; apply wl_skip; exact rfl; exact rfl; exact rfl; refine bFn ?_; (with_reducible assumption); exact rfl; apply wl_skip; exact rfl; exact rfl; exact rfl; refine bFn ?_; (with_reducible assumption); exact rfl; apply wl_skip; exact rfl; exact rfl; exact rfl; refine bFn ?_; (with_reducible assumption); exact rfl; apply wl_skip; exact rfl; exact rfl; exact rfl; refine bFn ?_; (with_reducible assumption); exact rfl; apply wl_skip; exact rfl; exact rfl; exact rfl; refine bFn ?_; (with_reducible assumption); exact rfl; apply wl_skip; exact rfl; exact rfl; exact rfl; refine bFn ?_; (with_reducible assumption); exact rfl; apply wl_skip; exact rfl; exact rfl; exact rfl; refine bFn ?_; (with_reducible assumption); exact rfl; apply wl_val; apply opv_pickF; exact rfl; refine bF ?_; (with_reducible assumption); exact rfl; exact rfl; refine wl_nil ?_
        refine we_cut _ ⟨false, rfl, hs, hro, ?_⟩ ⟨rfl, rfl, rfl, rfl, trivial⟩
        simp [h2]
    clear hs hi hro
    rintro _ w4 ⟨t, rfl, hs, hro, ht⟩
    replace hpw := El.below hp hs.bel
    have hi := i1.below hs.bel
    cases t with
    | true =>
      rw [if_pos (ht.1 rfl)] at hstep
      refine we_seq ?_; apply wc_condTb; exact rfl; exact rfl; refine wc_region ?_; refine wl_mv rfl rfl ?_; refine wl_mv rfl rfl ?_; refine wl_mv rfl rfl ?_; apply wl_val; apply opv_idxG tkE; exact rfl; exact rfl; exact rfl; omega; exact rfl; apply wl_val; apply opv_ldG; exact rfl; assumption; exact sE; exact rfl
      refine wl_call ok_caissonref07_Insert (insert_any (e := x) (S := Ab S w) hro rfl hcp (El.mono hpw fun b _ h => .inl h) hf.2 hox.1 (by omega)) ⟨rfl, rfl, trivial⟩ rfl ?_
      rintro _ w5 ⟨P2, cp2, rfl, ho2, hbx4⟩
      have hz4 := hs.size
      replace hs := hs.below hbx4
      refine wl_as rfl rfl ?_; refine wl_nil ?_; refine we_block_norm ?_; refine we_seq ?_; refine wc_region ?_; refine wl_mv rfl rfl ?_; apply wl_val; apply opv_bin; exact rfl; exact rfl; exact bin_add64 (by omega); exact rfl; refine wl_as rfl rfl ?_; refine wl_nil ?_
      refine we_loop _ (l.length - (k + 1)) ⟨k + 1, P2, cp2, insE out x, rfl, by omega, hstep, by have := OwR.len_le ho2; simpa using this, (OwR.ab ho2 (Nat.le_refl _)).mono (by decide) fun b _ h => ?_, hs, rfl⟩ (by omega) ⟨rfl, rfl, by simp [lookT], trivial⟩
      rcases h with h | h
      · exact h
      · exact .inr (by omega)
    | false =>
      rw [if_neg (fun h => by have := ht.2 h; cases this)] at hstep
      refine we_seq ?_; apply wc_condFb; exact rfl; exact rfl; refine wc_skip ?_; refine we_block_norm ?_; refine we_seq ?_; refine wc_region ?_; refine wl_mv rfl rfl ?_; apply wl_val; apply opv_bin; exact rfl; exact rfl; exact bin_add64 (by omega); exact rfl; refine wl_as rfl rfl ?_; refine wl_nil ?_
      refine we_loop _ (l.length - (k + 1)) ⟨k + 1, P, cp, out, rfl, by omega, hstep, hcp, hro, hs, rfl⟩ (by omega) ⟨rfl, rfl, by simp [lookT], trivial⟩
  · obtain rfl : k = l.length := by omega
    rw [List.take_length] at hout
    refine wc_exit ?_; refine we_seq_exit ?_; refine we_loop_exit ?_; refine we_block_exit ?_; refine we_seq ?_; refine wc_sr ?_; refine wl_mv rfl rfl ?_; refine wl_as rfl rfl ?_; refine wl_ns ?_; refine wc_ret ?_
    exact we_ret1 rfl rfl ⟨_, rfl, P, cp, by rw [sortedE, hout], by rw [sortedE, hout]; exact hcp, by rw [sortedE, hout]; exact hro, hs.bel⟩
end Go.Proofs.Ytpnckagibkdcpaa


/-
  Walks over the checks of many lists, of the program and of the document.
-/
namespace Go.Proofs.Ytpnckagibkdcpaa
open Go.RowKit

abbrev rowsE (lists : List (List En)) : List El := lists.map fun l => rowEl 4 (l.map enEl)
theorem rowsE_at {w : World} {S : BS} {A : Option Addr} {lists : List (List En)} {k : Nat} {l : List En} (hr : RdR 1 w S A (rowsE lists)) (hx : lists[k]? = some l) :
    ∃ b o X cx, A = some ⟨b, o, none⟩ ∧ l.length ≤ cx ∧ RdR 4 w S X (l.map enEl) ∧ Wi w b (o + k * 1) [.slice X l.length cx] := by
  obtain ⟨b, o, cs, hA, _, _, hp, hi⟩ := RdR.at (k := 1) (by decide) hr (E := rowEl 4 (l.map enEl)) (i := k) (by rw [List.getElem?_map, hx]; rfl)
  obtain ⟨X, cx, rfl, hc, h, _⟩ := hp
  rw [List.length_map] at hc hi
  exact ⟨b, o, X, cx, hA, hc, h, hi⟩
def errE (l : List En) : Nat := if checkE l = 0 ∧ ordE l = false then 3 else checkE l
def stepW (worst : Nat) (l : List En) : Nat := if errE l ≠ 0 ∧ (worst = 0 ∨ errE l < worst) then errE l else worst
def worstE (lists : List (List En)) : Nat := lists.foldl stepW 0
theorem checkE_le (l : List En) : checkE l = 0 ∨ checkE l = 2 ∨ checkE l = 3 := by
  unfold checkE; split
  · exact .inr (.inl rfl)
  · split
    · exact .inr (.inr rfl)
    · exact .inl rfl
theorem stepW_le {worst : Nat} {l : List En} (h : worst ≤ 3) : stepW worst l ≤ 3 := by
  have := checkE_le l
  have he : errE l ≤ 3 := by unfold errE; split <;> omega
  unfold stepW
  split
  · exact he
  · exact h
theorem foldW_le {lists : List (List En)} : ∀ {w : Nat}, w ≤ 3 → lists.foldl stepW w ≤ 3 := by
  induction lists with
  | nil => intro w h; exact h
  | cons l lists ih => intro w h; exact ih (stepW_le h)
theorem worstE_take {lists : List (List En)} {k : Nat} {l : List En} (h : lists[k]? = some l) : worstE (lists.take (k + 1)) = stepW (worstE (lists.take k)) l := by
  rw [worstE, worstE, take_getR h, List.foldl_append]; rfl
set_option maxRecDepth 4000 in
theorem refCheck11_any {A : Option Addr} {n c : Nat} {lists : List (List En)} {w : World} (hr : RdR 1 w All A (rowsE lists)) (hn : lists.length = n) (hok : ∀ l ∈ lists, l.length ≤ 1048576 ∧ ∀ x ∈ l, x.key.length ≤ maxLen) (hl : lists.length ≤ 1048576) :
    CallsV Try.prog 25 #[.slice A n c] w fun v w' => v = .int .i64 (worstE lists : Nat) ∧ Below w.heap.size w w' := by
  subst hn
  have hmax : maxLen = 9223372036854775807 := rfl
  have hs := St.init w
  refine calls_in (N := _) Try.func25 rfl Try.ntmps25 rfl ?_; show WC _ _ _ _ _ _
  refine wc_sr ?_; refine wl_as rfl rfl ?_; refine wl_ns ?_; refine wc_sr ?_; refine wl_as rfl rfl ?_; refine wl_ns ?_; refine wc_seq ?_; refine wc_sr ?_; refine wl_as rfl rfl ?_; refine wl_ns ?_; refine wc_block ?_
  refine wc_loop (fun L wr mm => ∃ (k : Nat), L = [(0, .slice A lists.length c), (3, .int .i64 (worstE (lists.take k) : Nat)), (4, .int .i64 (k : Int))] ∧ k ≤ lists.length ∧ St NoB w wr [] ∧ mm = lists.length - k)
    [(0, .slice A lists.length c), (3, .int .i64 (0 : Nat)), (4, .int .i64 (0 : Nat))] lists.length ⟨0, rfl, by omega, hs, rfl⟩ ⟨rfl, rfl, rfl, trivial⟩ ?_
  clear hs
  rintro _ w1 mm ⟨k, rfl, hk, hs, rfl⟩
  refine wc_seq ?_; refine wc_sr ?_; refine wl_mv rfl rfl ?_; refine wl_mv rfl rfl ?_; apply wl_val; apply opv_len; exact rfl; exact tkEE.sl; exact rfl; refine wl_bin rfl rfl bin_lss rfl ?_; refine wl_ns ?_
  refine wc_cond rfl (fun h1 => ?_) (fun h1 => ?_)
  · obtain ⟨l, hx⟩ : ∃ l, lists[k]? = some l := ⟨_, List.getElem?_eq_getElem (by omega)⟩
    have hol := hok l (List.mem_of_getElem? hx)
    obtain ⟨b, o, X, cx, rfl, _, rl, j1⟩ := rowsE_at hr hx
    have i1 := j1.below hs.bel
    obtain ⟨worst, hw⟩ : ∃ q, worstE (lists.take k) = q := ⟨_, rfl⟩
    rw [hw]
    refine wc_skip ?_; refine we_seq ?_; refine wc_seq ?_; refine wc_block ?_; refine wc_sr ?_; refine wl_mv rfl rfl ?_; refine wl_mv rfl rfl ?_; apply wl_val; apply opv_idxG tkEE; exact rfl; exact rfl; exact rfl; omega; exact rfl; apply wl_val; apply opv_ldW0; exact rfl; assumption; exact e1_row; exact rfl; exact rfl
    refine wl_call ok_caissonref07_Check (refCheck_any (rl.below hs.bel) rfl (by omega)) ⟨rfl, trivial⟩ rfl ?_; rintro _ _ ⟨rfl, hbx⟩; replace hs := hs.below hbx; try dsimp only [List.cons_append, List.nil_append, setC, delC] at hs
    replace i1 := i1.below hbx
    refine wl_as rfl rfl ?_; refine wl_ns ?_; refine wc_seq ?_; refine wc_sr ?_; refine wl_mv rfl rfl ?_; refine wl_bin rfl rfl bin_eql rfl ?_; refine wl_mv rfl rfl ?_
    refine wl_cutE (fun L' w' => ∃ t : Bool, L' = [(0, .slice (some ⟨b, o, none⟩) lists.length c), (3, .int .i64 (worst : Nat)), (4, .int .i64 (k : Int)), (5, .int .i64 (checkE l : Nat)), (26, .bool t)] ∧ St NoB w w' [] ∧ t = decide (checkE l = 0 ∧ ordE l = false)) ?_ ?_
    · by_cases h2 : checkE l = 0
      · have h2' : ((checkE l : Nat) : Int) = 0 := by omega
        apply wl_take; exact rfl; exact rfl; exact rfl; refine bT ?_; (with_reducible assumption); refine wl_mv rfl rfl ?_; apply wl_take; exact rfl; exact rfl; exact rfl; refine bT ?_; (with_reducible assumption); refine wl_mv rfl rfl ?_; apply wl_take; exact rfl; exact rfl; exact rfl; refine bT ?_; (with_reducible assumption); apply wl_val; apply opv_idxG tkEE; exact rfl; exact rfl; exact rfl; omega; exact rfl; apply wl_take; exact rfl; exact rfl; exact rfl; refine bT ?_; (with_reducible assumption); apply wl_val; apply opv_ldW0; exact rfl; assumption; exact e1_row; exact rfl; exact rfl; apply wl_take; exact rfl; exact rfl; exact rfl; refine bT ?_; (with_reducible assumption)
        refine wl_call ok_caissonref10_Ordered (ordered_any (rl.below hs.bel) rfl (by omega) hol.2) ⟨rfl, trivial⟩ rfl ?_; rintro _ _ ⟨rfl, hbx3⟩; replace hs := hs.below hbx3; try dsimp only [List.cons_append, List.nil_append, setC, delC] at hs
        apply wl_take; exact rfl; exact rfl; exact rfl; refine bT ?_; (with_reducible assumption); apply wl_val; apply opv_not; exact rfl; exact rfl; apply wl_val; apply opv_pickT; exact rfl; refine bT ?_; (with_reducible assumption); exact rfl; exact rfl; refine wl_nil ?_
        refine we_cut _ ⟨!ordE l, rfl, hs, ?_⟩ ⟨rfl, rfl, rfl, rfl, rfl, trivial⟩
        cases ordE l <;> simp [h2]
      · have h2' : ¬ ((checkE l : Nat) : Int) = 0 := by omega
        apply wl_skip; exact rfl; exact rfl; exact rfl; refine bFn ?_; (with_reducible assumption); exact rfl; apply wl_skip; exact rfl; exact rfl; exact rfl; refine bFn ?_; (with_reducible assumption); exact rfl; apply wl_skip; exact rfl; exact rfl; exact rfl; refine bFn ?_; (with_reducible assumption); exact rfl; apply wl_skip; exact rfl; exact rfl; exact rfl; refine bFn ?_; (with_reducible assumption); exact rfl; apply wl_skip; exact rfl; exact rfl; exact rfl; refine bFn ?_; (with_reducible assumption); exact rfl; apply wl_skip; exact rfl; exact rfl; exact rfl; refine bFn ?_; (with_reducible assumption); exact rfl; apply wl_val; apply opv_pickF; exact rfl; refine bF ?_; (with_reducible assumption); exact rfl; exact rfl; refine wl_nil ?_
        refine we_cut _ ⟨false, rfl, hs, ?_⟩ ⟨rfl, rfl, rfl, rfl, rfl, trivial⟩
        simp [h2]
    clear hs i1
    rintro _ w4 ⟨t, rfl, hs, ht⟩
    refine we_seq ?_
    refine wc_cutE (fun L' w' => L' = [(0, .slice (some ⟨b, o, none⟩) lists.length c), (3, .int .i64 (worst : Nat)), (4, .int .i64 (k : Int)), (5, .int .i64 (errE l : Nat))] ∧ St NoB w w' []) ?_ ?_
    · cases t with
      | true =>
        have he : errE l = 3 := by rw [errE, if_pos (of_decide_eq_true ht.symm)]
        rw [he]
        apply wc_condTb; exact rfl; exact rfl; refine wc_region ?_; refine wl_as rfl rfl ?_; refine wl_nil ?_
        exact we_cut _ ⟨rfl, hs⟩ ⟨rfl, rfl, rfl, rfl, trivial⟩
      | false =>
        have he : errE l = checkE l := by rw [errE, if_neg (of_decide_eq_false ht.symm)]
        rw [he]
        apply wc_condFb; exact rfl; exact rfl; refine wc_skip ?_
        exact we_cut _ ⟨rfl, hs⟩ ⟨rfl, rfl, rfl, rfl, trivial⟩
    clear hs ht
    rintro _ w5 ⟨rfl, hs⟩
    obtain ⟨e, he⟩ : ∃ q, errE l = q := ⟨_, rfl⟩
    by_cases h2 : e = 0
    · have h2' : ¬ (e : Int) ≠ 0 := by omega
      refine we_seq ?_; refine wc_sr ?_; refine wl_mv rfl rfl ?_; refine wl_bin rfl rfl bin_neq rfl ?_; refine wl_mv rfl rfl ?_; apply wl_skip; exact rfl; exact rfl; exact rfl; refine bFn ?_; omega; exact rfl; apply wl_skip; exact rfl; exact rfl; exact rfl; refine bFn ?_; omega; exact rfl; apply wl_skip; exact rfl; exact rfl; exact rfl; refine bFn ?_; omega; exact rfl; apply wl_skipU; exact rfl; exact rfl; exact rfl; exact rfl; apply wl_skipU; exact rfl; exact rfl; exact rfl; exact rfl; apply wl_skipU; exact rfl; exact rfl; exact rfl; exact rfl; apply wl_skip; exact rfl; exact rfl; exact rfl; refine bFn ?_; omega; exact rfl; apply wl_val; apply opv_pickF; exact rfl; refine bF ?_; omega; exact rfl; exact rfl; refine wl_ns ?_; apply wc_condFb; exact rfl; exact rfl; refine wc_skip ?_; refine we_block_norm ?_; refine we_seq ?_; refine wc_region ?_; refine wl_mv rfl rfl ?_; apply wl_val; apply opv_bin; exact rfl; exact rfl; exact bin_add64 (by omega); exact rfl; refine wl_as rfl rfl ?_; refine wl_nil ?_
      refine we_loop _ (lists.length - (k + 1)) ⟨k + 1, rfl, by omega, hs, rfl⟩ (by omega) ⟨rfl, by rw [worstE_take hx, stepW, hw, he, if_neg (by omega)]; rfl, by simp [lookT], trivial⟩
    · have h2' : (e : Int) ≠ 0 := by omega
      by_cases h3 : worst = 0
      · have h3' : (worst : Int) = 0 := by omega
        refine we_seq ?_; refine wc_sr ?_; refine wl_mv rfl rfl ?_; refine wl_bin rfl rfl bin_neq rfl ?_; refine wl_mv rfl rfl ?_; apply wl_take; exact rfl; exact rfl; exact rfl; refine bT ?_; omega; refine wl_mv rfl rfl ?_; apply wl_take; exact rfl; exact rfl; exact rfl; refine bT ?_; omega; refine wl_bin rfl rfl bin_eql rfl ?_; apply wl_take; exact rfl; exact rfl; exact rfl; refine bT ?_; omega; refine wl_mv rfl rfl ?_; apply wl_skip; exact rfl; exact rfl; exact rfl; refine bTn ?_; (with_reducible assumption); exact rfl; apply wl_skip; exact rfl; exact rfl; exact rfl; refine bTn ?_; (with_reducible assumption); exact rfl; apply wl_skip; exact rfl; exact rfl; exact rfl; refine bTn ?_; (with_reducible assumption); exact rfl; apply wl_take; exact rfl; exact rfl; exact rfl; refine bT ?_; omega; apply wl_val; apply opv_pickT; exact rfl; refine bT ?_; (with_reducible assumption); exact rfl; exact rfl; apply wl_val; apply opv_pickT; exact rfl; refine bT ?_; omega; exact rfl; exact rfl; refine wl_ns ?_; apply wc_condTb; exact rfl; exact rfl; refine wc_region ?_; refine wl_mv rfl rfl ?_; refine wl_as rfl rfl ?_; refine wl_nil ?_; refine we_block_norm ?_; refine we_seq ?_; refine wc_region ?_; refine wl_mv rfl rfl ?_; apply wl_val; apply opv_bin; exact rfl; exact rfl; exact bin_add64 (by omega); exact rfl; refine wl_as rfl rfl ?_; refine wl_nil ?_
        refine we_loop _ (lists.length - (k + 1)) ⟨k + 1, rfl, by omega, hs, rfl⟩ (by omega) ⟨rfl, by rw [worstE_take hx, stepW, hw, he, if_pos ⟨h2, .inl h3⟩]; rfl, by simp [lookT], trivial⟩
      · have h3' : ¬ (worst : Int) = 0 := by omega
        by_cases h4 : e < worst
        · have h4' : (e : Int) < (worst : Int) := by omega
          refine we_seq ?_; refine wc_sr ?_; refine wl_mv rfl rfl ?_; refine wl_bin rfl rfl bin_neq rfl ?_; refine wl_mv rfl rfl ?_; apply wl_take; exact rfl; exact rfl; exact rfl; refine bT ?_; omega; refine wl_mv rfl rfl ?_; apply wl_take; exact rfl; exact rfl; exact rfl; refine bT ?_; omega; refine wl_bin rfl rfl bin_eql rfl ?_; apply wl_take; exact rfl; exact rfl; exact rfl; refine bT ?_; omega; refine wl_mv rfl rfl ?_; apply wl_take; exact rfl; exact rfl; exact rfl; refine bF ?_; (with_reducible assumption); refine wl_mv rfl rfl ?_; apply wl_take; exact rfl; exact rfl; exact rfl; refine bF ?_; (with_reducible assumption); refine wl_mv rfl rfl ?_; apply wl_take; exact rfl; exact rfl; exact rfl; refine bF ?_; (with_reducible assumption); refine wl_bin rfl rfl bin_lss rfl ?_; apply wl_take; exact rfl; exact rfl; exact rfl; refine bT ?_; omega; apply wl_val; apply opv_pickF; exact rfl; refine bF ?_; (with_reducible assumption); exact rfl; exact rfl; apply wl_val; apply opv_pickT; exact rfl; refine bT ?_; omega; exact rfl; exact rfl; refine wl_ns ?_; apply wc_decT; exact rfl; omega; refine wc_region ?_; refine wl_mv rfl rfl ?_; refine wl_as rfl rfl ?_; refine wl_nil ?_; refine we_block_norm ?_; refine we_seq ?_; refine wc_region ?_; refine wl_mv rfl rfl ?_; apply wl_val; apply opv_bin; exact rfl; exact rfl; exact bin_add64 (by omega); exact rfl; refine wl_as rfl rfl ?_; refine wl_nil ?_
          refine we_loop _ (lists.length - (k + 1)) ⟨k + 1, rfl, by omega, hs, rfl⟩ (by omega) ⟨rfl, by rw [worstE_take hx, stepW, hw, he, if_pos ⟨h2, .inr h4⟩]; rfl, by simp [lookT], trivial⟩
        · have h4' : ¬ (e : Int) < (worst : Int) := by omega
          refine we_seq ?_; refine wc_sr ?_; refine wl_mv rfl rfl ?_; refine wl_bin rfl rfl bin_neq rfl ?_; refine wl_mv rfl rfl ?_; apply wl_take; exact rfl; exact rfl; exact rfl; refine bT ?_; omega; refine wl_mv rfl rfl ?_; apply wl_take; exact rfl; exact rfl; exact rfl; refine bT ?_; omega; refine wl_bin rfl rfl bin_eql rfl ?_; apply wl_take; exact rfl; exact rfl; exact rfl; refine bT ?_; omega; refine wl_mv rfl rfl ?_; apply wl_take; exact rfl; exact rfl; exact rfl; refine bF ?_; (with_reducible assumption); refine wl_mv rfl rfl ?_; apply wl_take; exact rfl; exact rfl; exact rfl; refine bF ?_; (with_reducible assumption); refine wl_mv rfl rfl ?_; apply wl_take; exact rfl; exact rfl; exact rfl; refine bF ?_; (with_reducible assumption); refine wl_bin rfl rfl bin_lss rfl ?_; apply wl_take; exact rfl; exact rfl; exact rfl; refine bT ?_; omega; apply wl_val; apply opv_pickF; exact rfl; refine bF ?_; (with_reducible assumption); exact rfl; exact rfl; apply wl_val; apply opv_pickT; exact rfl; refine bT ?_; omega; exact rfl; exact rfl; refine wl_ns ?_; apply wc_decF; exact rfl; omega; refine wc_skip ?_; refine we_block_norm ?_; refine we_seq ?_; refine wc_region ?_; refine wl_mv rfl rfl ?_; apply wl_val; apply opv_bin; exact rfl; exact rfl; exact bin_add64 (by omega); exact rfl; refine wl_as rfl rfl ?_; refine wl_nil ?_
          refine we_loop _ (lists.length - (k + 1)) ⟨k + 1, rfl, by omega, hs, rfl⟩ (by omega) ⟨rfl, by rw [worstE_take hx, stepW, hw, he, if_neg (by omega)]; rfl, by simp [lookT], trivial⟩
  · obtain rfl : k = lists.length := by omega
    rw [List.take_length]
    refine wc_exit ?_; refine we_seq_exit ?_; refine we_loop_exit ?_; refine we_block_exit ?_; refine we_seq ?_; refine wc_sr ?_; refine wl_mv rfl rfl ?_; refine wl_as rfl rfl ?_; refine wl_ns ?_; refine wc_ret ?_
    exact we_ret1 rfl rfl ⟨_, rfl, rfl, hs.bel⟩
/-- The first so many neighbours stand in order. -/
def okTo (l : List En) (j : Nat) : Bool := (List.range j).all fun i => match l[i]?, l[i + 1]? with | some x, some y => lessE x y | _, _ => true
theorem okTo_succ {l : List En} {j : Nat} {x y : En} (hx : l[j]? = some x) (hy : l[j + 1]? = some y) : okTo l (j + 1) = (okTo l j && lessE x y) := by
  unfold okTo; rw [List.range_succ, List.all_append]; simp [hx, hy]
theorem okTo_all {l : List En} {j : Nat} (hj : l.length ≤ j + 1) : okTo l j = ordE l := by
  rw [Bool.eq_iff_iff, ordE_iff]
  unfold okTo
  rw [List.all_eq_true]
  constructor
  · intro h i x y hx hy
    have := h i (List.mem_range.2 (by have := (List.getElem?_eq_some_iff.1 hy).1; omega))
    simpa [hx, hy] using this
  · intro h i _
    split
    · rename_i x y hx hy; exact h i x y hx hy
    · rfl
def wv (w1 : Nat) (b : Bool) : Nat := if w1 = 0 ∧ b = false then 3 else w1
theorem wv_step {worst : Nat} {l : List En} (h : worst ≤ 3) : wv (if checkE l ≠ 0 ∧ (worst = 0 ∨ checkE l < worst) then checkE l else worst) (ordE l) = stepW worst l := by
  unfold wv stepW errE
  rcases checkE_le l with h0 | h0 | h0 <;> rw [h0] <;> cases ordE l <;> simp <;> split <;> (try split) <;> (try split) <;> omega
set_option maxRecDepth 4000 in
theorem mcheck_any {A : Option Addr} {n c : Nat} {lists : List (List En)} {w : World} (hr : RdR 1 w All A (rowsE lists)) (hn : lists.length = n) (hok : ∀ l ∈ lists, l.length ≤ 1048576 ∧ ∀ x ∈ l, x.key.length ≤ maxLen) (hl : lists.length ≤ 1048576) :
    CallsV Try.prog 46 #[.slice A n c] w fun v w' => v = .int .i64 (worstE lists : Nat) ∧ Below w.heap.size w w' := by
  subst hn
  have hmax : maxLen = 9223372036854775807 := rfl
  have hs := St.init w
  refine calls_in (N := _) Try.func46 rfl Try.ntmps46 rfl ?_; show WC _ _ _ _ _ _
  refine wc_sr ?_; refine wl_as rfl rfl ?_; refine wl_ns ?_; refine wc_sr ?_; refine wl_as rfl rfl ?_; refine wl_ns ?_; refine wc_seq ?_; refine wc_sr ?_; refine wl_mv rfl rfl ?_; apply wl_val; apply opv_len; exact rfl; exact tkEE.sl; exact rfl; refine wl_mv rfl rfl ?_; refine wl_ns ?_; refine wc_block ?_
  refine wc_loop (fun L wr mm => ∃ (k : Nat), L = [(3, .int .i64 (worstE (lists.take k) : Nat)), (8, .slice A lists.length c), (9, .int .i64 (lists.length : Int)), (10, .int .i64 (k : Int))] ∧ k ≤ lists.length ∧ St NoB w wr [] ∧ mm = lists.length - k)
    [(3, .int .i64 (0 : Nat)), (8, .slice A lists.length c), (9, .int .i64 (lists.length : Int)), (10, .int .i64 (0 : Nat))] lists.length ⟨0, rfl, by omega, hs, rfl⟩ ⟨rfl, rfl, rfl, rfl, trivial⟩ ?_
  clear hs
  rintro _ w1 mm ⟨k, rfl, hk, hs, rfl⟩
  refine wc_sr ?_; refine wl_bin rfl rfl bin_lss rfl ?_; refine wl_ns ?_; refine wc_seq ?_
  refine wc_cond rfl (fun h1 => ?_) (fun h1 => ?_)
  · obtain ⟨l, hx⟩ : ∃ l, lists[k]? = some l := ⟨_, List.getElem?_eq_getElem (by omega)⟩
    have hol := hok l (List.mem_of_getElem? hx)
    obtain ⟨b, o, X, cx, rfl, _, rl, j1⟩ := rowsE_at hr hx
    have i1 := j1.below hs.bel
    have hwt := worstE_take hx
    have hw3 : worstE (lists.take k) ≤ 3 := foldW_le (by omega)
    obtain ⟨worst, hw⟩ : ∃ q, worstE (lists.take k) = q := ⟨_, rfl⟩
    rw [hw] at hwt hw3
    rw [hw]
    obtain ⟨e, he⟩ : ∃ q, checkE l = q := ⟨_, rfl⟩
    rw [← wv_step hw3, he] at hwt
    refine wc_skip ?_; refine we_seq ?_; refine wc_seq ?_; refine wc_block ?_; refine wc_sr ?_; apply wl_val; apply opv_idxG tkEE; exact rfl; exact rfl; exact rfl; omega; exact rfl; apply wl_val; apply opv_ldW0; exact rfl; assumption; exact e1_row; exact rfl; exact rfl; refine wl_as rfl rfl ?_; refine wl_ns ?_; refine wc_seq ?_; refine wc_sr ?_; refine wl_mv rfl rfl ?_
    refine wl_call ok_mem_Check (check_any (rl.below hs.bel) rfl (by omega)) ⟨rfl, trivial⟩ rfl ?_; rintro _ _ ⟨rfl, hbx⟩; replace hs := hs.below hbx; try dsimp only [List.cons_append, List.nil_append, setC, delC] at hs
    rw [he]
    obtain ⟨w5, hw5⟩ : ∃ q, (if e ≠ 0 ∧ (worst = 0 ∨ e < worst) then e else worst) = q := ⟨_, rfl⟩
    refine wl_as rfl rfl (wl_nil (we_seq ?_))
    refine wc_cutE (fun L' w' => L' = [(3, .int .i64 (w5 : Nat)), (5, .slice X l.length cx), (8, .slice (some ⟨b, o, none⟩) lists.length c), (9, .int .i64 (lists.length : Int)), (10, .int .i64 (k : Int))] ∧ St NoB w w' []) ?_ ?_
    · by_cases h2 : e = 0
      · rw [if_neg (by omega)] at hw5
        have h2' : ¬ (e : Int) ≠ 0 := by omega
        refine wc_sr ?_; refine wl_mv rfl rfl ?_; refine wl_bin rfl rfl bin_neq rfl ?_; refine wl_mv rfl rfl ?_; apply wl_skip; exact rfl; exact rfl; exact rfl; refine bFn ?_; (with_reducible assumption); exact rfl; apply wl_skip; exact rfl; exact rfl; exact rfl; refine bFn ?_; (with_reducible assumption); exact rfl; apply wl_skip; exact rfl; exact rfl; exact rfl; refine bFn ?_; (with_reducible assumption); exact rfl; apply wl_skipU; exact rfl; exact rfl; exact rfl; exact rfl; apply wl_skipU; exact rfl; exact rfl; exact rfl; exact rfl; apply wl_skipU; exact rfl; exact rfl; exact rfl; exact rfl; apply wl_skip; exact rfl; exact rfl; exact rfl; refine bFn ?_; (with_reducible assumption); exact rfl; apply wl_val; apply opv_pickF; exact rfl; refine bF ?_; (with_reducible assumption); exact rfl; exact rfl; refine wl_ns ?_; apply wc_condFb; exact rfl; exact rfl; refine wc_skip ?_
        exact we_cut _ ⟨rfl, hs⟩ ⟨by rw [← hw5]; rfl, rfl, rfl, rfl, rfl, trivial⟩
      · have h2' : (e : Int) ≠ 0 := by omega
        by_cases h3 : worst = 0
        · rw [if_pos ⟨h2, .inl h3⟩] at hw5
          have h3' : (worst : Int) = 0 := by omega
          refine wc_sr ?_; refine wl_mv rfl rfl ?_; refine wl_bin rfl rfl bin_neq rfl ?_; refine wl_mv rfl rfl ?_; apply wl_take; exact rfl; exact rfl; exact rfl; refine bT ?_; (with_reducible assumption); refine wl_mv rfl rfl ?_; apply wl_take; exact rfl; exact rfl; exact rfl; refine bT ?_; (with_reducible assumption); refine wl_bin rfl rfl bin_eql rfl ?_; apply wl_take; exact rfl; exact rfl; exact rfl; refine bT ?_; (with_reducible assumption); refine wl_mv rfl rfl ?_; apply wl_skip; exact rfl; exact rfl; exact rfl; refine bTn ?_; (with_reducible assumption); exact rfl; apply wl_skip; exact rfl; exact rfl; exact rfl; refine bTn ?_; (with_reducible assumption); exact rfl; apply wl_skip; exact rfl; exact rfl; exact rfl; refine bTn ?_; (with_reducible assumption); exact rfl; apply wl_take; exact rfl; exact rfl; exact rfl; refine bT ?_; (with_reducible assumption); apply wl_val; apply opv_pickT; exact rfl; refine bT ?_; (with_reducible assumption); exact rfl; exact rfl; apply wl_val; apply opv_pickT; exact rfl; refine bT ?_; (with_reducible assumption); exact rfl; exact rfl; refine wl_ns ?_; apply wc_condTb; exact rfl; exact rfl; refine wc_region ?_; refine wl_mv rfl rfl ?_; refine wl_as rfl rfl ?_; refine wl_nil ?_
          exact we_cut _ ⟨rfl, hs⟩ ⟨by rw [← hw5]; rfl, rfl, rfl, rfl, rfl, trivial⟩
        · have h3' : ¬ (worst : Int) = 0 := by omega
          by_cases h4 : e < worst
          · rw [if_pos ⟨h2, .inr h4⟩] at hw5
            have h4' : (e : Int) < (worst : Int) := by omega
            refine wc_sr ?_; refine wl_mv rfl rfl ?_; refine wl_bin rfl rfl bin_neq rfl ?_; refine wl_mv rfl rfl ?_; apply wl_take; exact rfl; exact rfl; exact rfl; refine bT ?_; (with_reducible assumption); refine wl_mv rfl rfl ?_; apply wl_take; exact rfl; exact rfl; exact rfl; refine bT ?_; (with_reducible assumption); refine wl_bin rfl rfl bin_eql rfl ?_; apply wl_take; exact rfl; exact rfl; exact rfl; refine bT ?_; (with_reducible assumption); refine wl_mv rfl rfl ?_; apply wl_take; exact rfl; exact rfl; exact rfl; refine bF ?_; (with_reducible assumption); refine wl_mv rfl rfl ?_; apply wl_take; exact rfl; exact rfl; exact rfl; refine bF ?_; (with_reducible assumption); refine wl_mv rfl rfl ?_; apply wl_take; exact rfl; exact rfl; exact rfl; refine bF ?_; (with_reducible assumption); refine wl_bin rfl rfl bin_lss rfl ?_; apply wl_take; exact rfl; exact rfl; exact rfl; refine bT ?_; (with_reducible assumption); apply wl_val; apply opv_pickF; exact rfl; refine bF ?_; (with_reducible assumption); exact rfl; exact rfl; apply wl_val; apply opv_pickT; exact rfl; refine bT ?_; (with_reducible assumption); exact rfl; exact rfl; refine wl_ns ?_; apply wc_decT; exact rfl; (with_reducible assumption); refine wc_region ?_; refine wl_mv rfl rfl ?_; refine wl_as rfl rfl ?_; refine wl_nil ?_
            exact we_cut _ ⟨rfl, hs⟩ ⟨by rw [← hw5]; rfl, rfl, rfl, rfl, rfl, trivial⟩
          · rw [if_neg (by omega)] at hw5
            have h4' : ¬ (e : Int) < (worst : Int) := by omega
            refine wc_sr ?_; refine wl_mv rfl rfl ?_; refine wl_bin rfl rfl bin_neq rfl ?_; refine wl_mv rfl rfl ?_; apply wl_take; exact rfl; exact rfl; exact rfl; refine bT ?_; (with_reducible assumption); refine wl_mv rfl rfl ?_; apply wl_take; exact rfl; exact rfl; exact rfl; refine bT ?_; (with_reducible assumption); refine wl_bin rfl rfl bin_eql rfl ?_; apply wl_take; exact rfl; exact rfl; exact rfl; refine bT ?_; (with_reducible assumption); refine wl_mv rfl rfl ?_; apply wl_take; exact rfl; exact rfl; exact rfl; refine bF ?_; (with_reducible assumption); refine wl_mv rfl rfl ?_; apply wl_take; exact rfl; exact rfl; exact rfl; refine bF ?_; (with_reducible assumption); refine wl_mv rfl rfl ?_; apply wl_take; exact rfl; exact rfl; exact rfl; refine bF ?_; (with_reducible assumption); refine wl_bin rfl rfl bin_lss rfl ?_; apply wl_take; exact rfl; exact rfl; exact rfl; refine bT ?_; (with_reducible assumption); apply wl_val; apply opv_pickF; exact rfl; refine bF ?_; (with_reducible assumption); exact rfl; exact rfl; apply wl_val; apply opv_pickT; exact rfl; refine bT ?_; (with_reducible assumption); exact rfl; exact rfl; refine wl_ns ?_; apply wc_decF; exact rfl; (with_reducible assumption); refine wc_skip ?_
            exact we_cut _ ⟨rfl, hs⟩ ⟨by rw [← hw5]; rfl, rfl, rfl, rfl, rfl, trivial⟩
    rw [hw5] at hwt
    clear hs i1 hbx hw hw5
    rintro _ w6 ⟨rfl, hs⟩
    refine we_seq ?_; refine wc_sr ?_; refine wl_as rfl rfl ?_; refine wl_ns ?_; refine wc_block ?_
    refine wc_loop (fun L wr mm => ∃ (j : Nat), L = [(3, .int .i64 (wv w5 (okTo l j) : Nat)), (5, .slice X l.length cx), (7, .int .i64 ((j + 1 : Nat) : Int)), (8, .slice (some ⟨b, o, none⟩) lists.length c), (9, .int .i64 (lists.length : Int)), (10, .int .i64 (k : Int))] ∧ (j = 0 ∨ j + 1 ≤ l.length) ∧ St NoB w wr [] ∧ mm = l.length - j)
      [(3, .int .i64 (w5 : Nat)), (5, .slice X l.length cx), (7, .int .i64 ((0 + 1 : Nat) : Int)), (8, .slice (some ⟨b, o, none⟩) lists.length c), (9, .int .i64 (lists.length : Int)), (10, .int .i64 (k : Int))] l.length ⟨0, by simp [wv, okTo], .inl rfl, hs, rfl⟩ ⟨rfl, rfl, rfl, rfl, rfl, rfl, trivial⟩ ?_
    clear hs
    rintro _ w7 mm ⟨j, rfl, hj, hs, rfl⟩
    refine wc_seq ?_; refine wc_sr ?_; refine wl_mv rfl rfl ?_; refine wl_mv rfl rfl ?_; apply wl_val; apply opv_len; exact rfl; exact tkE.sl; exact rfl; refine wl_bin rfl rfl bin_lss rfl ?_; refine wl_ns ?_
    refine wc_cond rfl (fun h5 => ?_) (fun h5 => ?_)
    · obtain ⟨x, hx'⟩ : ∃ x, l[j]? = some x := ⟨_, List.getElem?_eq_getElem (by omega)⟩
      obtain ⟨y, hy'⟩ : ∃ y, l[j + 1]? = some y := ⟨_, List.getElem?_eq_getElem (by omega)⟩
      obtain ⟨b2, o2, cs, rfl, _, _, hp, i1⟩ := RdR.at (k := 4) (by decide) rl (E := enEl x) (i := j) (by rw [List.getElem?_map, hx']; rfl)
      obtain ⟨_, _, cs2, hA', _, _, hp2, i2⟩ := RdR.at (k := 4) (by decide) rl (E := enEl y) (i := j + 1) (by rw [List.getElem?_map, hy']; rfl)
      simp only [Option.some.injEq, Addr.mk.injEq, and_true] at hA'
      obtain ⟨rfl, rfl⟩ := hA'
      obtain ⟨U, cu, U2, cu2, rfl, rx, _, rx2, _⟩ := enEl.rd hp
      obtain ⟨Y, cy, Y2, cy2, rfl, ry, _, ry2, _⟩ := enEl.rd hp2
      replace i1 := i1.below hs.bel
      replace i2 := i2.below hs.bel
      have hq : ∀ w', Below w7.heap.size w7 w' → CallsV Try.prog 59 #[.agg (enV x U cu U2 cu2).toArray, .agg (enV y Y cy Y2 cy2).toArray] w' fun v w2 => v = .bool (lessE x y) ∧ Below w7.heap.size w7 w2 := fun w' hw => (less_any ((rx.below hs.bel).below hw) ((ry.below hs.bel).below hw)).mono fun v w2 h2 => ⟨h2.1, hw.trans (h2.2.mono hw.size)⟩
      have hst := okTo_succ hx' hy'
      obtain ⟨u, hu⟩ : ∃ q, okTo l j = q := ⟨_, rfl⟩
      rw [hu] at hst
      rw [hu]
      obtain ⟨q, hqd⟩ : ∃ q, q = lessE x y := ⟨_, rfl⟩
      rw [← hqd] at hq hst
      cases q with
      | true =>
        rw [Bool.and_true] at hst
        refine wc_skip ?_; refine we_seq ?_; refine wc_seq ?_; refine wc_block ?_; refine wc_seq ?_
        refine wc_drawB mixed (by kernel_rfl) ?_
        apply wq_val; intro _ hw_; apply opv_move; exact rfl; exact rfl; apply wq_val; intro _ hw_; apply opv_move; exact rfl; exact rfl; apply wq_val; intro _ hw_; apply opv_bin; exact rfl; exact rfl; exact bin_sub64 (by omega); exact rfl; apply wq_val; intro _ hw_; apply opv_idxG tkE; exact rfl; exact rfl; exact natc_pred; omega; exact rfl; apply wq_val; intro _ hw_; apply opv_ldG; exact rfl; exact Wi.below (by assumption) hw_; exact sE; exact rfl; apply wq_val; intro _ hw_; apply opv_move; exact rfl; exact rfl; apply wq_val; intro _ hw_; apply opv_move; exact rfl; exact rfl; apply wq_val; intro _ hw_; apply opv_idxG tkE; exact rfl; exact rfl; exact rfl; omega; exact rfl; apply wq_val; intro _ hw_; apply opv_ldG; exact rfl; exact Wi.below (by assumption) hw_; exact sE; exact rfl
        refine wq_call (v := .bool true) ok_mem_Less hq ⟨rfl, rfl, trivial⟩ rfl ?_
        apply wq_val; intro _ hw_; apply opv_not; exact rfl; exact rfl; apply wq_val; intro _ hw_; apply opv_move; exact rfl; exact rfl; apply wq_skip; exact rfl; exact rfl; exact rfl; exact rfl; exact rfl; apply wq_skip; exact rfl; exact rfl; exact rfl; exact rfl; exact rfl; apply wq_val; intro _ hw_; apply opv_pickF; exact rfl; exact Bool.not_true; exact rfl; exact rfl; refine wq_nil fun w1 hw1 => ?_
        replace hs := hs.below hw1
        refine we_seq ?_; apply wc_condFb; exact rfl; exact rfl; refine wc_skip ?_; refine we_block_norm ?_; refine we_seq ?_; refine wc_region ?_; refine wl_mv rfl rfl ?_; apply wl_val; apply opv_bin; exact rfl; exact rfl; exact bin_add64 (by omega); exact rfl; refine wl_as rfl rfl ?_; refine wl_nil ?_
        refine we_loop _ (l.length - (j + 1)) ⟨j + 1, rfl, .inr (by omega), hs, rfl⟩ (by omega) ⟨by rw [hst]; rfl, rfl, by simp [lookT], rfl, rfl, rfl, trivial⟩
      | false =>
        rw [Bool.and_false] at hst
        by_cases h6 : wv w5 u = 0
        · have h6' : ((wv w5 u : Nat) : Int) = 0 := by omega
          have h7 : wv w5 false = 3 := by unfold wv at h6 ⊢; split at h6 <;> simp_all
          refine wc_skip ?_; refine we_seq ?_; refine wc_seq ?_; refine wc_block ?_; refine wc_seq ?_
          refine wc_drawB mixed (by kernel_rfl) ?_
          apply wq_val; intro _ hw_; apply opv_move; exact rfl; exact rfl; apply wq_val; intro _ hw_; apply opv_move; exact rfl; exact rfl; apply wq_val; intro _ hw_; apply opv_bin; exact rfl; exact rfl; exact bin_sub64 (by omega); exact rfl; apply wq_val; intro _ hw_; apply opv_idxG tkE; exact rfl; exact rfl; exact natc_pred; omega; exact rfl; apply wq_val; intro _ hw_; apply opv_ldG; exact rfl; exact Wi.below (by assumption) hw_; exact sE; exact rfl; apply wq_val; intro _ hw_; apply opv_move; exact rfl; exact rfl; apply wq_val; intro _ hw_; apply opv_move; exact rfl; exact rfl; apply wq_val; intro _ hw_; apply opv_idxG tkE; exact rfl; exact rfl; exact rfl; omega; exact rfl; apply wq_val; intro _ hw_; apply opv_ldG; exact rfl; exact Wi.below (by assumption) hw_; exact sE; exact rfl
          refine wq_call (v := .bool false) ok_mem_Less hq ⟨rfl, rfl, trivial⟩ rfl ?_
          apply wq_val; intro _ hw_; apply opv_not; exact rfl; exact rfl; apply wq_val; intro _ hw_; apply opv_move; exact rfl; exact rfl; apply wq_take; exact rfl; exact rfl; exact rfl; exact Bool.not_false; apply wq_val; intro _ hw_; apply opv_move; exact rfl; exact rfl; apply wq_take; exact rfl; exact rfl; exact rfl; exact Bool.not_false; apply wq_val; intro _ hw_; apply opv_bin; exact rfl; exact rfl; exact bin_eql; exact rfl; apply wq_val; intro _ hw_; apply opv_pickT; exact rfl; exact Bool.not_false; exact rfl; exact rfl; refine wq_nil fun w1 hw1 => ?_
          replace hs := hs.below hw1
          refine we_seq ?_; apply wc_decT; exact rfl; (with_reducible assumption); refine wc_region ?_; refine wl_as rfl rfl ?_; refine wl_nil ?_; refine we_block_norm ?_; refine we_seq ?_; refine wc_region ?_; refine wl_mv rfl rfl ?_; apply wl_val; apply opv_bin; exact rfl; exact rfl; exact bin_add64 (by omega); exact rfl; refine wl_as rfl rfl ?_; refine wl_nil ?_
          refine we_loop _ (l.length - (j + 1)) ⟨j + 1, rfl, .inr (by omega), hs, rfl⟩ (by omega) ⟨by rw [hst, h7]; rfl, rfl, by simp [lookT], rfl, rfl, rfl, trivial⟩
        · have h6' : ¬ ((wv w5 u : Nat) : Int) = 0 := by omega
          have h7 : wv w5 false = wv w5 u := by unfold wv at h6 ⊢; cases u <;> simp_all
          refine wc_skip ?_; refine we_seq ?_; refine wc_seq ?_; refine wc_block ?_; refine wc_seq ?_
          refine wc_drawB mixed (by kernel_rfl) ?_
          apply wq_val; intro _ hw_; apply opv_move; exact rfl; exact rfl; apply wq_val; intro _ hw_; apply opv_move; exact rfl; exact rfl; apply wq_val; intro _ hw_; apply opv_bin; exact rfl; exact rfl; exact bin_sub64 (by omega); exact rfl; apply wq_val; intro _ hw_; apply opv_idxG tkE; exact rfl; exact rfl; exact natc_pred; omega; exact rfl; apply wq_val; intro _ hw_; apply opv_ldG; exact rfl; exact Wi.below (by assumption) hw_; exact sE; exact rfl; apply wq_val; intro _ hw_; apply opv_move; exact rfl; exact rfl; apply wq_val; intro _ hw_; apply opv_move; exact rfl; exact rfl; apply wq_val; intro _ hw_; apply opv_idxG tkE; exact rfl; exact rfl; exact rfl; omega; exact rfl; apply wq_val; intro _ hw_; apply opv_ldG; exact rfl; exact Wi.below (by assumption) hw_; exact sE; exact rfl
          refine wq_call (v := .bool false) ok_mem_Less hq ⟨rfl, rfl, trivial⟩ rfl ?_
          apply wq_val; intro _ hw_; apply opv_not; exact rfl; exact rfl; apply wq_val; intro _ hw_; apply opv_move; exact rfl; exact rfl; apply wq_take; exact rfl; exact rfl; exact rfl; exact Bool.not_false; apply wq_val; intro _ hw_; apply opv_move; exact rfl; exact rfl; apply wq_take; exact rfl; exact rfl; exact rfl; exact Bool.not_false; apply wq_val; intro _ hw_; apply opv_bin; exact rfl; exact rfl; exact bin_eql; exact rfl; apply wq_val; intro _ hw_; apply opv_pickT; exact rfl; exact Bool.not_false; exact rfl; exact rfl; refine wq_nil fun w1 hw1 => ?_
          replace hs := hs.below hw1
          refine we_seq ?_; apply wc_decF; exact rfl; (with_reducible assumption); refine wc_skip ?_; refine we_block_norm ?_; refine we_seq ?_; refine wc_region ?_; refine wl_mv rfl rfl ?_; apply wl_val; apply opv_bin; exact rfl; exact rfl; exact bin_add64 (by omega); exact rfl; refine wl_as rfl rfl ?_; refine wl_nil ?_
          refine we_loop _ (l.length - (j + 1)) ⟨j + 1, rfl, .inr (by omega), hs, rfl⟩ (by omega) ⟨by rw [hst, h7]; rfl, rfl, by simp [lookT], rfl, rfl, rfl, trivial⟩
    · rw [okTo_all (by omega), ← hwt]
      refine wc_exit ?_; refine we_seq_exit ?_; refine we_loop_exit ?_; refine we_block_exit ?_; refine we_block_norm ?_; refine we_seq ?_; refine wc_region ?_; apply wl_val; apply opv_bin; exact rfl; exact rfl; exact bin_add64 (by omega); exact rfl; refine wl_mv rfl rfl ?_; refine wl_nil ?_
      refine we_loop _ (lists.length - (k + 1)) ⟨k + 1, rfl, by omega, hs, rfl⟩ (by omega) ⟨rfl, rfl, rfl, by simp [lookT], trivial⟩
  · obtain rfl : k = lists.length := by omega
    rw [List.take_length]
    refine wc_exit ?_; refine we_seq_exit ?_; refine we_loop_exit ?_; refine we_block_exit ?_; refine we_seq ?_; refine wc_sr ?_; refine wl_mv rfl rfl ?_; refine wl_as rfl rfl ?_; refine wl_ns ?_; refine wc_ret ?_
    exact we_ret1 rfl rfl ⟨_, rfl, rfl, hs.bel⟩
end Go.Proofs.Ytpnckagibkdcpaa


/-
  Walks over Visible, of the program and of the document.
-/
namespace Go.Proofs.Ytpnckagibkdcpaa
open Go.RowKit

theorem Mod.rebase {M : BS} {w0 w1 w : World} (hb : Below w0.heap.size w0 w1) (h : Mod M w1 w) (hM : ∀ b, M b → w0.heap.size ≤ b) : Mod NoB w0 w := (Mod.of_below hb NoB).trans h fun b hb h => by have := hM b h; omega
/-- What began later. -/
theorem St.rebase {w0 w1 w : World} {H : List Cd} (hs : St NoB w1 w H) (hb : Below w0.heap.size w0 w1) : St NoB w0 w H :=
  ⟨Mod.rebase hb hs.1 fun b h => h.elim, hs.2.mono fun b _ h => h.elim (fun k => k.elim) fun k => .inr (Nat.le_trans hb.size k)⟩
/-- Entries with memory of their own, and a code. -/
def RetLE (w : World) (l : List En) (e : Nat) (v : Value) (w' : World) : Prop := ∃ (P : Option Addr) (cp : Nat), v = .tuple #[.slice P l.length cp, .int .i64 (e : Int)] ∧ St NoB w w' [.ck (rsC 4 56 P cp (l.map oE))]
def visR (m : Nat) (run : List En) : Option En := (atE run m).bind fun i => (run[i]?).filter fun x => decide (x.kind = 1)
def visE (l : List En) (m : Nat) : List En := (runsE l).filterMap (visR m)
theorem runsF_len : ∀ (l acc : List En), (runsF l acc).length ≤ l.length ∧ ∀ r ∈ runsF l acc, r ≠ [] ∧ (∀ x ∈ r, x ∈ acc ∨ x ∈ l) ∧ r.length ≤ acc.length + l.length
  | [], acc => by simp [runsF]
  | [x], acc => by simp [runsF]
  | x :: y :: l, acc => by
    rw [runsF]
    split
    · obtain ⟨h1, h2⟩ := runsF_len (y :: l) (acc ++ [x])
      refine ⟨by simp at h1 ⊢; omega, fun r hr => ?_⟩
      obtain ⟨h3, h4, h5⟩ := h2 r hr
      refine ⟨h3, fun z hz => ?_, by simp at h5 ⊢; omega⟩
      rcases h4 z hz with h | h
      · rw [List.mem_append] at h
        rcases h with h | h
        · exact .inl h
        · simp at h; subst h; simp
      · exact .inr (List.mem_cons_of_mem _ h)
    · obtain ⟨h1, h2⟩ := runsF_len (y :: l) []
      refine ⟨by simp at h1 ⊢; omega, fun r hr => ?_⟩
      rw [List.mem_cons] at hr
      rcases hr with rfl | hr
      · refine ⟨by simp, fun z hz => ?_, by simp⟩
        rw [List.mem_append] at hz
        rcases hz with h | h
        · exact .inl h
        · simp at h; subst h; simp
      · obtain ⟨h3, h4, h5⟩ := h2 r hr
        refine ⟨h3, fun z hz => ?_, by simp at h5 ⊢; omega⟩
        rcases h4 z hz with h | h
        · simp at h
        · exact .inr (List.mem_cons_of_mem _ h)
theorem runsE_facts (l : List En) : (runsE l).length ≤ l.length ∧ ∀ r ∈ runsE l, r ≠ [] ∧ (∀ x ∈ r, x ∈ l) ∧ r.length ≤ l.length := by
  obtain ⟨h1, h2⟩ := runsF_len l []
  refine ⟨h1, fun r hr => ?_⟩
  obtain ⟨h3, h4, h5⟩ := h2 r hr
  exact ⟨h3, fun x hx => (h4 x hx).resolve_left (by simp), by simpa using h5⟩
theorem filterMap_take {α β : Type} {f : α → Option β} {l : List α} {k : Nat} {x : α} (h : l[k]? = some x) : (l.take (k + 1)).filterMap f = (l.take k).filterMap f ++ (f x).toList := by
  rw [take_getR h, List.filterMap_append]; cases hf : f x <;> simp [List.filterMap_cons, hf]
theorem filterMap_len {α β : Type} (f : α → Option β) (l : List α) : (l.filterMap f).length ≤ l.length := List.length_filterMap_le f l
set_option maxRecDepth 4000 in
theorem visible_any {A : Option Addr} {n c m : Nat} {l : List En} {w : World} (hr : RdR 4 w All A (l.map enEl)) (hn : l.length = n) (hc : n ≤ c) (hok : ∀ x ∈ l, x.key.length ≤ 1099511627776 ∧ x.val.length ≤ 1099511627776) (hl : l.length ≤ 1048576) :
    CallsV Try.prog 28 #[.slice A n c, .int .u64 (m : Int)] w (RetLE w (if worstE [l] = 0 then visE l m else []) (worstE [l])) := by
  subst hn
  have hmax : maxLen = 9223372036854775807 := rfl
  have hs := St.init w
  refine calls_in (N := _) Try.func28 rfl Try.ntmps28 rfl ?_; show WC _ _ _ _ _ _
  refine wc_sr ?_; refine wl_as rfl rfl ?_; refine wl_as rfl rfl ?_; refine wl_ns ?_; refine wc_seq ?_; refine wc_sr ?_; refine wl_mv rfl rfl ?_
  refine wl_bsG (css := [[.slice A l.length c]]) tkEE ⟨rfl, ⟨_, rfl, rfl⟩, rfl, trivial⟩ (els := rowsE [l]) rfl (by decide) (by decide) (Grp.one (by have := rowEl.mk hr (c := c) (by simpa using hc) (by decide); simpa using this) rfl) rfl fun R w2 hR hbx _ => ?_
  replace hs := hs.below hbx
  skip
  refine wl_call ok_merge_check (mcheck_any (lists := [l]) (OwR.rd hR) rfl (by intro l' h; simp at h; subst h; exact ⟨hl, fun x hx => by have := (hok x hx).1; omega⟩) (by simp)) ⟨rfl, trivial⟩ rfl ?_; rintro _ _ ⟨rfl, hbx2⟩; replace hs := hs.below hbx2; try dsimp only [List.cons_append, List.nil_append, setC, delC] at hs
  obtain ⟨e, he⟩ : ∃ q, worstE [l] = q := ⟨_, rfl⟩
  rw [he]
  by_cases h0 : e = 0
  case neg =>
    have h0' : (e : Int) ≠ 0 := by omega
    rw [if_neg h0]
    refine wl_as rfl rfl ?_; refine wl_ns ?_; refine wc_sr ?_; refine wl_mv rfl rfl ?_; refine wl_bin rfl rfl bin_neq rfl ?_; refine wl_ns ?_; apply wc_decT; exact rfl; (with_reducible assumption); refine wc_sr ?_; refine wl_mv rfl rfl ?_; refine wl_as rfl rfl ?_; refine wl_as rfl rfl ?_; refine wl_ns ?_; refine wc_ret ?_; refine we_seq_ret ?_
    exact we_ret2 rfl rfl rfl ⟨_, rfl, none, 0, rfl, hs.nilS _ _⟩
  have h0' : ¬ (e : Int) ≠ 0 := by omega
  rw [if_pos h0]
  refine wl_as rfl rfl ?_; refine wl_ns ?_; refine wc_sr ?_; refine wl_mv rfl rfl ?_; refine wl_bin rfl rfl bin_neq rfl ?_; refine wl_ns ?_; apply wc_decF; exact rfl; (with_reducible assumption); refine wc_skip ?_; refine we_seq ?_; refine wc_sr ?_; refine wl_as rfl rfl ?_; refine wl_ns ?_; refine wc_seq ?_; refine wc_sr ?_; refine wl_mv rfl rfl ?_
  refine wl_call ok_merge_runs (runs_any (S := All) (hr.below hs.bel) rfl hc (by omega)) ⟨rfl, trivial⟩ rfl ?_
  rintro _ w3 ⟨P, cp, rfl, hP, hbx3⟩
  have hb03 := hs.bel.trans (hbx3.mono hs.size)
  obtain ⟨hlen, hruns⟩ := runsE_facts l
  have hvis : visE l m = (runsE l).filterMap (visR m) := rfl
  obtain ⟨rs, hrs⟩ : ∃ q, runsE l = q := ⟨_, rfl⟩
  rw [hrs] at hP hlen hruns hvis
  rw [hrs]
  have hP := OwR.rd hP
  clear hs hbx hbx2 hbx3
  have hs := (St.init w3).nilS 4 56
  apply wl_val; apply opv_len; exact rfl; exact tkEE.sl; exact rfl; refine wl_mv rfl rfl ?_; refine wl_ns ?_; refine wc_block ?_
  refine wc_loop (fun L wr mm => ∃ (k : Nat) (Q : Option Addr) (cq : Nat) (out : List En), L = [(1, .int .u64 (m : Int)), (7, .slice Q out.length cq), (18, .slice P rs.length cp), (19, .int .i64 (rs.length : Int)), (20, .int .i64 (k : Int))] ∧ k ≤ rs.length ∧ (rs.take k).filterMap (visR m) = out ∧ St NoB w3 wr [.ck (rsC 4 56 Q cq (out.map oE))] ∧ mm = rs.length - k)
    [(1, .int .u64 (m : Int)), (7, .slice none 0 0), (18, .slice P rs.length cp), (19, .int .i64 (rs.length : Int)), (20, .int .i64 (0 : Nat))] rs.length ⟨0, none, 0, [], rfl, by omega, rfl, hs, rfl⟩ ⟨rfl, rfl, rfl, rfl, rfl, trivial⟩ ?_
  clear hs
  rintro _ w1 mm ⟨k, Q, cq, out, rfl, hk, hout, hs, rfl⟩
  refine wc_sr ?_; refine wl_bin rfl rfl bin_lss rfl ?_; refine wl_ns ?_; refine wc_seq ?_
  refine wc_cond rfl (fun h1 => ?_) (fun h1 => ?_)
  · obtain ⟨r, hx⟩ : ∃ r, rs[k]? = some r := ⟨_, List.getElem?_eq_getElem (by omega)⟩
    obtain ⟨hne, hmem, hrl⟩ := hruns r (List.mem_of_getElem? hx)
    obtain ⟨b, o, X, cx, rfl, _, rl, j1⟩ := rowsE_at hP hx
    have i1 := j1.below hs.bel
    have hft := filterMap_take (f := visR m) hx
    have hol : out.length ≤ k := by rw [← hout]; have := filterMap_len (visR m) (rs.take k); simp at this; omega
    refine wc_skip ?_; refine we_seq ?_; refine wc_seq ?_; refine wc_block ?_; refine wc_sr ?_; apply wl_val; apply opv_idxG tkEE; exact rfl; exact rfl; exact rfl; omega; exact rfl; apply wl_val; apply opv_ldW0; exact rfl; assumption; exact e1_row; exact rfl; exact rfl; refine wl_as rfl rfl ?_; refine wl_ns ?_; refine wc_sr ?_; refine wl_mv rfl rfl ?_; refine wl_mv rfl rfl ?_
    refine wl_call ok_merge_at (at_any (m := m) (rl.below hs.bel) rfl (by omega)) ⟨rfl, rfl, trivial⟩ rfl ?_; rintro _ _ ⟨rfl, hbx⟩; replace hs := hs.below hbx; try dsimp only [List.cons_append, List.nil_append, setC, delC] at hs
    cases ha : atE r m with
    | none =>
      have h3 : ¬ (0 : Int) ≤ atV none := by decide
      have h4 : visR m r = none := by rw [visR, ha]; rfl
      rw [h4, hout] at hft
      refine wl_as rfl rfl ?_; refine wl_ns ?_; refine wc_sr ?_; refine wl_mv rfl rfl ?_; refine wl_bin rfl rfl bin_geq rfl ?_; refine wl_mv rfl rfl ?_; apply wl_skip; exact rfl; exact rfl; exact rfl; refine bFn ?_; (with_reducible assumption); exact rfl; apply wl_skip; exact rfl; exact rfl; exact rfl; refine bFn ?_; (with_reducible assumption); exact rfl; apply wl_skip; exact rfl; exact rfl; exact rfl; refine bFn ?_; (with_reducible assumption); exact rfl; apply wl_skip; exact rfl; exact rfl; exact rfl; refine bFn ?_; (with_reducible assumption); exact rfl; apply wl_skip; exact rfl; exact rfl; exact rfl; refine bFn ?_; (with_reducible assumption); exact rfl; apply wl_skip; exact rfl; exact rfl; exact rfl; refine bFn ?_; (with_reducible assumption); exact rfl; apply wl_val; apply opv_pickF; exact rfl; refine bF ?_; (with_reducible assumption); exact rfl; exact rfl; refine wl_ns ?_; apply wc_condFb; exact rfl; exact rfl; refine wc_skip ?_; refine we_block_norm ?_; refine we_seq ?_; refine wc_region ?_; apply wl_val; apply opv_bin; exact rfl; exact rfl; exact bin_add64 (by omega); exact rfl; refine wl_mv rfl rfl ?_; refine wl_nil ?_
      refine we_loop _ (rs.length - (k + 1)) ⟨k + 1, Q, cq, out, rfl, by omega, by simpa using hft, hs, rfl⟩ (by omega) ⟨rfl, rfl, rfl, rfl, by simp [lookT], trivial⟩
    | some i =>
      have h3 : (0 : Int) ≤ atV (some i) := by simp [atV]
      have hil : i < r.length := (List.findIdx?_eq_some_iff_getElem.1 ha).1
      obtain ⟨x, hxi⟩ : ∃ x, r[i]? = some x := ⟨_, List.getElem?_eq_getElem hil⟩
      have hox := hok x (hmem x (List.mem_of_getElem? hxi))
      obtain ⟨b2, o2, cs, rfl, _, _, hp, i2⟩ := RdR.at (k := 4) (by decide) rl (E := enEl x) (i := i) (by rw [List.getElem?_map, hxi]; rfl)
      obtain ⟨U, cu, U2, cu2, rfl, rx, _, rx2, _⟩ := enEl.rd hp
      replace i2 := i2.below hs.bel
      have i3 := i2
      unfold enV at i2
      have ek : (x.kind.toNat : Int) = 1 ↔ x.kind = 1 := kind_iff (n := 1) (by decide)
      have ha' : atV (some i) = (i : Int) := rfl
      rw [ha']
      rw [ha'] at h3
      by_cases h5 : x.kind = 1
      · have h5' := ek.2 h5
        have h4 : visR m r = some x := by rw [visR, ha]; simp [hxi, h5]
        rw [h4, hout] at hft
        refine wl_as rfl rfl ?_; refine wl_ns ?_; refine wc_sr ?_; refine wl_mv rfl rfl ?_; refine wl_bin rfl rfl bin_geq rfl ?_; refine wl_mv rfl rfl ?_; apply wl_take; exact rfl; exact rfl; exact rfl; refine bT ?_; (with_reducible assumption); refine wl_mv rfl rfl ?_; apply wl_take; exact rfl; exact rfl; exact rfl; refine bT ?_; (with_reducible assumption); refine wl_mv rfl rfl ?_; apply wl_take; exact rfl; exact rfl; exact rfl; refine bT ?_; (with_reducible assumption); apply wl_val; apply opv_idxG tkE; exact rfl; exact rfl; exact rfl; omega; exact rfl; apply wl_take; exact rfl; exact rfl; exact rfl; refine bT ?_; (with_reducible assumption); apply wl_val; apply opv_fa; exact fa_sE (by decide); exact rfl; exact rfl; apply wl_take; exact rfl; exact rfl; exact rfl; refine bT ?_; (with_reducible assumption); apply wl_val; apply opv_ldW; exact rfl; assumption; exact e1_u8; exact rfl; exact rfl; apply wl_take; exact rfl; exact rfl; exact rfl; refine bT ?_; (with_reducible assumption); refine wl_bin rfl rfl bin_eql rfl ?_; apply wl_val; apply opv_pickT; exact rfl; refine bT ?_; (with_reducible assumption); exact rfl; exact rfl; refine wl_ns ?_; apply wc_decT; exact rfl; (with_reducible assumption); refine wc_region ?_; refine wl_mv rfl rfl ?_; refine wl_mv rfl rfl ?_; refine wl_mv rfl rfl ?_; apply wl_val; apply opv_idxG tkE; exact rfl; exact rfl; exact rfl; omega; exact rfl; apply wl_val; apply opv_ldG; exact rfl; assumption; exact sE; exact rfl
        refine wl_call ok_merge_twin (mtwin_any (rx.below hs.bel) (rx2.below hs.bel) (by omega) (by omega)) ⟨rfl, trivial⟩ rfl ?_
        rintro _ w5 ⟨C, e1, D, f1, rfl, hsx⟩
        replace hs := ((hs.call hsx).pack (.ce (oE x) (enV x C e1 D f1)) oE_of).front 1 rfl
        dsimp only [delC] at hs
        refine ws_pushS hs tkE (fun _ => rfl) (by simp) ⟨_, rfl, rfl⟩ rfl rfl (by decide) (by omega) (by simp only [maxLen]; omega) rfl rfl ?_; clear hs; intro _ R2 c2 _ hs
        refine wl_as rfl rfl ?_; refine wl_nil ?_; refine we_block_norm ?_; refine we_seq ?_; refine wc_region ?_; apply wl_val; apply opv_bin; exact rfl; exact rfl; exact bin_add64 (by omega); exact rfl; refine wl_mv rfl rfl ?_; refine wl_nil ?_
        refine we_loop _ (rs.length - (k + 1)) ⟨k + 1, R2, c2, out ++ [x], rfl, by omega, by simpa using hft, by simpa using hs, rfl⟩ (by omega) ⟨rfl, by rw [List.length_append]; rfl, rfl, rfl, by simp [lookT], trivial⟩
      · have h5' : ¬ (x.kind.toNat : Int) = 1 := fun h => h5 (ek.1 h)
        have h4 : visR m r = none := by rw [visR, ha]; simp [hxi, h5]
        rw [h4, hout] at hft
        refine wl_as rfl rfl ?_; refine wl_ns ?_; refine wc_sr ?_; refine wl_mv rfl rfl ?_; refine wl_bin rfl rfl bin_geq rfl ?_; refine wl_mv rfl rfl ?_; apply wl_take; exact rfl; exact rfl; exact rfl; refine bT ?_; (with_reducible assumption); refine wl_mv rfl rfl ?_; apply wl_take; exact rfl; exact rfl; exact rfl; refine bT ?_; (with_reducible assumption); refine wl_mv rfl rfl ?_; apply wl_take; exact rfl; exact rfl; exact rfl; refine bT ?_; (with_reducible assumption); apply wl_val; apply opv_idxG tkE; exact rfl; exact rfl; exact rfl; omega; exact rfl; apply wl_take; exact rfl; exact rfl; exact rfl; refine bT ?_; (with_reducible assumption); apply wl_val; apply opv_fa; exact fa_sE (by decide); exact rfl; exact rfl; apply wl_take; exact rfl; exact rfl; exact rfl; refine bT ?_; (with_reducible assumption); apply wl_val; apply opv_ldW; exact rfl; assumption; exact e1_u8; exact rfl; exact rfl; apply wl_take; exact rfl; exact rfl; exact rfl; refine bT ?_; (with_reducible assumption); refine wl_bin rfl rfl bin_eql rfl ?_; apply wl_val; apply opv_pickT; exact rfl; refine bT ?_; (with_reducible assumption); exact rfl; exact rfl; refine wl_ns ?_; apply wc_decF; exact rfl; (with_reducible assumption); refine wc_skip ?_; refine we_block_norm ?_; refine we_seq ?_; refine wc_region ?_; apply wl_val; apply opv_bin; exact rfl; exact rfl; exact bin_add64 (by omega); exact rfl; refine wl_mv rfl rfl ?_; refine wl_nil ?_
        refine we_loop _ (rs.length - (k + 1)) ⟨k + 1, Q, cq, out, rfl, by omega, by simpa using hft, hs, rfl⟩ (by omega) ⟨rfl, rfl, rfl, rfl, by simp [lookT], trivial⟩
  · obtain rfl : k = rs.length := by omega
    rw [List.take_length] at hout
    refine wc_exit ?_; refine we_seq_exit ?_; refine we_loop_exit ?_; refine we_block_exit ?_; refine we_seq ?_; refine wc_sr ?_; refine wl_mv rfl rfl ?_; refine wl_as rfl rfl ?_; refine wl_as rfl rfl ?_; refine wl_ns ?_; refine wc_ret ?_
    exact we_ret2 rfl rfl rfl ⟨_, rfl, Q, cq, by rw [hvis, hout, h0]; rfl, by rw [hvis, hout]; exact hs.rebase hb03⟩
def visP (l : List En) (m : Nat) (x : En) : Bool := match getE l x.key m with | some v => decide (v.seq = x.seq ∧ v.kind = 1) | none => false
def refVis (l : List En) (m : Nat) : List En := l.filter (visP l m)
theorem filter_take {α : Type} {p : α → Bool} {l : List α} {k : Nat} {x : α} (h : l[k]? = some x) : (l.take (k + 1)).filter p = (l.take k).filter p ++ (if p x then [x] else []) := by
  rw [take_getR h, List.filter_append]; cases hp : p x <;> simp [List.filter_cons, hp]
set_option maxRecDepth 4000 in
theorem refVisible_any {S : BS} {A : Option Addr} {n c m : Nat} {l : List En} {w : World} (hr : RdR 4 w S A (l.map enEl)) (hn : l.length = n) (hok : ∀ x ∈ l, x.key.length ≤ maxLen ∧ x.seq < 2 ^ 64) (hl : l.length ≤ 1048576) :
    CallsV Try.prog 29 #[.slice A n c, .int .u64 (m : Int)] w fun v w' => ∃ P cp, v = .slice P (refVis l m).length cp ∧ OwR 4 56 w' w.heap.size S P cp ((refVis l m).map enEl) ∧ Below w.heap.size w w' := by
  subst hn
  have hmax : maxLen = 9223372036854775807 := rfl
  have hs := (St.init w).nilG 4 56
  refine calls_in (N := _) Try.func29 rfl Try.ntmps29 rfl ?_; show WC _ _ _ _ _ _
  refine wc_sr ?_; refine wl_as rfl rfl ?_; refine wl_ns ?_; refine wc_sr ?_; refine wl_as rfl rfl ?_; refine wl_ns ?_; refine wc_seq ?_; refine wc_sr ?_; refine wl_as rfl rfl ?_; refine wl_ns ?_; refine wc_block ?_
  refine wc_loop (fun L wr mm => ∃ (k : Nat) (Q : Option Addr) (cq : Nat) (out : List En) (css : List (List Value)), L = [(0, .slice A l.length c), (1, .int .u64 (m : Int)), (5, .slice Q out.length cq), (6, .int .i64 (k : Int))] ∧ k ≤ l.length ∧ (l.take k).filter (visP l m) = out ∧ Grp 4 w S (out.map enEl) css ∧ St NoB w wr [.rg 4 56 Q cq (css.map rawEl)] ∧ mm = l.length - k)
    [(0, .slice A l.length c), (1, .int .u64 (m : Int)), (5, .slice none 0 0), (6, .int .i64 (0 : Nat))] l.length ⟨0, none, 0, [], [], rfl, by omega, rfl, Grp.nil _ _ _, hs, rfl⟩ ⟨rfl, rfl, rfl, rfl, trivial⟩ ?_
  clear hs
  rintro _ w1 mm ⟨k, Q, cq, out, css, rfl, hk, hout, hg, hs, rfl⟩
  refine wc_seq ?_; refine wc_sr ?_; refine wl_mv rfl rfl ?_; refine wl_mv rfl rfl ?_; apply wl_val; apply opv_len; exact rfl; exact tkE.sl; exact rfl; refine wl_bin rfl rfl bin_lss rfl ?_; refine wl_ns ?_
  refine wc_cond rfl (fun h1 => ?_) (fun h1 => ?_)
  · obtain ⟨x, hx⟩ : ∃ x, l[k]? = some x := ⟨_, List.getElem?_eq_getElem (by omega)⟩
    have hft := filter_take (p := visP l m) hx
    rw [hout] at hft
    have hol : out.length ≤ k := by rw [← hout]; have := List.length_filter_le (visP l m) (l.take k); simp at this; omega
    have hcl : css.length = out.length := by have := hg.1; simpa using this
    obtain ⟨b, o, cs, rfl, _, _, hp, i0⟩ := RdR.at (k := 4) (by decide) hr (E := enEl x) (i := k) (by rw [List.getElem?_map, hx]; rfl)
    obtain ⟨U, cu, U2, cu2, rfl, rx, _, rx2, _⟩ := enEl.rd (El.all hp)
    have i2 := i0.below hs.bel
    unfold enV at i2
    refine wc_skip ?_; refine we_seq ?_; refine wc_seq ?_; refine wc_block ?_; refine wc_sr ?_; refine wl_mv rfl rfl ?_; refine wl_mv rfl rfl ?_; refine wl_mv rfl rfl ?_; apply wl_val; apply opv_idxG tkE; exact rfl; exact rfl; exact rfl; omega; exact rfl; apply wl_val; apply opv_fa; exact fa_sE (by decide); exact rfl; exact rfl; apply wl_val; apply opv_ldW; exact rfl; assumption; exact e1_by; exact rfl; exact rfl; refine wl_mv rfl rfl ?_
    refine wl_call ok_caissonref07_Get (get_any (key := x.key) (at' := m) (hr.all.below hs.bel) rfl (rx.below hs.bel) rfl (fun y hy => (hok y hy).1) (by omega)) ⟨rfl, rfl, rfl, trivial⟩ rfl ?_; rintro _ _ ⟨hv, hbx⟩; replace hs := hs.below hbx; try dsimp only [List.cons_append, List.nil_append, setC, delC] at hs
    replace i2 := i2.below hbx
    cases hge : getE l x.key m with
    | none =>
      rw [hge] at hv
      simp only [getV] at hv
      subst hv
      have h4 : visP l m x = false := by rw [visP, hge]
      rw [h4] at hft
      refine wl_mv rfl rfl ?_; apply wl_val; apply opv_extract; exact rfl; exact rfl; exact rfl; apply wl_val; apply opv_extract; exact rfl; exact rfl; exact rfl
      refine ws_new hs zeroE rfl ?_; clear hs; intro g7 _ hs
      replace i2 := i0.below hs.bel
      unfold enV at i2
      apply ws_stS hs 0; exact rfl; exact rfl; exact rfl; exact sE; exact rfl; exact rfl; clear hs; intro _ hs; dsimp only [setC] at hs; refine wl_as rfl rfl ?_; refine wl_ns ?_; refine wc_seq ?_
      refine wc_drawB mixed (by kernel_rfl) ?_
      apply wq_val; intro _ hw_; apply opv_move; exact rfl; exact rfl; apply wq_val; intro _ hw_; apply opv_move; exact rfl; exact rfl; apply wq_skip; exact rfl; exact rfl; exact rfl; exact bR2; exact rfl; apply wq_skip; exact rfl; exact rfl; exact rfl; exact bR2; exact rfl; apply wq_skip; exact rfl; exact rfl; exact rfl; exact bR2; exact rfl; apply wq_skip; exact rfl; exact rfl; exact rfl; exact bR2; exact rfl; apply wq_skip; exact rfl; exact rfl; exact rfl; exact bR2; exact rfl; apply wq_skip; exact rfl; exact rfl; exact rfl; exact bR2; exact rfl; apply wq_skip; exact rfl; exact rfl; exact rfl; exact bR2; exact rfl; apply wq_skip; exact rfl; exact rfl; exact rfl; exact bR2; exact rfl; apply wq_val; intro _ hw_; apply opv_pickF; exact rfl; exact rfl; exact rfl; exact rfl; apply wq_val; intro _ hw_; apply opv_move; exact rfl; exact rfl; apply wq_skip; exact rfl; exact rfl; exact rfl; exact bR2; exact rfl; apply wq_skip; exact rfl; exact rfl; exact rfl; exact bR2; exact rfl; apply wq_skip; exact rfl; exact rfl; exact rfl; exact bR2; exact rfl; apply wq_val; intro _ hw_; apply opv_pickF; exact rfl; exact rfl; exact rfl; exact rfl; refine wq_nil fun w1 hw1 => ?_
      replace hs := hs.below hw1
      refine we_seq ?_; apply wc_condFb; exact rfl; exact rfl; refine wc_skip ?_; refine we_block_norm ?_; refine we_seq ?_; refine wc_region ?_; refine wl_mv rfl rfl ?_; apply wl_val; apply opv_bin; exact rfl; exact rfl; exact bin_add64 (by omega); exact rfl; refine wl_as rfl rfl ?_; refine wl_nil ?_
      refine we_loop _ (l.length - (k + 1)) ⟨k + 1, Q, cq, out, css, rfl, by omega, by simpa using hft, hg, hs.drop 0 rfl, rfl⟩ (by omega) ⟨rfl, rfl, rfl, by simp [lookT], trivial⟩
    | some y =>
      rw [hge] at hv
      obtain ⟨Y, cy, Y2, cy2, rfl⟩ := hv
      refine wl_mv rfl rfl ?_; apply wl_val; apply opv_extract; exact rfl; exact rfl; exact rfl; apply wl_val; apply opv_extract; exact rfl; exact rfl; exact rfl
      refine ws_new hs zeroE rfl ?_; clear hs; intro g7 _ hs
      apply ws_stS hs 0; exact rfl; exact rfl; exact rfl; exact sE; exact rfl; exact rfl; clear hs; intro _ hs; dsimp only [setC] at hs; refine wl_as rfl rfl ?_; refine wl_ns ?_; refine wc_seq ?_
      replace i2 := i0.below hs.bel
      unfold enV at i2 hs
      have ek : (y.kind.toNat : Int) = 1 ↔ y.kind = 1 := kind_iff (n := 1) (by decide)
      have hvp : visP l m x = decide (y.seq = x.seq ∧ y.kind = 1) := by rw [visP, hge]
      by_cases h2 : y.seq = x.seq
      · have h2' : (y.seq : Int) = (x.seq : Int) := by omega
        by_cases h3 : y.kind = 1
        · have h3' := ek.2 h3
          rw [hvp, decide_eq_true ⟨h2, h3⟩] at hft
          refine wc_drawB mixed (by kernel_rfl) ?_
          apply wq_val; intro _ hw_; apply opv_move; exact rfl; exact rfl; apply wq_val; intro _ hw_; apply opv_move; exact rfl; exact rfl; apply wq_take; exact rfl; exact rfl; exact rfl; exact rfl; apply wq_val; intro _ hw_; apply opv_fa; exact fa_sE (by decide); exact rfl; exact rfl; apply wq_take; exact rfl; exact rfl; exact rfl; exact rfl; apply wq_val; intro _ hw_; apply opv_ldX; exact rfl; exact Ar.bel (hs.ar 0 rfl) hw_; exact e1_u64; exact rfl; exact rfl; apply wq_take; exact rfl; exact rfl; exact rfl; exact rfl; apply wq_val; intro _ hw_; apply opv_move; exact rfl; exact rfl; apply wq_take; exact rfl; exact rfl; exact rfl; exact rfl; apply wq_val; intro _ hw_; apply opv_move; exact rfl; exact rfl; apply wq_take; exact rfl; exact rfl; exact rfl; exact rfl; apply wq_val; intro _ hw_; apply opv_idxG tkE; exact rfl; exact rfl; exact rfl; omega; exact rfl; apply wq_take; exact rfl; exact rfl; exact rfl; exact rfl; apply wq_val; intro _ hw_; apply opv_fa; exact fa_sE (by decide); exact rfl; exact rfl; apply wq_take; exact rfl; exact rfl; exact rfl; exact rfl; apply wq_val; intro _ hw_; apply opv_ldW; exact rfl; exact Wi.below (by assumption) hw_; exact e1_u64; exact rfl; exact rfl; apply wq_take; exact rfl; exact rfl; exact rfl; exact rfl; apply wq_val; intro _ hw_; apply opv_bin; exact rfl; exact rfl; exact bin_eql; exact rfl; apply wq_val; intro _ hw_; apply opv_pickT; exact rfl; exact rfl; exact rfl; exact rfl; apply wq_val; intro _ hw_; apply opv_move; exact rfl; exact rfl; apply wq_take; exact rfl; exact rfl; exact rfl; refine bT ?_; (with_reducible assumption); apply wq_val; intro _ hw_; apply opv_fa; exact fa_sE (by decide); exact rfl; exact rfl; apply wq_take; exact rfl; exact rfl; exact rfl; refine bT ?_; (with_reducible assumption); apply wq_val; intro _ hw_; apply opv_ldX; exact rfl; exact Ar.bel (hs.ar 0 rfl) hw_; exact e1_u8; exact rfl; exact rfl; apply wq_take; exact rfl; exact rfl; exact rfl; refine bT ?_; (with_reducible assumption); apply wq_val; intro _ hw_; apply opv_bin; exact rfl; exact rfl; exact bin_eql; exact rfl; apply wq_val; intro _ hw_; apply opv_pickT; exact rfl; refine bT ?_; (with_reducible assumption); exact rfl; exact rfl; refine wq_nil fun w1 hw1 => ?_
          replace hs := (hs.below hw1).drop 0 rfl
          dsimp only [delC] at hs
          have i4 := i0.below hs.bel
          refine we_seq ?_; apply wc_decT; exact rfl; (with_reducible assumption); refine wc_region ?_; refine wl_mv rfl rfl ?_; refine wl_mv rfl rfl ?_; refine wl_mv rfl rfl ?_; apply wl_val; apply opv_idxG tkE; exact rfl; exact rfl; exact rfl; omega; exact rfl; apply wl_val; apply opv_ldG; exact rfl; assumption; exact sE; exact rfl
          refine ws_pushR (cs := enV x U cu U2 cu2) hs 0 (fun _ => rfl) rfl tkE (by simpa using hcl) ⟨_, rfl, rfl⟩ rfl rfl (by decide) (by omega) (by simp only [maxLen]; omega) rfl rfl ?_
          clear hs; intro _ R3 c3 w5 hs; dsimp only [setC] at hs
          refine wl_as rfl rfl ?_; refine wl_nil ?_; refine we_block_norm ?_; refine we_seq ?_; refine wc_region ?_; refine wl_mv rfl rfl ?_; apply wl_val; apply opv_bin; exact rfl; exact rfl; exact bin_add64 (by omega); exact rfl; refine wl_as rfl rfl ?_; refine wl_nil ?_
          refine we_loop _ (l.length - (k + 1)) ⟨k + 1, R3, c3, out ++ [x], css ++ [enV x U cu U2 cu2], rfl, by omega, by simpa using hft, by rw [List.map_append]; exact hg.append (Grp.one hp rfl), by simpa using hs, rfl⟩ (by omega) ⟨rfl, rfl, by rw [List.length_append]; rfl, by simp [lookT], trivial⟩
        · have h3' : ¬ (y.kind.toNat : Int) = 1 := fun h => h3 (ek.1 h)
          rw [hvp, decide_eq_false (fun h => h3 h.2)] at hft
          refine wc_drawB mixed (by kernel_rfl) ?_
          apply wq_val; intro _ hw_; apply opv_move; exact rfl; exact rfl; apply wq_val; intro _ hw_; apply opv_move; exact rfl; exact rfl; apply wq_take; exact rfl; exact rfl; exact rfl; exact rfl; apply wq_val; intro _ hw_; apply opv_fa; exact fa_sE (by decide); exact rfl; exact rfl; apply wq_take; exact rfl; exact rfl; exact rfl; exact rfl; apply wq_val; intro _ hw_; apply opv_ldX; exact rfl; exact Ar.bel (hs.ar 0 rfl) hw_; exact e1_u64; exact rfl; exact rfl; apply wq_take; exact rfl; exact rfl; exact rfl; exact rfl; apply wq_val; intro _ hw_; apply opv_move; exact rfl; exact rfl; apply wq_take; exact rfl; exact rfl; exact rfl; exact rfl; apply wq_val; intro _ hw_; apply opv_move; exact rfl; exact rfl; apply wq_take; exact rfl; exact rfl; exact rfl; exact rfl; apply wq_val; intro _ hw_; apply opv_idxG tkE; exact rfl; exact rfl; exact rfl; omega; exact rfl; apply wq_take; exact rfl; exact rfl; exact rfl; exact rfl; apply wq_val; intro _ hw_; apply opv_fa; exact fa_sE (by decide); exact rfl; exact rfl; apply wq_take; exact rfl; exact rfl; exact rfl; exact rfl; apply wq_val; intro _ hw_; apply opv_ldW; exact rfl; exact Wi.below (by assumption) hw_; exact e1_u64; exact rfl; exact rfl; apply wq_take; exact rfl; exact rfl; exact rfl; exact rfl; apply wq_val; intro _ hw_; apply opv_bin; exact rfl; exact rfl; exact bin_eql; exact rfl; apply wq_val; intro _ hw_; apply opv_pickT; exact rfl; exact rfl; exact rfl; exact rfl; apply wq_val; intro _ hw_; apply opv_move; exact rfl; exact rfl; apply wq_take; exact rfl; exact rfl; exact rfl; refine bT ?_; (with_reducible assumption); apply wq_val; intro _ hw_; apply opv_fa; exact fa_sE (by decide); exact rfl; exact rfl; apply wq_take; exact rfl; exact rfl; exact rfl; refine bT ?_; (with_reducible assumption); apply wq_val; intro _ hw_; apply opv_ldX; exact rfl; exact Ar.bel (hs.ar 0 rfl) hw_; exact e1_u8; exact rfl; exact rfl; apply wq_take; exact rfl; exact rfl; exact rfl; refine bT ?_; (with_reducible assumption); apply wq_val; intro _ hw_; apply opv_bin; exact rfl; exact rfl; exact bin_eql; exact rfl; apply wq_val; intro _ hw_; apply opv_pickT; exact rfl; refine bT ?_; (with_reducible assumption); exact rfl; exact rfl; refine wq_nil fun w1 hw1 => ?_
          replace hs := hs.below hw1
          refine we_seq ?_; apply wc_decF; exact rfl; (with_reducible assumption); refine wc_skip ?_; refine we_block_norm ?_; refine we_seq ?_; refine wc_region ?_; refine wl_mv rfl rfl ?_; apply wl_val; apply opv_bin; exact rfl; exact rfl; exact bin_add64 (by omega); exact rfl; refine wl_as rfl rfl ?_; refine wl_nil ?_
          refine we_loop _ (l.length - (k + 1)) ⟨k + 1, Q, cq, out, css, rfl, by omega, by simpa using hft, hg, hs.drop 0 rfl, rfl⟩ (by omega) ⟨rfl, rfl, rfl, by simp [lookT], trivial⟩
      · have h2' : ¬ (y.seq : Int) = (x.seq : Int) := by omega
        rw [hvp, decide_eq_false (fun h => h2 h.1)] at hft
        refine wc_drawB mixed (by kernel_rfl) ?_
        apply wq_val; intro _ hw_; apply opv_move; exact rfl; exact rfl; apply wq_val; intro _ hw_; apply opv_move; exact rfl; exact rfl; apply wq_take; exact rfl; exact rfl; exact rfl; exact rfl; apply wq_val; intro _ hw_; apply opv_fa; exact fa_sE (by decide); exact rfl; exact rfl; apply wq_take; exact rfl; exact rfl; exact rfl; exact rfl; apply wq_val; intro _ hw_; apply opv_ldX; exact rfl; exact Ar.bel (hs.ar 0 rfl) hw_; exact e1_u64; exact rfl; exact rfl; apply wq_take; exact rfl; exact rfl; exact rfl; exact rfl; apply wq_val; intro _ hw_; apply opv_move; exact rfl; exact rfl; apply wq_take; exact rfl; exact rfl; exact rfl; exact rfl; apply wq_val; intro _ hw_; apply opv_move; exact rfl; exact rfl; apply wq_take; exact rfl; exact rfl; exact rfl; exact rfl; apply wq_val; intro _ hw_; apply opv_idxG tkE; exact rfl; exact rfl; exact rfl; omega; exact rfl; apply wq_take; exact rfl; exact rfl; exact rfl; exact rfl; apply wq_val; intro _ hw_; apply opv_fa; exact fa_sE (by decide); exact rfl; exact rfl; apply wq_take; exact rfl; exact rfl; exact rfl; exact rfl; apply wq_val; intro _ hw_; apply opv_ldW; exact rfl; exact Wi.below (by assumption) hw_; exact e1_u64; exact rfl; exact rfl; apply wq_take; exact rfl; exact rfl; exact rfl; exact rfl; apply wq_val; intro _ hw_; apply opv_bin; exact rfl; exact rfl; exact bin_eql; exact rfl; apply wq_val; intro _ hw_; apply opv_pickT; exact rfl; exact rfl; exact rfl; exact rfl; apply wq_val; intro _ hw_; apply opv_move; exact rfl; exact rfl; apply wq_skip; exact rfl; exact rfl; exact rfl; refine bFn ?_; (with_reducible assumption); exact rfl; apply wq_skip; exact rfl; exact rfl; exact rfl; refine bFn ?_; (with_reducible assumption); exact rfl; apply wq_skip; exact rfl; exact rfl; exact rfl; refine bFn ?_; (with_reducible assumption); exact rfl; apply wq_val; intro _ hw_; apply opv_pickF; exact rfl; refine bF ?_; (with_reducible assumption); exact rfl; exact rfl; refine wq_nil fun w1 hw1 => ?_
        replace hs := hs.below hw1
        refine we_seq ?_; apply wc_condFb; exact rfl; exact rfl; refine wc_skip ?_; refine we_block_norm ?_; refine we_seq ?_; refine wc_region ?_; refine wl_mv rfl rfl ?_; apply wl_val; apply opv_bin; exact rfl; exact rfl; exact bin_add64 (by omega); exact rfl; refine wl_as rfl rfl ?_; refine wl_nil ?_
        refine we_loop _ (l.length - (k + 1)) ⟨k + 1, Q, cq, out, css, rfl, by omega, by simpa using hft, hg, hs.drop 0 rfl, rfl⟩ (by omega) ⟨rfl, rfl, rfl, by simp [lookT], trivial⟩
  · obtain rfl : k = l.length := by omega
    rw [List.take_length] at hout
    refine wc_exit ?_; refine we_seq_exit ?_; refine we_loop_exit ?_; refine we_block_exit ?_; refine we_seq ?_; refine wc_sr ?_; refine wl_mv rfl rfl ?_; refine wl_as rfl rfl ?_; refine wl_ns ?_; refine wc_ret ?_
    refine we_ret1 rfl rfl ⟨_, rfl, Q, cq, by rw [refVis, hout], ?_, hs.bel⟩
    rw [refVis, hout]; exact hs.rawOut 0 rfl hg
end Go.Proofs.Ytpnckagibkdcpaa


/-
  Walks over needed and Keep of the program.
-/
namespace Go.Proofs.Ytpnckagibkdcpaa
open Go.RowKit

theorem tyQ : Row1 Try.prog 41 26 (.int .u64 0) 8 := ⟨Try.underlying41, by kernel_rfl, rfl, by rw [Try.underlying26]⟩
theorem tyBo : Row1 Try.prog 111 4 (.bool false) 1 := ⟨Try.underlying111, by kernel_rfl, rfl, by rw [Try.underlying4]⟩
def u64s (ms : List Nat) : List Value := ms.map fun (m : Nat) => .int .u64 (m : Int)
theorem u64s_get {ms : List Nat} {k m : Nat} (h : ms[k]? = some m) : (u64s ms)[k]? = some (.int .u64 (m : Int)) := by simp [u64s, h]
/-- Whether place i of a run is needed. -/
def ndP (run : List En) (ms : List Nat) (i : Nat) : Bool := decide (i = 0) || ms.any fun m => decide (atE run m = some i)
def pick (run : List En) (ms : List Nat) (i : Nat) : Option En := if ndP run ms i then run[i]? else none
def needE (run : List En) (ms : List Nat) : List En := (List.range run.length).filterMap (pick run ms)
def ndV (run : List En) (ms : List Nat) : List Value := (List.range run.length).map fun i => .bool (ndP run ms i)
theorem ndV_get {run : List En} {ms : List Nat} {i : Nat} (h : i < run.length) : (ndV run ms)[i]? = some (.bool (ndP run ms i)) := by simp [ndV, h]
theorem ndV_len (run : List En) (ms : List Nat) : (ndV run ms).length = run.length := by simp [ndV]
theorem ndV_nil {run : List En} (h : 0 < run.length) : (List.replicate run.length (Value.bool false)).set 0 (.bool true) = ndV run [] := by
  apply List.ext_getElem?
  intro i
  rw [List.getElem?_set, List.getElem?_replicate]
  by_cases h1 : i < run.length
  · rw [ndV_get h1, ndP]
    cases i with
    | zero => simp [h]
    | succ i => simp [h1]
  · rw [List.getElem?_eq_none (by rw [ndV_len]; omega), if_neg (by omega), if_neg h1]
theorem ndV_set {run : List En} {ms : List Nat} {m i : Nat} (h : i < run.length) (ha : atE run m = some i) : (ndV run ms).set i (.bool true) = ndV run (ms ++ [m]) := by
  apply List.ext_getElem?
  intro j
  rw [List.getElem?_set, ndV_len]
  by_cases h1 : j < run.length
  · rw [ndV_get h1, ndV_get h1, ndP, ndP, List.any_append]
    by_cases h2 : i = j
    · subst h2; simp [h, ha]
    · have : ¬ atE run m = some j := by rw [ha]; simpa using h2
      simp [h2, this]
  · rw [List.getElem?_eq_none (by rw [ndV_len]; omega), if_neg (by omega), List.getElem?_eq_none (by rw [ndV_len]; omega)]
theorem ndV_none {run : List En} {ms : List Nat} {m : Nat} (ha : atE run m = none) : ndV run ms = ndV run (ms ++ [m]) := by
  unfold ndV ndP; simp [List.any_append, ha]
theorem ndV_one (run : List En) (ms : List Nat) : ∀ u ∈ ndV run ms, u.oneCell' = true := by
  intro u hu; simp [ndV] at hu; obtain ⟨_, _, rfl⟩ := hu; rfl
theorem needE_take {run : List En} {ms : List Nat} {k : Nat} : (List.range (k + 1)).filterMap (pick run ms) = (List.range k).filterMap (pick run ms) ++ (pick run ms k).toList := by
  rw [List.range_succ, List.filterMap_append]; cases h : pick run ms k <;> simp [h]
set_option maxRecDepth 4000 in
theorem needed_any {A B : Option Addr} {n c nb cb : Nat} {l : List En} {ms : List Nat} {w : World} (hr : RdR 4 w All A (l.map enEl)) (hn : l.length = n) (hm : Rd w B nb (u64s ms)) (hne : l ≠ []) (hok : ∀ x ∈ l, x.key.length ≤ 1099511627776 ∧ x.val.length ≤ 1099511627776) (hl : l.length ≤ 1048576) (hml : ms.length ≤ 4294967296) :
    CallsV Try.prog 48 #[.slice A n c, .slice B nb cb] w fun v w' => ∃ P cp, v = .slice P (needE l ms).length cp ∧ St NoB w w' [.ck (rsC 4 56 P cp ((needE l ms).map oE))] := by
  subst hn
  have hnb : ms.length = nb := by have := hm.1; simpa [u64s] using this
  subst hnb
  have hpos : 0 < l.length := List.length_pos_iff.2 hne
  have hmax : maxLen = 9223372036854775807 := rfl
  have hs := St.init w
  refine calls_in (N := _) Try.func48 rfl Try.ntmps48 rfl ?_; show WC _ _ _ _ _ _
  refine wc_sr ?_; refine wl_as rfl rfl ?_; refine wl_ns ?_; refine wc_sr ?_; refine wl_mv rfl rfl ?_; apply wl_val; apply opv_len; exact rfl; exact tkE.sl; exact rfl
  refine ws_mk (n := l.length) (c := l.length) hs tyBo rfl rfl rfl rfl (Nat.le_refl _) (by omega) (by simp only [maxLen]; omega) rfl ?_
  clear hs; intro R w1 hs
  refine wl_as rfl rfl ?_; refine wl_ns ?_; refine wc_sr ?_; refine wl_mv rfl rfl ?_
  refine ws_set (kk := 0) hs 0 rfl rfl tyBo rfl rfl hpos (fun _ => rfl) rfl rfl ?_
  clear hs; intro _ w2 hs
  dsimp only [setC] at hs
  rw [ndV_nil hpos] at hs
  refine wl_ns ?_; refine wc_seq ?_; refine wc_sr ?_; refine wl_mv rfl rfl ?_; apply wl_val; apply opv_len; exact rfl; exact tyQ.sl; exact rfl; refine wl_mv rfl rfl ?_; refine wl_ns ?_; refine wc_block ?_
  refine wc_loop (fun L wr mm => ∃ (k : Nat), L = [(0, .slice A l.length c), (5, .slice R l.length l.length), (17, .slice B ms.length cb), (18, .int .i64 (ms.length : Int)), (19, .int .i64 (k : Int))] ∧ k ≤ ms.length ∧ St NoB w wr [.ow 4 R l.length l.length (ndV l (ms.take k))] ∧ mm = ms.length - k)
    [(0, .slice A l.length c), (5, .slice R l.length l.length), (17, .slice B ms.length cb), (18, .int .i64 (ms.length : Int)), (19, .int .i64 (0 : Nat))] ms.length ⟨0, rfl, by omega, hs, rfl⟩ ⟨rfl, rfl, rfl, rfl, rfl, trivial⟩ ?_
  clear hs
  rintro _ w3 mm ⟨k, rfl, hk, hs, rfl⟩
  refine wc_sr ?_; refine wl_bin rfl rfl bin_lss rfl ?_; refine wl_ns ?_; refine wc_seq ?_
  refine wc_cond rfl (fun h1 => ?_) (fun h1 => ?_)
  · obtain ⟨m, hx⟩ : ∃ m, ms[k]? = some m := ⟨_, List.getElem?_eq_getElem (by omega)⟩
    have hum := u64s_get hx
    have hmw := hm.below hs.bel
    refine wc_skip ?_; refine we_seq ?_; refine wc_seq ?_; refine wc_block ?_; refine wc_sr ?_; apply wl_elK (T := tyQ) (hr := hmw) (hb := hum); exact rfl; exact rfl; exact rfl; exact rfl; exact rfl; intro _; refine wl_as rfl rfl ?_; refine wl_ns ?_; refine wc_sr ?_; refine wl_mv rfl rfl ?_; refine wl_mv rfl rfl ?_
    refine wl_call ok_merge_at (at_any (m := m) (hr.below hs.bel) rfl (by omega)) ⟨rfl, rfl, trivial⟩ rfl ?_; rintro _ _ ⟨rfl, hbx⟩; replace hs := hs.below hbx; try dsimp only [List.cons_append, List.nil_append, setC, delC] at hs
    cases ha : atE l m with
    | none =>
      have h3 : ¬ (0 : Int) ≤ atV none := by decide
      refine wl_as rfl rfl ?_; refine wl_ns ?_; refine wc_sr ?_; refine wl_mv rfl rfl ?_; refine wl_bin rfl rfl bin_geq rfl ?_; refine wl_ns ?_; apply wc_condFb; exact rfl; exact rfl; refine wc_skip ?_; refine we_block_norm ?_; refine we_seq ?_; refine wc_region ?_; apply wl_val; apply opv_bin; exact rfl; exact rfl; exact bin_add64 (by omega); exact rfl; refine wl_mv rfl rfl ?_; refine wl_nil ?_
      refine we_loop _ (ms.length - (k + 1)) ⟨k + 1, rfl, by omega, by rw [take_getR hx, ← ndV_none ha]; exact hs, rfl⟩ (by omega) ⟨rfl, rfl, rfl, rfl, by simp [lookT], trivial⟩
    | some i =>
      have hil : i < l.length := (List.findIdx?_eq_some_iff_getElem.1 ha).1
      have ha' : atV (some i) = (i : Int) := rfl
      have h3 : (0 : Int) ≤ (i : Int) := by omega
      rw [ha']
      refine wl_as rfl rfl ?_; refine wl_ns ?_; refine wc_sr ?_; refine wl_mv rfl rfl ?_; refine wl_bin rfl rfl bin_geq rfl ?_; refine wl_ns ?_; apply wc_condTb; exact rfl; exact rfl; refine wc_region ?_; refine wl_mv rfl rfl ?_; refine wl_mv rfl rfl ?_
      refine ws_set (kk := i) hs 0 rfl rfl tyBo rfl rfl hil (fun _ => rfl) rfl rfl ?_
      clear hs; intro _ w5 hs
      dsimp only [setC] at hs
      rw [ndV_set hil ha] at hs
      refine wl_nil ?_; refine we_block_norm ?_; refine we_seq ?_; refine wc_region ?_; apply wl_val; apply opv_bin; exact rfl; exact rfl; exact bin_add64 (by omega); exact rfl; refine wl_mv rfl rfl ?_; refine wl_nil ?_
      refine we_loop _ (ms.length - (k + 1)) ⟨k + 1, rfl, by omega, by rw [take_getR hx]; exact hs, rfl⟩ (by omega) ⟨rfl, rfl, rfl, rfl, by simp [lookT], trivial⟩
  obtain rfl : k = ms.length := by omega
  rw [List.take_length] at hs
  replace hs := hs.nilS 4 56
  refine wc_exit ?_; refine we_seq_exit ?_; refine we_loop_exit ?_; refine we_block_exit ?_; refine we_seq ?_; refine wc_sr ?_; refine wl_as rfl rfl ?_; refine wl_ns ?_; refine wc_seq ?_; refine wc_sr ?_; refine wl_mv rfl rfl ?_; apply wl_val; apply opv_len; exact rfl; exact tkE.sl; exact rfl; refine wl_mv rfl rfl ?_; refine wl_ns ?_; refine wc_block ?_
  refine wc_loop (fun L wr mm => ∃ (k : Nat) (Q : Option Addr) (cq : Nat) (out : List En), L = [(5, .slice R l.length l.length), (9, .slice Q out.length cq), (32, .slice A l.length c), (33, .int .i64 (l.length : Int)), (34, .int .i64 (k : Int))] ∧ k ≤ l.length ∧ (List.range k).filterMap (pick l ms) = out ∧ St NoB w wr [.ck (rsC 4 56 Q cq (out.map oE)), .ow 4 R l.length l.length (ndV l ms)] ∧ mm = l.length - k)
    [(5, .slice R l.length l.length), (9, .slice none 0 0), (32, .slice A l.length c), (33, .int .i64 (l.length : Int)), (34, .int .i64 (0 : Nat))] l.length ⟨0, none, 0, [], rfl, by omega, rfl, hs, rfl⟩ ⟨rfl, rfl, rfl, rfl, rfl, trivial⟩ ?_
  clear hs h1
  rintro _ w3 mm ⟨k, Q, cq, out, rfl, hk, hout, hs, rfl⟩
  refine wc_sr ?_; refine wl_bin rfl rfl bin_lss rfl ?_; refine wl_ns ?_; refine wc_seq ?_
  refine wc_cond rfl (fun h1 => ?_) (fun h1 => ?_)
  · obtain ⟨x, hx⟩ : ∃ x, l[k]? = some x := ⟨_, List.getElem?_eq_getElem (by omega)⟩
    have hox := hok x (List.mem_of_getElem? hx)
    have hol : out.length ≤ k := by rw [← hout]; have := filterMap_len (pick l ms) (List.range k); simpa using this
    have hft := needE_take (run := l) (ms := ms) (k := k)
    rw [hout] at hft
    obtain ⟨b, o, cs, rfl, _, _, hp, i0⟩ := RdR.at (k := 4) (by decide) hr (E := enEl x) (i := k) (by rw [List.getElem?_map, hx]; rfl)
    obtain ⟨U, cu, U2, cu2, rfl, rx, _, rx2, _⟩ := enEl.rd (El.all hp)
    have i2 := i0.below hs.bel
    refine wc_skip ?_; refine we_seq ?_; refine wc_seq ?_; refine wc_block ?_; refine wc_sr ?_; refine wl_mv rfl rfl ?_; apply wl_val; apply opv_idxG tkE; exact rfl; exact rfl; exact rfl; omega; exact rfl; apply wl_val; apply opv_ldG; exact rfl; assumption; exact sE; exact rfl
    refine ws_new hs zeroE rfl ?_; clear hs; intro g3 _ hs
    refine wl_as rfl rfl ?_; apply ws_stS hs 0; exact rfl; exact rfl; exact rfl; exact sE; exact rfl; exact rfl; clear hs; intro _ hs; dsimp only [setC] at hs; refine wl_ns ?_; refine wc_sr ?_; refine wl_mv rfl rfl ?_; refine wl_mv rfl rfl ?_
    have hnd := (hs.ow 2 rfl).rd
    have hbk := ndV_get (ms := ms) (show k < l.length by omega)
    apply wl_elK (T := tyBo) (hr := hnd) (hb := hbk); exact rfl; exact rfl; exact rfl; exact rfl; exact rfl; intro _; refine wl_ns ?_
    cases hb : ndP l ms k with
    | true =>
      have hpk : pick l ms k = some x := by rw [pick, hb, if_pos rfl, hx]
      rw [hpk] at hft
      apply wc_condTb; exact rfl; exact rfl; refine wc_region ?_; refine wl_mv rfl rfl ?_; apply wl_val; apply opv_loadX; exact rfl; exact hs.ar 0 rfl; exact sE; exact rfl
      refine wl_call ok_merge_twin (mtwin_any (rx.below hs.bel) (rx2.below hs.bel) (by omega) (by omega)) ⟨rfl, trivial⟩ rfl ?_
      rintro _ w5 ⟨C, e1, D, f1, rfl, hsx⟩
      replace hs := ((hs.call hsx).pack (.ce (oE x) (enV x C e1 D f1)) oE_of).front 2 rfl
      dsimp only [delC] at hs
      refine ws_pushS hs tkE (fun _ => rfl) (by simp) ⟨_, rfl, rfl⟩ rfl rfl (by decide) (by omega) (by simp only [maxLen]; omega) rfl rfl ?_; clear hs; intro _ R2 c2 _ hs
      refine wl_as rfl rfl ?_; refine wl_nil ?_; refine we_block_norm ?_; refine we_seq ?_; refine wc_region ?_; apply wl_val; apply opv_bin; exact rfl; exact rfl; exact bin_add64 (by omega); exact rfl; refine wl_mv rfl rfl ?_; refine wl_nil ?_
      refine we_loop _ (l.length - (k + 1)) ⟨k + 1, R2, c2, out ++ [x], rfl, by omega, by simpa using hft, by simpa [delC] using hs.drop 1 rfl, rfl⟩ (by omega) ⟨rfl, by rw [List.length_append]; rfl, rfl, rfl, by simp [lookT], trivial⟩
    | false =>
      have hpk : pick l ms k = none := by rw [pick, hb]; rfl
      rw [hpk] at hft
      apply wc_condFb; exact rfl; exact rfl; refine wc_skip ?_; refine we_block_norm ?_; refine we_seq ?_; refine wc_region ?_; apply wl_val; apply opv_bin; exact rfl; exact rfl; exact bin_add64 (by omega); exact rfl; refine wl_mv rfl rfl ?_; refine wl_nil ?_
      refine we_loop _ (l.length - (k + 1)) ⟨k + 1, Q, cq, out, rfl, by omega, by simpa using hft, hs.drop 0 rfl, rfl⟩ (by omega) ⟨rfl, rfl, rfl, rfl, by simp [lookT], trivial⟩
  · obtain rfl : k = l.length := by omega
    have hout : needE l ms = out := hout
    refine wc_exit ?_; refine we_seq_exit ?_; refine we_loop_exit ?_; refine we_block_exit ?_; refine we_seq ?_; refine wc_sr ?_; refine wl_mv rfl rfl ?_; refine wl_as rfl rfl ?_; refine wl_ns ?_; refine wc_ret ?_
    exact we_ret1 rfl rfl ⟨_, rfl, Q, cq, by rw [hout], by rw [hout]; exact hs.drop 1 rfl⟩
/-- How many stay when what is deleted at the end goes. -/
def trimN (s : List En) : Nat → Nat
  | 0 => 0
  | n + 1 => match s[n]? with
    | some x => if x.kind = 2 then trimN s n else n + 1
    | none => n + 1
theorem trimN_le (s : List En) : ∀ n, trimN s n ≤ n
  | 0 => Nat.le_refl _
  | n + 1 => by
    rw [trimN]
    have := trimN_le s n
    split
    · split <;> omega
    · omega
def keepR (bottom : Bool) (ms : List Nat) (run : List En) : List En := (needE run ms).take (if bottom then trimN (needE run ms) (needE run ms).length else (needE run ms).length)
def keepE (l : List En) (bottom : Bool) (ms : List Nat) : List En := (runsE l).flatMap (keepR bottom ms)
theorem flatMap_take {α β : Type} {f : α → List β} {l : List α} {k : Nat} {x : α} (h : l[k]? = some x) : (l.take (k + 1)).flatMap f = (l.take k).flatMap f ++ f x := by
  rw [take_getR h, List.flatMap_append]; simp
theorem needE_len (run : List En) (ms : List Nat) : (needE run ms).length ≤ run.length := by
  have := filterMap_len (pick run ms) (List.range run.length); rw [List.length_range] at this; exact this
theorem keepR_len (b : Bool) (ms : List Nat) (run : List En) : (keepR b ms run).length ≤ run.length := by
  have := needE_len run ms
  unfold keepR; rw [List.length_take]; omega
theorem flat_len {f : List En → List En} (hf : ∀ r, (f r).length ≤ r.length) : ∀ (rs : List (List En)), (rs.flatMap f).length ≤ (rs.map List.length).sum
  | [] => by simp
  | r :: rs => by
    have := flat_len hf rs
    have := hf r
    rw [List.flatMap_cons, List.length_append, List.map_cons, List.sum_cons]; omega
theorem runsF_sum : ∀ (l acc : List En), l ≠ [] → ((runsF l acc).map List.length).sum = acc.length + l.length
  | [], _, h => absurd rfl h
  | [x], acc, _ => by simp [runsF]
  | x :: y :: l, acc, _ => by
    rw [runsF]
    split
    · rw [runsF_sum (y :: l) (acc ++ [x]) (by simp)]; simp; omega
    · rw [List.map_cons, List.sum_cons, runsF_sum (y :: l) [] (by simp)]; simp; omega
theorem runs_sum (l : List En) : ((runsE l).map List.length).sum = l.length := by
  cases l with
  | nil => simp [runsE, runsF]
  | cons x l => rw [runsE, runsF_sum _ _ (by simp)]; simp
theorem take_sum {rs : List (List En)} (k : Nat) : ((rs.take k).map List.length).sum ≤ (rs.map List.length).sum := by
  conv => rhs; rw [← List.take_append_drop k rs, List.map_append, List.sum_append]
  omega
set_option maxRecDepth 4000 in
theorem keep_any {A B : Option Addr} {n c nb cb : Nat} {l : List En} {bt : Bool} {ms : List Nat} {w : World} (hr : RdR 4 w All A (l.map enEl)) (hn : l.length = n) (hc : n ≤ c) (hm : Rd w B nb (u64s ms)) (hok : ∀ x ∈ l, x.key.length ≤ 1099511627776 ∧ x.val.length ≤ 1099511627776) (hl : l.length ≤ 1048576) (hml : ms.length ≤ 4294967296) :
    CallsV Try.prog 23 #[.slice A n c, .bool bt, .slice B nb cb] w (RetLE w (if worstE [l] = 0 then keepE l bt ms else []) (worstE [l])) := by
  subst hn
  have hmax : maxLen = 9223372036854775807 := rfl
  have hs := St.init w
  refine calls_in (N := _) Try.func23 rfl Try.ntmps23 rfl ?_; show WC _ _ _ _ _ _
  refine wc_sr ?_; refine wl_as rfl rfl ?_; refine wl_as rfl rfl ?_; refine wl_ns ?_; refine wc_seq ?_; refine wc_sr ?_; refine wl_mv rfl rfl ?_
  refine wl_bsG (css := [[.slice A l.length c]]) tkEE ⟨rfl, ⟨_, rfl, rfl⟩, rfl, trivial⟩ (els := rowsE [l]) rfl (by decide) (by decide) (Grp.one (by have := rowEl.mk hr (c := c) (by simpa using hc) (by decide); simpa using this) rfl) rfl fun R w2 hR hbx _ => ?_
  replace hs := hs.below hbx
  skip
  refine wl_call ok_merge_check (mcheck_any (lists := [l]) (OwR.rd hR) rfl (by intro l' h; simp at h; subst h; exact ⟨hl, fun x hx => by have := (hok x hx).1; omega⟩) (by simp)) ⟨rfl, trivial⟩ rfl ?_; rintro _ _ ⟨rfl, hbx2⟩; replace hs := hs.below hbx2; try dsimp only [List.cons_append, List.nil_append, setC, delC] at hs
  obtain ⟨e, he⟩ : ∃ q, worstE [l] = q := ⟨_, rfl⟩
  rw [he]
  by_cases h0 : e = 0
  case neg =>
    have h0' : (e : Int) ≠ 0 := by omega
    rw [if_neg h0]
    refine wl_as rfl rfl ?_; refine wl_ns ?_; refine wc_sr ?_; refine wl_mv rfl rfl ?_; refine wl_bin rfl rfl bin_neq rfl ?_; refine wl_ns ?_; apply wc_decT; exact rfl; (with_reducible assumption); refine wc_sr ?_; refine wl_mv rfl rfl ?_; refine wl_as rfl rfl ?_; refine wl_as rfl rfl ?_; refine wl_ns ?_; refine wc_ret ?_; refine we_seq_ret ?_
    exact we_ret2 rfl rfl rfl ⟨_, rfl, none, 0, rfl, hs.nilS _ _⟩
  have h0' : ¬ (e : Int) ≠ 0 := by omega
  rw [if_pos h0]
  refine wl_as rfl rfl ?_; refine wl_ns ?_; refine wc_sr ?_; refine wl_mv rfl rfl ?_; refine wl_bin rfl rfl bin_neq rfl ?_; refine wl_ns ?_; apply wc_decF; exact rfl; (with_reducible assumption); refine wc_skip ?_; refine we_seq ?_; refine wc_sr ?_; refine wl_as rfl rfl ?_; refine wl_ns ?_; refine wc_seq ?_; refine wc_sr ?_; refine wl_mv rfl rfl ?_
  refine wl_call ok_merge_runs (runs_any (S := All) (hr.below hs.bel) rfl hc (by omega)) ⟨rfl, trivial⟩ rfl ?_
  rintro _ w3 ⟨P, cp, rfl, hP, hbx3⟩
  have hb03 := hs.bel.trans (hbx3.mono hs.size)
  obtain ⟨hlen, hruns⟩ := runsE_facts l
  have hsum := runs_sum l
  have hkp : keepE l bt ms = (runsE l).flatMap (keepR bt ms) := rfl
  obtain ⟨rs, hrs⟩ : ∃ q, runsE l = q := ⟨_, rfl⟩
  rw [hrs] at hP hlen hruns hkp hsum
  rw [hrs]
  have hP := OwR.rd hP
  clear hs hbx hbx2
  have hs := (St.init w3).nilS 4 56
  have hm3 := hm.below hb03
  apply wl_val; apply opv_len; exact rfl; exact tkEE.sl; exact rfl; refine wl_mv rfl rfl ?_; refine wl_ns ?_; refine wc_block ?_
  refine wc_loop (fun L wr mm => ∃ (k : Nat) (Q : Option Addr) (cq : Nat) (out : List En), L = [(1, .bool bt), (2, .slice B nb cb), (9, .slice Q out.length cq), (21, .slice P rs.length cp), (22, .int .i64 (rs.length : Int)), (23, .int .i64 (k : Int))] ∧ k ≤ rs.length ∧ (rs.take k).flatMap (keepR bt ms) = out ∧ St NoB w3 wr [.ck (rsC 4 56 Q cq (out.map oE))] ∧ mm = rs.length - k)
    [(1, .bool bt), (2, .slice B nb cb), (9, .slice none 0 0), (21, .slice P rs.length cp), (22, .int .i64 (rs.length : Int)), (23, .int .i64 (0 : Nat))] rs.length ⟨0, none, 0, [], rfl, by omega, rfl, hs, rfl⟩ ⟨rfl, rfl, rfl, rfl, rfl, rfl, trivial⟩ ?_
  clear hs
  rintro _ w1 mm ⟨k, Q, cq, out, rfl, hk, hout, hs, rfl⟩
  refine wc_sr ?_; refine wl_bin rfl rfl bin_lss rfl ?_; refine wl_ns ?_; refine wc_seq ?_
  refine wc_cond rfl (fun h1 => ?_) (fun h1 => ?_)
  · obtain ⟨r, hx⟩ : ∃ r, rs[k]? = some r := ⟨_, List.getElem?_eq_getElem (by omega)⟩
    obtain ⟨hne, hmem, hrl⟩ := hruns r (List.mem_of_getElem? hx)
    obtain ⟨b, o, X, cx, rfl, _, rl, j1⟩ := rowsE_at hP hx
    have i1 := j1.below hs.bel
    have hft := flatMap_take (f := keepR bt ms) hx
    rw [hout] at hft
    have hol : out.length ≤ l.length := by rw [← hout]; have h1 := flat_len (keepR_len bt ms) (rs.take k); have h2 := take_sum (rs := rs) k; omega
    refine wc_skip ?_; refine we_seq ?_; refine wc_seq ?_; refine wc_block ?_; refine wc_sr ?_; apply wl_val; apply opv_idxG tkEE; exact rfl; exact rfl; exact rfl; omega; exact rfl; apply wl_val; apply opv_ldW0; exact rfl; assumption; exact e1_row; exact rfl; exact rfl; refine wl_as rfl rfl ?_; refine wl_ns ?_; refine wc_sr ?_; refine wl_mv rfl rfl ?_; refine wl_mv rfl rfl ?_
    refine wl_call ok_merge_needed (needed_any (rl.below hs.bel) rfl (hm3.below hs.bel) hne (fun x hx => hok x (hmem x hx)) (by omega) hml) ⟨rfl, rfl, trivial⟩ rfl ?_
    rintro _ w5 ⟨V, cv, rfl, hsx⟩
    replace hs := hs.call hsx
    dsimp only [List.cons_append, List.nil_append] at hs
    have hkr : keepR bt ms r = (needE r ms).take (if bt then trimN (needE r ms) (needE r ms).length else (needE r ms).length) := rfl
    have hnl := needE_len r ms
    obtain ⟨s, hsd⟩ : ∃ q, needE r ms = q := ⟨_, rfl⟩
    rw [hsd] at hs hkr hnl
    rw [hsd]
    refine wl_as rfl rfl ?_; refine wl_ns ?_; refine wc_seq ?_; refine wc_sr ?_; refine wl_mv rfl rfl ?_; apply wl_val; apply opv_len; exact rfl; exact tkE.sl; exact rfl; refine wl_as rfl rfl ?_; refine wl_ns ?_; refine wc_block ?_
    refine wc_loop (fun L wr mm => ∃ (n : Nat), L = [(1, .bool bt), (2, .slice B nb cb), (9, .slice Q out.length cq), (12, .slice V n cv), (13, .int .i64 (n : Int)), (21, .slice (some ⟨b, o, none⟩) rs.length cp), (22, .int .i64 (rs.length : Int)), (23, .int .i64 (k : Int))] ∧ n ≤ s.length ∧ (if bt then trimN s n = trimN s s.length else n = s.length) ∧ St NoB w3 wr [.ck (rsC 4 56 V cv ((s.take n).map oE)), .ck (rsC 4 56 Q cq (out.map oE))] ∧ n = mm)
      [(1, .bool bt), (2, .slice B nb cb), (9, .slice Q out.length cq), (12, .slice V s.length cv), (13, .int .i64 (s.length : Int)), (21, .slice (some ⟨b, o, none⟩) rs.length cp), (22, .int .i64 (rs.length : Int)), (23, .int .i64 (k : Int))] s.length ⟨s.length, rfl, by omega, by split <;> rfl, by rw [List.take_length]; exact hs, rfl⟩ ⟨rfl, rfl, rfl, rfl, rfl, rfl, rfl, rfl, trivial⟩ ?_
    clear hs
    rintro _ w6 mm ⟨n, rfl, hns, htr, hs, rfl⟩
    have hend : (∃ j x, bt = true ∧ n = j + 1 ∧ s[j]? = some x ∧ x.kind = 2 ∧ trimN s j = trimN s s.length) ∨ ((bt = false ∨ n = 0 ∨ ∃ j x, bt = true ∧ n = j + 1 ∧ s[j]? = some x ∧ ¬ x.kind = 2) ∧ s.take n = keepR bt ms r) := by
      cases bt with
      | false => exact .inr ⟨.inl rfl, by rw [hkr]; simp at htr; simp [htr]⟩
      | true =>
        simp only [if_true] at htr hkr
        cases n with
        | zero => exact .inr ⟨.inr (.inl rfl), by rw [hkr, ← htr]; rfl⟩
        | succ j =>
          have hxj : s[j]? = some (s[j]'(by omega)) := List.getElem?_eq_getElem (by omega)
          by_cases h2 : (s[j]'(by omega)).kind = 2
          · exact .inl ⟨j, _, rfl, rfl, hxj, h2, by rw [← htr, trimN, hxj]; simp [h2]⟩
          · refine .inr ⟨.inr (.inr ⟨j, _, rfl, rfl, hxj, h2⟩), ?_⟩
            rw [hkr, ← htr, trimN, hxj]; simp [h2]
    rcases hend with ⟨j, x, rfl, rfl, hxj, h2, htj⟩ | ⟨hstop, hkeep⟩
    · obtain ⟨b2, o2, cs, rfl, _, _, hp, i2⟩ := RdR.at (k := 4) (by decide) (OwR.rd (hs.rsE 0 rfl)) (E := enEl x) (i := j) (by rw [List.getElem?_map, List.getElem?_take, if_pos (by omega), hxj]; rfl)
      obtain ⟨U, cu, U2, cu2, rfl, rx, _, rx2, _⟩ := enEl.rd (El.all hp)
      unfold enV at i2
      have ek : (x.kind.toNat : Int) = 2 := (kind_iff (n := 2) (by decide)).2 h2
      have hj0 : (0 : Int) < ((j + 1 : Nat) : Int) := by omega
      refine wc_seq ?_; refine wc_sr ?_; refine wl_mv rfl rfl ?_; refine wl_mv rfl rfl ?_; apply wl_take; exact rfl; exact rfl; exact rfl; exact rfl; refine wl_mv rfl rfl ?_; apply wl_take; exact rfl; exact rfl; exact rfl; exact rfl; refine wl_bin rfl rfl bin_gtr rfl ?_; apply wl_val; apply opv_pickT; exact rfl; exact rfl; exact rfl; exact rfl; refine wl_mv rfl rfl ?_; apply wl_take; exact rfl; exact rfl; exact rfl; refine bT ?_; (with_reducible assumption); refine wl_mv rfl rfl ?_; apply wl_take; exact rfl; exact rfl; exact rfl; refine bT ?_; (with_reducible assumption); refine wl_mv rfl rfl ?_; apply wl_take; exact rfl; exact rfl; exact rfl; refine bT ?_; (with_reducible assumption); apply wl_val; apply opv_bin; exact rfl; exact rfl; exact bin_sub64 (by omega); exact rfl; apply wl_take; exact rfl; exact rfl; exact rfl; refine bT ?_; (with_reducible assumption); apply wl_val; apply opv_idxG tkE; exact rfl; exact rfl; exact natc_pred; omega; exact rfl; apply wl_take; exact rfl; exact rfl; exact rfl; refine bT ?_; (with_reducible assumption); apply wl_val; apply opv_fa; exact fa_sE (by decide); exact rfl; exact rfl; apply wl_take; exact rfl; exact rfl; exact rfl; refine bT ?_; (with_reducible assumption); apply wl_val; apply opv_ldW; exact rfl; assumption; exact e1_u8; exact rfl; exact rfl; apply wl_take; exact rfl; exact rfl; exact rfl; refine bT ?_; (with_reducible assumption); refine wl_bin rfl rfl bin_eql rfl ?_; apply wl_val; apply opv_pickT; exact rfl; refine bT ?_; (with_reducible assumption); exact rfl; exact rfl; refine wl_ns ?_; apply wc_decT; exact rfl; (with_reducible assumption); refine wc_skip ?_; refine we_seq ?_; refine wc_seq ?_; refine wc_block ?_; refine wc_region ?_; refine wl_mv rfl rfl ?_; refine wl_mv rfl rfl ?_; apply wl_val; apply opv_bin; exact rfl; exact rfl; exact bin_sub64 (by omega); exact rfl
      refine wl_slK (l := 0) (h := j) tkE rfl rfl ⟨_, congrArg (fun q => some (Value.int .i64 q)) (natc_pred (k := j))⟩ (by omega) (by have := OwR.len_le (hs.rsE 0 rfl); simp at this; omega) rfl ?_
      rw [cutK_zero]
      refine wl_as rfl rfl ?_; refine wl_nil ?_; refine we_block_norm ?_; refine we_seq ?_; refine wc_region ?_; refine wl_mv rfl rfl ?_; apply wl_val; apply opv_bin; exact rfl; exact rfl; exact bin_sub64 (by omega); exact rfl; refine wl_as rfl rfl ?_; refine wl_nil ?_
      refine we_loop _ j ⟨j, rfl, by omega, by simpa using htj, ?_, rfl⟩ (by omega) ⟨rfl, rfl, rfl, rfl, by simp [lookT] <;> omega, rfl, rfl, rfl, trivial⟩
      have := hs.preS (m := j) (by simp; omega)
      rwa [← List.map_take, List.take_take, Nat.min_eq_left (by omega)] at this
    have hnk : (keepR bt ms r).length = n := by rw [← hkeep, List.length_take]; omega
    replace hs := hs.front 1 rfl
    dsimp only [delC] at hs
    rw [hkeep] at hs
    rcases hstop with rfl | rfl | ⟨j, x, rfl, rfl, hxj, h2⟩
    · refine wc_seq ?_; refine wc_sr ?_; refine wl_mv rfl rfl ?_; refine wl_mv rfl rfl ?_; apply wl_skip; exact rfl; exact rfl; exact rfl; exact bR2; exact rfl; apply wl_skip; exact rfl; exact rfl; exact rfl; exact bR2; exact rfl; apply wl_val; apply opv_pickF; exact rfl; exact rfl; exact rfl; exact rfl; refine wl_mv rfl rfl ?_; apply wl_skip; exact rfl; exact rfl; exact rfl; exact bR2; exact rfl; apply wl_skip; exact rfl; exact rfl; exact rfl; exact bR2; exact rfl; apply wl_skip; exact rfl; exact rfl; exact rfl; exact bR2; exact rfl; apply wl_skip; exact rfl; exact rfl; exact rfl; exact bR2; exact rfl; apply wl_skip; exact rfl; exact rfl; exact rfl; exact bR2; exact rfl; apply wl_skip; exact rfl; exact rfl; exact rfl; exact bR2; exact rfl; apply wl_skip; exact rfl; exact rfl; exact rfl; exact bR2; exact rfl; apply wl_val; apply opv_pickF; exact rfl; exact rfl; exact rfl; exact rfl; refine wl_ns ?_; apply wc_condFb; exact rfl; exact rfl; refine wc_exit ?_; refine we_seq_exit ?_; refine we_loop_exit ?_; refine we_block_exit ?_; refine we_seq ?_; refine wc_region ?_; refine wl_mv rfl rfl ?_; refine wl_mv rfl rfl ?_
      refine ws_appS2 hs rfl tkE (by simp) rfl (by simpa using hnk) (fun css w S hg hl => zip_one hg hl) (by omega) (by simp only [maxLen]; omega) rfl ?_
      clear hs; intro R3 c3 w8 hs
      refine wl_as rfl rfl ?_; refine wl_nil ?_; refine we_block_norm ?_; refine we_seq ?_; refine wc_region ?_; apply wl_val; apply opv_bin; exact rfl; exact rfl; exact bin_add64 (by omega); exact rfl; refine wl_mv rfl rfl ?_; refine wl_nil ?_
      refine we_loop _ (rs.length - (k + 1)) ⟨k + 1, R3, c3, out ++ keepR false ms r, rfl, by omega, by simpa using hft, by simpa using hs, rfl⟩ (by omega) ⟨rfl, rfl, by rw [List.length_append, hnk]; rfl, rfl, rfl, by simp [lookT], trivial⟩
    · cases bt
      · refine wc_seq ?_; refine wc_sr ?_; refine wl_mv rfl rfl ?_; refine wl_mv rfl rfl ?_; apply wl_skip; exact rfl; exact rfl; exact rfl; exact bR2; exact rfl; apply wl_skip; exact rfl; exact rfl; exact rfl; exact bR2; exact rfl; apply wl_val; apply opv_pickF; exact rfl; exact rfl; exact rfl; exact rfl; refine wl_mv rfl rfl ?_; apply wl_skip; exact rfl; exact rfl; exact rfl; exact bR2; exact rfl; apply wl_skip; exact rfl; exact rfl; exact rfl; exact bR2; exact rfl; apply wl_skip; exact rfl; exact rfl; exact rfl; exact bR2; exact rfl; apply wl_skip; exact rfl; exact rfl; exact rfl; exact bR2; exact rfl; apply wl_skip; exact rfl; exact rfl; exact rfl; exact bR2; exact rfl; apply wl_skip; exact rfl; exact rfl; exact rfl; exact bR2; exact rfl; apply wl_skip; exact rfl; exact rfl; exact rfl; exact bR2; exact rfl; apply wl_val; apply opv_pickF; exact rfl; exact rfl; exact rfl; exact rfl; refine wl_ns ?_; apply wc_condFb; exact rfl; exact rfl; refine wc_exit ?_; refine we_seq_exit ?_; refine we_loop_exit ?_; refine we_block_exit ?_; refine we_seq ?_; refine wc_region ?_; refine wl_mv rfl rfl ?_; refine wl_mv rfl rfl ?_
        refine ws_appS2 hs rfl tkE (by simp) rfl (by simpa using hnk) (fun css w S hg hl => zip_one hg hl) (by omega) (by simp only [maxLen]; omega) rfl ?_
        clear hs; intro R3 c3 w8 hs
        refine wl_as rfl rfl ?_; refine wl_nil ?_; refine we_block_norm ?_; refine we_seq ?_; refine wc_region ?_; apply wl_val; apply opv_bin; exact rfl; exact rfl; exact bin_add64 (by omega); exact rfl; refine wl_mv rfl rfl ?_; refine wl_nil ?_
        refine we_loop _ (rs.length - (k + 1)) ⟨k + 1, R3, c3, out ++ keepR false ms r, rfl, by omega, by simpa using hft, by simpa using hs, rfl⟩ (by omega) ⟨rfl, rfl, by rw [List.length_append, hnk]; rfl, rfl, rfl, by simp [lookT], trivial⟩
      · refine wc_seq ?_; refine wc_sr ?_; refine wl_mv rfl rfl ?_; refine wl_mv rfl rfl ?_; apply wl_take; exact rfl; exact rfl; exact rfl; exact rfl; refine wl_mv rfl rfl ?_; apply wl_take; exact rfl; exact rfl; exact rfl; exact rfl; refine wl_bin rfl rfl bin_gtr rfl ?_; apply wl_val; apply opv_pickT; exact rfl; exact rfl; exact rfl; exact rfl; refine wl_mv rfl rfl ?_; apply wl_skip; exact rfl; exact rfl; exact rfl; refine bFn ?_; omega; exact rfl; apply wl_skip; exact rfl; exact rfl; exact rfl; refine bFn ?_; omega; exact rfl; apply wl_skip; exact rfl; exact rfl; exact rfl; refine bFn ?_; omega; exact rfl; apply wl_skip; exact rfl; exact rfl; exact rfl; refine bFn ?_; omega; exact rfl; apply wl_skip; exact rfl; exact rfl; exact rfl; refine bFn ?_; omega; exact rfl; apply wl_skip; exact rfl; exact rfl; exact rfl; refine bFn ?_; omega; exact rfl; apply wl_skip; exact rfl; exact rfl; exact rfl; refine bFn ?_; omega; exact rfl; apply wl_val; apply opv_pickF; exact rfl; refine bF ?_; omega; exact rfl; exact rfl; refine wl_ns ?_; apply wc_condFb; exact rfl; exact rfl; refine wc_exit ?_; refine we_seq_exit ?_; refine we_loop_exit ?_; refine we_block_exit ?_; refine we_seq ?_; refine wc_region ?_; refine wl_mv rfl rfl ?_; refine wl_mv rfl rfl ?_
        refine ws_appS2 hs rfl tkE (by simp) rfl (by simpa using hnk) (fun css w S hg hl => zip_one hg hl) (by omega) (by simp only [maxLen]; omega) rfl ?_
        clear hs; intro R3 c3 w8 hs
        refine wl_as rfl rfl ?_; refine wl_nil ?_; refine we_block_norm ?_; refine we_seq ?_; refine wc_region ?_; apply wl_val; apply opv_bin; exact rfl; exact rfl; exact bin_add64 (by omega); exact rfl; refine wl_mv rfl rfl ?_; refine wl_nil ?_
        refine we_loop _ (rs.length - (k + 1)) ⟨k + 1, R3, c3, out ++ keepR true ms r, rfl, by omega, by simpa using hft, by simpa using hs, rfl⟩ (by omega) ⟨rfl, rfl, by rw [List.length_append, hnk]; rfl, rfl, rfl, by simp [lookT], trivial⟩
    · have hs2 := hs.front 1 rfl
      dsimp only [delC] at hs2
      obtain ⟨b2, o2, cs, rfl, _, _, hp, i2⟩ := RdR.at (k := 4) (by decide) (OwR.rd (hs.rsE 1 rfl)) (E := enEl x) (i := j) (by rw [List.getElem?_map, ← hkeep, List.getElem?_take, if_pos (by omega), hxj]; rfl)
      obtain ⟨U, cu, U2, cu2, rfl, rx, _, rx2, _⟩ := enEl.rd (El.all hp)
      unfold enV at i2
      have ek : ¬ (x.kind.toNat : Int) = 2 := fun h => h2 ((kind_iff (n := 2) (by decide)).1 h)
      have hj0 : (0 : Int) < ((j + 1 : Nat) : Int) := by omega
      refine wc_seq ?_; refine wc_sr ?_; refine wl_mv rfl rfl ?_; refine wl_mv rfl rfl ?_; apply wl_take; exact rfl; exact rfl; exact rfl; exact rfl; refine wl_mv rfl rfl ?_; apply wl_take; exact rfl; exact rfl; exact rfl; exact rfl; refine wl_bin rfl rfl bin_gtr rfl ?_; apply wl_val; apply opv_pickT; exact rfl; exact rfl; exact rfl; exact rfl; refine wl_mv rfl rfl ?_; apply wl_take; exact rfl; exact rfl; exact rfl; refine bT ?_; (with_reducible assumption); refine wl_mv rfl rfl ?_; apply wl_take; exact rfl; exact rfl; exact rfl; refine bT ?_; (with_reducible assumption); refine wl_mv rfl rfl ?_; apply wl_take; exact rfl; exact rfl; exact rfl; refine bT ?_; (with_reducible assumption); apply wl_val; apply opv_bin; exact rfl; exact rfl; exact bin_sub64 (by omega); exact rfl; apply wl_take; exact rfl; exact rfl; exact rfl; refine bT ?_; (with_reducible assumption); apply wl_val; apply opv_idxG tkE; exact rfl; exact rfl; exact natc_pred; omega; exact rfl; apply wl_take; exact rfl; exact rfl; exact rfl; refine bT ?_; (with_reducible assumption); apply wl_val; apply opv_fa; exact fa_sE (by decide); exact rfl; exact rfl; apply wl_take; exact rfl; exact rfl; exact rfl; refine bT ?_; (with_reducible assumption); apply wl_val; apply opv_ldW; exact rfl; assumption; exact e1_u8; exact rfl; exact rfl; apply wl_take; exact rfl; exact rfl; exact rfl; refine bT ?_; (with_reducible assumption); refine wl_bin rfl rfl bin_eql rfl ?_; apply wl_val; apply opv_pickT; exact rfl; refine bT ?_; (with_reducible assumption); exact rfl; exact rfl; refine wl_ns ?_; apply wc_decF; exact rfl; (with_reducible assumption); refine wc_exit ?_; refine we_seq_exit ?_; refine we_loop_exit ?_; refine we_block_exit ?_; refine we_seq ?_; refine wc_region ?_; refine wl_mv rfl rfl ?_; refine wl_mv rfl rfl ?_
      refine ws_appS2 hs rfl tkE (by simp) rfl (by simpa using hnk) (fun css w S hg hl => zip_one hg hl) (by omega) (by simp only [maxLen]; omega) rfl ?_
      clear hs; intro R3 c3 w8 hs
      refine wl_as rfl rfl ?_; refine wl_nil ?_; refine we_block_norm ?_; refine we_seq ?_; refine wc_region ?_; apply wl_val; apply opv_bin; exact rfl; exact rfl; exact bin_add64 (by omega); exact rfl; refine wl_mv rfl rfl ?_; refine wl_nil ?_
      refine we_loop _ (rs.length - (k + 1)) ⟨k + 1, R3, c3, out ++ keepR true ms r, rfl, by omega, by simpa using hft, by simpa using hs, rfl⟩ (by omega) ⟨rfl, rfl, by rw [List.length_append, hnk]; rfl, rfl, rfl, by simp [lookT], trivial⟩
  · obtain rfl : k = rs.length := by omega
    rw [List.take_length] at hout
    refine wc_exit ?_; refine we_seq_exit ?_; refine we_loop_exit ?_; refine we_block_exit ?_; refine we_seq ?_; refine wc_sr ?_; refine wl_mv rfl rfl ?_; refine wl_as rfl rfl ?_; refine wl_as rfl rfl ?_; refine wl_ns ?_; refine wc_ret ?_
    exact we_ret2 rfl rfl rfl ⟨_, rfl, Q, cq, by rw [hkp, hout, h0]; rfl, by rw [hkp, hout]; exact hs.rebase hb03⟩
end Go.Proofs.Ytpnckagibkdcpaa


/-
  Walks over need and Keep of the document.
-/
namespace Go.Proofs.Ytpnckagibkdcpaa
open Go.RowKit

def z0 : En := ⟨[], 0, 0, []⟩
theorem get2_any {A K : Option Addr} {n c kc kn at' : Nat} {l : List En} {key : List UInt8} {w : World} (hr : RdR 4 w All A (l.map enEl)) (hn : l.length = n) (rk : RdB w K key) (hkn : key.length = kn) (hok : ∀ x ∈ l, x.key.length ≤ maxLen) (hl : l.length ≤ 4294967296) :
    CallsV Try.prog 55 #[.slice A n c, .slice K kn kc, .int .u64 (at' : Int)] w fun v w' => (∃ Y cy Y2 cy2, v = .tuple #[.agg (enV ((getE l key at').getD z0) Y cy Y2 cy2).toArray, .bool (getE l key at').isSome]) ∧ Below w.heap.size w w' :=
  (get_any hr hn rk hkn hok hl).mono fun v w' ⟨h1, h2⟩ => ⟨by
    cases hg : getE l key at' with
    | none => rw [hg] at h1; exact ⟨none, 0, none, 0, h1⟩
    | some y => rw [hg] at h1; obtain ⟨Y, cy, Y2, cy2, h⟩ := h1; exact ⟨Y, cy, Y2, cy2, h⟩, h2⟩
def seqIs (o : Option En) (x : En) : Bool := o.isSome && decide ((o.getD z0).seq = x.seq)
def newest (l : List En) (x : En) : Bool := decide (((getE l x.key 18446744073709551615).getD z0).seq = x.seq)
def refNeed (l : List En) (ms : List Nat) (x : En) : Bool := newest l x || ms.any fun m => seqIs (getE l x.key m) x
set_option maxRecDepth 4000 in
theorem need_any {A B X X2 : Option Addr} {n c nb cb cx cx2 : Nat} {l : List En} {ms : List Nat} {x : En} {w : World} (hr : RdR 4 w All A (l.map enEl)) (hn : l.length = n) (rx : RdB w X x.key) (hm : Rd w B nb (u64s ms)) (hok : ∀ x ∈ l, x.key.length ≤ maxLen) (hl : l.length ≤ 4294967296) (hml : ms.length ≤ 4294967296) :
    CallsV Try.prog 52 #[.slice A n c, .agg (enV x X cx X2 cx2).toArray, .slice B nb cb] w fun v w' => v = .bool (refNeed l ms x) ∧ Below w.heap.size w w' := by
  subst hn
  have hnb : ms.length = nb := by have := hm.1; simpa [u64s] using this
  subst hnb
  have hmax : maxLen = 9223372036854775807 := rfl
  have hs := St.init w
  refine calls_in (N := _) Try.func52 rfl Try.ntmps52 rfl ?_; show WC _ _ _ _ _ _
  refine wc_sr ?_
  refine ws_box (cs := enV x X cx X2 cx2) hs rfl rfl ?_; clear hs; intro g4 _ hs
  unfold enV at hs
  refine wl_as rfl rfl ?_; refine wl_ns ?_; refine wc_sr ?_; refine wl_mv rfl rfl ?_; apply wl_val; apply opv_fa; exact fa_sE (by decide); exact rfl; exact rfl; apply wl_val; apply opv_ldX; exact rfl; exact hs.ar 0 rfl; exact e1_by; exact rfl; exact rfl
  refine wl_call ok_caissonref07_Get (get2_any (key := x.key) (at' := 18446744073709551615) (hr.below hs.bel) rfl (rx.below hs.bel) rfl hok hl) ⟨rfl, rfl, rfl, trivial⟩ rfl ?_; rintro _ _ ⟨⟨Y, cy, Y2, cy2, rfl⟩, hbx⟩; replace hs := hs.below hbx; try dsimp only [List.cons_append, List.nil_append, setC, delC] at hs
  have hnew : newest l x = decide (((getE l x.key 18446744073709551615).getD z0).seq = x.seq) := rfl
  obtain ⟨y, hy⟩ : ∃ q, (getE l x.key 18446744073709551615).getD z0 = q := ⟨_, rfl⟩
  rw [hy] at hnew
  rw [hy]
  refine wl_mv rfl rfl ?_; apply wl_val; apply opv_extract; exact rfl; exact rfl; exact rfl; apply wl_val; apply opv_extract; exact rfl; exact rfl; exact rfl
  refine ws_new hs zeroE rfl ?_; clear hs; intro g7 _ hs
  apply ws_stS hs 0; exact rfl; exact rfl; exact rfl; exact sE; exact rfl; exact rfl; clear hs; intro _ hs; dsimp only [setC] at hs; refine wl_as rfl rfl ?_; refine wl_ns ?_; refine wc_seq ?_; refine wc_sr ?_; apply wl_val; apply opv_fa; exact fa_sE (by decide); exact rfl; exact rfl; apply wl_val; apply opv_ldX; exact rfl; exact hs.ar 0 rfl; exact e1_u64; exact rfl; exact rfl; apply wl_val; apply opv_fa; exact fa_sE (by decide); exact rfl; exact rfl; apply wl_val; apply opv_ldX; exact rfl; exact hs.ar 1 rfl; exact e1_u64; exact rfl; exact rfl; refine wl_bin rfl rfl bin_eql rfl ?_; refine wl_ns ?_
  unfold enV at hs
  by_cases h0 : y.seq = x.seq
  · have h0' : (y.seq : Int) = (x.seq : Int) := by omega
    apply wc_decT; exact rfl; (with_reducible assumption); refine wc_sr ?_; refine wl_as rfl rfl ?_; refine wl_ns ?_; refine wc_ret ?_; refine we_seq_ret ?_
    exact we_ret1 rfl rfl ⟨_, rfl, by rw [refNeed, hnew, decide_eq_true h0]; rfl, hs.bel⟩
  have h0' : ¬ (y.seq : Int) = (x.seq : Int) := by omega
  rw [decide_eq_false h0] at hnew
  apply wc_decF; exact rfl; (with_reducible assumption); refine wc_skip ?_; refine we_seq ?_; refine wc_seq ?_; refine wc_sr ?_; refine wl_as rfl rfl ?_; refine wl_ns ?_; refine wc_block ?_
  refine wc_loop (fun L wr mm => ∃ (k : Nat), L = [(0, .slice A l.length c), (2, .slice B ms.length cb), (4, .pointer (some ⟨g4, 0, none⟩)), (9, .int .i64 (k : Int))] ∧ k ≤ ms.length ∧ ((ms.take k).any fun m => seqIs (getE l x.key m) x) = false ∧ St NoB w wr [.blk g4 56 [.slice X x.key.length cx, .int .u64 (x.seq : Int), .int .u8 (x.kind.toNat : Int), .slice X2 x.val.length cx2]] ∧ mm = ms.length - k)
    [(0, .slice A l.length c), (2, .slice B ms.length cb), (4, .pointer (some ⟨g4, 0, none⟩)), (9, .int .i64 (0 : Nat))] ms.length ⟨0, rfl, by omega, by simp, hs.drop 0 rfl, rfl⟩ ⟨rfl, rfl, rfl, rfl, trivial⟩ ?_
  clear hs
  rintro _ w1 mm ⟨k, rfl, hk, hno, hs, rfl⟩
  refine wc_seq ?_; refine wc_sr ?_; refine wl_mv rfl rfl ?_; refine wl_mv rfl rfl ?_; apply wl_val; apply opv_len; exact rfl; exact tyQ.sl; exact rfl; refine wl_bin rfl rfl bin_lss rfl ?_; refine wl_ns ?_
  refine wc_cond rfl (fun h1 => ?_) (fun h1 => ?_)
  · obtain ⟨m, hx⟩ : ∃ m, ms[k]? = some m := ⟨_, List.getElem?_eq_getElem (by omega)⟩
    have hum := u64s_get hx
    have hmw := hm.below hs.bel
    have hft := any_take (p := fun m => seqIs (getE l x.key m) x) hx
    rw [hno, Bool.false_or] at hft
    refine wc_skip ?_; refine we_seq ?_; refine wc_seq ?_; refine wc_block ?_; refine wc_seq ?_
    have hq2 := fun (w' : World) (hb : Below w.heap.size w w') => get2_any (c := c) (kc := cx) (key := x.key) (at' := m) (hr.below hb) rfl (rx.below hb) rfl hok hl
    obtain ⟨y, hy⟩ : ∃ q, getE l x.key m = q := ⟨_, rfl⟩
    rw [hy] at hq2 hft
    refine wc_cutE (fun L' w' => ∃ g10 Y cy Y2 cy2, L' = [(0, .slice A l.length c), (2, .slice B ms.length cb), (4, .pointer (some ⟨g4, 0, none⟩)), (9, .int .i64 (k : Int)), (10, .pointer (some ⟨g10, 0, none⟩)), (11, .bool y.isSome)] ∧ St NoB w w' [.blk g10 56 (enV (y.getD z0) Y cy Y2 cy2), .blk g4 56 [.slice X x.key.length cx, .int .u64 (x.seq : Int), .int .u8 (x.kind.toNat : Int), .slice X2 x.val.length cx2]]) ?_ ?_
    · refine wc_heldM 12 mixed fun w_ hS => ?_
      replace hmw := hmw.below hS
      apply wm_take 0; exact rfl; intro _ hw_; apply opv_move; exact rfl; exact rfl; kernel_rfl; exact hS; apply wm_take 1; exact rfl; intro _ hw_; apply opv_fa; exact fa_sE (by decide); exact rfl; exact rfl; kernel_rfl; exact hS; apply wm_take 2; exact rfl; intro _ hw_; apply opv_ldX; exact rfl; exact Ar.bel (hs.ar 0 rfl) hw_; exact e1_by; exact rfl; exact rfl; kernel_rfl; exact hS; apply wm_take 3; exact rfl; intro _ hw_; apply opv_move; exact rfl; exact rfl; kernel_rfl; exact hS; apply wm_take 4; exact rfl; intro _ hw_; apply opv_move; exact rfl; exact rfl; kernel_rfl; exact hS
      refine wm_take 5 rfl (fun _ hw_ => opv_idxR tyQ rfl rfl (hm.below hs.bel) rfl hum) rfl (by kernel_rfl) hS ?_
      refine wm_take 6 rfl (fun _ hw_ => opv_loadR tyQ rfl ((hm.below hs.bel).below hw_) hum) rfl (by kernel_rfl) hS ?_
      replace hs := hs.below hS
      refine wm_two 7 11 (by kernel_rfl) rfl rfl ?_ ?_
      · dsimp only [List.getElem_toArray, List.getElem_cons_succ, List.getElem_cons_zero]
        refine wl_call ok_caissonref07_Get (hq2 _ hs.bel) ⟨rfl, rfl, rfl, trivial⟩ rfl ?_
        rintro _ _ ⟨⟨Y, cy, Y2, cy2, rfl⟩, hbx⟩
        replace hs := hs.below hbx
        replace hS := hS.trans (hbx.mono hS.size)
        refine wl_nil ?_
        refine we_heldM (fun _ => hS) ?_
        apply wm_takeP 8; exact rfl; intro _; apply opv_move; exact rfl; exact rfl; kernel_rfl; exact fun _ => hS; apply wm_takeP 9; exact rfl; intro _; apply opv_extract; exact rfl; exact rfl; exact rfl; kernel_rfl; exact fun _ => hS; apply wm_takeP 10; exact rfl; intro _; apply opv_extract; exact rfl; exact rfl; exact rfl; kernel_rfl; exact fun _ => hS
        refine wm_one 11 (by kernel_rfl) rfl ?_; dsimp only [List.getElem_toArray, List.getElem_cons_succ, List.getElem_cons_zero]
        refine wl_new zeroE rfl fun g10 _ hg10 a10 hbx => ?_
        replace hs := hs.newA hbx hg10 a10
        replace hS := hS.trans (hbx.mono hS.size)
        refine wl_nil ?_
        refine we_heldM (fun _ => hS) ?_
        refine wm_one 12 (by kernel_rfl) rfl ?_; dsimp only [List.getElem_toArray, List.getElem_cons_succ, List.getElem_cons_zero]
        apply ws_stS hs 0; exact rfl; exact rfl; exact rfl; exact sE; exact rfl; exact rfl; clear hs; intro _ hs; dsimp only [setC] at hs; refine wl_nil ?_
        refine we_heldM (fun h => absurd h (by decide)) ?_
        refine wm_one 13 (by kernel_rfl) rfl ?_; dsimp only [List.getElem_toArray, List.getElem_cons_succ, List.getElem_cons_zero]
        refine wl_as rfl rfl ?_; refine wl_nil ?_
        refine we_heldM (fun h => absurd h (by decide)) ?_
        refine wm_done (by kernel_rfl) ?_
        exact we_cut _ ⟨g10, Y, cy, Y2, cy2, rfl, hs⟩ ⟨rfl, rfl, rfl, rfl, rfl, rfl, trivial⟩
      · dsimp only [List.getElem_toArray, List.getElem_cons_succ, List.getElem_cons_zero]
        refine wl_new zeroE rfl fun g10 _ hg10 a10 hbx => ?_
        replace hs := hs.newA hbx hg10 a10
        replace hS := hS.trans (hbx.mono hS.size)
        refine wl_nil ?_
        refine we_heldM (fun _ => hS) ?_
        refine wm_one 7 (by kernel_rfl) rfl ?_; dsimp only [List.getElem_toArray, List.getElem_cons_succ, List.getElem_cons_zero]
        refine wl_call ok_caissonref07_Get (hq2 _ hs.bel) ⟨rfl, rfl, rfl, trivial⟩ rfl ?_
        rintro _ _ ⟨⟨Y, cy, Y2, cy2, rfl⟩, hbx⟩
        replace hs := hs.below hbx
        replace hS := hS.trans (hbx.mono hS.size)
        refine wl_nil ?_
        refine we_heldM (fun _ => hS) ?_
        apply wm_takeP 8; exact rfl; intro _; apply opv_move; exact rfl; exact rfl; kernel_rfl; exact fun _ => hS; apply wm_takeP 9; exact rfl; intro _; apply opv_extract; exact rfl; exact rfl; exact rfl; kernel_rfl; exact fun _ => hS; apply wm_takeP 10; exact rfl; intro _; apply opv_extract; exact rfl; exact rfl; exact rfl; kernel_rfl; exact fun _ => hS
        refine wm_one 12 (by kernel_rfl) rfl ?_; dsimp only [List.getElem_toArray, List.getElem_cons_succ, List.getElem_cons_zero]
        apply ws_stS hs 0; exact rfl; exact rfl; exact rfl; exact sE; exact rfl; exact rfl; clear hs; intro _ hs; dsimp only [setC] at hs; refine wl_nil ?_
        refine we_heldM (fun h => absurd h (by decide)) ?_
        refine wm_one 13 (by kernel_rfl) rfl ?_; dsimp only [List.getElem_toArray, List.getElem_cons_succ, List.getElem_cons_zero]
        refine wl_as rfl rfl ?_; refine wl_nil ?_
        refine we_heldM (fun h => absurd h (by decide)) ?_
        refine wm_done (by kernel_rfl) ?_
        exact we_cut _ ⟨g10, Y, cy, Y2, cy2, rfl, hs⟩ ⟨rfl, rfl, rfl, rfl, rfl, rfl, trivial⟩
    clear hs
    rintro _ w4 ⟨g10, Y, cy, Y2, cy2, rfl, hs⟩
    unfold enV at hs
    have hsi : seqIs y x = (y.isSome && decide ((y.getD z0).seq = x.seq)) := rfl
    obtain ⟨t, ht⟩ : ∃ q, y.isSome = q := ⟨_, rfl⟩
    obtain ⟨v, hv⟩ : ∃ q, y.getD z0 = q := ⟨_, rfl⟩
    rw [ht, hv] at hsi
    rw [hv] at hs
    rw [ht]
    cases t with
    | false =>
      rw [Bool.false_and] at hsi
      rw [hsi] at hft
      refine we_seq ?_; refine wc_sr ?_; refine wl_mv rfl rfl ?_; refine wl_mv rfl rfl ?_; apply wl_skip; exact rfl; exact rfl; exact rfl; exact bR2; exact rfl; apply wl_skip; exact rfl; exact rfl; exact rfl; exact bR2; exact rfl; apply wl_skip; exact rfl; exact rfl; exact rfl; exact bR2; exact rfl; apply wl_skip; exact rfl; exact rfl; exact rfl; exact bR2; exact rfl; apply wl_skip; exact rfl; exact rfl; exact rfl; exact bR2; exact rfl; apply wl_val; apply opv_pickF; exact rfl; exact rfl; exact rfl; exact rfl; refine wl_ns ?_; apply wc_condFb; exact rfl; exact rfl; refine wc_skip ?_; refine we_block_norm ?_; refine we_seq ?_; refine wc_region ?_; refine wl_mv rfl rfl ?_; apply wl_val; apply opv_bin; exact rfl; exact rfl; exact bin_add64 (by omega); exact rfl; refine wl_as rfl rfl ?_; refine wl_nil ?_
      refine we_loop _ (ms.length - (k + 1)) ⟨k + 1, rfl, by omega, hft, hs.drop 0 rfl, rfl⟩ (by omega) ⟨rfl, rfl, rfl, by simp [lookT], trivial⟩
    | true =>
      rw [Bool.true_and] at hsi
      by_cases h2 : v.seq = x.seq
      · have h2' : (v.seq : Int) = (x.seq : Int) := by omega
        rw [decide_eq_true h2] at hsi
        refine we_seq ?_; refine wc_sr ?_; refine wl_mv rfl rfl ?_; refine wl_mv rfl rfl ?_; apply wl_take; exact rfl; exact rfl; exact rfl; exact rfl; apply wl_val; apply opv_fa; exact fa_sE (by decide); exact rfl; exact rfl; apply wl_take; exact rfl; exact rfl; exact rfl; exact rfl; apply wl_val; apply opv_ldX; exact rfl; exact hs.ar 0 rfl; exact e1_u64; exact rfl; exact rfl; apply wl_take; exact rfl; exact rfl; exact rfl; exact rfl; apply wl_val; apply opv_fa; exact fa_sE (by decide); exact rfl; exact rfl; apply wl_take; exact rfl; exact rfl; exact rfl; exact rfl; apply wl_val; apply opv_ldX; exact rfl; exact hs.ar 1 rfl; exact e1_u64; exact rfl; exact rfl; apply wl_take; exact rfl; exact rfl; exact rfl; exact rfl; refine wl_bin rfl rfl bin_eql rfl ?_; apply wl_val; apply opv_pickT; exact rfl; exact rfl; exact rfl; exact rfl; refine wl_ns ?_; apply wc_decT; exact rfl; (with_reducible assumption); refine wc_sr ?_; refine wl_as rfl rfl ?_; refine wl_ns ?_; refine wc_ret ?_; refine we_block_ret ?_; refine we_seq_ret ?_; refine we_loop_ret ?_; refine we_block_ret ?_; refine we_seq_ret ?_
        refine we_ret1 rfl rfl ⟨_, rfl, ?_, hs.bel⟩
        rw [refNeed, any_at hx (by rw [hy]; exact hsi), Bool.or_true]
      · have h2' : ¬ (v.seq : Int) = (x.seq : Int) := by omega
        rw [decide_eq_false h2] at hsi
        rw [hsi] at hft
        refine we_seq ?_; refine wc_sr ?_; refine wl_mv rfl rfl ?_; refine wl_mv rfl rfl ?_; apply wl_take; exact rfl; exact rfl; exact rfl; exact rfl; apply wl_val; apply opv_fa; exact fa_sE (by decide); exact rfl; exact rfl; apply wl_take; exact rfl; exact rfl; exact rfl; exact rfl; apply wl_val; apply opv_ldX; exact rfl; exact hs.ar 0 rfl; exact e1_u64; exact rfl; exact rfl; apply wl_take; exact rfl; exact rfl; exact rfl; exact rfl; apply wl_val; apply opv_fa; exact fa_sE (by decide); exact rfl; exact rfl; apply wl_take; exact rfl; exact rfl; exact rfl; exact rfl; apply wl_val; apply opv_ldX; exact rfl; exact hs.ar 1 rfl; exact e1_u64; exact rfl; exact rfl; apply wl_take; exact rfl; exact rfl; exact rfl; exact rfl; refine wl_bin rfl rfl bin_eql rfl ?_; apply wl_val; apply opv_pickT; exact rfl; exact rfl; exact rfl; exact rfl; refine wl_ns ?_; apply wc_decF; exact rfl; (with_reducible assumption); refine wc_skip ?_; refine we_block_norm ?_; refine we_seq ?_; refine wc_region ?_; refine wl_mv rfl rfl ?_; apply wl_val; apply opv_bin; exact rfl; exact rfl; exact bin_add64 (by omega); exact rfl; refine wl_as rfl rfl ?_; refine wl_nil ?_
        refine we_loop _ (ms.length - (k + 1)) ⟨k + 1, rfl, by omega, hft, hs.drop 0 rfl, rfl⟩ (by omega) ⟨rfl, rfl, rfl, by simp [lookT], trivial⟩
  · obtain rfl : k = ms.length := by omega
    rw [List.take_length] at hno
    refine wc_exit ?_; refine we_seq_exit ?_; refine we_loop_exit ?_; refine we_block_exit ?_; refine we_seq ?_; refine wc_sr ?_; refine wl_as rfl rfl ?_; refine wl_ns ?_; refine wc_ret ?_
    exact we_ret1 rfl rfl ⟨_, rfl, by rw [refNeed, hnew, hno]; rfl, hs.bel⟩
def putP (x y : En) : Bool := decide (y.key = x.key ∧ y.kind = 1)
def putsP (l : List En) (i : Nat) : Option En := match l[i]? with | some x => if decide (x.kind = 1) || (l.drop (i + 1)).any (putP x) then some x else none | none => none
def putsE (l : List En) : List En := (List.range l.length).filterMap (putsP l)
def refKeep (l : List En) (bt : Bool) (ms : List Nat) : List En := if bt then putsE (l.filter (refNeed l ms)) else l.filter (refNeed l ms)
theorem range_filterMap {α : Type} {f : Nat → Option α} {k : Nat} : (List.range (k + 1)).filterMap f = (List.range k).filterMap f ++ (f k).toList := by
  rw [List.range_succ, List.filterMap_append]; cases h : f k <;> simp [h]
theorem any_drop {α : Type} {p : α → Bool} {l : List α} {i k : Nat} {x : α} (hi : i ≤ k) (h : l[k]? = some x) : ((l.take (k + 1)).drop i).any p = (((l.take k).drop i).any p || p x) := by
  rw [take_getR h, List.drop_append_of_le_length (by have := (List.getElem?_eq_some_iff.1 h).1; simp; omega)]; simp
set_option maxRecDepth 4000 in
theorem refKeep_any {S : BS} {A B : Option Addr} {n c nb cb : Nat} {l : List En} {bt : Bool} {ms : List Nat} {w : World} (hr : RdR 4 w S A (l.map enEl)) (hn : l.length = n) (hm : Rd w B nb (u64s ms)) (hok : ∀ x ∈ l, x.key.length ≤ maxLen) (hl : l.length ≤ 1048576) (hml : ms.length ≤ 4294967296) :
    CallsV Try.prog 27 #[.slice A n c, .bool bt, .slice B nb cb] w fun v w' => ∃ P cp, v = .slice P (refKeep l bt ms).length cp ∧ OwR 4 56 w' w.heap.size S P cp ((refKeep l bt ms).map enEl) ∧ Below w.heap.size w w' := by
  subst hn
  have hmax : maxLen = 9223372036854775807 := rfl
  have hs := (St.init w).nilG 4 56
  refine calls_in (N := _) Try.func27 rfl Try.ntmps27 rfl ?_; show WC _ _ _ _ _ _
  refine wc_sr ?_; refine wl_as rfl rfl ?_; refine wl_ns ?_; refine wc_sr ?_; refine wl_as rfl rfl ?_; refine wl_ns ?_; refine wc_seq ?_; refine wc_sr ?_; refine wl_as rfl rfl ?_; refine wl_ns ?_; refine wc_block ?_
  refine wc_loop (fun L wr mm => ∃ (k : Nat) (Q : Option Addr) (cq : Nat) (out : List En) (css : List (List Value)), L = [(0, .slice A l.length c), (1, .bool bt), (2, .slice B nb cb), (7, .slice Q out.length cq), (8, .int .i64 (k : Int))] ∧ k ≤ l.length ∧ (l.take k).filter (refNeed l ms) = out ∧ Grp 4 w S (out.map enEl) css ∧ St NoB w wr [.rg 4 56 Q cq (css.map rawEl)] ∧ mm = l.length - k)
    [(0, .slice A l.length c), (1, .bool bt), (2, .slice B nb cb), (7, .slice none 0 0), (8, .int .i64 (0 : Nat))] l.length ⟨0, none, 0, [], [], rfl, by omega, rfl, Grp.nil _ _ _, hs, rfl⟩ ⟨rfl, rfl, rfl, rfl, rfl, trivial⟩ ?_
  clear hs
  rintro _ w1 mm ⟨k, Q, cq, out, css, rfl, hk, hout, hg, hs, rfl⟩
  refine wc_seq ?_; refine wc_sr ?_; refine wl_mv rfl rfl ?_; refine wl_mv rfl rfl ?_; apply wl_val; apply opv_len; exact rfl; exact tkE.sl; exact rfl; refine wl_bin rfl rfl bin_lss rfl ?_; refine wl_ns ?_
  refine wc_cond rfl (fun h1 => ?_) (fun h1 => ?_)
  · obtain ⟨x, hx⟩ : ∃ x, l[k]? = some x := ⟨_, List.getElem?_eq_getElem (by omega)⟩
    have hft := filter_take (p := refNeed l ms) hx
    rw [hout] at hft
    have hol : out.length ≤ k := by rw [← hout]; have := List.length_filter_le (refNeed l ms) (l.take k); simp at this; omega
    have hcl : css.length = out.length := by have := hg.1; simpa using this
    obtain ⟨b, o, cs, rfl, _, _, hp, i0⟩ := RdR.at (k := 4) (by decide) hr (E := enEl x) (i := k) (by rw [List.getElem?_map, hx]; rfl)
    obtain ⟨U, cu, U2, cu2, rfl, rx, _, rx2, _⟩ := enEl.rd (El.all hp)
    have i2 := i0.below hs.bel
    refine wc_skip ?_; refine we_seq ?_; refine wc_seq ?_; refine wc_block ?_; refine wc_sr ?_; refine wl_mv rfl rfl ?_; refine wl_mv rfl rfl ?_; refine wl_mv rfl rfl ?_; apply wl_val; apply opv_idxG tkE; exact rfl; exact rfl; exact rfl; omega; exact rfl; apply wl_val; apply opv_ldG; exact rfl; assumption; exact sE; exact rfl; refine wl_mv rfl rfl ?_
    refine wl_call ok_caissonref11_need (need_any (hr.all.below hs.bel) rfl (rx.below hs.bel) (hm.below hs.bel) hok (by omega) hml) ⟨rfl, rfl, rfl, trivial⟩ rfl ?_; rintro _ _ ⟨rfl, hbx⟩; replace hs := hs.below hbx; try dsimp only [List.cons_append, List.nil_append, setC, delC] at hs
    replace i2 := i2.below hbx
    cases hp2 : refNeed l ms x with
    | true =>
      rw [hp2] at hft
      refine wl_ns ?_; apply wc_condTb; exact rfl; exact rfl; refine wc_region ?_; refine wl_mv rfl rfl ?_; refine wl_mv rfl rfl ?_; refine wl_mv rfl rfl ?_; apply wl_val; apply opv_idxG tkE; exact rfl; exact rfl; exact rfl; omega; exact rfl; apply wl_val; apply opv_ldG; exact rfl; assumption; exact sE; exact rfl
      refine ws_pushR (cs := enV x U cu U2 cu2) hs 0 (fun _ => rfl) rfl tkE (by simpa using hcl) ⟨_, rfl, rfl⟩ rfl rfl (by decide) (by omega) (by simp only [maxLen]; omega) rfl rfl ?_
      clear hs; intro _ R3 c3 w5 hs; dsimp only [setC] at hs
      refine wl_as rfl rfl ?_; refine wl_nil ?_; refine we_block_norm ?_; refine we_seq ?_; refine wc_region ?_; refine wl_mv rfl rfl ?_; apply wl_val; apply opv_bin; exact rfl; exact rfl; exact bin_add64 (by omega); exact rfl; refine wl_as rfl rfl ?_; refine wl_nil ?_
      refine we_loop _ (l.length - (k + 1)) ⟨k + 1, R3, c3, out ++ [x], css ++ [enV x U cu U2 cu2], rfl, by omega, by simpa using hft, by rw [List.map_append]; exact hg.append (Grp.one hp rfl), by simpa using hs, rfl⟩ (by omega) ⟨rfl, rfl, rfl, by rw [List.length_append]; rfl, by simp [lookT], trivial⟩
    | false =>
      rw [hp2] at hft
      refine wl_ns ?_; apply wc_condFb; exact rfl; exact rfl; refine wc_skip ?_; refine we_block_norm ?_; refine we_seq ?_; refine wc_region ?_; refine wl_mv rfl rfl ?_; apply wl_val; apply opv_bin; exact rfl; exact rfl; exact bin_add64 (by omega); exact rfl; refine wl_as rfl rfl ?_; refine wl_nil ?_
      refine we_loop _ (l.length - (k + 1)) ⟨k + 1, Q, cq, out, css, rfl, by omega, by simpa using hft, hg, hs, rfl⟩ (by omega) ⟨rfl, rfl, rfl, rfl, by simp [lookT], trivial⟩
  obtain rfl : k = l.length := by omega
  rw [List.take_length] at hout
  have hoo := hs.rawOut 0 rfl hg
  have hb1 := hs.bel
  have hol : out.length ≤ l.length := by rw [← hout]; exact List.length_filter_le _ _
  have hok2 : ∀ x ∈ out, x.key.length ≤ maxLen := fun x hx => by rw [← hout] at hx; exact hok x (List.mem_filter.1 hx).1
  cases bt with
  | false =>
    refine wc_exit ?_; refine we_seq_exit ?_; refine we_loop_exit ?_; refine we_block_exit ?_; refine we_seq ?_; refine wc_seq ?_; refine wc_sr ?_; refine wl_mv rfl rfl ?_; apply wl_val; apply opv_not; exact rfl; exact rfl; refine wl_ns ?_; apply wc_condTb; exact rfl; exact Bool.not_false; refine wc_sr ?_; refine wl_mv rfl rfl ?_; refine wl_as rfl rfl ?_; refine wl_ns ?_; refine wc_ret ?_; refine we_seq_ret ?_
    exact we_ret1 rfl rfl ⟨_, rfl, Q, cq, by rw [refKeep, hout]; rfl, by rw [refKeep, hout]; exact hoo, hb1⟩
  | true =>
  have hrk : refKeep l true ms = putsE out := by rw [refKeep, hout]; rfl
  rw [hrk]
  clear hs hm hr h1
  have hs := (St.init w1).nilG 4 56
  have hro := OwR.rd hoo
  obtain ⟨css1, hg1, hw1⟩ := hoo
  replace hg1 := hg1.mono (S' := S) fun b _ h => h.1
  have hraw1 : RdR 4 w1 All Q (css1.map rawEl) := ⟨css1, grp_raw hg1.ks, by rw [List.length_map, hg1.1]; exact own_rd hw1, fun _ _ _ => trivial⟩
  clear hw1 hg
  refine wc_exit ?_; refine we_seq_exit ?_; refine we_loop_exit ?_; refine we_block_exit ?_; refine we_seq ?_; refine wc_seq ?_; refine wc_sr ?_; refine wl_mv rfl rfl ?_; apply wl_val; apply opv_not; exact rfl; exact rfl; refine wl_ns ?_; apply wc_condFb; exact rfl; exact Bool.not_true; refine wc_skip ?_; refine we_seq ?_; refine wc_sr ?_; refine wl_as rfl rfl ?_; refine wl_ns ?_; refine wc_seq ?_; refine wc_sr ?_; refine wl_as rfl rfl ?_; refine wl_ns ?_; refine wc_block ?_
  refine wc_loop (fun L wr mm => ∃ (k : Nat) (V : Option Addr) (cv : Nat) (ys : List En) (css : List (List Value)), L = [(7, .slice Q out.length cq), (9, .slice V ys.length cv), (10, .int .i64 (k : Int))] ∧ k ≤ out.length ∧ (List.range k).filterMap (putsP out) = ys ∧ Grp 4 w1 S (ys.map enEl) css ∧ St NoB w1 wr [.rg 4 56 V cv (css.map rawEl)] ∧ mm = out.length - k)
    [(7, .slice Q out.length cq), (9, .slice none 0 0), (10, .int .i64 (0 : Nat))] out.length ⟨0, none, 0, [], [], rfl, by omega, rfl, Grp.nil _ _ _, hs, rfl⟩ ⟨rfl, rfl, rfl, trivial⟩ ?_
  clear hs
  rintro _ w2 mm ⟨k, V, cv, ys, css2, rfl, hk, hys, hg, hs, rfl⟩
  refine wc_seq ?_; refine wc_sr ?_; refine wl_mv rfl rfl ?_; refine wl_mv rfl rfl ?_; apply wl_val; apply opv_len; exact rfl; exact tkE.sl; exact rfl; refine wl_bin rfl rfl bin_lss rfl ?_; refine wl_ns ?_
  refine wc_cond rfl (fun h1 => ?_) (fun h1 => ?_)
  · obtain ⟨x, hx⟩ : ∃ x, out[k]? = some x := ⟨_, List.getElem?_eq_getElem (by omega)⟩
    have hft := range_filterMap (f := putsP out) (k := k)
    rw [hys] at hft
    have hyl : ys.length ≤ k := by rw [← hys]; have := filterMap_len (putsP out) (List.range k); simpa using this
    have hcl : css2.length = ys.length := by have := hg.1; simpa using this
    have hpx : putsP out k = if decide (x.kind = 1) || (out.drop (k + 1)).any (putP x) then some x else none := by rw [putsP, hx]
    obtain ⟨cs, hcs, _, hp⟩ := hg1.at (E := enEl x) (i := k) (by rw [List.getElem?_map, hx]; rfl)
    obtain ⟨b, o, cs', rfl, _, _, hp', i0⟩ := RdR.at (k := 4) (by decide) hraw1 (E := rawEl cs) (i := k) (by rw [List.getElem?_map, hcs]; rfl)
    obtain rfl : cs' = cs := hp'
    obtain ⟨U, cu, U2, cu2, rfl, rx, _, rx2, _⟩ := enEl.rd (El.all hp)
    have ek : (x.kind.toNat : Int) = 1 ↔ x.kind = 1 := kind_iff (n := 1) (by decide)
    obtain ⟨t1, ht1⟩ : ∃ q, decide (x.kind = 1) = q := ⟨_, rfl⟩
    have ht1' : decide ((x.kind.toNat : Int) = 1) = t1 := by rw [← ht1]; exact decide_eq_decide.2 ek
    have i2 := i0.below hs.bel
    unfold enV at i2
    refine wc_skip ?_; refine we_seq ?_; refine wc_seq ?_; refine wc_block ?_; refine wc_sr ?_; refine wl_mv rfl rfl ?_; refine wl_mv rfl rfl ?_; apply wl_val; apply opv_idxG tkE; exact rfl; exact rfl; exact rfl; omega; exact rfl; apply wl_val; apply opv_fa; exact fa_sE (by decide); exact rfl; exact rfl; apply wl_val; apply opv_ldW; exact rfl; assumption; exact e1_u8; exact rfl; exact rfl; refine wl_bin rfl rfl bin_eql rfl ?_; refine wl_as rfl rfl ?_; refine wl_ns ?_; refine wc_seq ?_; refine wc_sr ?_; refine wl_mv rfl rfl ?_; apply wl_val; apply opv_bin; exact rfl; exact rfl; exact bin_add64 (by omega); exact rfl; refine wl_as rfl rfl ?_; refine wl_ns ?_; refine wc_block ?_
    refine wc_loop (fun L wr mm => ∃ (j : Nat), L = [(7, .slice (some ⟨b, o, none⟩) out.length cq), (9, .slice V ys.length cv), (10, .int .i64 (k : Int)), (11, .bool (t1 || ((out.take j).drop (k + 1)).any (putP x))), (12, .int .i64 (j : Int))] ∧ k + 1 ≤ j ∧ j ≤ out.length ∧ St NoB w1 wr [.rg 4 56 V cv (css2.map rawEl)] ∧ mm = out.length - j)
      [(7, .slice (some ⟨b, o, none⟩) out.length cq), (9, .slice V ys.length cv), (10, .int .i64 (k : Int)), (11, .bool t1), (12, .int .i64 ((k + 1 : Nat) : Int))] (out.length - (k + 1)) ⟨k + 1, by rw [List.drop_of_length_le (by rw [List.length_take]; omega)]; simp, by omega, by omega, hs, rfl⟩ ⟨rfl, rfl, rfl, by rw [← ht1']; rfl, by simp [lookT], trivial⟩ ?_
    clear hs i2
    rintro _ w3 mm ⟨j, rfl, hkj, hj, hs, rfl⟩
    have i2 := i0.below hs.bel
    unfold enV at i2
    refine wc_seq ?_; refine wc_sr ?_; refine wl_mv rfl rfl ?_; refine wl_mv rfl rfl ?_; apply wl_val; apply opv_len; exact rfl; exact tkE.sl; exact rfl; refine wl_bin rfl rfl bin_lss rfl ?_; refine wl_ns ?_
    refine wc_cond rfl (fun h2 => ?_) (fun h2 => ?_)
    · obtain ⟨y, hy⟩ : ∃ y, out[j]? = some y := ⟨_, List.getElem?_eq_getElem (by omega)⟩
      have hd := any_drop (p := putP x) hkj hy
      obtain ⟨t2, ht2⟩ : ∃ q, ((out.take j).drop (k + 1)).any (putP x) = q := ⟨_, rfl⟩
      rw [ht2] at hd
      rw [ht2]
      obtain ⟨b3, o3, cs3, hA3, _, _, hp3, i3⟩ := RdR.at (k := 4) (by decide) hro (E := enEl y) (i := j) (by rw [List.getElem?_map, hy]; rfl)
      simp only [Option.some.injEq, Addr.mk.injEq, and_true] at hA3
      obtain ⟨rfl, rfl⟩ := hA3
      obtain ⟨Y, cy, Y2, cy2, rfl, ry, _, ry2, _⟩ := enEl.rd hp3
      replace i3 := i3.below hs.bel
      unfold enV at i3
      have ek3 : (y.kind.toNat : Int) = 1 ↔ y.kind = 1 := kind_iff (n := 1) (by decide)
      have hq : ∀ w', Below w3.heap.size w3 w' → CallsV Try.prog 10 #[.slice Y y.key.length cy, .slice U x.key.length cu] w' fun v w2 => v = .bool (decide (y.key = x.key)) ∧ Below w3.heap.size w3 w2 := fun w' hw => (equal_any ((ry.below hs.bel).below hw) ((rx.below hs.bel).below hw) rfl rfl (hok2 y (List.mem_of_getElem? hy))).mono fun v w2 h2 => ⟨h2.1, hw.trans (h2.2.mono hw.size)⟩
      refine wc_skip ?_; refine we_seq ?_; refine wc_seq ?_; refine wc_block ?_; refine wc_seq ?_
      by_cases h3 : y.key = x.key
      · rw [decide_eq_true h3] at hq
        by_cases h4 : y.kind = 1
        · have h4' := ek3.2 h4
          have hpy : putP x y = true := decide_eq_true ⟨h3, h4⟩
          rw [hpy, Bool.or_true] at hd
          refine wc_drawB mixed (by kernel_rfl) ?_
          apply wq_val; intro _ hw_; apply opv_move; exact rfl; exact rfl; apply wq_val; intro _ hw_; apply opv_move; exact rfl; exact rfl; apply wq_val; intro _ hw_; apply opv_idxG tkE; exact rfl; exact rfl; exact rfl; omega; exact rfl; apply wq_val; intro _ hw_; apply opv_fa; exact fa_sE (by decide); exact rfl; exact rfl; apply wq_val; intro _ hw_; apply opv_ldW; exact rfl; exact Wi.below (by assumption) hw_; exact e1_by; exact rfl; exact rfl; apply wq_val; intro _ hw_; apply opv_move; exact rfl; exact rfl; apply wq_val; intro _ hw_; apply opv_move; exact rfl; exact rfl; apply wq_val; intro _ hw_; apply opv_idxG tkE; exact rfl; exact rfl; exact rfl; omega; exact rfl; apply wq_val; intro _ hw_; apply opv_fa; exact fa_sE (by decide); exact rfl; exact rfl; apply wq_val; intro _ hw_; apply opv_ldW; exact rfl; exact Wi.below (by assumption) hw_; exact e1_by; exact rfl; exact rfl
          refine wq_call (v := .bool true) ok_caissonref01_Equal hq ⟨rfl, rfl, trivial⟩ rfl ?_
          apply wq_val; intro _ hw_; apply opv_move; exact rfl; exact rfl; apply wq_take; exact rfl; exact rfl; exact rfl; exact rfl; apply wq_val; intro _ hw_; apply opv_move; exact rfl; exact rfl; apply wq_take; exact rfl; exact rfl; exact rfl; exact rfl; apply wq_val; intro _ hw_; apply opv_move; exact rfl; exact rfl; apply wq_take; exact rfl; exact rfl; exact rfl; exact rfl; apply wq_val; intro _ hw_; apply opv_idxG tkE; exact rfl; exact rfl; exact rfl; omega; exact rfl; apply wq_take; exact rfl; exact rfl; exact rfl; exact rfl; apply wq_val; intro _ hw_; apply opv_fa; exact fa_sE (by decide); exact rfl; exact rfl; apply wq_take; exact rfl; exact rfl; exact rfl; exact rfl; apply wq_val; intro _ hw_; apply opv_ldW; exact rfl; exact Wi.below (by assumption) hw_; exact e1_u8; exact rfl; exact rfl; apply wq_take; exact rfl; exact rfl; exact rfl; exact rfl; apply wq_val; intro _ hw_; apply opv_bin; exact rfl; exact rfl; exact bin_eql; exact rfl; apply wq_val; intro _ hw_; apply opv_pickT; exact rfl; exact rfl; exact rfl; exact rfl; refine wq_nil fun w1 hw1 => ?_
          replace hs := hs.below hw1
          refine we_seq ?_; apply wc_decT; exact rfl; (with_reducible assumption); refine wc_region ?_; refine wl_as rfl rfl ?_; refine wl_nil ?_; refine we_block_norm ?_; refine we_seq ?_; refine wc_region ?_; refine wl_mv rfl rfl ?_; apply wl_val; apply opv_bin; exact rfl; exact rfl; exact bin_add64 (by omega); exact rfl; refine wl_as rfl rfl ?_; refine wl_nil ?_
          refine we_loop _ (out.length - (j + 1)) ⟨j + 1, rfl, by omega, by omega, hs, rfl⟩ (by omega) ⟨rfl, rfl, rfl, by rw [hd, Bool.or_true]; rfl, by simp [lookT], trivial⟩
        · have h4' : ¬ (y.kind.toNat : Int) = 1 := fun h => h4 (ek3.1 h)
          have hpy : putP x y = false := decide_eq_false fun h => h4 h.2
          rw [hpy, Bool.or_false] at hd
          refine wc_drawB mixed (by kernel_rfl) ?_
          apply wq_val; intro _ hw_; apply opv_move; exact rfl; exact rfl; apply wq_val; intro _ hw_; apply opv_move; exact rfl; exact rfl; apply wq_val; intro _ hw_; apply opv_idxG tkE; exact rfl; exact rfl; exact rfl; omega; exact rfl; apply wq_val; intro _ hw_; apply opv_fa; exact fa_sE (by decide); exact rfl; exact rfl; apply wq_val; intro _ hw_; apply opv_ldW; exact rfl; exact Wi.below (by assumption) hw_; exact e1_by; exact rfl; exact rfl; apply wq_val; intro _ hw_; apply opv_move; exact rfl; exact rfl; apply wq_val; intro _ hw_; apply opv_move; exact rfl; exact rfl; apply wq_val; intro _ hw_; apply opv_idxG tkE; exact rfl; exact rfl; exact rfl; omega; exact rfl; apply wq_val; intro _ hw_; apply opv_fa; exact fa_sE (by decide); exact rfl; exact rfl; apply wq_val; intro _ hw_; apply opv_ldW; exact rfl; exact Wi.below (by assumption) hw_; exact e1_by; exact rfl; exact rfl
          refine wq_call (v := .bool true) ok_caissonref01_Equal hq ⟨rfl, rfl, trivial⟩ rfl ?_
          apply wq_val; intro _ hw_; apply opv_move; exact rfl; exact rfl; apply wq_take; exact rfl; exact rfl; exact rfl; exact rfl; apply wq_val; intro _ hw_; apply opv_move; exact rfl; exact rfl; apply wq_take; exact rfl; exact rfl; exact rfl; exact rfl; apply wq_val; intro _ hw_; apply opv_move; exact rfl; exact rfl; apply wq_take; exact rfl; exact rfl; exact rfl; exact rfl; apply wq_val; intro _ hw_; apply opv_idxG tkE; exact rfl; exact rfl; exact rfl; omega; exact rfl; apply wq_take; exact rfl; exact rfl; exact rfl; exact rfl; apply wq_val; intro _ hw_; apply opv_fa; exact fa_sE (by decide); exact rfl; exact rfl; apply wq_take; exact rfl; exact rfl; exact rfl; exact rfl; apply wq_val; intro _ hw_; apply opv_ldW; exact rfl; exact Wi.below (by assumption) hw_; exact e1_u8; exact rfl; exact rfl; apply wq_take; exact rfl; exact rfl; exact rfl; exact rfl; apply wq_val; intro _ hw_; apply opv_bin; exact rfl; exact rfl; exact bin_eql; exact rfl; apply wq_val; intro _ hw_; apply opv_pickT; exact rfl; exact rfl; exact rfl; exact rfl; refine wq_nil fun w1 hw1 => ?_
          replace hs := hs.below hw1
          refine we_seq ?_; apply wc_decF; exact rfl; (with_reducible assumption); refine wc_skip ?_; refine we_block_norm ?_; refine we_seq ?_; refine wc_region ?_; refine wl_mv rfl rfl ?_; apply wl_val; apply opv_bin; exact rfl; exact rfl; exact bin_add64 (by omega); exact rfl; refine wl_as rfl rfl ?_; refine wl_nil ?_
          refine we_loop _ (out.length - (j + 1)) ⟨j + 1, rfl, by omega, by omega, hs, rfl⟩ (by omega) ⟨rfl, rfl, rfl, by rw [hd]; rfl, by simp [lookT], trivial⟩
      · rw [decide_eq_false h3] at hq
        have hpy : putP x y = false := decide_eq_false fun h => h3 h.1
        rw [hpy, Bool.or_false] at hd
        refine wc_drawB mixed (by kernel_rfl) ?_
        apply wq_val; intro _ hw_; apply opv_move; exact rfl; exact rfl; apply wq_val; intro _ hw_; apply opv_move; exact rfl; exact rfl; apply wq_val; intro _ hw_; apply opv_idxG tkE; exact rfl; exact rfl; exact rfl; omega; exact rfl; apply wq_val; intro _ hw_; apply opv_fa; exact fa_sE (by decide); exact rfl; exact rfl; apply wq_val; intro _ hw_; apply opv_ldW; exact rfl; exact Wi.below (by assumption) hw_; exact e1_by; exact rfl; exact rfl; apply wq_val; intro _ hw_; apply opv_move; exact rfl; exact rfl; apply wq_val; intro _ hw_; apply opv_move; exact rfl; exact rfl; apply wq_val; intro _ hw_; apply opv_idxG tkE; exact rfl; exact rfl; exact rfl; omega; exact rfl; apply wq_val; intro _ hw_; apply opv_fa; exact fa_sE (by decide); exact rfl; exact rfl; apply wq_val; intro _ hw_; apply opv_ldW; exact rfl; exact Wi.below (by assumption) hw_; exact e1_by; exact rfl; exact rfl
        refine wq_call (v := .bool false) ok_caissonref01_Equal hq ⟨rfl, rfl, trivial⟩ rfl ?_
        apply wq_val; intro _ hw_; apply opv_move; exact rfl; exact rfl; apply wq_skip; exact rfl; exact rfl; exact rfl; exact bR2; exact rfl; apply wq_skip; exact rfl; exact rfl; exact rfl; exact bR2; exact rfl; apply wq_skip; exact rfl; exact rfl; exact rfl; exact bR2; exact rfl; apply wq_skip; exact rfl; exact rfl; exact rfl; exact bR2; exact rfl; apply wq_skip; exact rfl; exact rfl; exact rfl; exact bR2; exact rfl; apply wq_skip; exact rfl; exact rfl; exact rfl; exact bR2; exact rfl; apply wq_val; intro _ hw_; apply opv_pickF; exact rfl; exact rfl; exact rfl; exact rfl; refine wq_nil fun w1 hw1 => ?_
        replace hs := hs.below hw1
        refine we_seq ?_; apply wc_condFb; exact rfl; exact rfl; refine wc_skip ?_; refine we_block_norm ?_; refine we_seq ?_; refine wc_region ?_; refine wl_mv rfl rfl ?_; apply wl_val; apply opv_bin; exact rfl; exact rfl; exact bin_add64 (by omega); exact rfl; refine wl_as rfl rfl ?_; refine wl_nil ?_
        refine we_loop _ (out.length - (j + 1)) ⟨j + 1, rfl, by omega, by omega, hs, rfl⟩ (by omega) ⟨rfl, rfl, rfl, by rw [hd]; rfl, by simp [lookT], trivial⟩
    obtain rfl : j = out.length := by omega
    rw [List.take_length]
    rw [ht1] at hpx
    obtain ⟨t3, ht3⟩ : ∃ q, (t1 || (out.drop (k + 1)).any (putP x)) = q := ⟨_, rfl⟩
    rw [ht3] at hpx
    rw [ht3]
    cases t3 with
    | true =>
      rw [if_pos rfl] at hpx
      rw [hpx] at hft
      have i5 := i0.below hs.bel
      refine wc_exit ?_; refine we_seq_exit ?_; refine we_loop_exit ?_; refine we_block_exit ?_; refine we_seq ?_; refine wc_sr ?_; refine wl_mv rfl rfl ?_; refine wl_ns ?_; apply wc_condTb; exact rfl; exact rfl; refine wc_region ?_; refine wl_mv rfl rfl ?_; refine wl_mv rfl rfl ?_; refine wl_mv rfl rfl ?_; apply wl_val; apply opv_idxG tkE; exact rfl; exact rfl; exact rfl; omega; exact rfl; apply wl_val; apply opv_ldG; exact rfl; assumption; exact sE; exact rfl
      refine ws_pushR (cs := enV x U cu U2 cu2) hs 0 (fun _ => rfl) rfl tkE (by simpa using hcl) ⟨_, rfl, rfl⟩ rfl rfl (by decide) (by omega) (by simp only [maxLen]; omega) rfl rfl ?_
      clear hs; intro _ R3 c3 w5 hs; dsimp only [setC] at hs
      refine wl_as rfl rfl ?_; refine wl_nil ?_; refine we_block_norm ?_; refine we_seq ?_; refine wc_region ?_; refine wl_mv rfl rfl ?_; apply wl_val; apply opv_bin; exact rfl; exact rfl; exact bin_add64 (by omega); exact rfl; refine wl_as rfl rfl ?_; refine wl_nil ?_
      refine we_loop _ (out.length - (k + 1)) ⟨k + 1, R3, c3, ys ++ [x], css2 ++ [enV x U cu U2 cu2], rfl, by omega, by simpa using hft, by rw [List.map_append]; exact hg.append (Grp.one hp rfl), by simpa using hs, rfl⟩ (by omega) ⟨rfl, by rw [List.length_append]; rfl, by simp [lookT], trivial⟩
    | false =>
      rw [if_neg (by decide)] at hpx
      rw [hpx] at hft
      refine wc_exit ?_; refine we_seq_exit ?_; refine we_loop_exit ?_; refine we_block_exit ?_; refine we_seq ?_; refine wc_sr ?_; refine wl_mv rfl rfl ?_; refine wl_ns ?_; apply wc_condFb; exact rfl; exact rfl; refine wc_skip ?_; refine we_block_norm ?_; refine we_seq ?_; refine wc_region ?_; refine wl_mv rfl rfl ?_; apply wl_val; apply opv_bin; exact rfl; exact rfl; exact bin_add64 (by omega); exact rfl; refine wl_as rfl rfl ?_; refine wl_nil ?_
      refine we_loop _ (out.length - (k + 1)) ⟨k + 1, V, cv, ys, css2, rfl, by omega, by simpa using hft, hg, hs, rfl⟩ (by omega) ⟨rfl, rfl, by simp [lookT], trivial⟩
  · obtain rfl : k = out.length := by omega
    refine wc_exit ?_; refine we_seq_exit ?_; refine we_loop_exit ?_; refine we_block_exit ?_; refine we_seq ?_; refine wc_sr ?_; refine wl_mv rfl rfl ?_; refine wl_as rfl rfl ?_; refine wl_ns ?_; refine wc_ret ?_
    refine we_ret1 rfl rfl ⟨_, rfl, V, cv, by rw [putsE, hys], ?_, hb1.trans (hs.bel.mono hb1.size)⟩
    rw [putsE, hys]; exact (hs.rawOut 0 rfl hg).mono hb1.size fun _ _ h => h
end Go.Proofs.Ytpnckagibkdcpaa


/-
  The plain laws of lists of entries: what the program's Visible and Keep make is what the document's make. No program in sight.
-/
namespace Go.Proofs.Ytpnckagibkdcpaa

theorem cmp_trans : ∀ {a b c : List UInt8}, cmpB a b < 0 → cmpB b c < 0 → cmpB a c < 0
  | [], [], _, h, _ => by simp [cmpB] at h
  | [], _ :: _, [], _, h => by simp [cmpB] at h
  | [], _ :: _, _ :: _, _, _ => by simp [cmpB]
  | _ :: _, [], _, h, _ => by simp [cmpB] at h
  | _ :: _, _ :: _, [], _, h => by simp [cmpB] at h
  | x :: xs, y :: ys, z :: zs, h, k => by
    rcases Nat.lt_trichotomy x.toNat y.toNat with h1 | h1 | h1
    · rcases Nat.lt_trichotomy y.toNat z.toNat with h2 | h2 | h2
      · rw [cmp_lt (UInt8.lt_iff_toNat_lt.2 (by omega))]; decide
      · rw [cmp_lt (UInt8.lt_iff_toNat_lt.2 (by omega))]; decide
      · rw [cmp_gt (UInt8.lt_iff_toNat_lt.2 h2)] at k; simp at k
    · obtain rfl := UInt8.toNat_inj.1 h1
      rcases Nat.lt_trichotomy x.toNat z.toNat with h2 | h2 | h2
      · rw [cmp_lt (UInt8.lt_iff_toNat_lt.2 h2)]; decide
      · obtain rfl := UInt8.toNat_inj.1 h2
        rw [cmp_same] at h k ⊢
        exact cmp_trans h k
      · rw [cmp_gt (UInt8.lt_iff_toNat_lt.2 h2)] at k; simp at k
    · rw [cmp_gt (UInt8.lt_iff_toNat_lt.2 h1)] at h; simp at h
theorem lessE_iff {a b : En} : lessE a b = true ↔ cmpB a.key b.key < 0 ∨ (a.key = b.key ∧ b.seq < a.seq) := by
  rw [lessE, decide_eq_true_eq]
  constructor
  · rintro (h | ⟨h, h'⟩)
    · exact .inl h
    · exact .inr ⟨cmp_zero h, h'⟩
  · rintro (h | ⟨h, h'⟩)
    · exact .inl h
    · exact .inr ⟨by rw [h]; exact cmp_refl _, h'⟩
theorem lessE_trans {a b c : En} (h : lessE a b = true) (k : lessE b c = true) : lessE a c = true := by
  rw [lessE_iff] at h k ⊢
  rcases h with h | ⟨h, h'⟩
  · rcases k with k | ⟨k, k'⟩
    · exact .inl (cmp_trans h k)
    · rw [← k]; exact .inl h
  · rcases k with k | ⟨k, k'⟩
    · rw [h]; exact .inl k
    · exact .inr ⟨h.trans k, by omega⟩
theorem lessE_irr (a : En) : lessE a a = false := by
  rw [← Bool.not_eq_true, lessE_iff, cmp_refl]; simp
theorem lessE_tri (a b : En) : lessE a b = true ∨ (a.key = b.key ∧ a.seq = b.seq) ∨ lessE b a = true := by
  rw [lessE_iff, lessE_iff, cmp_neg a.key b.key]
  rcases cmp_range a.key b.key with h | h | h
  · exact .inl (.inl (by omega))
  · have hk := cmp_zero h
    rcases Nat.lt_trichotomy a.seq b.seq with h1 | h1 | h1
    · exact .inr (.inr (.inr ⟨hk.symm, h1⟩))
    · exact .inr (.inl ⟨hk, h1⟩)
    · exact .inl (.inr ⟨hk, h1⟩)
  · exact .inr (.inr (.inl (by omega)))
/-- In order. -/
abbrev Ord (l : List En) : Prop := l.Pairwise fun a b => lessE a b = true
theorem ord_of : ∀ {l : List En}, ordE l = true → Ord l
  | [], _ => .nil
  | [a], _ => by simp [Ord]
  | a :: b :: l, h => by
    rw [ordE, Bool.and_eq_true] at h
    have ih := ord_of h.2
    refine List.pairwise_cons.2 ⟨fun x hx => ?_, ih⟩
    rw [List.mem_cons] at hx
    rcases hx with rfl | hx
    · exact h.1
    · exact lessE_trans h.1 ((List.pairwise_cons.1 ih).1 x hx)
theorem ordE_of : ∀ {l : List En}, Ord l → ordE l = true
  | [], _ => rfl
  | [a], _ => rfl
  | a :: b :: l, h => by
    obtain ⟨h1, h2⟩ := List.pairwise_cons.1 h
    rw [ordE, h1 b List.mem_cons_self, ordE_of h2]; rfl
theorem ord_key {a b : En} (h : lessE a b = true) (hne : ¬ a.key = b.key) {c : En} (hc : lessE b c = true) : ¬ a.key = c.key := by
  rw [lessE_iff] at h hc
  have h1 : cmpB a.key b.key < 0 := h.resolve_right fun k => hne k.1
  intro he
  rcases hc with hc | ⟨hc, _⟩
  · have := cmp_trans h1 hc
    rw [he, cmp_refl] at this; omega
  · exact hne (he.trans hc.symm)
/-- A list cut into runs. -/
structure Runs (rs : List (List En)) : Prop where
  some : ∀ r ∈ rs, r ≠ []
  same : ∀ r ∈ rs, ∀ x ∈ r, ∀ y ∈ r, x.key = y.key
  diff : rs.Pairwise fun r r' => ∀ x ∈ r, ∀ y ∈ r', ¬ x.key = y.key
theorem runsF_spec : ∀ (x : En) (l acc : List En), Ord (x :: l) → (∀ y ∈ acc, y.key = x.key) → (runsF (x :: l) acc).flatten = acc ++ x :: l ∧ Runs (runsF (x :: l) acc)
  | x, [], acc, _, ha => by
    rw [runsF]
    refine ⟨by simp, ⟨by simp, ?_, by simp⟩⟩
    intro r hr y hy z hz
    simp at hr; subst hr
    have key : ∀ y ∈ acc ++ [x], y.key = x.key := fun y hy => by
      rw [List.mem_append] at hy
      rcases hy with h | h
      · exact ha y h
      · simp at h; rw [h]
    rw [key y hy, key z hz]
  | x, y :: l, acc, ho, ha => by
    obtain ⟨h1, h2⟩ := List.pairwise_cons.1 ho
    have key : ∀ z ∈ acc ++ [x], z.key = x.key := fun z hz => by
      rw [List.mem_append] at hz
      rcases hz with h | h
      · exact ha z h
      · simp at h; rw [h]
    rw [runsF]
    by_cases hk : x.key = y.key
    · rw [if_pos hk]
      obtain ⟨f1, f2⟩ := runsF_spec y l (acc ++ [x]) h2 fun z hz => (key z hz).trans hk
      exact ⟨by rw [f1]; simp, f2⟩
    · rw [if_neg hk]
      obtain ⟨f1, f2⟩ := runsF_spec y l [] h2 (by simp)
      refine ⟨by rw [List.flatten_cons, f1]; simp, ⟨?_, ?_, ?_⟩⟩
      · intro r hr
        rw [List.mem_cons] at hr
        rcases hr with rfl | hr
        · simp
        · exact f2.some r hr
      · intro r hr
        rw [List.mem_cons] at hr
        rcases hr with rfl | hr
        · exact fun u hu v hv => by rw [key u hu, key v hv]
        · exact f2.same r hr
      · refine List.pairwise_cons.2 ⟨fun r hr u hu v hv => ?_, f2.diff⟩
        have hv' : v ∈ y :: l := by
          have : v ∈ (runsF (y :: l) []).flatten := List.mem_flatten.2 ⟨r, hr, hv⟩
          rw [f1] at this; simpa using this
        rw [key u hu]
        rw [List.mem_cons] at hv'
        rcases hv' with rfl | hv'
        · exact hk
        · exact ord_key (h1 y List.mem_cons_self) hk ((List.pairwise_cons.1 h2).1 v hv')
theorem runs_spec {l : List En} (h : Ord l) : (runsE l).flatten = l ∧ Runs (runsE l) := by
  cases l with
  | nil => exact ⟨rfl, ⟨by simp [runsE, runsF], by simp [runsE, runsF], by simp [runsE, runsF]⟩⟩
  | cons x l => have := runsF_spec x l [] h (by simp); exact ⟨by rw [runsE, this.1]; rfl, this.2⟩
/-- The first of a run that isn't above a moment. -/
def fstE (r : List En) (m : Nat) : Option En := r.find? fun x => decide (x.seq ≤ m)
theorem find_findIdx {α : Type} (p : α → Bool) : ∀ (r : List α), r.find? p = (r.findIdx? p).bind fun i => r[i]?
  | [] => rfl
  | x :: r => by
    rw [List.find?_cons, List.findIdx?_cons]
    cases h : p x with
    | true => rfl
    | false =>
      rw [find_findIdx p r]
      cases r.findIdx? p <;> simp
theorem visR_eq (m : Nat) (r : List En) : visR m r = (fstE r m).filter fun x => decide (x.kind = 1) := by
  rw [visR, fstE, find_findIdx, atE]
  cases r.findIdx? _ <;> rfl
/-- Of a run the numbers fall. -/
abbrev Fall (r : List En) : Prop := r.Pairwise fun a b => b.seq < a.seq
theorem find_runs {p q : En → Bool} : ∀ {rs : List (List En)} {r : List En}, Runs rs → r ∈ rs → ∀ {x : En}, x ∈ r → (∀ y, p y = (decide (y.key = x.key) && q y)) → rs.flatten.find? p = r.find? q
  | [], r, _, h, _, _, _ => by simp at h
  | r0 :: rs, r, hR, hr, x, hx, hp => by
    obtain ⟨hd, hd2⟩ := List.pairwise_cons.1 hR.diff
    have hR2 : Runs rs := ⟨fun r h => hR.some r (List.mem_cons_of_mem _ h), fun r h => hR.same r (List.mem_cons_of_mem _ h), hd2⟩
    rw [List.flatten_cons, List.find?_append]
    rw [List.mem_cons] at hr
    rcases hr with rfl | hr
    · have h1 : rs.flatten.find? p = none := by
        rw [List.find?_eq_none]
        intro y hy
        obtain ⟨r', hr', hy'⟩ := List.mem_flatten.1 hy
        rw [hp, decide_eq_false fun h => hd r' hr' x hx y hy' h.symm]; simp
      have h2 : r.find? p = r.find? q := by
        have hc : ∀ (l : List En), (∀ y ∈ l, p y = q y) → l.find? p = l.find? q := by
          intro l
          induction l with
          | nil => intro _; rfl
          | cons a l ih => intro h; rw [List.find?_cons, List.find?_cons, h a List.mem_cons_self, ih fun y hy => h y (List.mem_cons_of_mem _ hy)]
        exact hc r fun y hy => by rw [hp, decide_eq_true (hR.same r List.mem_cons_self y hy x hx)]; simp
      rw [h1, h2]; simp
    · have h1 : r0.find? p = none := by
        rw [List.find?_eq_none]
        intro y hy
        rw [hp, decide_eq_false fun h => hd r hr y hy x hx h]; simp
      rw [h1, Option.none_or]
      exact find_runs hR2 hr hx hp
theorem get_run {rs : List (List En)} {r : List En} (hR : Runs rs) (hr : r ∈ rs) {x : En} (hx : x ∈ r) (m : Nat) : getE rs.flatten x.key m = fstE r m :=
  find_runs hR hr hx fun y => by rw [Bool.decide_and]
theorem fall_of {l : List En} (ho : Ord l) {r : List En} (hR : Runs (runsE l)) (hr : r ∈ runsE l) : Fall r := by
  have hs : r.Sublist l := by
    have := (runs_spec ho).1
    rw [← this]
    exact List.sublist_flatten_of_mem hr
  refine (ho.sublist hs).imp_of_mem fun {a b} ha hb h => ?_
  rw [lessE_iff, hR.same r hr a ha b hb, cmp_refl] at h
  rcases h with h | h
  · omega
  · exact h.2
theorem filter_one : ∀ {r : List En}, Fall r → ∀ {v : En}, v ∈ r → r.filter (fun x => decide (v.seq = x.seq)) = [v]
  | [], _, _, h => by simp at h
  | a :: r, hf, v, h => by
    obtain ⟨h1, h2⟩ := List.pairwise_cons.1 hf
    rw [List.mem_cons] at h
    rcases h with rfl | h
    · rw [List.filter_cons, if_pos (by simp)]
      congr 1
      rw [List.filter_eq_nil_iff]
      intro x hx
      have := h1 x hx
      simp; omega
    · have := h1 v h
      rw [List.filter_cons, if_neg (by simp; omega), filter_one h2 h]
theorem filter_flat {α : Type} (p : α → Bool) : ∀ (rs : List (List α)), rs.flatten.filter p = rs.flatMap (List.filter p)
  | [] => rfl
  | r :: rs => by rw [List.flatten_cons, List.filter_append, filter_flat p rs, List.flatMap_cons]
theorem flatMap_congr {α β : Type} {f g : α → List β} : ∀ {l : List α}, (∀ x ∈ l, f x = g x) → l.flatMap f = l.flatMap g
  | [], _ => rfl
  | x :: l, h => by rw [List.flatMap_cons, List.flatMap_cons, h x List.mem_cons_self, flatMap_congr fun y hy => h y (List.mem_cons_of_mem _ hy)]
theorem filterMap_flat {α β : Type} (f : α → Option β) : ∀ (l : List α), l.filterMap f = l.flatMap fun x => (f x).toList
  | [] => rfl
  | x :: l => by rw [List.flatMap_cons, ← filterMap_flat f l, List.filterMap_cons]; cases f x <;> rfl
/-- What one sees is what the document says. -/
theorem vis_eq {l : List En} (ho : Ord l) (m : Nat) : visE l m = refVis l m := by
  obtain ⟨hf, hR⟩ := runs_spec ho
  have hfall := fun r hr => fall_of ho (r := r) hR hr
  rw [visE, refVis]
  conv => rhs; rw [← hf]
  rw [filter_flat, filterMap_flat]
  refine flatMap_congr fun r hr => ?_
  have hp : ∀ x ∈ r, visP (runsE l).flatten m x = match fstE r m with | some v => decide (v.seq = x.seq ∧ v.kind = 1) | none => false := fun x hx => by rw [visP, get_run hR hr hx] <;> rfl
  rw [List.filter_congr (q := fun x => match fstE r m with | some v => decide (v.seq = x.seq ∧ v.kind = 1) | none => false) hp, visR_eq]
  cases hv : fstE r m with
  | none => simp
  | some v =>
    have hvr : v ∈ r := List.mem_of_find?_eq_some hv
    by_cases hk : v.kind = 1
    · simp only [hk, and_true]
      rw [filter_one (hfall r hr) hvr]; simp [hk]
    · have h0 : r.filter (fun x => decide (v.seq = x.seq ∧ v.kind = 1)) = [] := List.filter_eq_nil_iff.2 (by simp [hk])
      rw [h0]; simp [hk, Option.filter]
/-- Whether an entry of a run is needed. -/
def nd (r : List En) (ms : List Nat) (x : En) : Bool := decide (r[0]? = some x) || ms.any fun m => decide (fstE r m = some x)
theorem fall_inj {r : List En} (hf : Fall r) {i j : Nat} {x y : En} (hi : r[i]? = some x) (hj : r[j]? = some y) (h : x.seq = y.seq) : i = j := by
  obtain ⟨hi', rfl⟩ := List.getElem?_eq_some_iff.1 hi
  obtain ⟨hj', rfl⟩ := List.getElem?_eq_some_iff.1 hj
  rcases Nat.lt_trichotomy i j with h1 | h1 | h1
  · have := (List.pairwise_iff_getElem.1 hf) i j hi' hj' h1; omega
  · exact h1
  · have := (List.pairwise_iff_getElem.1 hf) j i hj' hi' h1; omega
theorem fst_at {r : List En} {m i : Nat} (h : atE r m = some i) : fstE r m = r[i]? := by rw [fstE, find_findIdx]; rw [atE] at h; rw [h]; rfl
theorem fst_iff {r : List En} (hf : Fall r) {m i : Nat} {x : En} (hx : r[i]? = some x) : fstE r m = some x ↔ atE r m = some i := by
  constructor
  · intro h
    cases ha : atE r m with
    | none => rw [fstE, find_findIdx] at h; rw [atE] at ha; rw [ha] at h; cases h
    | some j => rw [fst_at ha] at h; rw [fall_inj hf h hx rfl]
  · intro h; rw [fst_at h, hx]
theorem nd_at {r : List En} (hf : Fall r) (ms : List Nat) {i : Nat} {x : En} (hx : r[i]? = some x) : nd r ms x = ndP r ms i := by
  rw [nd, ndP]
  congr 1
  · refine decide_eq_decide.2 ⟨fun h => fall_inj hf hx h rfl, ?_⟩
    rintro rfl; exact hx
  · refine congrArg (fun f => ms.any f) (funext fun m => decide_eq_decide.2 (fst_iff hf hx))
theorem need_filter {r : List En} (hf : Fall r) (ms : List Nat) : needE r ms = r.filter (nd r ms) := by
  have key : ∀ k, k ≤ r.length → (List.range k).filterMap (pick r ms) = (r.take k).filter (nd r ms) := by
    intro k
    induction k with
    | zero => intro _; rfl
    | succ k ih =>
      intro hk
      have hx : r[k]? = some (r[k]'(by omega)) := List.getElem?_eq_getElem (by omega)
      rw [needE_take, filter_take hx, ih (by omega), pick, ← nd_at hf ms hx, hx]
      cases nd r ms _ <;> rfl
  rw [needE, key _ (Nat.le_refl _), List.take_length]
theorem refNeed_run {l : List En} (ho : Ord l) (hsq : ∀ x ∈ l, x.seq < 2 ^ 64) (ms : List Nat) {r : List En} (hr : r ∈ runsE l) {x : En} (hx : x ∈ r) : refNeed l ms x = nd r ms x := by
  obtain ⟨hf, hR⟩ := runs_spec ho
  have hfall := fall_of ho hR hr
  have hg : ∀ m, getE l x.key m = fstE r m := fun m => by rw [← get_run hR hr hx m, hf]
  have hmem : ∀ y ∈ r, y ∈ l := fun y hy => by rw [← hf]; exact List.mem_flatten.2 ⟨r, hr, hy⟩
  obtain ⟨i, hi, hix⟩ := List.getElem_of_mem hx
  have hix' : r[i]? = some x := by rw [← hix]; exact List.getElem?_eq_getElem hi
  have hseq : ∀ m, seqIs (fstE r m) x = decide (fstE r m = some x) := fun m => by
    cases hv : fstE r m with
    | none => simp [seqIs]
    | some v =>
      obtain ⟨j, hj, hjv⟩ := List.getElem_of_mem (List.mem_of_find?_eq_some hv)
      have hjv' : r[j]? = some v := by rw [← hjv]; exact List.getElem?_eq_getElem hj
      rw [seqIs]
      simp only [Option.isSome_some, Bool.true_and, Option.getD_some, Option.some.injEq]
      refine decide_eq_decide.2 ⟨fun h => ?_, fun h => by rw [h]⟩
      have := fall_inj hfall hjv' hix' h
      subst this; rw [hjv'] at hix'; exact Option.some.inj hix'
  rw [refNeed, newest, nd]
  congr 1
  · obtain ⟨y, hy⟩ : ∃ y, r[0]? = some y := ⟨_, List.getElem?_eq_getElem (by omega : 0 < r.length)⟩
    have h0 : fstE r 18446744073709551615 = some y := by
      rw [fst_iff hfall hy, atE, findIdx_at hy (fun i y hi => by omega)]
      have := hsq y (hmem y (List.mem_of_getElem? hy))
      exact decide_eq_true (by omega)
    rw [hg, h0, hy]
    simp only [Option.getD_some, Option.some.injEq]
    refine decide_eq_decide.2 ⟨fun h => ?_, fun h => by rw [h]⟩
    have := fall_inj hfall hy hix' h
    subst this; rw [hy] at hix'; exact Option.some.inj hix'
  · exact congrArg (fun f => ms.any f) (funext fun m => by rw [hg, hseq])
/-- The document's last cut, from the front. -/
def putsL : List En → List En
  | [] => []
  | x :: l => if decide (x.kind = 1) || l.any (putP x) then x :: putsL l else putsL l
theorem putsE_eq : ∀ (l : List En), putsE l = putsL l
  | [] => rfl
  | x :: l => by
    have ih := putsE_eq l
    rw [putsE] at ih ⊢
    rw [List.length_cons, List.range_succ_eq_map, List.filterMap_cons, List.filterMap_map]
    have h0 : (putsP (x :: l)) ∘ Nat.succ = putsP l := by
      funext i; simp [putsP]
    rw [h0, ih, putsL, putsP]
    simp only [List.getElem?_cons_zero, Nat.zero_add, List.drop_succ_cons, List.drop_zero]
    cases decide (x.kind = 1) || l.any (putP x) <;> rfl
theorem putsL_app : ∀ (s t : List En), (∀ x ∈ s, ∀ y ∈ t, ¬ x.key = y.key) → putsL (s ++ t) = putsL s ++ putsL t
  | [], _, _ => rfl
  | x :: s, t, h => by
    have ih := putsL_app s t fun a ha b hb => h a (List.mem_cons_of_mem _ ha) b hb
    have h0 : t.any (putP x) = false := List.any_eq_false.2 fun y hy => by rw [putP, decide_eq_false fun k => h x List.mem_cons_self y hy k.1.symm]; simp
    rw [List.cons_append, putsL, putsL, List.any_append, h0, Bool.or_false, ih]
    split <;> rfl
theorem putsL_flat {f : List En → List En} (hf : ∀ r x, x ∈ f r → x ∈ r) : ∀ {rs : List (List En)}, Runs rs → putsL (rs.flatMap f) = rs.flatMap fun r => putsL (f r)
  | [], _ => rfl
  | r :: rs, hR => by
    obtain ⟨hd, hd2⟩ := List.pairwise_cons.1 hR.diff
    have hR2 : Runs rs := ⟨fun r h => hR.some r (List.mem_cons_of_mem _ h), fun r h => hR.same r (List.mem_cons_of_mem _ h), hd2⟩
    rw [List.flatMap_cons, List.flatMap_cons, putsL_app, putsL_flat hf hR2]
    intro x hx y hy
    obtain ⟨r', hr', hy'⟩ := List.mem_flatMap.1 hy
    exact hd r' hr' x (hf r x hx) y (hf r' y hy')
theorem trim_spec (s : List En) : ∀ n, n ≤ s.length → (∀ i x, trimN s n ≤ i → i < n → s[i]? = some x → x.kind = 2) ∧ (trimN s n = 0 ∨ ∃ x, s[trimN s n - 1]? = some x ∧ ¬ x.kind = 2 ∧ 0 < trimN s n)
  | 0, _ => ⟨by omega, .inl rfl⟩
  | n + 1, h => by
    have hx : s[n]? = some (s[n]'(by omega)) := List.getElem?_eq_getElem (by omega)
    rw [trimN, hx]
    simp only
    by_cases h2 : (s[n]'(by omega)).kind = 2
    · rw [if_pos h2]
      obtain ⟨h3, h4⟩ := trim_spec s n (by omega)
      refine ⟨fun i x hi hin hxi => ?_, h4⟩
      rcases Nat.lt_or_ge i n with h5 | h5
      · exact h3 i x hi h5 hxi
      · obtain rfl : i = n := by omega
        rw [hx] at hxi; cases hxi; exact h2
    · rw [if_neg h2]
      exact ⟨by omega, .inr ⟨_, hx, h2, by omega⟩⟩
theorem puts_take : ∀ {s : List En} {t : Nat}, (∀ x ∈ s, ∀ y ∈ s, x.key = y.key) → (∀ x ∈ s, x.kind = 1 ∨ x.kind = 2) → t ≤ s.length → (∀ i x, t ≤ i → s[i]? = some x → x.kind = 2) → (t = 0 ∨ ∃ x, s[t - 1]? = some x ∧ ¬ x.kind = 2 ∧ 0 < t) → putsL s = s.take t
  | [], t, _, _, _, _, _ => by simp [putsL]
  | x :: s, t, hk, hc, ht, h2, h1 => by
    have hk' : ∀ a ∈ s, ∀ b ∈ s, a.key = b.key := fun a ha b hb => hk a (List.mem_cons_of_mem _ ha) b (List.mem_cons_of_mem _ hb)
    have hc' : ∀ a ∈ s, a.kind = 1 ∨ a.kind = 2 := fun a ha => hc a (List.mem_cons_of_mem _ ha)
    cases t with
    | zero =>
      have ih := puts_take (t := 0) hk' hc' (by omega) (fun i y _ hy => h2 (i + 1) y (by omega) (by simpa using hy)) (.inl rfl)
      have hx : x.kind = 2 := h2 0 x (by omega) rfl
      have hs : s.any (putP x) = false := List.any_eq_false.2 fun y hy => by
        obtain ⟨i, hi, rfl⟩ := List.getElem_of_mem hy
        have := h2 (i + 1) s[i] (by omega) (by simp [hi])
        simp [putP, this]
      rw [putsL, hs, decide_eq_false (by rw [hx]; decide), ih]; rfl
    | succ t =>
      rcases h1 with h1 | ⟨y, hy, hy2, _⟩
      · omega
      · have ih := puts_take (s := s) (t := t) hk' hc' (by simp at ht; omega) (fun i z hi hz => h2 (i + 1) z (by omega) (by simpa using hz)) (by
          cases t with
          | zero => exact .inl rfl
          | succ t => exact .inr ⟨y, by simpa using hy, hy2, by omega⟩)
        have hkeep : (decide (x.kind = 1) || s.any (putP x)) = true := by
          rw [Bool.or_eq_true]
          have hmy : y ∈ x :: s := List.mem_of_getElem? hy
          have hy1 : y.kind = 1 := (hc y hmy).resolve_right hy2
          rw [List.mem_cons] at hmy
          rcases hmy with rfl | hmy
          · exact .inl (decide_eq_true hy1)
          · exact .inr (List.any_eq_true.2 ⟨y, hmy, decide_eq_true ⟨hk y (List.mem_cons_of_mem _ hmy) x List.mem_cons_self, hy1⟩⟩)
        rw [putsL, if_pos hkeep, ih, List.take_succ_cons]
/-- What is kept is what the document says. -/
theorem keep_eq {l : List En} (ho : Ord l) (hsq : ∀ x ∈ l, x.seq < 2 ^ 64) (hc : ∀ x ∈ l, x.kind = 1 ∨ x.kind = 2) (bt : Bool) (ms : List Nat) : keepE l bt ms = refKeep l bt ms := by
  obtain ⟨hf, hR⟩ := runs_spec ho
  have hmem : ∀ r ∈ runsE l, ∀ y ∈ r, y ∈ l := fun r hr y hy => by rw [← hf]; exact List.mem_flatten.2 ⟨r, hr, hy⟩
  have hflt : l.filter (refNeed l ms) = (runsE l).flatMap fun r => needE r ms := by
    conv => lhs; arg 2; rw [← hf]
    rw [filter_flat]
    exact flatMap_congr fun r hr => by rw [need_filter (fall_of ho hR hr), List.filter_congr fun x hx => refNeed_run ho hsq ms hr hx]
  rw [keepE, refKeep, hflt]
  cases bt with
  | false => exact flatMap_congr fun r hr => by rw [keepR, if_neg (by decide), List.take_length]
  | true =>
    rw [if_pos rfl, putsE_eq, putsL_flat (fun r x hx => by
      rw [needE, List.mem_filterMap] at hx
      obtain ⟨i, _, hi⟩ := hx
      rw [pick] at hi
      split at hi
      · exact List.mem_of_getElem? hi
      · cases hi) hR]
    refine flatMap_congr fun r hr => ?_
    have hn : ∀ x ∈ needE r ms, x ∈ r := fun x hx => by rw [need_filter (fall_of ho hR hr)] at hx; exact (List.mem_filter.1 hx).1
    obtain ⟨h1, h2⟩ := trim_spec (needE r ms) _ (Nat.le_refl _)
    rw [keepR, if_pos rfl]
    exact (puts_take (fun x hx y hy => hR.same r hr x (hn x hx) y (hn y hy)) (fun x hx => hc x (hmem r hr x (hn x hx))) (trimN_le _ _) (fun i x hi hx => h1 i x hi (List.getElem?_eq_some_iff.1 hx).1 hx) h2).symm
end Go.Proofs.Ytpnckagibkdcpaa
