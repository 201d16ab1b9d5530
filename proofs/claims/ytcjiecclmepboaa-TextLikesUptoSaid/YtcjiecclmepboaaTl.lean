
/-
  Matching: a table of what matches, and the walks over Like of the program and of the reference.
-/
import Derived.Test.YtcjiecclmepboaaFq
namespace Go.Proofs.Ytcjiecclmepboaa
open Go.RowKit

/-- Which beginnings of the text t match the pattern's beginning that ends with the rune q, out of those ahead of it. -/
def colS (prev : Nat → Bool) (q : Nat) (t : List Nat) : Nat → Bool
  | 0 => prev 0 && decide (q = 37)
  | i + 1 => if q = 37 then prev (i + 1) || colS prev q t i else prev i && (decide (q = 95) || decide (lowN q = t.getD i 0))
def mm (t p : List Nat) : Nat → Nat → Bool
  | 0 => fun i => decide (i = 0)
  | j + 1 => colS (mm t p j) (p.getD j 0) t
def likeN (t p : List Nat) : Bool := mm t p p.length t.length
def bo (b : Bool) : Value := .bool b
/-- A row of bools of which the first i are told by f, the others false. -/
def rowB (f : Nat → Bool) (i n : Nat) : List Value := (List.range i).map (fun k => bo (f k)) ++ List.replicate (n - i) (bo false)
theorem rowB_len {f : Nat → Bool} {i n : Nat} (h : i ≤ n) : (rowB f i n).length = n := by simp [rowB]; omega
theorem rowB_get {f : Nat → Bool} {i n k : Nat} (h : k < i) : (rowB f i n)[k]? = some (bo (f k)) := by
  rw [rowB, List.getElem?_append_left (by simp; exact h)]; simp [h]
theorem rowB_rest {f : Nat → Bool} {i n k : Nat} (h : i ≤ k) (hk : k < n) : (rowB f i n)[k]? = some (bo false) := by
  rw [rowB, List.getElem?_append_right (by simp; exact h), List.getElem?_replicate, if_pos (by simp; omega)]
theorem rowB_set {f : Nat → Bool} {i n : Nat} {v : Bool} (h : i < n) (hv : v = f i) : (rowB f i n).set i (bo v) = rowB f (i + 1) n := by
  subst hv
  rw [rowB, List.set_append_right _ _ (by simp), rowB]
  simp only [List.length_map, List.length_range, Nat.sub_self]
  rw [show n - i = (n - (i + 1)) + 1 by omega, List.replicate_succ, List.set_cons_zero, List.range_succ, List.map_append, List.append_assoc]
  rfl
theorem rowB_skip {f : Nat → Bool} {i n : Nat} (h : i < n) (hv : f i = false) : rowB f i n = rowB f (i + 1) n := by
  rw [rowB, rowB, show n - i = (n - (i + 1)) + 1 by omega, List.replicate_succ, List.range_succ, List.map_append, List.append_assoc]
  simp [hv]
theorem rowB_zero (f : Nat → Bool) (n : Nat) : List.replicate n (Value.bool false) = rowB f 0 n := by simp [rowB, bo]
section
variable {P : Program} {N : Nat} {ops : Array Oper} {Q : Exit → Act → World → Prop} {rest : List Oper} {L : FL} {w : World} {t e : TypeId} {z : Value} {bytes : Nat}
/-- A store into a row of the call's own, at an address that is in a slot. -/
theorem wl_stO {x y : Operand} {ty : TypeId} {p : String} {f : Array Edge} {base : Nat} {A : Option Addr} {n c kk : Nat} {u : Value} {xs : List Value} (T : Row1 P t e z bytes)
    (ho : Ow w base e A n c xs) (hk : kk < n) (hx : look L x = some (adR A kk)) (hy : look L y = some u) (h1 : u.oneCell' = true)
    (h : ∀ w', Ow w' base e A n c (xs.set kk u) → Gr w w' A → w'.heap.size = w.heap.size → WL P N ops Q rest L w') :
    WL P N ops Q (⟨none, .store e x y, ty, p, f, none⟩ :: rest) L w := by
  obtain ⟨g, cap, hv, _, hlt⟩ := World.ownsRow.form ho (by omega)
  injection hv with hA hn hc; subst hA hc
  have hl : kk < xs.length := by have := ho.len; omega
  have hcell := World.ownsRow.cellAt ho kk (by omega)
  have hfr := World.ownsRow.frozenAt ho kk
  rw [List.getElem?_eq_getElem hl] at hcell
  have hst := World.ownsRow.stored ho kk u
  refine wl_unitN (opu_store T (a := ⟨g, kk, none⟩) (by simpa [adR, Addr.add_lit] using hx) hy h1 (v := xs[kk]) (by simpa using hcell) (by simpa using hfr)) ?_
  exact h _ hst.1 hst.2 (by simp [World.setCell])
end
/-- Runes as cells. -/
def rns (t : List Nat) : List Value := t.map fun c : Nat => runeV (c : Int)
theorem rns_get {t : List Nat} {i : Nat} (h : i < t.length) : (rns t)[i]? = some (.int .i32 (t.getD i 0 : Int)) := by
  simp [rns, List.getD, List.getElem?_eq_getElem h, runeV]
theorem colS_zero (prev : Nat → Bool) (q : Nat) (t : List Nat) : colS prev q t 0 = (prev 0 && decide (q = 37)) := rfl
theorem colS_any {prev : Nat → Bool} {q i : Nat} {t : List Nat} (h : q = 37) : colS prev q t (i + 1) = (prev (i + 1) || colS prev q t i) := by rw [colS, if_pos h]
theorem colS_one {prev : Nat → Bool} {q i : Nat} {t : List Nat} (h : ¬ q = 37) : colS prev q t (i + 1) = (prev i && (decide (q = 95) || decide (lowN q = t.getD i 0))) := by rw [colS, if_neg h]
set_option maxHeartbeats 4000000 in
set_option maxRecDepth 10000 in
theorem like_any {s pat : List UInt8} (hs : s.length ≤ 1048576) (hp : pat.length ≤ 1048576) (w : World) :
    CallsV Try.prog 16 #[str s, str pat] w fun v w' => v = .bool (likeN ((rs s).map lowN) (rs pat)) ∧ Below w.heap.size w w' := by
  have hfl := foldB_length s
  obtain ⟨t, ht⟩ : ∃ t, rs (foldB s) = t := ⟨_, rfl⟩
  have htl := rs_length (foldB s)
  rw [ht] at htl
  have ht' : (rs s).map lowN = t := by rw [← ht, rs_fold]
  rw [ht']
  refine calls_in (N := _) Try.func16 rfl Try.ntmps16 rfl ?_; show WC _ _ _ _ _ _
  refine wc_sr ?_; refine wl_as rfl rfl ?_; refine wl_ns ?_; refine wc_sr ?_; refine wl_mv rfl rfl ?_
  refine wl_call ok_text_Fold (fold_any (l := s) (by omega) w) ⟨rfl, trivial⟩ rfl ?_
  rintro _ w1 ⟨rfl, hb1⟩
  refine wl_call ok_text_Runes (runes_any (l := foldB s) (by omega) w1) ⟨rfl, trivial⟩ rfl ?_
  rintro _ w2 ⟨A, c, rfl, o2, hb2⟩
  have hb := hb1.trans (hb2.mono hb1.size)
  have r2 : Rd w2 A t.length (rns t) := by have := o2.rd; rw [ht] at this; exact this
  rw [ht]
  clear o2 hb1 hb2
  refine wl_as rfl rfl ?_; refine wl_ns ?_; refine wc_sr ?_; refine wl_mv rfl rfl ?_; apply wl_val; apply opv_len; exact rfl; exact tyR.sl; exact rfl; apply wl_val; apply opv_bin; exact rfl; exact rfl; exact bin_add64 (by omega); exact rfl
  refine wl_mk (n := t.length + 1) (c := t.length + 1) tyT rfl rfl rfl rfl (Nat.le_refl _) (by omega) (by simp only [maxLen]; omega) rfl fun A3 w3 o3 hb3 _ => ?_
  refine wl_as rfl rfl ?_; refine wl_ns ?_; refine wc_sr ?_; refine wl_mv rfl rfl ?_
  refine wl_set (kk := 0) tyT rfl rfl o3 rfl (by omega) (fun _ => rfl) rfl rfl fun q w4 o4 g4 hs4 => ?_
  have hb4 := g4.below hb3 o3 (Nat.le_refl _) hb3.size
  have e4 : (List.replicate (t.length + 1) (Value.bool false)).set 0 (.bool true) = rowB (mm t (rs pat) 0) (t.length + 1) (t.length + 1) := by
    have e1 := rowB_set (f := mm t (rs pat) 0) (i := 0) (n := t.length + 1) (v := true) (by omega) rfl
    have e2 : ∀ m, m ≤ t.length → rowB (mm t (rs pat) 0) 1 (t.length + 1) = rowB (mm t (rs pat) 0) (1 + m) (t.length + 1) := by
      intro m
      induction m with
      | zero => intro _; rfl
      | succ m ih =>
        intro hm
        rw [ih (by omega)]
        exact rowB_skip (by omega) (decide_eq_false (by omega))
    rw [rowB_zero (mm t (rs pat) 0)]
    refine e1.trans ?_
    have := e2 t.length (Nat.le_refl _)
    rwa [Nat.add_comm 1 t.length] at this
  rw [e4] at o4
  clear o3 e4
  refine wl_ns ?_; refine wc_seq ?_; refine wc_sr ?_; refine wl_mv rfl rfl ?_
  refine wl_range tyStr rfl rfl fun k w5 hk i5 hb5 => ?_
  have o5 := Ow.below o4 hb5 (Nat.le_refl _)
  have hb25 := hb4.trans (hb5.mono hb4.size)
  have hk2 : w2.heap.size ≤ k := by have := hb4.size; omega
  refine wl_ns ?_; refine wc_block ?_
  refine wc_loop (fun L wr m => ∃ (q : Nat) (done : List Nat) (B : Option Addr), L = [(5, .slice A t.length c), (6, .slice B (t.length + 1) (t.length + 1)), (21, .pointer (some ⟨k, 0, none⟩))] ∧ It wr k pat q ∧ Ow wr w2.heap.size 4 B (t.length + 1) (t.length + 1) (rowB (mm t (rs pat) done.length) (t.length + 1) (t.length + 1)) ∧ Below w2.heap.size w2 wr ∧ q ≤ pat.length ∧ done ++ rs (pat.drop q) = rs pat ∧ m = pat.length - q)
    [(5, .slice A t.length c), (6, .slice A3 (t.length + 1) (t.length + 1)), (21, .pointer (some ⟨k, 0, none⟩))] pat.length ⟨0, [], A3, rfl, i5, o5, hb25, by omega, rfl, rfl⟩ ⟨rfl, rfl, rfl, trivial⟩ ?_
  clear o4 o5 i5 hb25 hb3 hb4 g4
  rintro _ w6 m ⟨q, done, B, rfl, i6, o6, hb6, hq, he, rfl⟩
  refine wc_sr ?_
  by_cases hlt : q < pat.length
  · have hd := dec_at hlt
    rw [rs_step hlt] at he
    obtain ⟨ch, hch⟩ : ∃ ch, (dec (pat.drop q)).1 = ch := ⟨_, rfl⟩
    have hcl : ch ≤ 1114111 := by rw [← hch]; exact dec_le _
    rw [hch] at he
    have hcp : (rs pat).getD done.length 0 = ch := by rw [← he]; simp
    refine wl_next rfl i6 hlt rfl fun w7 i7 g7 hs7 => ?_
    rw [hch]
    have o7 : Ow w7 w2.heap.size 4 B (t.length + 1) (t.length + 1) (rowB (mm t (rs pat) done.length) (t.length + 1) (t.length + 1)) := Ow.gr (base' := 0) (e' := 0) o6 g7 fun a b ha hb => by cases hb; exact i6.ne_own o6 a ha
    have hb7 := g7.belowI hb6 hk2 hb6.size
    apply wl_val; apply opv_extract; exact rfl; exact rfl; exact rfl; refine wl_ns ?_; refine wc_seq ?_; apply wc_condTb; exact rfl; exact rfl; refine wc_skip ?_; refine we_seq ?_; refine wc_block ?_; refine wc_sr ?_; apply wl_val; apply opv_extract; exact rfl; exact rfl; exact rfl; refine wl_as rfl rfl ?_; refine wl_ns ?_; refine wc_sr ?_; refine wl_mv rfl rfl ?_; apply wl_val; apply opv_len; exact rfl; exact tyT.sl; exact rfl
    refine wl_mk (n := t.length + 1) (c := t.length + 1) tyT rfl rfl rfl rfl (Nat.le_refl _) (by omega) (by simp only [maxLen]; omega) rfl fun C w8 o8 hb8 _ => ?_
    rw [rowB_zero (colS (mm t (rs pat) done.length) ch t)] at o8
    have i8 := i7.bel hb8
    have p8 := Ow.below o7 hb8 (Nat.le_refl _)
    have hbc : ∀ a b, B = some a → C = some b → a.block ≠ b.block := fun a b ha hb => by have := (Ow.lt o7 a ha).2; have := (Ow.lt o8 b hb).1; omega
    have hb28 := hb7.trans (hb8.mono hb7.size)
    refine wl_as rfl rfl ?_; refine wl_ns ?_; refine wc_seq ?_; refine wc_sr ?_; refine wl_mv rfl rfl ?_; apply wl_val; apply opv_len; exact rfl; exact tyT.sl; exact rfl; refine wl_mv rfl rfl ?_; refine wl_ns ?_; refine wc_block ?_
    refine wc_loop (fun L wr m => ∃ i : Nat, L = [(5, .slice A t.length c), (6, .slice B (t.length + 1) (t.length + 1)), (8, .int .i32 (ch : Int)), (9, .slice C (t.length + 1) (t.length + 1)), (21, .pointer (some ⟨k, 0, none⟩)), (29, .int .i64 ((t.length + 1 : Nat) : Int)), (30, .int .i64 (i : Int))] ∧ i ≤ t.length + 1 ∧ It wr k pat (q + (dec (pat.drop q)).2) ∧ Ow wr w2.heap.size 4 B (t.length + 1) (t.length + 1) (rowB (mm t (rs pat) done.length) (t.length + 1) (t.length + 1)) ∧ Ow wr w2.heap.size 4 C (t.length + 1) (t.length + 1) (rowB (colS (mm t (rs pat) done.length) ch t) i (t.length + 1)) ∧ Below w2.heap.size w2 wr ∧ m = t.length + 1 - i)
      [(5, .slice A t.length c), (6, .slice B (t.length + 1) (t.length + 1)), (8, .int .i32 (ch : Int)), (9, .slice C (t.length + 1) (t.length + 1)), (21, .pointer (some ⟨k, 0, none⟩)), (29, .int .i64 ((t.length + 1 : Nat) : Int)), (30, .int .i64 (0 : Nat))] (t.length + 1) ⟨0, rfl, by omega, i8, p8, Ow.mono o8 (by have := hb7.size; omega), hb28, rfl⟩ ⟨rfl, rfl, rfl, rfl, rfl, rfl, rfl, trivial⟩ ?_
    clear i8 p8 o8 hb28 hb8 hb7 o7 i7 g7 o6 i6 hb6
    rintro _ w9 m ⟨i, rfl, hi, i9, o9, n9, hb9, rfl⟩
    refine wc_sr ?_; refine wl_bin rfl rfl bin_lss rfl ?_; refine wl_ns ?_; refine wc_seq ?_
    refine wc_cond rfl (fun h1 => ?_) (fun h1 => ?_)
    · have hin : i < t.length + 1 := by omega
      have ra := o9.rd
      have rn := n9.rd
      have rt := r2.below hb9
      obtain ⟨f, hf⟩ : ∃ f, colS (mm t (rs pat) done.length) ch t = f := ⟨_, rfl⟩
      obtain ⟨pr, hpr⟩ : ∃ pr, mm t (rs pat) done.length = pr := ⟨_, rfl⟩
      have xa : (rowB pr (t.length + 1) (t.length + 1))[i]? = some (bo (pr i)) := rowB_get hin
      rw [hpr] at o9 ra
      rw [hf] at n9 rn
      refine wc_skip ?_; refine we_seq ?_; refine wc_seq ?_; refine wc_block ?_; refine wc_sr ?_; refine wl_mv rfl rfl ?_; refine wl_as rfl rfl ?_; refine wl_ns ?_; refine wc_sr ?_; refine wl_mv rfl rfl ?_; refine wl_bin rfl rfl bin_eql rfl ?_; refine wl_ns ?_
      refine wc_cond rfl (fun h2 => ?_) (fun h2 => ?_)
      · have h37 : ch = 37 := by omega
        by_cases hA : pr i = true
        · rw [hA] at xa
          refine wc_region ?_; refine wl_mv rfl rfl ?_; refine wl_mv rfl rfl ?_; refine wl_mv rfl rfl ?_; refine wl_mv rfl rfl ?_; apply wl_elK (T := tyT) (hr := ra) (hb := xa); exact rfl; exact rfl; exact rfl; exact rfl; exact rfl; intro _; refine wl_mv rfl rfl ?_; apply wl_skip; exact rfl; exact rfl; exact rfl; exact bR1; exact rfl; apply wl_skip; exact rfl; exact rfl; exact rfl; exact bR1; exact rfl; apply wl_skip; exact rfl; exact rfl; exact rfl; exact bR1; exact rfl; apply wl_skipU; exact rfl; exact rfl; exact rfl; exact rfl; apply wl_skipU; exact rfl; exact rfl; exact rfl; exact rfl; apply wl_skipU; exact rfl; exact rfl; exact rfl; exact rfl; apply wl_skipU; exact rfl; exact rfl; exact rfl; exact rfl; apply wl_skipU; exact rfl; exact rfl; exact rfl; exact rfl; apply wl_skip; exact rfl; exact rfl; exact rfl; exact bR1; exact rfl; apply wl_val; apply opv_pickT; exact rfl; exact rfl; exact rfl; exact rfl
          refine wl_set (kk := i) (u := bo true) tyT rfl rfl n9 rfl hin (fun _ => rfl) rfl rfl fun _ w10 n10 g10 _ => ?_
          have i10 := i9.gr g10 n9
          have o10 := Ow.gr (base' := 0) (e' := 0) o9 g10 hbc
          have hb10 := g10.below hb9 n9 (Nat.le_refl _) hb9.size
          rw [rowB_set (f := f) (v := true) hin (by rw [← hf]; cases i with | zero => rw [colS_zero, hpr, hA, decide_eq_true h37]; rfl | succ i => rw [colS_any h37, hpr, hA]; rfl)] at n10
          refine wl_nil ?_; refine we_block_norm ?_; refine we_seq ?_; refine wc_region ?_; apply wl_val; apply opv_bin; exact rfl; exact rfl; exact bin_add64 (by omega); exact rfl; refine wl_mv rfl rfl ?_; refine wl_nil ?_
          refine we_loop [(5, .slice A t.length c), (6, .slice B (t.length + 1) (t.length + 1)), (8, .int .i32 (ch : Int)), (9, .slice C (t.length + 1) (t.length + 1)), (21, .pointer (some ⟨k, 0, none⟩)), (29, .int .i64 ((t.length + 1 : Nat) : Int)), (30, .int .i64 ((i + 1 : Nat) : Int))] (t.length + 1 - (i + 1)) ⟨i + 1, rfl, by omega, i10, by rw [hpr]; exact o10, by rw [hf]; exact n10, hb10, rfl⟩ (by omega) ⟨rfl, rfl, rfl, rfl, rfl, rfl, by simp [lookT], trivial⟩
        · rw [Bool.not_eq_true] at hA
          rw [hA] at xa
          by_cases h0 : i = 0
          · subst h0
            refine wc_region ?_; refine wl_mv rfl rfl ?_; refine wl_mv rfl rfl ?_; refine wl_mv rfl rfl ?_; refine wl_mv rfl rfl ?_; apply wl_elK (T := tyT) (hr := ra) (hb := xa); exact rfl; exact rfl; exact rfl; exact rfl; exact rfl; intro _; refine wl_mv rfl rfl ?_; apply wl_take; exact rfl; exact rfl; exact rfl; exact rfl; refine wl_mv rfl rfl ?_; apply wl_take; exact rfl; exact rfl; exact rfl; exact rfl; refine wl_bin rfl rfl bin_gtr rfl ?_; apply wl_take; exact rfl; exact rfl; exact rfl; exact rfl; refine wl_mv rfl rfl ?_; apply wl_skip; exact rfl; exact rfl; exact rfl; refine bFn ?_; omega; exact rfl; apply wl_skip; exact rfl; exact rfl; exact rfl; refine bFn ?_; omega; exact rfl; apply wl_skip; exact rfl; exact rfl; exact rfl; refine bFn ?_; omega; exact rfl; apply wl_skip; exact rfl; exact rfl; exact rfl; refine bFn ?_; omega; exact rfl; apply wl_skip; exact rfl; exact rfl; exact rfl; refine bFn ?_; omega; exact rfl; apply wl_take; exact rfl; exact rfl; exact rfl; exact rfl; apply wl_val; apply opv_pickF; exact rfl; refine bF ?_; omega; exact rfl; exact rfl; apply wl_val; apply opv_pickF; exact rfl; exact rfl; exact rfl; exact rfl
            refine wl_set (kk := 0) (u := bo false) tyT rfl rfl n9 rfl hin (fun _ => rfl) rfl rfl fun _ w10 n10 g10 _ => ?_
            have i10 := i9.gr g10 n9
            have o10 := Ow.gr (base' := 0) (e' := 0) o9 g10 hbc
            have hb10 := g10.below hb9 n9 (Nat.le_refl _) hb9.size
            rw [rowB_set (f := f) (v := false) hin (by rw [← hf, colS_zero, hpr, hA]; rfl)] at n10
            refine wl_nil ?_; refine we_block_norm ?_; refine we_seq ?_; refine wc_region ?_; apply wl_val; apply opv_bin; exact rfl; exact rfl; exact bin_add64 (by omega); exact rfl; refine wl_mv rfl rfl ?_; refine wl_nil ?_
            refine we_loop [(5, .slice A t.length c), (6, .slice B (t.length + 1) (t.length + 1)), (8, .int .i32 (ch : Int)), (9, .slice C (t.length + 1) (t.length + 1)), (21, .pointer (some ⟨k, 0, none⟩)), (29, .int .i64 ((t.length + 1 : Nat) : Int)), (30, .int .i64 ((0 + 1 : Nat) : Int))] (t.length + 1 - (0 + 1)) ⟨0 + 1, rfl, by omega, i10, by rw [hpr]; exact o10, by rw [hf]; exact n10, hb10, rfl⟩ (by omega) ⟨rfl, rfl, rfl, rfl, rfl, rfl, by simp [lookT], trivial⟩
          · obtain ⟨i, rfl⟩ : ∃ i', i = i' + 1 := ⟨i - 1, by omega⟩
            have xn : (rowB f (i + 1) (t.length + 1))[i]? = some (bo (f i)) := rowB_get (by omega)
            refine wc_region ?_; refine wl_mv rfl rfl ?_; refine wl_mv rfl rfl ?_; refine wl_mv rfl rfl ?_; refine wl_mv rfl rfl ?_; apply wl_elK (T := tyT) (hr := ra) (hb := xa); exact rfl; exact rfl; exact rfl; exact rfl; exact rfl; intro _; refine wl_mv rfl rfl ?_; apply wl_take; exact rfl; exact rfl; exact rfl; exact rfl; refine wl_mv rfl rfl ?_; apply wl_take; exact rfl; exact rfl; exact rfl; exact rfl; refine wl_bin rfl rfl bin_gtr rfl ?_; apply wl_take; exact rfl; exact rfl; exact rfl; exact rfl; refine wl_mv rfl rfl ?_; apply wl_take; exact rfl; exact rfl; exact rfl; refine bT ?_; omega; refine wl_mv rfl rfl ?_; apply wl_take; exact rfl; exact rfl; exact rfl; refine bT ?_; omega; refine wl_mv rfl rfl ?_; apply wl_take; exact rfl; exact rfl; exact rfl; refine bT ?_; omega; apply wl_val; apply opv_bin; exact rfl; exact rfl; exact bin_sub64 (by omega); exact rfl; apply wl_elTK (T := tyT) (hr := rn) (hb := xn); exact rfl; exact rfl; exact rfl; refine bT ?_; omega; exact rfl; exact rfl; exact rfl; exact rfl; refine bT ?_; omega; exact rfl; exact rfl; omega; exact rfl; exact rfl; intro _; apply wl_take; exact rfl; exact rfl; exact rfl; exact rfl; apply wl_val; apply opv_pickT; exact rfl; refine bT ?_; omega; exact rfl; exact rfl; apply wl_val; apply opv_pickF; exact rfl; exact rfl; exact rfl; exact rfl
            refine wl_set (kk := i + 1) (u := bo (f i)) tyT rfl rfl n9 rfl hin (fun _ => rfl) rfl rfl fun _ w10 n10 g10 _ => ?_
            have i10 := i9.gr g10 n9
            have o10 := Ow.gr (base' := 0) (e' := 0) o9 g10 hbc
            have hb10 := g10.below hb9 n9 (Nat.le_refl _) hb9.size
            rw [rowB_set (f := f) (v := f i) hin (by rw [← hf, colS_any h37, hpr, hA]; rfl)] at n10
            refine wl_nil ?_; refine we_block_norm ?_; refine we_seq ?_; refine wc_region ?_; apply wl_val; apply opv_bin; exact rfl; exact rfl; exact bin_add64 (by omega); exact rfl; refine wl_mv rfl rfl ?_; refine wl_nil ?_
            refine we_loop [(5, .slice A t.length c), (6, .slice B (t.length + 1) (t.length + 1)), (8, .int .i32 (ch : Int)), (9, .slice C (t.length + 1) (t.length + 1)), (21, .pointer (some ⟨k, 0, none⟩)), (29, .int .i64 ((t.length + 1 : Nat) : Int)), (30, .int .i64 ((i + 1 + 1 : Nat) : Int))] (t.length + 1 - (i + 1 + 1)) ⟨i + 1 + 1, rfl, by omega, i10, by rw [hpr]; exact o10, by rw [hf]; exact n10, hb10, rfl⟩ (by omega) ⟨rfl, rfl, rfl, rfl, rfl, rfl, by simp [lookT], trivial⟩
      · have h37 : ¬ ch = 37 := by omega
        refine wc_sr ?_; refine wl_mv rfl rfl ?_; refine wl_bin rfl rfl bin_gtr rfl ?_; refine wl_ns ?_
        refine wc_cond rfl (fun h3 => ?_) (fun h3 => ?_)
        · obtain ⟨i, rfl⟩ : ∃ i', i = i' + 1 := ⟨i - 1, by omega⟩
          have xa' : (rowB pr (t.length + 1) (t.length + 1))[i]? = some (bo (pr i)) := rowB_get (by omega)
          have xn : (rowB f (i + 1) (t.length + 1))[i + 1]? = some (bo false) := rowB_rest (by omega) hin
          have xt := rns_get (show i < t.length by omega)
          have hgr := Gr.of_below C ((Below.refl w9.heap.size w9).drew) (Nat.le_refl _)
          have hfi := colS_one (prev := pr) (i := i) (t := t) h37
          rw [← hpr, hf, hpr] at hfi
          have hS : Rd w9.drew B (t.length + 1) (rowB pr (t.length + 1) (t.length + 1)) ∧ Rd w9.drew A t.length (rns t) := ⟨ra, rt⟩
          skip
          refine wc_held (fun w' => Rd w' B (t.length + 1) (rowB pr (t.length + 1) (t.length + 1)) ∧ Rd w' A t.length (rns t)) mixed ?_
          by_cases hA : pr i = true
          · rw [hA] at xa'
            by_cases h95 : ch = 95
            · apply wh_takeH 0; exact rfl; intro _ hw_; apply opv_move; exact rfl; exact rfl; kernel_rfl; exact hS; apply wh_takeH 1; exact rfl; intro _ hw_; apply opv_move; exact rfl; exact rfl; kernel_rfl; exact hS; apply wh_takeH 2; exact rfl; intro _ hw_; apply opv_move; exact rfl; exact rfl; kernel_rfl; exact hS; apply wh_takeH 3; exact rfl; intro _ hw_; apply opv_move; exact rfl; exact rfl; kernel_rfl; exact hS; apply wh_takeH 4; exact rfl; intro _ hw_; apply opv_bin; exact rfl; exact rfl; exact bin_sub64 (by omega); exact rfl; kernel_rfl; exact hS; apply wh_takeH 5; exact rfl; intro _ hw_; apply opv_idxR (T := tyT) (hr := ra) (hu := xa'); exact rfl; exact rfl; omega; exact rfl; kernel_rfl; exact hS; apply wh_takeH 6; exact rfl; intro _ hw_; refine opv_loadR tyT rfl (hw_.1) xa'; exact rfl; kernel_rfl; exact hS; apply wh_takeH 7; exact rfl; intro _ hw_; apply opv_move; exact rfl; exact rfl; kernel_rfl; exact hS; apply wh_takeGH 8; exact rfl; exact rfl; exact rfl; exact rfl; exact rfl; intro _ hw_; apply opv_move; exact rfl; exact rfl; kernel_rfl; exact hS; apply wh_takeGH 9; exact rfl; exact rfl; exact rfl; exact rfl; exact rfl; intro _ hw_; apply opv_bin; exact rfl; exact rfl; exact bin_eql; exact rfl; kernel_rfl; exact hS; apply wh_takeGH 10; exact rfl; exact rfl; exact rfl; exact rfl; exact rfl; intro _ hw_; apply opv_move; exact rfl; exact rfl; kernel_rfl; exact hS; apply wh_skipGH 11; exact rfl; exact rfl; exact rfl; exact rfl; refine bTn ?_; omega; exact rfl; kernel_rfl; exact hS; apply wh_skipGH 12; exact rfl; exact rfl; exact rfl; exact rfl; refine bTn ?_; omega; exact rfl; kernel_rfl; exact hS; apply wh_skipGH 13; exact rfl; exact rfl; exact rfl; exact rfl; refine bTn ?_; omega; exact rfl; kernel_rfl; exact hS; apply wh_skipGH 14; exact rfl; exact rfl; exact rfl; exact rfl; refine bTn ?_; omega; exact rfl; kernel_rfl; exact hS; apply wh_skipGH 15; exact rfl; exact rfl; exact rfl; exact rfl; refine bTn ?_; omega; exact rfl; kernel_rfl; exact hS; apply wh_skipGH 16; exact rfl; exact rfl; exact rfl; exact rfl; refine bTn ?_; omega; exact rfl; kernel_rfl; exact hS; apply wh_skipGH 17; exact rfl; exact rfl; exact rfl; exact rfl; refine bTn ?_; omega; exact rfl; kernel_rfl; exact hS; apply wh_skipGH 18; exact rfl; exact rfl; exact rfl; exact rfl; refine bTn ?_; omega; exact rfl; kernel_rfl; exact hS; apply wh_takeGH 19; exact rfl; exact rfl; exact rfl; exact rfl; exact rfl; intro _ hw_; apply opv_pickT; exact rfl; refine bT ?_; omega; exact rfl; exact rfl; kernel_rfl; exact hS; apply wh_takeH 20; exact rfl; intro _ hw_; apply opv_pickT; exact rfl; exact rfl; exact rfl; exact rfl; kernel_rfl; exact hS; apply wh_takeH 21; exact rfl; intro _ hw_; apply opv_idxR (T := tyT) (hr := rn) (hu := xn); exact rfl; exact rfl; exact rfl; exact rfl; kernel_rfl; exact hS
              refine wh_one 22 (o := ⟨_, _, _, _, _, _⟩) (by kernel_rfl) rfl ?_
              refine wl_stO (w := w9.drew) (kk := i + 1) (u := bo true) tyT n9 hin rfl rfl rfl fun w10 n10 g10' _ => ?_
              have g10 := hgr.trans g10'
              have i10 := i9.gr g10 n9
              have o10 := Ow.gr (base' := 0) (e' := 0) o9 g10 hbc
              have hb10 := g10.below hb9 n9 (Nat.le_refl _) hb9.size
              rw [rowB_set (f := f) (v := true) hin (by rw [hfi, hA, h95]; rfl)] at n10
              refine wl_nil ?_
              refine we_held ⟨o10.rd, r2.below hb10⟩ ?_
              refine wh_done (by kernel_rfl) ?_
              refine we_block_norm ?_; refine we_seq ?_; refine wc_region ?_; apply wl_val; apply opv_bin; exact rfl; exact rfl; exact bin_add64 (by omega); exact rfl; refine wl_mv rfl rfl ?_; refine wl_nil ?_
              refine we_loop [(5, .slice A t.length c), (6, .slice B (t.length + 1) (t.length + 1)), (8, .int .i32 (ch : Int)), (9, .slice C (t.length + 1) (t.length + 1)), (21, .pointer (some ⟨k, 0, none⟩)), (29, .int .i64 ((t.length + 1 : Nat) : Int)), (30, .int .i64 ((i + 1 + 1 : Nat) : Int))] (t.length + 1 - (i + 1 + 1)) ⟨i + 1 + 1, rfl, by omega, i10, by rw [hpr]; exact o10, by rw [hf]; exact n10, hb10, rfl⟩ (by omega) ⟨rfl, rfl, rfl, rfl, rfl, rfl, by simp [lookT], trivial⟩
            · apply wh_takeH 0; exact rfl; intro _ hw_; apply opv_move; exact rfl; exact rfl; kernel_rfl; exact hS; apply wh_takeH 1; exact rfl; intro _ hw_; apply opv_move; exact rfl; exact rfl; kernel_rfl; exact hS; apply wh_takeH 2; exact rfl; intro _ hw_; apply opv_move; exact rfl; exact rfl; kernel_rfl; exact hS; apply wh_takeH 3; exact rfl; intro _ hw_; apply opv_move; exact rfl; exact rfl; kernel_rfl; exact hS; apply wh_takeH 4; exact rfl; intro _ hw_; apply opv_bin; exact rfl; exact rfl; exact bin_sub64 (by omega); exact rfl; kernel_rfl; exact hS; apply wh_takeH 5; exact rfl; intro _ hw_; apply opv_idxR (T := tyT) (hr := ra) (hu := xa'); exact rfl; exact rfl; omega; exact rfl; kernel_rfl; exact hS; apply wh_takeH 6; exact rfl; intro _ hw_; refine opv_loadR tyT rfl (hw_.1) xa'; exact rfl; kernel_rfl; exact hS; apply wh_takeH 7; exact rfl; intro _ hw_; apply opv_move; exact rfl; exact rfl; kernel_rfl; exact hS; apply wh_takeGH 8; exact rfl; exact rfl; exact rfl; exact rfl; exact rfl; intro _ hw_; apply opv_move; exact rfl; exact rfl; kernel_rfl; exact hS; apply wh_takeGH 9; exact rfl; exact rfl; exact rfl; exact rfl; exact rfl; intro _ hw_; apply opv_bin; exact rfl; exact rfl; exact bin_eql; exact rfl; kernel_rfl; exact hS; apply wh_takeGH 10; exact rfl; exact rfl; exact rfl; exact rfl; exact rfl; intro _ hw_; apply opv_move; exact rfl; exact rfl; kernel_rfl; exact hS; apply wh_takeGH 11; exact rfl; exact rfl; exact rfl; exact rfl; refine bF ?_; omega; intro _ hw_; apply opv_move; exact rfl; exact rfl; kernel_rfl; exact hS; apply wh_takeGH 13; exact rfl; exact rfl; exact rfl; exact rfl; refine bF ?_; omega; intro _ hw_; apply opv_move; exact rfl; exact rfl; kernel_rfl; exact hS; apply wh_takeGH 14; exact rfl; exact rfl; exact rfl; exact rfl; refine bF ?_; omega; intro _ hw_; apply opv_move; exact rfl; exact rfl; kernel_rfl; exact hS; apply wh_takeGH 15; exact rfl; exact rfl; exact rfl; exact rfl; refine bF ?_; omega; intro _ hw_; apply opv_bin; exact rfl; exact rfl; exact bin_sub64 (by omega); exact rfl; kernel_rfl; exact hS; apply wh_takeGH 16; exact rfl; exact rfl; exact rfl; exact rfl; refine bF ?_; omega; intro _ hw_; apply opv_idxR (T := tyR) (hr := rt) (hu := xt); exact rfl; exact rfl; omega; exact rfl; kernel_rfl; exact hS; apply wh_takeGH 17; exact rfl; exact rfl; exact rfl; exact rfl; refine bF ?_; omega; intro _ hw_; refine opv_loadR tyR rfl (hw_.2) xt; exact rfl; kernel_rfl; exact hS
              refine wh_one 12 (o := ⟨_, _, _, _, _, _⟩) (by kernel_rfl) rfl ?_
              apply wl_take; exact rfl; exact rfl; exact rfl; refine bF ?_; omega; apply wl_callX (vs := [_]) ok_text_low; exact ⟨rfl, trivial⟩; exact rfl; exact low_any _ (by assumption) _; rintro _ _ ⟨rfl, rfl⟩; refine wl_nil ?_
              refine we_held hS ?_
              apply wh_takeGH 18; exact rfl; exact rfl; exact rfl; exact rfl; refine bF ?_; omega; intro _ hw_; apply opv_bin; exact rfl; exact rfl; exact bin_eql; exact rfl; kernel_rfl; exact hS; apply wh_takeGH 19; exact rfl; exact rfl; exact rfl; exact rfl; exact rfl; intro _ hw_; apply opv_pickF; exact rfl; refine bF ?_; omega; exact rfl; exact rfl; kernel_rfl; exact hS; apply wh_takeH 20; exact rfl; intro _ hw_; apply opv_pickT; exact rfl; exact rfl; exact rfl; exact rfl; kernel_rfl; exact hS; apply wh_takeH 21; exact rfl; intro _ hw_; apply opv_idxR (T := tyT) (hr := rn) (hu := xn); exact rfl; exact rfl; exact rfl; exact rfl; kernel_rfl; exact hS
              refine wh_one 22 (o := ⟨_, _, _, _, _, _⟩) (by kernel_rfl) rfl ?_
              refine wl_stO (w := w9.drew) (kk := i + 1) (u := bo (decide ((lowN ch : Int) = (t.getD i 0 : Int)))) tyT n9 hin rfl rfl rfl fun w10 n10 g10' _ => ?_
              have g10 := hgr.trans g10'
              have i10 := i9.gr g10 n9
              have o10 := Ow.gr (base' := 0) (e' := 0) o9 g10 hbc
              have hb10 := g10.below hb9 n9 (Nat.le_refl _) hb9.size
              rw [rowB_set (f := f) (v := decide ((lowN ch : Int) = (t.getD i 0 : Int))) hin (by rw [hfi, hA, decide_eq_false h95, Bool.true_and, Bool.false_or, Bool.eq_iff_iff]; simp only [decide_eq_true_eq]; omega)] at n10
              refine wl_nil ?_
              refine we_held ⟨o10.rd, r2.below hb10⟩ ?_
              refine wh_done (by kernel_rfl) ?_
              refine we_block_norm ?_; refine we_seq ?_; refine wc_region ?_; apply wl_val; apply opv_bin; exact rfl; exact rfl; exact bin_add64 (by omega); exact rfl; refine wl_mv rfl rfl ?_; refine wl_nil ?_
              refine we_loop [(5, .slice A t.length c), (6, .slice B (t.length + 1) (t.length + 1)), (8, .int .i32 (ch : Int)), (9, .slice C (t.length + 1) (t.length + 1)), (21, .pointer (some ⟨k, 0, none⟩)), (29, .int .i64 ((t.length + 1 : Nat) : Int)), (30, .int .i64 ((i + 1 + 1 : Nat) : Int))] (t.length + 1 - (i + 1 + 1)) ⟨i + 1 + 1, rfl, by omega, i10, by rw [hpr]; exact o10, by rw [hf]; exact n10, hb10, rfl⟩ (by omega) ⟨rfl, rfl, rfl, rfl, rfl, rfl, by simp [lookT], trivial⟩
          · rw [Bool.not_eq_true] at hA
            rw [hA] at xa'
            apply wh_takeH 0; exact rfl; intro _ hw_; apply opv_move; exact rfl; exact rfl; kernel_rfl; exact hS; apply wh_takeH 1; exact rfl; intro _ hw_; apply opv_move; exact rfl; exact rfl; kernel_rfl; exact hS; apply wh_takeH 2; exact rfl; intro _ hw_; apply opv_move; exact rfl; exact rfl; kernel_rfl; exact hS; apply wh_takeH 3; exact rfl; intro _ hw_; apply opv_move; exact rfl; exact rfl; kernel_rfl; exact hS; apply wh_takeH 4; exact rfl; intro _ hw_; apply opv_bin; exact rfl; exact rfl; exact bin_sub64 (by omega); exact rfl; kernel_rfl; exact hS; apply wh_takeH 5; exact rfl; intro _ hw_; apply opv_idxR (T := tyT) (hr := ra) (hu := xa'); exact rfl; exact rfl; omega; exact rfl; kernel_rfl; exact hS; apply wh_takeH 6; exact rfl; intro _ hw_; refine opv_loadR tyT rfl (hw_.1) xa'; exact rfl; kernel_rfl; exact hS; apply wh_takeH 7; exact rfl; intro _ hw_; apply opv_move; exact rfl; exact rfl; kernel_rfl; exact hS; apply wh_skipGH 8; exact rfl; exact rfl; exact rfl; exact rfl; exact bR2; exact rfl; kernel_rfl; exact hS; apply wh_skipGH 9; exact rfl; exact rfl; exact rfl; exact rfl; exact bR2; exact rfl; kernel_rfl; exact hS; apply wh_skipGH 10; exact rfl; exact rfl; exact rfl; exact rfl; exact bR2; exact rfl; kernel_rfl; exact hS; apply wh_skipUH 11; exact rfl; exact rfl; exact rfl; exact rfl; exact rfl; kernel_rfl; exact hS; apply wh_skipUH 12; exact rfl; exact rfl; exact rfl; exact rfl; exact rfl; kernel_rfl; exact hS; apply wh_skipUH 13; exact rfl; exact rfl; exact rfl; exact rfl; exact rfl; kernel_rfl; exact hS; apply wh_skipUH 14; exact rfl; exact rfl; exact rfl; exact rfl; exact rfl; kernel_rfl; exact hS; apply wh_skipUH 15; exact rfl; exact rfl; exact rfl; exact rfl; exact rfl; kernel_rfl; exact hS; apply wh_skipUH 16; exact rfl; exact rfl; exact rfl; exact rfl; exact rfl; kernel_rfl; exact hS; apply wh_skipUH 17; exact rfl; exact rfl; exact rfl; exact rfl; exact rfl; kernel_rfl; exact hS; apply wh_skipUH 18; exact rfl; exact rfl; exact rfl; exact rfl; exact rfl; kernel_rfl; exact hS; apply wh_skipGH 19; exact rfl; exact rfl; exact rfl; exact rfl; exact bR2; exact rfl; kernel_rfl; exact hS; apply wh_takeH 20; exact rfl; intro _ hw_; apply opv_pickF; exact rfl; exact rfl; exact rfl; exact rfl; kernel_rfl; exact hS; apply wh_takeH 21; exact rfl; intro _ hw_; apply opv_idxR (T := tyT) (hr := rn) (hu := xn); exact rfl; exact rfl; exact rfl; exact rfl; kernel_rfl; exact hS
            refine wh_one 22 (o := ⟨_, _, _, _, _, _⟩) (by kernel_rfl) rfl ?_
            refine wl_stO (w := w9.drew) (kk := i + 1) (u := bo false) tyT n9 hin rfl rfl rfl fun w10 n10 g10' _ => ?_
            have g10 := hgr.trans g10'
            have i10 := i9.gr g10 n9
            have o10 := Ow.gr (base' := 0) (e' := 0) o9 g10 hbc
            have hb10 := g10.below hb9 n9 (Nat.le_refl _) hb9.size
            rw [rowB_set (f := f) (v := false) hin (by rw [hfi, hA]; rfl)] at n10
            refine wl_nil ?_
            refine we_held ⟨o10.rd, r2.below hb10⟩ ?_
            refine wh_done (by kernel_rfl) ?_
            refine we_block_norm ?_; refine we_seq ?_; refine wc_region ?_; apply wl_val; apply opv_bin; exact rfl; exact rfl; exact bin_add64 (by omega); exact rfl; refine wl_mv rfl rfl ?_; refine wl_nil ?_
            refine we_loop [(5, .slice A t.length c), (6, .slice B (t.length + 1) (t.length + 1)), (8, .int .i32 (ch : Int)), (9, .slice C (t.length + 1) (t.length + 1)), (21, .pointer (some ⟨k, 0, none⟩)), (29, .int .i64 ((t.length + 1 : Nat) : Int)), (30, .int .i64 ((i + 1 + 1 : Nat) : Int))] (t.length + 1 - (i + 1 + 1)) ⟨i + 1 + 1, rfl, by omega, i10, by rw [hpr]; exact o10, by rw [hf]; exact n10, hb10, rfl⟩ (by omega) ⟨rfl, rfl, rfl, rfl, rfl, rfl, by simp [lookT], trivial⟩
        · obtain rfl : i = 0 := by omega
          rw [rowB_skip (by omega) (by rw [← hf, colS_zero, decide_eq_false h37, Bool.and_false])] at n9
          refine wc_skip ?_; refine we_block_norm ?_; refine we_seq ?_; refine wc_region ?_; apply wl_val; apply opv_bin; exact rfl; exact rfl; exact bin_add64 (by omega); exact rfl; refine wl_mv rfl rfl ?_; refine wl_nil ?_
          refine we_loop [(5, .slice A t.length c), (6, .slice B (t.length + 1) (t.length + 1)), (8, .int .i32 (ch : Int)), (9, .slice C (t.length + 1) (t.length + 1)), (21, .pointer (some ⟨k, 0, none⟩)), (29, .int .i64 ((t.length + 1 : Nat) : Int)), (30, .int .i64 ((0 + 1 : Nat) : Int))] (t.length + 1 - (0 + 1)) ⟨0 + 1, rfl, by omega, i9, by rw [hpr]; exact o9, by rw [hf]; exact n9, hb9, rfl⟩ (by omega) ⟨rfl, rfl, rfl, rfl, rfl, rfl, by simp [lookT], trivial⟩
    · obtain rfl : i = t.length + 1 := by omega
      have e9 : mm t (rs pat) (done ++ [ch]).length = colS (mm t (rs pat) done.length) ch t := by
        rw [List.length_append]; show colS _ ((rs pat).getD done.length 0) t = _; rw [hcp]
      rw [← e9] at n9
      refine wc_exit ?_; refine we_seq_exit ?_; refine we_loop_exit ?_; refine we_block_exit ?_; refine we_seq ?_; refine wc_region ?_; refine wl_mv rfl rfl ?_; refine wl_as rfl rfl ?_; refine wl_nil ?_; refine we_block_norm ?_
      refine we_loop [(5, .slice A t.length c), (6, .slice C (t.length + 1) (t.length + 1)), (21, .pointer (some ⟨k, 0, none⟩))] (pat.length - (q + (dec (pat.drop q)).2)) ⟨_, done ++ [ch], C, rfl, i9, n9, hb9, hd.2.1, by rw [List.append_assoc]; exact he, rfl⟩ (by omega) ⟨rfl, rfl, rfl, trivial⟩
  · refine wl_nextE rfl i6 hlt rfl ?_
    rw [rs_end hlt, List.append_nil] at he
    subst he
    apply wl_val; apply opv_extract; exact rfl; exact rfl; exact rfl; refine wl_ns ?_; refine wc_seq ?_; apply wc_condFb; exact rfl; exact rfl; refine wc_exit ?_; refine we_seq_exit ?_; refine we_loop_exit ?_; refine we_block_exit ?_; refine we_seq ?_; refine wc_sr ?_; refine wl_mv rfl rfl ?_; refine wl_mv rfl rfl ?_; apply wl_val; apply opv_len; exact rfl; exact tyR.sl; exact rfl
    have xe : (rowB (mm t (rs pat) (rs pat).length) (t.length + 1) (t.length + 1))[t.length]? = some (bo (likeN t (rs pat))) := rowB_get (by omega)
    have r6 := o6.rd
    apply wl_elK (T := tyT) (hr := r6) (hb := xe); exact rfl; exact rfl; exact rfl; exact rfl; exact rfl; intro _; refine wl_as rfl rfl ?_; refine wl_ns ?_; refine wc_ret ?_
    exact we_ret1 rfl rfl ⟨_, rfl, rfl, hb.trans (hb6.mono hb.size)⟩
end Go.Proofs.Ytcjiecclmepboaa
