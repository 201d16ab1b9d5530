/-
  The texts of this proof, joined: Sn, Args, Op, So, Sp, Pk, Pl, Sq, Ss, Su, Sv, Ef, Eg.
-/
import Derived.Test.YtcjiecclmepboaaTotM4
import Derived.Test.YtcjiecclmepboaaTotM2
import Derived.Test.YtcjiecclmepboaaTotM1
import Derived.ProofKit
import Derived.OpenShut
import Derived.JoinedCond
import Derived.SizedLaws
import Derived.Deep.Matrix
import Derived.Carry
import Derived.Test.YtcjiecclmepboaaTotM3
import Derived.Deep.Slices
import Derived.ChangeMaps5

/-
  Walks over the fixed fact of the laws of cells, and over CellValues.
-/
namespace Go.Proofs.Ytcjiecclmepboaa
open Go.RowKit

theorem keys_seven : keysB [.int 7] = [2, 128, 0, 0, 0, 0, 0, 0, 7] := by decide +kernel
theorem vaOk_int {n : Int} (h : -9223372036854775808 ≤ n ∧ n ≤ 9223372036854775807) : VaOk (.int n) := ⟨h, by simp [vaC], by simp [vaC]⟩
set_option maxHeartbeats 1000000 in
theorem awake6_any (w : World) : CallsV Try.prog 32 #[] w (RetTr w) := by
  have hb := Below.refl w.heap.size w
  refine calls_in (N := _) Try.func32 rfl Try.ntmps32 rfl ?_; show WC _ _ _ _ _ _
  refine wc_sr ?_; refine wl_as rfl rfl ?_; refine wl_ns ?_; refine wc_sr ?_
  refine wl_val (opv_build (vs := [(0, .int .i64 2), (2, .int .i64 7)]) (cs := ceV ⟨2, false, 7, [], []⟩ none 0) ⟨rfl, rfl, rfl, rfl, trivial⟩ (by kernel_rfl)) rfl ?_
  refine wl_call ok_cell_Of (ofC_any (x := ⟨2, false, 7, [], []⟩) (A := none) (c := 0) (Rd.nil _ _) (by decide)) ⟨rfl, trivial⟩ rfl ?_; rintro _ _ (⟨_, B, d, rfl, o1, hbx⟩ | ⟨hgood, _⟩); replace hb := hb.trans (hbx.mono hb.size); clear hbx
  case inr => exact absurd hgood (by decide)
  have e1 : vaV (ceVa ⟨2, false, 7, [], []⟩) B d = vaV (.int 7) B d := rfl
  rw [e1]
  refine wl_mv rfl rfl ?_; apply wl_val; apply opv_extract; exact rfl; exact rfl; exact rfl; apply wl_val; apply opv_extract; exact rfl; exact rfl; exact rfl; refine wl_as rfl rfl ?_; refine wl_as rfl rfl ?_; refine wl_ns ?_; refine wc_sr ?_; refine wl_mv rfl rfl ?_
  refine wl_call ok_cell_IntOf (CallsV.mono (R' := fun v w' => v = .tuple #[.int .i64 7, .bool true] ∧ _ = w') (intOf_any (u := .int 7)) fun _ _ h => h) ⟨rfl, trivial⟩ rfl ?_
  rintro _ _ ⟨rfl, rfl⟩
  refine wl_mv rfl rfl ?_; apply wl_val; apply opv_extract; exact rfl; exact rfl; exact rfl; apply wl_val; apply opv_extract; exact rfl; exact rfl; exact rfl; refine wl_as rfl rfl ?_; refine wl_as rfl rfl ?_; refine wl_ns ?_; refine wc_sr ?_; refine wl_mv rfl rfl ?_
  refine wl_bsG (css := [[vaV (.int 7) B d]]) (S := All) (els := [vaEl (.int 7)]) tkA ⟨rfl, ⟨_, rfl, rfl⟩, rfl, trivial⟩ rfl (by decide) (by decide) (Grp.one ⟨B, d, rfl, byEl.own o1 fun _ _ _ _ => trivial⟩ rfl) rfl fun A w2 g1 hbx _ => ?_
  replace hb := hb.trans (hbx.mono hb.size)
  clear hbx
  refine wl_call ok_cell_Key (cellKey_any (us := [.int 7]) (OwR.rd g1) rfl (fun u hu => by simp at hu; subst hu; exact vaOk_int (by decide)) (by rw [keys_seven]; decide) (by decide)) ⟨rfl, trivial⟩ rfl ?_; rintro _ _ ⟨E, e, rfl, o2, hbx⟩; replace hb := hb.trans (hbx.mono hb.size); clear hbx
  rw [keys_seven] at o2 ⊢
  have r2 := OwB.rd o2
  have hx : ([2, 128, 0, 0, 0, 0, 0, 0, 7] : List UInt8)[0]? = some 2 := rfl
  refine wl_mv rfl rfl ?_; apply wl_val; apply opv_extract; exact rfl; exact rfl; exact rfl; apply wl_val; apply opv_extract; exact rfl; exact rfl; exact rfl; refine wl_as rfl rfl ?_; refine wl_as rfl rfl ?_; refine wl_ns ?_; refine wc_sr ?_; refine wl_mv rfl rfl ?_; refine wl_bin rfl rfl bin_eql rfl ?_; refine wl_mv rfl rfl ?_; apply wl_take; exact rfl; exact rfl; exact rfl; refine bT ?_; (with_reducible rfl); refine wl_mv rfl rfl ?_; apply wl_val; apply opv_pickT; exact rfl; refine bT ?_; (with_reducible rfl); exact rfl; exact rfl; refine wl_mv rfl rfl ?_; apply wl_take; exact rfl; exact rfl; exact rfl; exact rfl; refine wl_mv rfl rfl ?_; apply wl_take; exact rfl; exact rfl; exact rfl; exact rfl; refine wl_bin rfl rfl bin_eql rfl ?_; apply wl_val; apply opv_pickT; exact rfl; exact rfl; exact rfl; exact rfl; refine wl_mv rfl rfl ?_; apply wl_take; exact rfl; exact rfl; exact rfl; refine bT ?_; (with_reducible rfl); refine wl_mv rfl rfl ?_; apply wl_take; exact rfl; exact rfl; exact rfl; refine bT ?_; (with_reducible rfl); refine wl_bin rfl rfl bin_eql rfl ?_; apply wl_val; apply opv_pickT; exact rfl; refine bT ?_; (with_reducible rfl); exact rfl; exact rfl; refine wl_mv rfl rfl ?_; apply wl_take; exact rfl; exact rfl; exact rfl; refine bT ?_; (with_reducible rfl); refine wl_mv rfl rfl ?_; apply wl_take; exact rfl; exact rfl; exact rfl; refine bT ?_; (with_reducible rfl); apply wl_val; apply opv_len; exact rfl; exact tyB.sl; exact rfl; apply wl_take; exact rfl; exact rfl; exact rfl; refine bT ?_; (with_reducible rfl); refine wl_bin rfl rfl bin_eql rfl ?_; apply wl_val; apply opv_pickT; exact rfl; refine bT ?_; (with_reducible rfl); exact rfl; exact rfl; refine wl_mv rfl rfl ?_; apply wl_take; exact rfl; exact rfl; exact rfl; refine bT ?_; exact rfl; refine wl_mv rfl rfl ?_; apply wl_byTK (T := tyB) (hr := r2) (hb := hx); exact rfl; exact rfl; exact rfl; refine bT ?_; exact rfl; exact rfl; exact rfl; exact rfl; exact rfl; refine bT ?_; exact rfl; exact rfl; exact rfl; exact rfl; exact rfl; exact rfl; intro _; apply wl_take; exact rfl; exact rfl; exact rfl; refine bT ?_; exact rfl; refine wl_bin rfl rfl bin_eql rfl ?_; apply wl_val; apply opv_pickT; exact rfl; refine bT ?_; exact rfl; exact rfl; exact rfl; refine wl_as rfl rfl ?_; refine wl_ns ?_; refine wc_ret ?_
  exact we_ret1 rfl rfl ⟨_, rfl, rfl, hb⟩

end Go.Proofs.Ytcjiecclmepboaa

/-
  How the arguments of a law are read: bytes, and lists of bytes; what a bound on all that is read gives.
-/
namespace Go.Proofs.Ytcjiecclmepboaa
open Go.RowKit Go.ChangeShapes Go.WideShapes Go.ChangeAt

theorem own : ownKnob Try.prog.godebug = none := by kernel_rfl
theorem laidOut : laidOutB Try.prog = true := by kernel_rfl

theorem bulk_one {H : Type} (d : DataW H) : 1 ≤ Rows.uptoBulk d := by
  cases d with
  | lit l => cases l <;> simp [Rows.uptoBulk]
  | nil => simp [Rows.uptoBulk]
  | ptr d => simp [Rows.uptoBulk]
  | slice elems spare => simp [Rows.uptoBulk]
  | agg parts => simp [Rows.uptoBulk]
  | iface t d => simp [Rows.uptoBulk]
  | map entries => simp [Rows.uptoBulk]
  | held h => simp [Rows.uptoBulk]
theorem bulk_len {H : Type} (l : List (DataW H)) : l.length ≤ Rows.uptoBulkAll l := by
  induction l with
  | nil => simp [Rows.uptoBulkAll]
  | cons x r ih => have := bulk_one x; simp only [Rows.uptoBulkAll, List.length_cons]; omega

section
variable {H : Type} {enc : TypeId × Value → H} {W : World} {a0 : Option Addr} {len0 cap0 : Nat} {d0 : DataW H} {p0 : List MemPlace}

theorem bytes_of {w : World} {x : Addr} {zs : List Int} {n : Nat} (hn : n ≤ zs.length) (hcell : ∀ i, i < zs.length → w.cell? (x.add i) = some (.int .u8 (zs.getD i 0))) (hw : ∀ z ∈ zs, (Lit.int .u8 z).wf = true) :
    ∃ xs : List UInt8, xs.length = n ∧ RdB w (some x) xs := by
  refine ⟨(zs.take n).map fun z => UInt8.ofNat z.toNat, by simp; omega, by simp [bvs], fun h0 => ?_⟩
  have hpos : 0 < zs.length := by simp at h0; omega
  obtain ⟨b, o, spot⟩ := x
  have hc := hcell 0 hpos
  have hspot : spot = none := by simpa [Addr.add] using World.cell?_spot hc
  subst hspot
  refine ⟨b, o, rfl, World.block_lt_of_cell? w _ (by simpa [Addr.add] using hc), fun j u hu => ?_⟩
  simp only [bvs, List.map_map, List.getElem?_map, List.getElem?_take] at hu
  by_cases hj : j < n
  · rw [if_pos hj] at hu
    have hjz : j < zs.length := by omega
    rw [List.getElem?_eq_getElem hjz] at hu
    simp only [Option.map_some, Option.some.injEq, Function.comp_apply] at hu
    have h1 := hcell j hjz
    rw [Addr.add_lit] at h1
    rw [h1, ← hu]
    have hz := hw zs[j] (List.getElem_mem hjz)
    have hb : 0 ≤ zs[j] ∧ zs[j] ≤ 255 := by simpa [Lit.wf, IntKind.min, IntKind.max, IntKind.signed, IntKind.bits] using hz
    have e : zs.getD j 0 = zs[j] := by simp [List.getD, List.getElem?_eq_getElem hjz]
    have e2 : zs[j].toNat % 256 = zs[j].toNat := Nat.mod_eq_of_lt (by omega)
    rw [e]
    simp [bv, e2]
    omega
  · rw [if_neg hj] at hu; cases hu

theorem arg_bytes (h0 : DataW.Trod enc Try.prog W 0 (fun _ => true) true 30 (.slice a0 len0 cap0) d0 p0) :
    ∃ xs : List UInt8, xs.length = len0 ∧ RdB W a0 xs ∧ len0 ≤ cap0 ∧ cap0 ≤ maxLen ∧ len0 + 1 ≤ Rows.uptoBulk d0 ∧ ((d0 = .nil ∧ cap0 = 0) ∨ ∃ e s, d0 = .slice e s ∧ e.length + s.length = cap0) := by
  obtain ⟨fuel, hf⟩ := h0
  rcases open_ints Try.underlying30 Try.underlying5 (by kernel_rfl) hf with ⟨hcs, hx⟩ | ⟨x, l, c, zs, hcs, _, hl, hm, hz, hx, hcell, hwz⟩
  · simp [Value.cells] at hcs
    obtain ⟨rfl, rfl, rfl⟩ := hcs
    injection hx with hd _
    subst hd
    exact ⟨[], rfl, Rd.nil _ _, by omega, by simp [maxLen], by simp [Rows.uptoBulk], .inl ⟨rfl, rfl⟩⟩
  · simp [Value.cells] at hcs
    obtain ⟨rfl, rfl, rfl⟩ := hcs
    injection hx with hd _
    have hz' : zs.length = cap0 := by simpa using hz
    obtain ⟨xs, h1, h2⟩ := bytes_of (n := len0) (by omega) hcell hwz
    have h3 := bulk_len (H := H) (lits .u8 (zs.take len0))
    refine ⟨xs, h1, h2, hl, hm, ?_, .inr ⟨_, _, hd, by simp [lits]; omega⟩⟩
    rw [hd]
    simp only [Rows.uptoBulk]
    simp [lits] at h3 ⊢
    omega
end
end Go.Proofs.Ytcjiecclmepboaa

/-
  How arguments of any type are read: a reading of a type as data, for numbers, texts, bytes, slices of what can be read; structs are opened field by field.
-/
namespace Go.Proofs.Ytcjiecclmepboaa
open Go.RowKit Go.ChangeShapes Go.WideShapes Go.ChangeAt Go.Deep

/-- A cell that holds a row of elements. -/
def rowEl (k : Nat) (els : List El) : El where
  P w S cs := ∃ (A : Option Addr) (c : Nat), cs = [.slice A els.length c] ∧ els.length ≤ c ∧ RdR k w S A els ∧ 0 < k
  move := by rintro w w' S S' cs ⟨A, c, h, hc, hb, hk⟩ hz hm; exact ⟨A, c, h, hc, RdR.move hk hb hz hm, hk⟩
theorem rowEl.rd {k : Nat} {els : List El} {w : World} {S : Nat → Prop} {A : Option Addr} {n c : Nat} (h : (rowEl k els).P w S [.slice A n c]) : els.length = n ∧ n ≤ c ∧ RdR k w S A els := by
  obtain ⟨A', c', h1, h2, h3, _⟩ := h
  simp only [List.cons.injEq, Value.slice.injEq, and_true] at h1
  obtain ⟨rfl, rfl, rfl⟩ := h1
  exact ⟨rfl, h2, h3⟩
theorem rowEl.mk {k : Nat} {els : List El} {w : World} {S : Nat → Prop} {A : Option Addr} {c : Nat} (h : RdR k w S A els) (hc : els.length ≤ c) (hk : 0 < k) : (rowEl k els).P w S [.slice A els.length c] := ⟨A, c, rfl, hc, h, hk⟩

/-- What stands at type t is read as some a, in k cells; its bulk; what is known of a. -/
def Opens (P : Program) (t : TypeId) {α : Type} (R : α → El) (k : Nat) (bulk : α → Nat) (ok : α → Prop) : Prop :=
  ∀ {H : Type} (enc : TypeId × Value → H) (W : World) (fuel : Nat) (cs : List Value) (x : DataW H × List MemPlace), DataW.trod enc P W 0 (fun _ => true) true fuel t cs = some x →
    ∃ a, (R a).P W All cs ∧ cs.length = k ∧ ok a ∧ bulk a + 1 ≤ Rows.uptoBulk x.1
section
variable {P : Program} {t e : TypeId} {α : Type} {R : α → El} {k : Nat} {bulk : α → Nat} {ok : α → Prop}
theorem opens_int {ik : IntKind} (ht : P.underlying t = some (.int ik)) : Opens P t (fun n : Int => vEl (.int ik n)) 1 (fun _ => 0) (fun n => (Lit.int ik n).wf = true) := fun enc W fuel cs x h => by
  obtain ⟨n, rfl, rfl, hw⟩ := DataW.trod_int ht h
  exact ⟨n, rfl, rfl, hw, by simp [Rows.uptoBulk]⟩
theorem opens_bool (ht : P.underlying t = some .bool) : Opens P t (fun b : Bool => vEl (.bool b)) 1 (fun _ => 0) (fun _ => True) := fun enc W fuel cs x h => by
  obtain ⟨n, rfl, rfl⟩ := DataW.trod_bool ht h
  exact ⟨n, rfl, rfl, trivial, by simp [Rows.uptoBulk]⟩
theorem opens_str (ht : P.underlying t = some .string) : Opens P t (fun s : List UInt8 => vEl (str s)) 1 (fun s => s.length) (fun _ => True) := fun enc W fuel cs x h => by
  obtain ⟨s, rfl, rfl, _⟩ := DataW.trod_string ht h
  obtain ⟨l, rfl⟩ := str_of s
  exact ⟨l, rfl, rfl, trivial, by simp [Rows.uptoBulk]⟩
def sumB (bulk : α → Nat) (l : List α) : Nat := (l.map fun a => bulk a + 1).sum
theorem sumB_cons (a : α) (l : List α) : sumB bulk (a :: l) = bulk a + 1 + sumB bulk l := by simp [sumB]
theorem sumB_mem {l : List α} {a : α} (h : a ∈ l) : bulk a + 1 ≤ sumB bulk l := by
  induction l with
  | nil => cases h
  | cons x l ih =>
    rw [sumB_cons]
    rcases List.mem_cons.1 h with rfl | h
    · omega
    · have := ih h; omega
theorem sumB_len (l : List α) : l.length ≤ sumB bulk l := by
  induction l with
  | nil => simp
  | cons x l ih => rw [sumB_cons]; simp only [List.length_cons]; omega
theorem opens_slice {z : Value} {bytes : Nat} (T : RowK P t e k z bytes) (hC : P.cellsOf e = k) (he : Opens P e R k bulk ok) :
    Opens P t (fun l : List α => rowEl k (l.map R)) 1 (sumB bulk) (fun l => (∀ a ∈ l, ok a)) := fun {H} enc W fuel cs x h => by
  rcases open_slice T.sl h with ⟨rfl, rfl⟩ | ⟨a, len, cap, m, n, D, Pl, rfl, hb, hl, hm, hmm, rfl, hi⟩
  · exact ⟨[], ⟨none, 0, rfl, by simp, RdR.nil _, T.pos⟩, rfl, by simp, by simp [sumB, Rows.uptoBulk]⟩
  · have hmc : m = cap := by simpa using hmm
    subst hmc
    rw [hC] at hi
    have each : ∀ i, i < m → ∃ (v : α) (cs' : List Value), (R v).P W All cs' ∧ cs'.length = k ∧ ok v ∧ bulk v + 1 ≤ Rows.uptoBulk (D i) ∧ ∀ j u, cs'[j]? = some u → W.cell? (a.add (i * k + j)) = some u := by
      intro i him
      obtain ⟨cs', hc, ht'⟩ := hi i him
      obtain ⟨v, h1, h2, h3, h4⟩ := he enc W n cs' _ ht'
      obtain ⟨_, hcl, hat⟩ := World.cells?_some hc
      refine ⟨v, cs', h1, h2, h3, h4, fun j u hu => ?_⟩
      have hj : j < k := by have := (List.getElem?_eq_some_iff.1 hu).1; omega
      rw [← Go.Deep.add_add, hat j hj, hu]
    have hch : ∃ (V : Nat → Option α) (C : Nat → List Value), ∀ i, i < m → ∃ v, V i = some v ∧ (R v).P W All (C i) ∧ (C i).length = k ∧ ok v ∧ bulk v + 1 ≤ Rows.uptoBulk (D i) ∧ ∀ j u, (C i)[j]? = some u → W.cell? (a.add (i * k + j)) = some u :=
      ⟨fun i => if h : i < m then some (Classical.choose (each i h)) else none, fun i => if h : i < m then Classical.choose (Classical.choose_spec (each i h)) else [], fun i him => ⟨Classical.choose (each i him), by simp only [dif_pos him], by simp only [dif_pos him]; exact Classical.choose_spec (Classical.choose_spec (each i him))⟩⟩
    obtain ⟨V, C, hV⟩ := hch
    have build : ∀ q, q ≤ m → ∃ l : List α, l.length = q ∧ (∀ i, i < q → l[i]? = V i) ∧ (∀ v ∈ l, ok v) ∧ sumB bulk l ≤ Rows.uptoBulkAll ((List.range q).map D) := by
      intro q
      induction q with
      | zero => intro _; exact ⟨[], rfl, by simp, by simp, by simp [sumB]⟩
      | succ q ih =>
        intro hq
        obtain ⟨l, h1, h2, h3, h4⟩ := ih (by omega)
        obtain ⟨v, hv, _, _, hok, hbk, _⟩ := hV q (by omega)
        refine ⟨l ++ [v], by simp [h1], fun i hi => ?_, fun u hu => ?_, ?_⟩
        · by_cases hiq : i < q
          · rw [List.getElem?_append_left (by omega)]; exact h2 i hiq
          · obtain rfl : i = q := by omega
            rw [← h1, List.getElem?_concat_length, h1, hv]
        · rcases List.mem_append.1 hu with hu | hu
          · exact h3 u hu
          · simp at hu; subst hu; exact hok
        · have e1 : ∀ (l : List α) (v : α), sumB bulk (l ++ [v]) = sumB bulk l + (bulk v + 1) := fun l v => by simp [sumB]
          have e2 : ∀ (l : List (DataW H)) (d : DataW H), Rows.uptoBulkAll (l ++ [d]) = Rows.uptoBulkAll l + Rows.uptoBulk d := by
            intro l d
            induction l with
            | nil => simp [Rows.uptoBulkAll]
            | cons x l ih => simp only [List.cons_append, Rows.uptoBulkAll, ih]; omega
          rw [e1, List.range_succ, List.map_append, List.map_cons, List.map_nil, e2]; omega
    obtain ⟨l, hlen, hget, hok, hsum⟩ := build len hl
    subst hlen
    refine ⟨l, ⟨some a, m, by simp, by simpa using hl, ⟨(List.range l.length).map C, ⟨by simp, fun i cs hi' => ?_⟩, ?_, fun _ _ _ => trivial⟩, T.pos⟩, rfl, hok, ?_⟩
    · rw [List.getElem?_map] at hi'
      by_cases hil : i < l.length
      · rw [List.getElem?_range hil] at hi'
        simp only [Option.map_some, Option.some.injEq] at hi'
        subst hi'
        obtain ⟨v, hv, hp, hk, _⟩ := hV i (by omega)
        refine ⟨hk, R v, ?_, hp⟩
        rw [List.getElem?_map, hget i hil, hv]; rfl
      · rw [List.getElem?_eq_none (by simp; omega)] at hi'; simp at hi'
    · have hks : ∀ cs ∈ (List.range l.length).map C, cs.length = k := by
        intro cs hcs
        obtain ⟨i, hi', rfl⟩ := List.mem_map.1 hcs
        obtain ⟨v, _, _, hk, _⟩ := hV i (by have := List.mem_range.1 hi'; omega)
        exact hk
      have hfl : ((List.range l.length).map C).flatten.length = l.length * k := by
        rw [List.length_flatten]
        have : ((List.range l.length).map C).map List.length = List.replicate l.length k := by
          apply List.ext_getElem?
          intro i
          rw [List.getElem?_map, List.getElem?_map, List.getElem?_replicate]
          by_cases hil : i < l.length
          · rw [List.getElem?_range hil, if_pos hil]
            simp only [Option.map_some]
            rw [hks _ (List.mem_map.2 ⟨i, List.mem_range.2 hil, rfl⟩)]
          · rw [if_neg hil, List.getElem?_eq_none (by simp; omega)]; rfl
        rw [this]; simp
      refine ⟨by simpa using hfl, fun hpos => ?_⟩
      simp only [List.length_map] at hpos
      have hk0 := T.pos
      have hl0 : 0 < l.length := by
        rcases Nat.eq_zero_or_pos l.length with h0 | h0
        · rw [h0] at hpos; simp at hpos
        · exact h0
      obtain ⟨b, o, spot⟩ := a
      obtain ⟨v0, _, _, hk0', _, _, hc0⟩ := hV 0 (by omega)
      obtain ⟨u0, hu0⟩ : ∃ u, (C 0)[0]? = some u := ⟨_, List.getElem?_eq_getElem (by omega)⟩
      have hc00 := hc0 0 u0 hu0
      have hspot : spot = none := by simpa [Addr.add] using World.cell?_spot hc00
      subst hspot
      refine ⟨b, o, rfl, World.block_lt_of_cell? W _ (by simpa [Addr.add] using hc00), fun j u hu => ?_⟩
      have hjl : j < l.length * k := by rw [← hfl]; exact (List.getElem?_eq_some_iff.1 hu).1
      have hi0 : j / k < l.length := (Nat.div_lt_iff_lt_mul hk0).2 hjl
      have hjk : j % k < k := Nat.mod_lt _ hk0
      obtain ⟨v, hv, _, hk', _, _, hc⟩ := hV (j / k) (by omega)
      obtain ⟨u', hu'⟩ : ∃ u', (C (j / k))[j % k]? = some u' := ⟨_, List.getElem?_eq_getElem (by omega)⟩
      have hf := flat_get hks (i := j / k) (j := j % k) (by rw [List.getElem?_map, List.getElem?_range hi0]; rfl) hu'
      rw [Nat.div_add_mod'] at hf
      rw [hu] at hf
      cases hf
      have := hc _ u hu'
      rw [Nat.div_add_mod', Addr.add_lit] at this
      exact this
    · simp only [Rows.uptoBulk]; omega
theorem len5 {α : Type _} {l : List α} (h : l.length = 5) : ∃ a0 a1 a2 a3 a4, l = [a0, a1, a2, a3, a4] := match l, h with | [a0, a1, a2, a3, a4], _ => ⟨a0, a1, a2, a3, a4, rfl⟩
theorem field_at {H : Type} {enc : TypeId × Value → H} {w : World} {base : Nat} {spare : Nat → Bool} {held : Bool} {n : Nat} {fs : Array Field} {cs : List Value} {xs : List (DataW H × List MemPlace)}
    (hf : ∀ (i : Nat) (f : Field), fs[i]? = some f → DataW.trod enc P w base spare held n f.type ((cs.drop f.offset).take (P.cellsOf f.type)) = xs[i]?) {i off k : Nat} {f : Field} {t : TypeId}
    (hi : fs[i]? = some f) (ht : f.type = t) (ho : f.offset = off) (hk : P.cellsOf t = k) : DataW.trod enc P w base spare held n t ((cs.drop off).take k) = xs[i]? := by
  subst ht ho hk; exact hf i f hi
end
theorem opens_bytes : Opens Try.prog 30 byEl 1 (fun l => l.length) (fun _ => True) := fun enc W fuel cs x h => by
  have hs : (∃ a len cap, cs = [.slice a len cap]) := by
    rcases open_slice Try.underlying30 h with ⟨rfl, _⟩ | ⟨a, len, cap, m, n, D, Pl, rfl, _⟩
    · exact ⟨_, _, _, rfl⟩
    · exact ⟨_, _, _, rfl⟩
  obtain ⟨a, len, cap, rfl⟩ := hs
  obtain ⟨xs, hl, hr, hc, hm, hb, _⟩ := arg_bytes (enc := enc) (W := W) (a0 := a) (len0 := len) (cap0 := cap) (d0 := x.1) (p0 := x.2) ⟨fuel, by simpa [Value.cells] using h⟩
  subst hl
  exact ⟨xs, byEl.mk hr hc fun _ _ _ => trivial, rfl, trivial, hb⟩
end Go.Proofs.Ytcjiecclmepboaa

/-
  How an argument that is a cell, or a list of cells, is read; CellValues at what is read.
-/
namespace Go.Proofs.Ytcjiecclmepboaa
open Go.RowKit Go.ChangeShapes Go.WideShapes Go.ChangeAt Go.Deep

/-- The texts and bytes of a cell, counted. -/
def ceB (x : Ce) : Nat := x.text.length + x.data.length
structure CeOk (x : Ce) : Prop where
  kind : -9223372036854775808 ≤ x.kind ∧ x.kind ≤ 9223372036854775807
  num : -9223372036854775808 ≤ x.num ∧ x.num ≤ 9223372036854775807
theorem opens_cell : Opens Try.prog 53 ceEl 5 ceB CeOk := fun {H} enc W fuel cs x h => by
  obtain ⟨xs, n, rfl, rfl, hl, hx, hf⟩ := DataW.trod_struct Try.underlying53 h
  replace hl : cs.length = 5 := hl.trans (by kernel_rfl)
  obtain ⟨c0, c1, c2, c3, c4, rfl⟩ := len5 hl
  obtain ⟨y0, y1, y2, y3, y4, rfl⟩ := len5 hx
  obtain ⟨a0, h0, _, k0, b0⟩ := opens_int Try.underlying3 enc W n [c0] y0 (field_at hf (i := 0) (off := 0) (k := 1) (t := 3) rfl rfl rfl (by kernel_rfl))
  obtain ⟨a1, h1, _, k1, b1⟩ := opens_bool Try.underlying4 enc W n [c1] y1 (field_at hf (i := 1) (off := 1) (k := 1) (t := 4) rfl rfl rfl (by kernel_rfl))
  obtain ⟨a2, h2, _, k2, b2⟩ := opens_int Try.underlying2 enc W n [c2] y2 (field_at hf (i := 2) (off := 2) (k := 1) (t := 2) rfl rfl rfl (by kernel_rfl))
  obtain ⟨a3, h3, _, k3, b3⟩ := opens_str Try.underlying9 enc W n [c3] y3 (field_at hf (i := 3) (off := 3) (k := 1) (t := 9) rfl rfl rfl (by kernel_rfl))
  obtain ⟨a4, h4, _, k4, b4⟩ := opens_bytes enc W n [c4] y4 (field_at hf (i := 4) (off := 4) (k := 1) (t := 30) rfl rfl rfl (by kernel_rfl))
  obtain rfl : c0 = .int .i64 a0 := by simpa [vEl] using h0
  obtain rfl : c1 = .bool a1 := by simpa [vEl] using h1
  obtain rfl : c2 = .int .i64 a2 := by simpa [vEl] using h2
  obtain rfl : c3 = str a3 := by simpa [vEl] using h3
  have h4' := h4
  obtain ⟨A, c, e4, _⟩ := h4
  obtain rfl : c4 = .slice A a4.length c := by simpa using e4
  refine ⟨⟨a0, a1, a2, a3, a4⟩, ⟨A, c, rfl, h4'⟩, rfl, ⟨by simpa [Lit.wf, IntKind.min, IntKind.max, IntKind.signed, IntKind.bits] using k0, by simpa [Lit.wf, IntKind.min, IntKind.max, IntKind.signed, IntKind.bits] using k2⟩, ?_⟩
  replace b3 : a3.length + 1 ≤ _ := b3
  replace b4 : a4.length + 1 ≤ _ := b4
  simp only [ceB, Rows.uptoBulk, Rows.uptoBulkAll, List.map_cons, List.map_nil]
  omega
theorem opens_cells : Opens Try.prog 46 (fun l : List Ce => rowEl 5 (l.map ceEl)) 1 (sumB ceB) (fun l => ∀ x ∈ l, CeOk x) := opens_slice tkC (by kernel_rfl) opens_cell
end Go.Proofs.Ytcjiecclmepboaa

/-
  Walks over the lists of cells in form, of the cells of values, and over the comparison of two lists of cells.
-/
namespace Go.Proofs.Ytcjiecclmepboaa
open Go.RowKit

theorem ceEl.rd {w : World} {S : Nat → Prop} {x : Ce} {cs : List Value} (h : (ceEl x).P w S cs) : ∃ A c, cs = ceV x A c ∧ RdB w A x.data ∧ x.data.length ≤ c := by
  obtain ⟨A, c, h1, h2⟩ := h
  exact ⟨A, c, h1, byEl.rd h2⟩
theorem vaEl.rd {w : World} {S : Nat → Prop} {u : Va} {cs : List Value} (h : (vaEl u).P w S cs) : ∃ A c, cs = [vaV u A c] ∧ RdB w A (vaC u).data ∧ (vaC u).data.length ≤ c := by
  obtain ⟨A, c, h1, h2⟩ := h
  exact ⟨A, c, h1, byEl.rd h2⟩
theorem ceV_all (x : Ce) (A : Option Addr) (c : Nat) : ∀ u ∈ [ceV x A c].flatten, u.oneCell' = true := by simp [ceV, Value.oneCell']
theorem vaV_all (u : Va) (A : Option Addr) (c : Nat) : ∀ v ∈ [[vaV u A c]].flatten, v.oneCell' = true := by simp [vaV_one]

/-- The cells in form. -/
def goodL (l : List Ce) : List Ce := l.filter goodC
theorem goodL_take {l : List Ce} {k : Nat} {x : Ce} (h : l[k]? = some x) : goodL (l.take (k + 1)) = goodL (l.take k) ++ if goodC x then [x] else [] := by
  rw [take_getR h, goodL, goodL, List.filter_append]
  cases hg : goodC x <;> simp [hg]
theorem goodL_le (l : List Ce) : (goodL l).length ≤ l.length := List.length_filter_le _ _
def GoodI (w : World) (l : List Ce) (A : Option Addr) (c : Nat) : FL → World → Nat → Prop := fun L wr m =>
  ∃ (k : Nat) (P : Option Addr) (cp : Nat) (D : Option Addr) (cd : Nat), L = [(5, .slice P (goodL (l.take k)).length cp), (6, .slice D (goodL (l.take k)).length cd), (11, .slice A l.length c), (12, .int .i64 (l.length : Int)), (13, .int .i64 (k : Int))] ∧ k ≤ l.length ∧
    OwR 5 53 wr w.heap.size (fun b => b < w.heap.size) P cp ((goodL (l.take k)).map ceEl) ∧ OwR 1 20 wr w.heap.size (But P) D cd ((goodL (l.take k)).map fun x => vaEl (ceVa x)) ∧ Below w.heap.size w wr ∧ m = l.length - k
set_option maxHeartbeats 1000000 in
theorem good_list {A : Option Addr} {n c : Nat} {l : List Ce} {w : World} (hr : RdR 5 w All A (l.map ceEl)) (hn : l.length = n) (hok : ∀ x ∈ l, x.data.length ≤ 68719476736) (hl2 : l.length ≤ 4294967296) :
    CallsV Try.prog 31 #[.slice A n c] w fun v w' => ∃ (P : Option Addr) (cp : Nat) (D : Option Addr) (cd : Nat), v = .tuple #[.slice P (goodL l).length cp, .slice D (goodL l).length cd, .bool true] ∧
      OwR 5 53 w' w.heap.size (fun b => b < w.heap.size) P cp ((goodL l).map ceEl) ∧ OwR 1 20 w' w.heap.size (But P) D cd ((goodL l).map fun x => vaEl (ceVa x)) ∧ Below w.heap.size w w' := by
  subst hn
  refine calls_in (N := _) Try.func31 rfl Try.ntmps31 rfl ?_; show WC _ _ _ _ _ _
  refine wc_sr ?_; refine wl_as rfl rfl ?_; refine wl_as rfl rfl ?_; refine wl_as rfl rfl ?_; refine wl_ns ?_; refine wc_sr ?_; refine wl_as rfl rfl ?_; refine wl_ns ?_; refine wc_sr ?_; refine wl_as rfl rfl ?_; refine wl_ns ?_; refine wc_seq ?_; refine wc_sr ?_; refine wl_mv rfl rfl ?_; apply wl_val; apply opv_len; exact rfl; exact tkC.sl; exact rfl; refine wl_mv rfl rfl ?_; refine wl_ns ?_; refine wc_block ?_
  refine wc_loop (GoodI w l A c) [(5, .slice none 0 0), (6, .slice none 0 0), (11, .slice A l.length c), (12, .int .i64 (l.length : Int)), (13, .int .i64 (0 : Nat))] l.length ⟨0, none, 0, none, 0, rfl, by omega, OwR.nil _ _ _, OwR.nil _ _ _, Below.refl _ _, rfl⟩ ⟨rfl, rfl, rfl, rfl, rfl, trivial⟩ ?_
  rintro _ w1 m ⟨k, P, cp, D, cd, rfl, hk, g1, g2, hb, rfl⟩
  have hle := goodL_le (l.take k)
  rw [List.length_take] at hle
  refine wc_sr ?_; refine wl_bin rfl rfl bin_lss rfl ?_; refine wl_ns ?_; refine wc_seq ?_
  refine wc_cond rfl (fun h1 => ?_) (fun h1 => ?_)
  · obtain ⟨x, hx⟩ : ∃ x, l[k]? = some x := ⟨_, List.getElem?_eq_getElem (by omega)⟩
    have hox := hok x (List.mem_of_getElem? hx)
    have ht := goodL_take hx
    obtain ⟨b, o, cs, rfl, _, _, hp, hw⟩ := RdR.at (k := 5) (by decide) hr (E := ceEl x) (i := k) (by rw [List.getElem?_map, hx]; rfl)
    have hp' := hp
    obtain ⟨X, cx, rfl, rx, _⟩ := ceEl.rd hp
    have i1 := hw.below hb
    have hP := fun a ha => (OwR.lt g1 a ha)
    have hD := fun a ha => (OwR.lt g2 a ha)
    refine wc_skip ?_; refine we_seq ?_; refine wc_seq ?_; refine wc_block ?_; refine wc_sr ?_; apply wl_val; apply opv_idxG tkC; exact rfl; exact rfl; exact rfl; omega; exact rfl; apply wl_val; apply opv_ldG; exact rfl; assumption; exact sC; exact rfl
    refine wl_var (cs := ceV x X cx) zeroC sC rfl (fun _ => rfl) (by first | rfl | simp [Value.oneCell'] | simp [ceV, Value.oneCell']) rfl fun g8 _ hg8 a8 hbx => ?_; replace g1 := OwR.below g1 hbx; replace g2 := OwR.below g2 hbx; replace hb := hb.trans (hbx.mono hb.size); clear hbx
    refine wl_ns ?_; refine wc_seq ?_; refine wc_sr ?_; apply wl_val; apply opv_loadX; exact rfl; assumption; exact sC; exact rfl
    refine wl_call ok_caissonref06_Good (good_any (x := x)) ⟨rfl, trivial⟩ rfl ?_; rintro _ _ ⟨rfl, hbx⟩; replace g1 := OwR.below g1 hbx; replace g2 := OwR.below g2 hbx; replace a8 := Ar.bel a8 hbx; replace hb := hb.trans (hbx.mono hb.size); clear hbx
    cases hg : goodC x with
    | false =>
      apply wl_val; apply opv_not; exact rfl; exact rfl; refine wl_ns ?_; apply wc_condTb; exact rfl; exact Bool.not_false; refine wc_exit ?_; refine we_seq_exit ?_; refine we_block_exit ?_; refine we_seq ?_; refine wc_region ?_; apply wl_val; apply opv_bin; exact rfl; exact rfl; exact bin_add64 (by omega); exact rfl; refine wl_mv rfl rfl ?_; refine wl_nil ?_
      rw [hg] at ht
      simp only [Bool.false_eq_true, if_false, List.append_nil] at ht
      refine we_loop _ (l.length - (k + 1)) ⟨k + 1, P, cp, D, cd, rfl, by omega, by rw [ht]; exact g1, by rw [ht]; exact g2, hb, rfl⟩ (by omega) ⟨by rw [ht]; rfl, by rw [ht]; rfl, rfl, rfl, by simp [lookT], trivial⟩
    | true =>
      rw [hg] at ht
      simp only [if_true] at ht
      apply wl_val; apply opv_not; exact rfl; exact rfl; refine wl_ns ?_; apply wc_condFb; exact rfl; exact Bool.not_true; refine wc_skip ?_; refine we_seq ?_; refine wc_sr ?_; apply wl_val; apply opv_loadX; exact rfl; assumption; exact sC; exact rfl
      refine wl_call ok_caissonlaw06_twin (twin_any (x := x) (A := X) (c := cx) (rx.below hb) (by omega)) ⟨rfl, trivial⟩ rfl ?_; rintro _ _ ⟨B, d, rfl, o2, hbx⟩; replace g1 := OwR.below g1 hbx; replace g2 := OwR.below g2 hbx; replace a8 := Ar.bel a8 hbx; replace hb := hb.trans (hbx.mono hb.size); clear hbx
      have hP2 := fun a ha => (OwR.lt g1 a ha).2
      have hD2 := fun a ha => (OwR.lt g2 a ha).2
      refine wl_call ok_cell_Of (ofC_any (x := x) (A := B) (c := d) o2.rd (by omega)) ⟨rfl, trivial⟩ rfl ?_
      rintro _ w5 hof
      obtain ⟨_, B2, d2, rfl, o4, hbx⟩ | ⟨hbad, _⟩ := hof
      case inr => exact absurd (hg.symm.trans hbad) (by decide)
      replace a8 := Ar.bel a8 hbx
      replace g1 := OwR.below g1 hbx
      replace g2 := OwR.below g2 hbx
      replace hb := hb.trans (hbx.mono hb.size)
      clear hbx o2
      have hB2 := fun a ha => (Ow.lt o4 a ha)
      refine wl_mv rfl rfl ?_; apply wl_val; apply opv_extract; exact rfl; exact rfl; exact rfl; apply wl_val; apply opv_extract; exact rfl; exact rfl; exact rfl; refine wl_as rfl rfl ?_; refine wl_as rfl rfl ?_; refine wl_ns ?_; refine wc_seq ?_; refine wc_sr ?_; refine wl_mv rfl rfl ?_; refine wl_bin rfl rfl bin_neq rfl ?_; refine wl_ns ?_; apply wc_condFb; exact rfl; exact rfl; refine wc_skip ?_; refine we_seq ?_; refine wc_sr ?_; refine wl_mv rfl rfl ?_; apply wl_val; apply opv_loadX; exact rfl; assumption; exact sC; exact rfl
      refine wl_pushG (css' := [ceV x X cx]) (els' := [ceEl x]) tkC (fun _ => rfl) g1 ((by simp)) ⟨rfl, ⟨_, rfl, (by first | rfl | exact cells_one (vaV_one _ _ _))⟩, rfl, trivial⟩ (Grp.one (El.move _ hp' hb.size fun b hlt _ => ⟨⟨hlt, fun a ha => by have := (hP a ha).1; omega⟩, hb.block b hlt⟩) rfl) rfl (by first | exact ceV_all _ _ _ | exact vaV_all _ _ _ | (simp [Value.oneCell'])) (by decide) (by decide) (by omega) (by simp only [maxLen]; omega) hb.size rfl rfl fun _ _ _ _ hO hG hA => ?_; replace g2 := OwR.move g2 hG (fun b hlt h1 h2 => ⟨But.upd hA b hlt h1, h1⟩) (OwR.ne g2 g1 rfl); replace o4 := Ow.gr2 o4 hG hP2; replace hb := hG.belowR hb g1 (Nat.le_refl _) hb.size; replace g1 := hO; clear hO hG
      have hA1 := hA
      clear hA
      refine wl_as rfl rfl ?_; refine wl_ns ?_; refine wc_region ?_; refine wl_mv rfl rfl ?_; refine wl_mv rfl rfl ?_
      refine wl_pushG (css' := [[vaV (ceVa x) B2 d2]]) (els' := [vaEl (ceVa x)]) tkA (fun _ => rfl) g2 ((by simp)) ⟨rfl, ⟨_, rfl, (by first | rfl | exact cells_one (vaV_one _ _ _))⟩, rfl, trivial⟩ (Grp.one (⟨B2, d2, rfl, by rw [vaC_ceVa hg]; exact byEl.own o4 fun a ha h1 h2 => ⟨But.upd hA1 _ (hB2 a ha).2 (fun p hp => by have := hP2 p hp; omega), fun p hp => by have := hD2 p hp; omega⟩⟩) rfl) rfl (by first | exact ceV_all _ _ _ | exact vaV_all _ _ _ | (simp [Value.oneCell'])) (by decide) (by decide) (by omega) (by simp only [maxLen]; omega) hb.size rfl rfl fun _ _ _ _ hO hG hA => ?_; replace g1 := OwR.move g1 hG (fun b hlt h1 h2 => ⟨h1, fun a ha => by have := (hD a ha).1; omega⟩) (OwR.ne g1 g2 rfl); replace hb := hG.belowR hb g2 (Nat.le_refl _) hb.size; replace g2 := hO; clear hO hG
      clear hA
      refine wl_as rfl rfl ?_; refine wl_nil ?_; refine we_block_norm ?_; refine we_seq ?_; refine wc_region ?_; apply wl_val; apply opv_bin; exact rfl; exact rfl; exact bin_add64 (by omega); exact rfl; refine wl_mv rfl rfl ?_; refine wl_nil ?_
      refine we_loop _ (l.length - (k + 1)) ⟨k + 1, _, _, _, _, rfl, by omega, by rw [ht, List.map_append]; exact g1, by rw [ht, List.map_append]; exact g2, hb, rfl⟩ (by omega) ⟨by rw [ht, List.length_append]; rfl, by rw [ht, List.length_append]; rfl, rfl, rfl, by simp [lookT], trivial⟩
  · obtain rfl : k = l.length := by omega
    rw [List.take_length] at g1 g2 ⊢
    refine wc_exit ?_; refine we_seq_exit ?_; refine we_loop_exit ?_; refine we_block_exit ?_; refine we_seq ?_; refine wc_sr ?_; refine wl_mv rfl rfl ?_; refine wl_mv rfl rfl ?_; refine wl_as rfl rfl ?_; refine wl_as rfl rfl ?_; refine wl_as rfl rfl ?_; refine wl_ns ?_; refine wc_ret ?_
    exact we_ret3 rfl rfl rfl rfl ⟨_, rfl, P, cp, D, cd, rfl, g1, g2, hb⟩
end Go.Proofs.Ytcjiecclmepboaa

/-
  Plain laws of the keys of values: how they are read back, and their order. No program in sight.
-/
namespace Go.Proofs.Ytcjiecclmepboaa

end Go.Proofs.Ytcjiecclmepboaa

/-
  Plain laws of the order of values and of their keys. No program in sight.
-/
namespace Go.Proofs.Ytcjiecclmepboaa

end Go.Proofs.Ytcjiecclmepboaa

/-
  Walks over the comparison of values and of cells, and of lists of cells.
-/
namespace Go.Proofs.Ytcjiecclmepboaa
open Go.RowKit

end Go.Proofs.Ytcjiecclmepboaa

/-
  Walks over the program's and the reference's Compare.
-/
namespace Go.Proofs.Ytcjiecclmepboaa
open Go.RowKit

end Go.Proofs.Ytcjiecclmepboaa

/-
  The walk over the reference's Compare, and over CellOrders.
-/
namespace Go.Proofs.Ytcjiecclmepboaa
open Go.RowKit

end Go.Proofs.Ytcjiecclmepboaa

/-
  The walk over CellOrders.
-/
namespace Go.Proofs.Ytcjiecclmepboaa
open Go.RowKit

/-- The values of the cells in form. -/
def goodVs (l : List Ce) : List Va := (goodL l).map ceVa
theorem goodVs_length (l : List Ce) : (goodVs l).length = (goodL l).length := by simp [goodVs]
theorem goodVs_map (l : List Ce) : ((goodL l).map fun x => vaEl (ceVa x)) = (goodVs l).map vaEl := by simp [goodVs]
theorem goodL_good {l : List Ce} {x : Ce} (h : x ∈ goodL l) : goodC x = true ∧ x ∈ l := by simp [goodL] at h; exact ⟨h.2, h.1⟩
theorem goodVs_at {l : List Ce} {k : Nat} {x : Ce} (h : (goodL l)[k]? = some x) : (goodVs l)[k]? = some (ceVa x) ∧ vaC (ceVa x) = x := by
  refine ⟨by rw [goodVs, List.getElem?_map, h]; rfl, vaC_ceVa (goodL_good (List.mem_of_getElem? h)).1⟩
/-- A list of cells that a law is handed. -/
structure LOk (l : List Ce) : Prop where
  ok : ∀ x ∈ l, CeOk x
  sz : sumB ceB l ≤ 1048576
section
variable {l : List Ce} (h : LOk l)
include h
theorem LOk.len : l.length ≤ 1048576 := Nat.le_trans (sumB_len l) h.sz
theorem LOk.each {x : Ce} (hx : x ∈ l) : x.text.length + x.data.length ≤ 1048576 := by
  have := sumB_mem (bulk := ceB) hx; have := h.sz; have e : ceB x = x.text.length + x.data.length := rfl; omega
end
end Go.Proofs.Ytcjiecclmepboaa

/-
  Walks over MustInt of other values, and over Total, which defers and recovers.
-/
namespace Go.Proofs.Ytcjiecclmepboaa
open Go.RowKit

/-- The sum, and the error. -/
def totF : Int → List Va → Int × Int
  | s, [] => (s, 0)
  | s, .int n :: us => totF (IntKind.i64.wrap (s + n)) us
  | _, _ :: _ => (0, 10)
theorem mustInt_bad {v : Value} {w : World} (hv : v = .nilIface ∨ ∃ u y, v = .iface u y ∧ (u == 2) = false) :
    Calls Try.prog 45 #[v] w fun e w' => ∃ ch, e = .panicked ch ∧ (∃ u p, ch = [{ v := .iface u p, recovered := false }]) ∧ Below w.heap.size w w' := by
  refine calls_inR (N := _) Try.func45 rfl Try.ntmps45 rfl ?_
  show WC _ _ _ _ _ _
  refine wc_sr ?_; refine wl_as rfl rfl ?_; refine wl_ns ?_; refine wc_sr ?_; refine wl_mv rfl rfl ?_
  refine wl_asP (by kernel_rfl) Try.underlying15 rfl hv ?_
  intro p w1 hb
  exact fun a ha => ⟨ha.nodefer, _, rfl, ⟨_, _, rfl⟩, hb⟩
theorem isI20 : Try.prog.isIface 20 = true := by unfold Program.isIface; rw [Try.underlying20]
theorem neq_NN (w : World) : (binOp .neq 20 .nilIface .nilIface).run Try.prog w = .ok (.bool false) w := run_neq_nil_nil_at w _ isI20
theorem neq_IN (u : TypeId) (x : Value) (w : World) : (binOp .neq 20 (.iface u x) .nilIface).run Try.prog w = .ok (.bool true) w := run_neq_iface_nil w _ isI20 u x
theorem tot1_idle {p q : Addr} {w : World} : CallsD Try.prog 78 #[.pointer (some p), .pointer (some q)] .returning w fun e u' w' => e = .returned (.tuple #[]) ∧ u' = .returning ∧ w' = w := by
  refine callsD_of_wpS Try.func78 rfl fun c₀ cs hu => ?_
  apply wpS_seq
  apply wpS_region
  simp [wpOpsS, go_sem, recoverD, hu, Try.ntmps78, Exit.thenS, neq_NN]
  refine wpS_cond (t := false) (by simp [Act.eval, Array.replicate]) ?_
  simp only [Bool.false_eq_true, if_false]
  refine wpS_of_wp (wp_skip ?_)
  cases c₀
  simp_all [bodyPostS, results, Try.func78]
theorem tot1_panic {p q : Addr} {w : World} {c d pv : Value} {u : TypeId} {older : List PanicEntry} (hp : w.cell? p = some c) (hz : w.frozen? p = false) (hq : (w.setCell p (.int .i64 0)).cell? q = some d) (hz2 : (w.setCell p (.int .i64 0)).frozen? q = false) :
    CallsD Try.prog 78 #[.pointer (some p), .pointer (some q)] (.panicking ({ v := .iface u pv, recovered := false } :: older)) w fun e u' w' =>
      e = .returned (.tuple #[]) ∧ u' = .panicking ({ v := .iface u pv, recovered := true } :: older) ∧ w' = (w.setCell p (.int .i64 0)).setCell q (.int .i64 10) := by
  refine callsD_of_wpS Try.func78 rfl fun c₀ cs hu => ?_
  apply wpS_seq
  apply wpS_region
  simp [wpOpsS, go_sem, recoverD, hu, Try.ntmps78, Exit.thenS, neq_IN]
  refine wpS_cond (t := true) (by simp [Act.eval, Array.replicate]) ?_
  simp only [if_true]
  apply wpS_region
  simp [wpOpsS, go_sem, hp, hz, hq, hz2, bodyPostS, results]
theorem Ar.neCell {w : World} {g g' : Nat} {t : TypeId} {cs : List Value} {k : Nat} {v : Value} (h : Ar w g' t cs) (hne : g ≠ g') : Ar (w.setCell ⟨g, k, none⟩ v) g' t cs := by
  unfold Ar at h ⊢
  simp only [World.setCell, Array.getElem?_modify]
  rw [if_neg hne]; exact h
theorem below_setCellD {w w0 : World} {B g k : Nat} {v : Value} (hb : Below B w0 w) (hB : B ≤ g) : Below B w0 (w.setCell ⟨g, k, none⟩ v) :=
  hb.trans ⟨rfl, rfl, rfl, by simp [World.setCell], fun j hj => by
    simp only [World.setCell, Array.getElem?_modify]
    rw [if_neg (by omega)]⟩
theorem z_errno : (Try.prog.info? 32).map (·.zero) = some (some (.int .i64 0)) := by kernel_rfl
theorem c1_errno : Cell1 Try.prog 32 := ⟨by kernel_rfl, by rw [Try.underlying32]⟩
theorem tot1_ok : CallOk Try.prog 78 := callOk Try.func78 (by kernel_rfl) rfl
namespace D
def TotI (w : World) (us : List Va) (A : Option Addr) (c : Nat) : FL → World → Nat → Prop := fun L wr m =>
  ∃ (k : Nat) (s : Int), L = [(2, .pointer (some ⟨w.heap.size, 0, none⟩)), (3, .pointer (some ⟨w.heap.size + 1, 0, none⟩)), (7, .slice A us.length c), (8, .int .i64 (us.length : Int)), (9, .int .i64 (k : Int))] ∧ k ≤ us.length ∧
    Ar wr w.heap.size 2 [.int .i64 s] ∧ Ar wr (w.heap.size + 1) 32 [.int .i64 0] ∧ Below w.heap.size w wr ∧ totF s (us.drop k) = totF 0 us ∧ m = us.length - k
set_option maxHeartbeats 4000000 in
theorem total_any {A : Option Addr} {n c : Nat} {us : List Va} {w : World} (hr : RdR 1 w All A (us.map vaEl)) (hn : us.length = n) (hl2 : us.length ≤ maxLen) :
    CallsV Try.prog 33 #[.slice A n c] w fun v w' => v = .tuple #[.int .i64 (totF 0 us).1, .int .i64 (totF 0 us).2] ∧ Below w.heap.size w w' := by
  subst hn
  have hmax : maxLen = 9223372036854775807 := rfl
  obtain ⟨D0, h0⟩ : ∃ D : Dfs, D.ds = [] := ⟨⟨[]⟩, rfl⟩
  unfold CallsV
  refine calls_inD (N := _) h0 Try.func33 rfl Try.ntmps33 rfl ?_
  show WC _ _ _ _ _ _
  refine wc_sr ?_
  refine wl_al1 z_i64 rfl rfl fun w1 a2 hb1 hs1 => ?_
  refine wl_al1 z_errno rfl rfl fun w2 a3 hb2 hs2 => ?_
  replace a2 := a2.below hb2 (Nat.le_refl _)
  replace hb1 := hb1.trans (hb2.mono (by omega))
  rw [hs1] at a3 ⊢
  clear hb2
  refine wl_ns ?_; refine wc_sr ?_
  refine wl_val (opv_mkFuncD (xs := [.tmp 2, .tmp 3]) (us := [.pointer (some ⟨w.heap.size, 0, none⟩), .pointer (some ⟨w.heap.size + 1, 0, none⟩)]) ⟨rfl, rfl, trivial⟩) rfl ?_
  obtain ⟨D1, h1⟩ : ∃ D : Dfs, D.ds = [{ target := .fn (.func 78) #[.pointer (some ⟨w.heap.size, 0, none⟩), .pointer (some ⟨w.heap.size + 1, 0, none⟩)], args := #[] }] := ⟨⟨_⟩, rfl⟩
  refine wl_defer (D1 := D1) rfl (by rw [h1, h0]) ?_
  clear h0
  refine wl_ns ?_; refine wc_seq ?_; refine wc_sr ?_; refine wl_mv rfl rfl ?_; apply wl_val; apply opv_len; exact rfl; exact tkA.sl; exact rfl; refine wl_mv rfl rfl ?_; refine wl_ns ?_; refine wc_block ?_
  refine wc_loop (TotI w us A c) [(2, .pointer (some ⟨w.heap.size, 0, none⟩)), (3, .pointer (some ⟨w.heap.size + 1, 0, none⟩)), (7, .slice A us.length c), (8, .int .i64 (us.length : Int)), (9, .int .i64 (0 : Nat))] us.length ⟨0, 0, rfl, by omega, a2, a3, hb1, rfl, rfl⟩ ⟨rfl, rfl, rfl, rfl, rfl, trivial⟩ ?_
  clear a2 a3 hb1 hs1 hs2
  rintro _ w3 m ⟨k, s, rfl, hk, a2, a3, hb, hsum, rfl⟩
  refine wc_sr ?_; refine wl_bin rfl rfl bin_lss rfl ?_; refine wl_ns ?_; refine wc_seq ?_
  refine wc_cond rfl (fun hlt => ?_) (fun hlt => ?_)
  · obtain ⟨u, hu⟩ : ∃ u, us[k]? = some u := ⟨_, List.getElem?_eq_getElem (by omega)⟩
    obtain ⟨b, o, cs, rfl, _, _, ⟨X, cx, rfl, hx⟩, hw⟩ := RdR.at (k := 1) (by decide) hr (E := vaEl u) (i := k) (by rw [List.getElem?_map, hu]; rfl)
    have i1 := hw.below hb
    have hdr : us.drop k = u :: us.drop (k + 1) := by obtain ⟨h, e⟩ := List.getElem?_eq_some_iff.1 hu; rw [List.drop_eq_getElem_cons h, e]
    rw [hdr] at hsum
    refine wc_skip ?_; refine we_seq ?_; refine wc_seq ?_; refine wc_block ?_; refine wc_sr ?_; apply wl_val; apply opv_idxG tkA; exact rfl; exact rfl; exact rfl; omega; exact rfl; apply wl_val; apply opv_ldW0; exact rfl; assumption; exact c1_any; exact rfl; exact rfl; refine wl_as rfl rfl ?_; refine wl_ns ?_
    refine wc_any mixed fun w4 hw4 => ?_
    have a4 : Ar w4 w.heap.size 2 [.int .i64 s] := by rw [hw4]; exact a2
    have a5 : Ar w4 (w.heap.size + 1) 32 [.int .i64 0] := by rw [hw4]; exact a3
    have hb4 : Below w.heap.size w w4 := by rw [hw4]; exact hb.drew
    clear hw4 a2 a3
    by_cases hint : ∃ n, u = .int n
    · obtain ⟨n, rfl⟩ := hint
      simp only [totF] at hsum
      simp only [vaV]
      refine wy_two 0 1 (by kernel_rfl) rfl rfl ?_ ?_
      · refine wl_val (opv_ldX rfl a4 c1_i64 rfl) rfl (wl_nil (we_heldY ?_))
        refine wy_one 1 (by kernel_rfl) rfl ?_
        refine wl_mv rfl rfl (wl_nil (we_heldY ?_))
        refine wy_one 2 (by kernel_rfl) rfl ?_
        refine wl_call ok_cell_MustInt mustInt_any ⟨rfl, trivial⟩ rfl ?_
        rintro _ _ ⟨rfl, rfl⟩
        refine wl_nil (we_heldY ?_)
        refine wy_one 3 (by kernel_rfl) rfl (wl_bin rfl rfl bin_add rfl (wl_nil (we_heldY ?_)))
        refine wy_one 4 (by kernel_rfl) rfl (wl_stB c1_i64 a4 rfl Nat.zero_lt_one rfl rfl ?_)
        intro w6 a6 har hbe hsz
        refine wl_nil (we_heldY (wy_done (by kernel_rfl) ?_))
        refine we_block_norm ?_; refine we_seq ?_; refine wc_region ?_; apply wl_val; apply opv_bin; exact rfl; exact rfl; exact bin_add64 (by omega); exact rfl; refine wl_mv rfl rfl ?_; refine wl_nil ?_
        exact we_loop _ (us.length - (k + 1)) ⟨k + 1, _, rfl, by omega, a6, har _ _ _ a5 (by omega), hbe _ _ hb4 (Nat.le_refl _), hsum, rfl⟩ (by omega) ⟨rfl, rfl, rfl, rfl, by simp [lookT], trivial⟩
      · refine wl_mv rfl rfl (wl_nil (we_heldY ?_))
        refine wy_two 0 2 (by kernel_rfl) rfl rfl ?_ ?_
        · refine wl_val (opv_ldX rfl a4 c1_i64 rfl) rfl (wl_nil (we_heldY ?_))
          refine wy_one 2 (by kernel_rfl) rfl ?_
          refine wl_call ok_cell_MustInt mustInt_any ⟨rfl, trivial⟩ rfl ?_
          rintro _ _ ⟨rfl, rfl⟩
          refine wl_nil (we_heldY ?_)
          refine wy_one 3 (by kernel_rfl) rfl (wl_bin rfl rfl bin_add rfl (wl_nil (we_heldY ?_)))
          refine wy_one 4 (by kernel_rfl) rfl (wl_stB c1_i64 a4 rfl Nat.zero_lt_one rfl rfl ?_)
          intro w6 a6 har hbe hsz
          refine wl_nil (we_heldY (wy_done (by kernel_rfl) ?_))
          refine we_block_norm ?_; refine we_seq ?_; refine wc_region ?_; apply wl_val; apply opv_bin; exact rfl; exact rfl; exact bin_add64 (by omega); exact rfl; refine wl_mv rfl rfl ?_; refine wl_nil ?_
          exact we_loop _ (us.length - (k + 1)) ⟨k + 1, _, rfl, by omega, a6, har _ _ _ a5 (by omega), hbe _ _ hb4 (Nat.le_refl _), hsum, rfl⟩ (by omega) ⟨rfl, rfl, rfl, rfl, by simp [lookT], trivial⟩
        · refine wl_call ok_cell_MustInt mustInt_any ⟨rfl, trivial⟩ rfl ?_
          rintro _ _ ⟨rfl, rfl⟩
          refine wl_nil (we_heldY ?_)
          refine wy_one 0 (by kernel_rfl) rfl ?_
          refine wl_val (opv_ldX rfl a4 c1_i64 rfl) rfl (wl_nil (we_heldY ?_))
          refine wy_one 3 (by kernel_rfl) rfl (wl_bin rfl rfl bin_add rfl (wl_nil (we_heldY ?_)))
          refine wy_one 4 (by kernel_rfl) rfl (wl_stB c1_i64 a4 rfl Nat.zero_lt_one rfl rfl ?_)
          intro w6 a6 har hbe hsz
          refine wl_nil (we_heldY (wy_done (by kernel_rfl) ?_))
          refine we_block_norm ?_; refine we_seq ?_; refine wc_region ?_; apply wl_val; apply opv_bin; exact rfl; exact rfl; exact bin_add64 (by omega); exact rfl; refine wl_mv rfl rfl ?_; refine wl_nil ?_
          exact we_loop _ (us.length - (k + 1)) ⟨k + 1, _, rfl, by omega, a6, har _ _ _ a5 (by omega), hbe _ _ hb4 (Nat.le_refl _), hsum, rfl⟩ (by omega) ⟨rfl, rfl, rfl, rfl, by simp [lookT], trivial⟩
    · have hbad : vaV u X cx = .nilIface ∨ ∃ t y, vaV u X cx = .iface t y ∧ (t == 2) = false := by
        cases u with
        | nil => exact .inl rfl
        | bool b => exact .inr ⟨_, _, rfl, by decide⟩
        | int n => exact absurd ⟨n, rfl⟩ hint
        | text s => exact .inr ⟨_, _, rfl, by decide⟩
        | bytes d => exact .inr ⟨_, _, rfl, by decide⟩
      have htot : totF 0 us = (0, 10) := by
        rw [← hsum]
        cases u <;> first | rfl | exact absurd ⟨_, rfl⟩ hint
      have hsz4 := a5.lt
      refine wy_two 0 1 (by kernel_rfl) rfl rfl ?_ ?_
      · refine wl_val (opv_ldX rfl a4 c1_i64 rfl) rfl (wl_nil (we_heldY ?_))
        refine wy_one 1 (by kernel_rfl) rfl ?_
        refine wl_mv rfl rfl (wl_nil (we_heldY ?_))
        refine wy_one 2 (by kernel_rfl) rfl ?_
        refine wl_callE (vs := [vaV u X cx]) ok_cell_MustInt ⟨rfl, trivial⟩ (mustInt_bad hbad) ?_
        rintro _ w6 ⟨⟨U, pv, rfl⟩, hb6⟩
        repeat first | refine we_panY ?_ | refine we_panSeq ?_ | refine we_panLoop ?_ | refine we_panBlk ?_
        have a6 := a4.below hb6 (Nat.le_refl _)
        have a7 := a5.below hb6 (Nat.le_refl _)
        have hb7 := hb4.trans (hb6.mono hb4.size)
        refine we_leaveP h1 tot1_ok (tot1_panic (a6.cell 0) (a6.frozen 0) ((a7.neCell (by omega)).cell 0) ((a7.neCell (by omega)).frozen 0)) ?_
        rintro a e u' w7 ha ⟨rfl, rfl, rfl⟩
        refine ⟨_, rfl, leaves_c2 c1_i64 c1_errno rfl ha rfl rfl ((a6.setCell 0 _).neCell (by omega)) ((a7.neCell (by omega)).setCell 0 _) ⟨_, rfl, by rw [htot], below_setCellD (below_setCellD hb7 (Nat.le_refl _)) (by omega)⟩⟩
      · refine wl_mv rfl rfl (wl_nil (we_heldY ?_))
        refine wy_two 0 2 (by kernel_rfl) rfl rfl ?_ ?_
        · refine wl_val (opv_ldX rfl a4 c1_i64 rfl) rfl (wl_nil (we_heldY ?_))
          refine wy_one 2 (by kernel_rfl) rfl ?_
          refine wl_callE (vs := [vaV u X cx]) ok_cell_MustInt ⟨rfl, trivial⟩ (mustInt_bad hbad) ?_
          rintro _ w6 ⟨⟨U, pv, rfl⟩, hb6⟩
          repeat first | refine we_panY ?_ | refine we_panSeq ?_ | refine we_panLoop ?_ | refine we_panBlk ?_
          have a6 := a4.below hb6 (Nat.le_refl _)
          have a7 := a5.below hb6 (Nat.le_refl _)
          have hb7 := hb4.trans (hb6.mono hb4.size)
          refine we_leaveP h1 tot1_ok (tot1_panic (a6.cell 0) (a6.frozen 0) ((a7.neCell (by omega)).cell 0) ((a7.neCell (by omega)).frozen 0)) ?_
          rintro a e u' w7 ha ⟨rfl, rfl, rfl⟩
          refine ⟨_, rfl, leaves_c2 c1_i64 c1_errno rfl ha rfl rfl ((a6.setCell 0 _).neCell (by omega)) ((a7.neCell (by omega)).setCell 0 _) ⟨_, rfl, by rw [htot], below_setCellD (below_setCellD hb7 (Nat.le_refl _)) (by omega)⟩⟩
        · refine wl_callE (vs := [vaV u X cx]) ok_cell_MustInt ⟨rfl, trivial⟩ (mustInt_bad hbad) ?_
          rintro _ w6 ⟨⟨U, pv, rfl⟩, hb6⟩
          repeat first | refine we_panY ?_ | refine we_panSeq ?_ | refine we_panLoop ?_ | refine we_panBlk ?_
          have a6 := a4.below hb6 (Nat.le_refl _)
          have a7 := a5.below hb6 (Nat.le_refl _)
          have hb7 := hb4.trans (hb6.mono hb4.size)
          refine we_leaveP h1 tot1_ok (tot1_panic (a6.cell 0) (a6.frozen 0) ((a7.neCell (by omega)).cell 0) ((a7.neCell (by omega)).frozen 0)) ?_
          rintro a e u' w7 ha ⟨rfl, rfl, rfl⟩
          refine ⟨_, rfl, leaves_c2 c1_i64 c1_errno rfl ha rfl rfl ((a6.setCell 0 _).neCell (by omega)) ((a7.neCell (by omega)).setCell 0 _) ⟨_, rfl, by rw [htot], below_setCellD (below_setCellD hb7 (Nat.le_refl _)) (by omega)⟩⟩
  · obtain rfl : k = us.length := by omega
    rw [List.drop_length] at hsum
    refine wc_exit ?_; refine we_seq_exit ?_; refine we_loop_exit ?_; refine we_block_exit ?_; refine we_seq ?_; refine wc_sr ?_; apply wl_val; apply opv_ldX; exact rfl; assumption; exact c1_i64; exact rfl; exact rfl
    refine wl_stB c1_i64 a2 rfl Nat.zero_lt_one rfl rfl ?_
    intro w6 a6 har hbe hsz
    have a7 := har _ _ _ a3 (by omega)
    refine wl_stB c1_errno a7 rfl Nat.zero_lt_one rfl rfl ?_
    intro w8 a8 har2 hbe2 hsz2
    have a9 := har2 _ _ _ a6 (by omega)
    have hb8 := hbe2 _ _ (hbe _ _ hb (Nat.le_refl _)) (by omega)
    refine wl_ns ?_; refine wc_ret ?_
    refine we_leave h1 tot1_ok tot1_idle ?_
    rintro a e u' w7 ha ⟨rfl, rfl, rfl⟩
    refine ⟨_, rfl, leaves_c2 c1_i64 c1_errno rfl ha rfl rfl a9 a8 ⟨_, rfl, by rw [← hsum]; rfl, hb8⟩⟩
end D
end Go.Proofs.Ytcjiecclmepboaa

/-
  The walk over CellTotals.
-/
namespace Go.Proofs.Ytcjiecclmepboaa
open Go.RowKit

theorem ceVa_int {x : Ce} (hg : goodC x = true) (h : x.kind = 2) : ceVa x = .int x.num := by simp [ceVa, h]
theorem totF_other {x : Ce} {s : Int} {us : List Va} (h : ¬ x.kind = 2) : totF s (ceVa x :: us) = (0, 10) := by
  unfold ceVa
  by_cases h1 : x.kind = 1
  · rw [if_pos h1]; rfl
  · rw [if_neg h1, if_neg h]
    by_cases h3 : x.kind = 3
    · rw [if_pos h3]; rfl
    · rw [if_neg h3]
      by_cases h4 : x.kind = 4
      · rw [if_pos h4]; rfl
      · rw [if_neg h4]; rfl
def TotL (w w4 : World) (l : List Ce) (P1 : Option Addr) (p1 : Nat) : FL → World → Nat → Prop := fun L wr m =>
  ∃ (k : Nat) (s : Int), L = [(3, .slice P1 (goodL l).length p1), (6, .int .i64 (totF 0 (goodVs l)).1), (7, .int .i64 (totF 0 (goodVs l)).2), (8, .int .i64 s), (28, .slice P1 (goodL l).length p1), (29, .int .i64 ((goodL l).length : Int)), (30, .int .i64 (k : Int))] ∧ k ≤ (goodL l).length ∧
    totF s ((goodVs l).drop k) = totF 0 (goodVs l) ∧ Below w4.heap.size w4 wr ∧ Below w.heap.size w wr ∧ m = (goodL l).length - k
set_option maxHeartbeats 2000000 in
theorem cellTotals_walk {A : Option Addr} {n c : Nat} {l : List Ce} {w : World} (hr : RdR 5 w All A (l.map ceEl)) (hn : l.length = n) (_hc : n ≤ c) (ho : ∀ x ∈ l, CeOk x) (hl : sumB ceB l ≤ 1048576) :
    CallsV Try.prog 7 #[.slice A n c] w (RetTr w) := by
  have la : LOk l := ⟨ho, hl⟩
  have hna := la.len
  have hga := goodL_le l
  have hal := goodVs_length l
  subst hn
  have hb := Below.refl w.heap.size w
  have hmax : maxLen = 9223372036854775807 := rfl
  refine calls_in (N := _) Try.func7 rfl Try.ntmps7 rfl ?_; show WC _ _ _ _ _ _
  refine wc_sr ?_; refine wl_as rfl rfl ?_; refine wl_ns ?_; refine wc_sr ?_; refine wl_mv rfl rfl ?_
  refine wl_call ok_caissonlaw06_good (good_list hr (by simp) (fun x hx => by have := la.each hx; omega) (by omega)) ⟨rfl, trivial⟩ rfl ?_; rintro _ _ ⟨P1, p1, D1, d1, rfl, g1, g2, hbx⟩; replace hb := hb.trans (hbx.mono hb.size); clear hbx
  refine wl_mv rfl rfl ?_; apply wl_val; apply opv_extract; exact rfl; exact rfl; exact rfl; apply wl_val; apply opv_extract; exact rfl; exact rfl; exact rfl; apply wl_val; apply opv_extract; exact rfl; exact rfl; exact rfl; refine wl_as rfl rfl ?_; refine wl_as rfl rfl ?_; refine wl_as rfl rfl ?_; refine wl_ns ?_; refine wc_seq ?_; refine wc_sr ?_; refine wl_mv rfl rfl ?_; apply wl_val; apply opv_not; exact rfl; exact rfl; refine wl_mv rfl rfl ?_; apply wl_take; exact rfl; exact rfl; exact rfl; exact Bool.not_true
  refine wl_call ok_caissonlaw06_awake (awake6_any _) trivial rfl ?_
  rintro _ w4 ⟨rfl, hbx⟩
  replace g1 := OwR.below g1 hbx
  replace g2 := OwR.below g2 hbx
  replace hb := hb.trans (hbx.mono hb.size)
  clear hbx
  have t2 := OwR.rd g2
  rw [goodVs_map] at t2
  clear g2
  apply wl_take; exact rfl; exact rfl; exact rfl; exact Bool.not_true; apply wl_val; apply opv_not; exact rfl; exact rfl; apply wl_val; apply opv_pickF; exact rfl; exact Bool.not_true; exact rfl; exact rfl; refine wl_ns ?_; apply wc_condFb; exact rfl; exact Bool.not_true; refine wc_skip ?_; refine we_seq ?_; refine wc_sr ?_; refine wl_mv rfl rfl ?_
  refine wl_call ok_cell_Total (D.total_any t2 hal (by omega)) ⟨rfl, trivial⟩ rfl ?_; rintro _ _ ⟨rfl, hbx⟩; replace g1 := OwR.below g1 hbx; replace hb := hb.trans (hbx.mono hb.size); clear hbx
  have t1 := OwR.rd g1
  clear g1 t2
  refine wl_mv rfl rfl ?_; apply wl_val; apply opv_extract; exact rfl; exact rfl; exact rfl; apply wl_val; apply opv_extract; exact rfl; exact rfl; exact rfl; refine wl_as rfl rfl ?_; refine wl_as rfl rfl ?_; refine wl_ns ?_; refine wc_sr ?_; refine wl_as rfl rfl ?_; refine wl_ns ?_; refine wc_seq ?_; refine wc_sr ?_; refine wl_mv rfl rfl ?_; apply wl_val; apply opv_len; exact rfl; exact tkC.sl; exact rfl; refine wl_mv rfl rfl ?_; refine wl_ns ?_; refine wc_block ?_
  refine wc_loop (TotL w _ l P1 p1) [(3, .slice P1 (goodL l).length p1), (6, .int .i64 (totF 0 (goodVs l)).1), (7, .int .i64 (totF 0 (goodVs l)).2), (8, .int .i64 0), (28, .slice P1 (goodL l).length p1), (29, .int .i64 ((goodL l).length : Int)), (30, .int .i64 (0 : Nat))] (goodL l).length
    ⟨0, 0, rfl, by omega, rfl, Below.refl _ _, hb, rfl⟩ ⟨rfl, rfl, rfl, rfl, rfl, rfl, rfl, trivial⟩ ?_
  clear hb
  rintro _ w5 m ⟨k, s, rfl, hk, hsum, hbl, hb, rfl⟩
  refine wc_sr ?_; refine wl_bin rfl rfl bin_lss rfl ?_; refine wl_ns ?_; refine wc_seq ?_
  refine wc_cond rfl (fun hlt => ?_) (fun hlt => ?_)
  · obtain ⟨x, hx⟩ : ∃ x, (goodL l)[k]? = some x := ⟨_, List.getElem?_eq_getElem (by omega)⟩
    obtain ⟨hu, eu⟩ := goodVs_at hx
    have hg := (goodL_good (List.mem_of_getElem? hx)).1
    obtain ⟨b1, o1, cs1, rfl, _, _, hp1, i1⟩ := RdR.at (k := 5) (by decide) t1 (E := ceEl x) (i := k) (by rw [List.getElem?_map, hx]; rfl)
    obtain ⟨X, cx, rfl, r1, _⟩ := ceEl.rd hp1
    replace i1 := i1.below hbl
    have hdr : (goodVs l).drop k = ceVa x :: (goodVs l).drop (k + 1) := by obtain ⟨h, e⟩ := List.getElem?_eq_some_iff.1 hu; rw [List.drop_eq_getElem_cons h, e]
    rw [hdr] at hsum
    refine wc_skip ?_; refine we_seq ?_; refine wc_seq ?_; refine wc_block ?_; refine wc_sr ?_; apply wl_val; apply opv_idxG tkC; exact rfl; exact rfl; exact rfl; omega; exact rfl; apply wl_val; apply opv_ldG; exact rfl; assumption; exact sC; exact rfl
    refine wl_var (cs := ceV x X cx) zeroC sC rfl (fun _ => rfl) (by first | rfl | simp [Value.oneCell'] | simp [ceV, Value.oneCell']) rfl fun g3 _ hg3 a3 hbx => ?_
    replace hb := hb.trans (hbx.mono hb.size)
    replace hbl := hbl.trans (hbx.mono hbl.size)
    clear hbx
    unfold ceV at a3
    refine wl_ns ?_; refine wc_seq ?_; refine wc_sr ?_; apply wl_val; apply opv_fa; exact fa_sC (by decide); exact rfl; exact rfl; apply wl_val; apply opv_ldX; exact rfl; assumption; exact c1_int; exact rfl; exact rfl; refine wl_bin rfl rfl bin_neq rfl ?_; refine wl_ns ?_
    refine wc_cond rfl (fun h2 => ?_) (fun h2 => ?_)
    · rw [totF_other (fun h => h2 (by rw [h]))] at hsum
      rw [← hsum]
      refine wc_sr ?_; refine wl_mv rfl rfl ?_; refine wl_bin rfl rfl bin_eql rfl ?_; refine wl_mv rfl rfl ?_; apply wl_take; exact rfl; exact rfl; exact rfl; refine bT ?_; (with_reducible rfl); refine wl_mv rfl rfl ?_; apply wl_take; exact rfl; exact rfl; exact rfl; refine bT ?_; (with_reducible rfl); refine wl_bin rfl rfl bin_eql rfl ?_; apply wl_val; apply opv_pickT; exact rfl; refine bT ?_; (with_reducible rfl); exact rfl; exact rfl; refine wl_as rfl rfl ?_; refine wl_ns ?_; refine wc_ret ?_; refine we_seq_ret ?_; refine we_block_ret ?_; refine we_seq_ret ?_; refine we_loop_ret ?_; refine we_block_ret ?_; refine we_seq_ret ?_
      exact we_ret1 rfl rfl ⟨_, rfl, rfl, hb⟩
    · have hk2 : x.kind = 2 := Decidable.not_not.1 h2
      rw [ceVa_int hg hk2, totF] at hsum
      refine wc_skip ?_; refine we_seq ?_; refine wc_region ?_; refine wl_mv rfl rfl ?_; apply wl_val; apply opv_fa; exact fa_sC (by decide); exact rfl; exact rfl; apply wl_val; apply opv_ldX; exact rfl; assumption; exact c1_i64; exact rfl; exact rfl; refine wl_bin rfl rfl bin_add rfl ?_; refine wl_as rfl rfl ?_; refine wl_nil ?_; refine we_block_norm ?_; refine we_seq ?_; refine wc_region ?_; apply wl_val; apply opv_bin; exact rfl; exact rfl; exact bin_add64 (by omega); exact rfl; refine wl_mv rfl rfl ?_; refine wl_nil ?_
      exact we_loop _ ((goodL l).length - (k + 1)) ⟨k + 1, _, rfl, by omega, hsum, hbl, hb, rfl⟩ (by omega) ⟨rfl, rfl, rfl, rfl, rfl, rfl, by simp [lookT], trivial⟩
  · obtain rfl : k = (goodL l).length := by omega
    rw [List.drop_of_length_le (by omega)] at hsum
    rw [← hsum, totF]
    refine wc_exit ?_; refine we_seq_exit ?_; refine we_loop_exit ?_; refine we_block_exit ?_; refine we_seq ?_; refine wc_sr ?_; refine wl_mv rfl rfl ?_; refine wl_bin rfl rfl bin_eql rfl ?_; refine wl_mv rfl rfl ?_; apply wl_take; exact rfl; exact rfl; exact rfl; refine bT ?_; (with_reducible rfl); refine wl_mv rfl rfl ?_; apply wl_take; exact rfl; exact rfl; exact rfl; refine bT ?_; (with_reducible rfl); refine wl_mv rfl rfl ?_; apply wl_take; exact rfl; exact rfl; exact rfl; refine bT ?_; (with_reducible rfl); refine wl_bin rfl rfl bin_eql rfl ?_; apply wl_val; apply opv_pickT; exact rfl; refine bT ?_; (with_reducible rfl); exact rfl; exact rfl; refine wl_as rfl rfl ?_; refine wl_ns ?_; refine wc_ret ?_
    exact we_ret1 rfl rfl ⟨_, rfl, by simp, hb⟩
end Go.Proofs.Ytcjiecclmepboaa
