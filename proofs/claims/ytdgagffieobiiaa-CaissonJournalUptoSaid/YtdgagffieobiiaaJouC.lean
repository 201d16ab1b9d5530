/-
  The law CaissonJournal: called with any arguments that are together of bulk at most 1048576 it answers true, and its arguments read behind the call as they read before. Condition: that bound (uptoSmall), and nothing else.
-/
import Derived.Test.YtdgagffieobiiaaJouM6
import Derived.Test.YtdgagffieobiiaaJouM3

namespace Go.Proofs.Ytdgagffieobiiaa
open Go.RowKit Go.ChangeShapes Go.WideShapes Go.ChangeAt Go.Deep

theorem tkIn : RowK Try.prog 23 3 1 (.int .i64 0) 8 := ⟨Try.underlying23, by kernel_rfl, rfl, by decide⟩
abbrev inEl (m : Int) : El := vEl (.int .i64 m)
def In64 (m : Int) : Prop := -9223372036854775808 ≤ m ∧ m ≤ 9223372036854775807
theorem opens_in : Opens Try.prog 3 inEl 1 (fun _ => 0) In64 := fun {H} enc W fuel cs x h => by
  obtain ⟨a, h1, h2, k, b⟩ := opens_int Try.underlying3 enc W fuel cs x h
  exact ⟨a, h1, h2, by simpa [In64, Lit.wf, IntKind.min, IntKind.max, IntKind.signed, IntKind.bits] using k, b⟩
theorem opens_ints : Opens Try.prog 23 (fun l : List Int => rowEl 1 (l.map inEl)) 1 (sumB fun _ => 0) (fun l => ∀ m ∈ l, In64 m) := opens_slice tkIn (by kernel_rfl) opens_in
theorem flat_ins : ∀ (ms : List Int), (ms.map fun m => [Value.int .i64 m]).flatten = ms.map fun m => .int .i64 m
  | [] => rfl
  | m :: ms => by rw [List.map_cons, List.flatten_cons, flat_ins ms]; rfl
theorem rd_ins {w : World} {S : BS} {A : Option Addr} {ms : List Int} (h : RdR 1 w S A (ms.map inEl)) : Rd w A ms.length (ms.map fun m => .int .i64 m) := by
  obtain ⟨css, h1, h2, _⟩ := h
  have he : css.flatten = ms.map fun m => .int .i64 m := by
    have hl := h1.1
    rw [List.length_map] at hl
    have : css = ms.map fun m => [Value.int .i64 m] := by
      apply List.ext_getElem?
      intro i
      cases hi : css[i]? with
      | none => rw [List.getElem?_eq_none]; have := List.getElem?_eq_none_iff.1 hi; simp; omega
      | some cs =>
        obtain ⟨_, E, hE, hp⟩ := h1.2 i cs hi
        rw [List.getElem?_map] at hE ⊢
        cases hm : ms[i]? with
        | none => rw [hm] at hE; cases hE
        | some m => rw [hm] at hE; cases hE; exact congrArg some hp
    rw [this, flat_ins]
  rw [he, List.length_map, Nat.mul_one] at h2
  exact h2
theorem opens_cell : Opens Try.prog 60 ceEl 5 ceB CeOk := fun {H} enc W fuel cs x h => by
  obtain ⟨xs, n, rfl, rfl, hl, hx, hf⟩ := DataW.trod_struct Try.underlying60 h
  replace hl : cs.length = 5 := hl.trans (by kernel_rfl)
  obtain ⟨c0, c1, c2, c3, c4, rfl⟩ := len5 hl
  obtain ⟨y0, y1, y2, y3, y4, rfl⟩ := len5 hx
  obtain ⟨a0, h0, _, k0, b0⟩ := opens_int Try.underlying3 enc W n [c0] y0 (field_at hf (i := 0) (off := 0) (k := 1) (t := 3) rfl rfl rfl (by kernel_rfl))
  obtain ⟨a1, h1, _, k1, b1⟩ := opens_bool Try.underlying4 enc W n [c1] y1 (field_at hf (i := 1) (off := 1) (k := 1) (t := 4) rfl rfl rfl (by kernel_rfl))
  obtain ⟨a2, h2, _, k2, b2⟩ := opens_int Try.underlying2 enc W n [c2] y2 (field_at hf (i := 2) (off := 2) (k := 1) (t := 2) rfl rfl rfl (by kernel_rfl))
  obtain ⟨a3, h3, _, k3, b3⟩ := opens_str Try.underlying9 enc W n [c3] y3 (field_at hf (i := 3) (off := 3) (k := 1) (t := 9) rfl rfl rfl (by kernel_rfl))
  obtain ⟨a4, h4, _, k4, b4⟩ := opens_bytes enc W n [c4] y4 (field_at hf (i := 4) (off := 4) (k := 1) (t := 30) rfl rfl rfl (by kernel_rfl))
  obtain rfl : c0 = .int .i64 a0 := by simpa [vEl] using h0
  obtain rfl : c1 = .bool a1 := by simpa [vEl] using h1
  obtain rfl : c2 = .int .i64 a2 := by simpa [vEl] using h2
  obtain rfl : c3 = str a3 := by simpa [vEl] using h3
  have h4' := h4
  obtain ⟨A, c, e4, _⟩ := h4
  obtain rfl : c4 = .slice A a4.length c := by simpa using e4
  refine ⟨⟨a0, a1, a2, a3, a4⟩, ⟨A, c, rfl, h4'⟩, rfl, ⟨by simpa [Lit.wf, IntKind.min, IntKind.max, IntKind.signed, IntKind.bits] using k0, by simpa [Lit.wf, IntKind.min, IntKind.max, IntKind.signed, IntKind.bits] using k2⟩, ?_⟩
  replace b3 : a3.length + 1 ≤ _ := b3
  replace b4 : a4.length + 1 ≤ _ := b4
  simp only [ceB, Rows.uptoBulk, Rows.uptoBulkAll, List.map_cons, List.map_nil]
  omega
theorem opens_cells : Opens Try.prog 50 (fun l : List Ce => rowEl 5 (l.map ceEl)) 1 (sumB ceB) (fun l => ∀ x ∈ l, CeOk x) := opens_slice tkC (by kernel_rfl) opens_cell
theorem opens_rows : Opens Try.prog 43 (fun ll : List (List Ce) => rowEl 1 (ll.map fun l => rowEl 5 (l.map ceEl))) 1 (sumB (sumB ceB)) (fun ll => ∀ l ∈ ll, ∀ x ∈ l, CeOk x) := opens_slice tkRR (by kernel_rfl) opens_cells
theorem journal_op {A K : Option Addr} {n c m ck : Nat} {rows : List (List Ce)} {keeps : List Int} {arm : Int} {w : World} (hr : RdR 1 w All A (rows.map fun l => rowEl 5 (l.map ceEl))) (hn : rows.length = n) (_hc : n ≤ c) (hok : ∀ l ∈ rows, ∀ x ∈ l, CeOk x) (hl : sumB (sumB ceB) rows ≤ 1048576)
    (ha : -9223372036854775808 ≤ arm ∧ arm ≤ 9223372036854775807) (hk : RdR 1 w All K (keeps.map inEl)) (hm : keeps.length = m) (_hck : m ≤ ck) (_hok : ∀ z ∈ keeps, In64 z) (hl2 : (sumB (fun _ => 0) keeps : Nat) ≤ 1048576) :
    CallsV Try.prog 4 #[.slice A n c, .int .i64 arm, .slice K m ck] w (RetTrue w) :=
  journal_any hr hn ⟨hok, hl⟩ ha (rd_ins hk) hm (Nat.le_trans (sumB_len keeps) hl2)
namespace lawCaissonJournal
open Go.ChangeShapes Go.WideShapes Go.ChangeAt Go.RowKit
set_option maxRecDepth 100000 in
theorem contract (H : Type) (enc : TypeId × Value → H) (W : World) (base : Nat) (args : Array Value) (ds gs : List (DataW H)) (before : List MemPlace)
    (hval : ∀ (j : Nat) t v, Try.f4.params[j]? = some t → args[j]? = some v → Value.okWide Try.prog W .any base t v)
    (hW : DataW.Whole enc Try.prog Try.f4.params.toList Rows.caissonJournalSpec.vars false W args.toList ds gs before) (hk : Rows.uptoSmall H (ds ++ gs) = true) :
    Calls Try.prog 4 args W fun e W' => ∃ v, e = .returned v ∧ Rows.caissonJournalSpec.post enc Try.prog Try.f4 false true false false W args v W' := by
  have hW' := hW
  obtain ⟨p, q, hA0, hV, rfl, hfz, hnd⟩ := hW
  have hA : DataW.TrodAll enc Try.prog W 0 (fun _ => true) true Try.f4.params.toList args.toList ds p := hA0
  rw [Try.params4] at hA hval
  obtain ⟨v0, vs0, d0, ds0, p0, q0, hargs, rfl, rfl, h0, r0⟩ := trodAll_cons hA
  obtain ⟨v1, vs1, d1, ds1, p1, q1, rfl, rfl, rfl, h1, r1⟩ := trodAll_cons r0
  obtain ⟨v2, vs2, d2, ds2, p2, q2, rfl, rfl, rfl, h2, r2⟩ := trodAll_cons r1
  obtain ⟨rfl, rfl, rfl⟩ := trodAll_nil r2
  obtain rfl : args = #[v0, v1, v2] := by cases args; simp_all
  obtain ⟨rfl, rfl⟩ := trodVars_none hV
  have hbulk : Rows.uptoBulkAll ([d0, d1, d2] : List (DataW H)) ≤ 1048576 := by have := of_decide_eq_true hk; simpa using this
  simp only [Rows.uptoBulkAll] at hbulk
  have bk0 := bulk_one d0
  have bk1 := bulk_one d1
  have bk2 := bulk_one d2
  obtain ⟨x0, len0, cap0, rfl⟩ := okWide_slice Try.underlying43 (hval 0 43 v0 rfl rfl)
  have k0 := h0
  have lt0 : ∀ x ∈ p0, x.block < W.heap.size := by obtain ⟨m, hm⟩ := k0; exact DataW.trod_lt m _ _ _ hm
  obtain ⟨fuel0, hf0⟩ := h0
  obtain ⟨a0, xp0, _, xo0, xb0⟩ := opens_rows enc W fuel0 _ _ hf0
  replace xb0 : _ ≤ Rows.uptoBulk d0 := xb0
  obtain ⟨xl0, xc0, xr0⟩ := rowEl.rd xp0
  rw [List.length_map] at xl0
  obtain ⟨a1, rfl, rfl, rfl, w1⟩ := open_int Try.underlying3 (hval 1 3 v1 rfl rfl) h1
  have b1 : -9223372036854775808 ≤ a1 ∧ a1 ≤ 9223372036854775807 := by simpa [Lit.wf, IntKind.min, IntKind.max, IntKind.signed, IntKind.bits] using w1
  obtain ⟨x2, len2, cap2, rfl⟩ := okWide_slice Try.underlying23 (hval 2 23 v2 rfl rfl)
  have k2 := h2
  have lt2 : ∀ x ∈ p2, x.block < W.heap.size := by obtain ⟨m, hm⟩ := k2; exact DataW.trod_lt m _ _ _ hm
  obtain ⟨fuel2, hf2⟩ := h2
  obtain ⟨a2, xp2, _, xo2, xb2⟩ := opens_ints enc W fuel2 _ _ hf2
  replace xb2 : _ ≤ Rows.uptoBulk d2 := xb2
  obtain ⟨xl2, xc2, xr2⟩ := rowEl.rd xp2
  rw [List.length_map] at xl2
  clear hA0
  simp only [List.append_nil] at hW'
  refine Calls.mono (journal_op xr0 xl0 xc0 xo0 (by omega) b1 xr2 xl2 xc2 xo2 (by omega)) fun e W' ⟨v, he, hv, bel⟩ => ?_
  subst he hv
  exact ⟨_, rfl, _, _, _, [], _, [], hW', trodAll_mk1 (shut_bool Try.underlying4 _), (trodAll_cons_mk (Below.trod laidOut (by kernel_rfl) (of_decide_eq_true (by kernel_rfl)) k0 bel lt0) (trodAll_cons_mk (shut_int Try.underlying3 w1) (trodAll_cons_mk (Below.trod laidOut (by kernel_rfl) (of_decide_eq_true (by kernel_rfl)) k2 bel lt2) trodAll_mk0))), rfl, bel.frame _, fun h => by cases h⟩
set_option maxRecDepth 100000 in
theorem lifted (os : Os) (started : os.Started) (H : Type) (enc : TypeId × Value → H) (F : Stop.Interp) :
    ReturnsInHanded {} Try.checked os 4 .any ((Rows.OpenSpec.upto Rows.caissonJournalSpec).pre6 enc Try.prog Try.f4 Rows.caissonJournalUptoRow.domain false) (((Rows.OpenSpec.upto Rows.caissonJournalSpec).at F).post enc Try.prog Try.f4 false true false false) := by
  refine returnsInHanded_of_cond (C := Try.checked) (s := Rows.OpenSpec.upto Rows.caissonJournalSpec) (k := Rows.uptoSmall) rfl own started (by kernel_rfl) Try.func4
    (OpenSpec.witness (enc := enc) (C := Try.checked) (s := Rows.OpenSpec.upto Rows.caissonJournalSpec) (k := Rows.uptoSmall) rfl false ⟨#[], #[.slice none 0 0, .int .i64 0, .slice none 0 0], []⟩ 8 (by kernel_rfl) (by kernel_rfl) (by kernel_rfl)
      (x := ([.nil, .lit (.int .i64 0), .nil], [], [])) (by kernel_rfl) rfl (by kernel_rfl)) ?_
  intro W base args ds gs before hval hW _ hk _
  exact contract H enc W base args ds gs before hval hW hk
theorem over : Rows.caissonJournalUptoRow.holds Try.pinned (Rows.OpenSpec.upto Rows.caissonJournalSpec) :=
  OpenClaim.holds_of_cond 4 Try.f4 rfl rfl rfl rfl rfl rfl rfl ⟨rfl, rfl, rfl, rfl, rfl⟩ rfl rfl rfl rfl rfl (by kernel_rfl) Try.func4 (by kernel_rfl)
    (of_decide_eq_true (by kernel_rfl)) (by unfold Func.isWrapper; first | (rw [if_pos (by decide +kernel)]; kernel_rfl) | (rw [if_neg (by decide +kernel)]; exact ⟨rfl, rfl⟩))
    (fun os started H enc _ F => lifted os started H enc F)
theorem proved : Rows.CaissonJournalUptoSaid := over
end lawCaissonJournal
end Go.Proofs.Ytdgagffieobiiaa
